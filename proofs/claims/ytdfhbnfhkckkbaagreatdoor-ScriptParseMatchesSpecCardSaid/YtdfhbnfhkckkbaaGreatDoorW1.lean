/-
  The walks of the wire's Int.
-/
import Derived.Test.YtdfhbnfhkckkbaaGreatDoorH0
namespace Go.Proofs.YtdfhbnfhkckkbaaGreatDoor
open Go Go.RowKit Go.Walks

theorem not64_nat {a : Nat} (h : a < 18446744073709551616) : 18446744073709551615 ^^^ a = 18446744073709551615 - a := by
  have e : (BitVec.allOnes 64 ^^^ BitVec.ofNat 64 a).toNat = (~~~ (BitVec.ofNat 64 a)).toNat := by rw [BitVec.allOnes_xor]
  rw [BitVec.toNat_xor, BitVec.toNat_allOnes, BitVec.toNat_not, BitVec.toNat_ofNat, Nat.mod_eq_of_lt h] at e
  exact e
theorem u64_not {a : Int} (h0 : 0 ≤ a) (h : a < 18446744073709551616) : bits .xor .u64 IntKind.u64.max a = 18446744073709551615 - a := by
  obtain ⟨k, rfl⟩ : ∃ k : Nat, a = k := ⟨a.toNat, by omega⟩
  have := u64_xor_nat 18446744073709551615 k (by omega) (by omega)
  rw [not64_nat (by omega)] at this
  show bits .xor .u64 ((18446744073709551615 : Nat) : Int) (k : Int) = _
  rw [this]
  omega
def flipV (f : Bool) : Nat := if f then 255 else 0
theorem flip_nat (f : Bool) (c : UInt8) : (flipB f c).toNat = c.toNat ^^^ flipV f := by
  unfold flipB flipV
  rw [UInt8.toNat_xor]
  cases f <;> rfl
theorem bigB_get (m : Nat) : ∀ (k i : Nat), i < k → (bigB m k)[i]? = some (UInt8.ofNat (m / 256 ^ (k - 1 - i)))
  | 0, i, h => by omega
  | k + 1, 0, _ => rfl
  | k + 1, i + 1, h => by
    rw [bigB, List.getElem?_cons_succ, bigB_get m k i (by omega)]
    rw [show k - 1 - i = k + 1 - 1 - (i + 1) by omega]
set_option maxRecDepth 100000 in
theorem pow_256 (j : Nat) : 2 ^ (8 * j) = 256 ^ j := by rw [Nat.pow_mul]
theorem pow_256' (m j : Nat) : (m : Int) / 2 ^ (8 * j) % 256 = ((m / 256 ^ j % 256 : Nat) : Int) := by
  rw [← pow_256, Int.natCast_emod, Int.natCast_ediv, Int.natCast_pow]
  rfl
/-- A byte of a number, turned over or not. -/
theorem flip_byte (f : Bool) (a : Nat) : bits BinOp.xor IntKind.u8 ((a % 256 : Nat) : Int) (flipV f : Int) = ((flipB f (UInt8.ofNat a)).toNat : Int) := by
  rw [u8_xor_nat _ _ (by omega) (by unfold flipV; split <;> omega), flip_nat, UInt8.toNat_ofNat']
set_option maxRecDepth 100000 in
set_option maxHeartbeats 4000000 in
theorem int_any (n : Int) (w : World) (Hn : Hid (I64 n)) : Calls Tryz.prog 47 #[.int .i64 n] w (BytesR (intB n) w) := by
  have h1 := Hn.out.1
  have h2 := Hn.out.2
  obtain ⟨f, hf⟩ : ∃ f, f = negB n := ⟨_, rfl⟩
  obtain ⟨m, hm⟩ : ∃ m, m = magB n := ⟨_, rfl⟩
  have hmag : m < 9223372036854775808 := by rw [hm]; exact mag_lt h1 h2
  have Hm8 : Hid (lenB m ≤ 8) := by rw [hm]; exact mag_len h1 h2
  have Hout : Hid (intB n = flipB f (UInt8.ofNat (128 + lenB m)) :: (bigB m (lenB m)).map (flipB f)) := by rw [hf, hm]; rfl
  by_cases hneg : n < 0
  · have hx : bits BinOp.xor IntKind.u64 IntKind.u64.max (n + 18446744073709551616) = (m : Int) := by
      rw [u64_not (by omega) (by omega), hm]
      unfold magB
      rw [if_pos hneg]
      omega
    have hw : IntKind.u64.wrap n = n + 18446744073709551616 := by rw [IntKind.wrap_u64]; omega
    have hf' : (255 : Int) = (flipV f : Int) := by rw [hf]; unfold negB flipV; rw [decide_eq_true hneg]; rfl
    clear hm hf
    go_enter Tryz.func47, Tryz.ntmps47
    go_wp2_with fail
    go_step3
    go_wp2_with fail
    go_step3
    go_wp2_with fail
    clear hx hf' hw h1 h2 hneg Hn
    go_loopg [5] 8 (fun g s5 wr => ∃ k : Nat, s5 = .int .i64 (k : Int) ∧ g = k ∧ k ≤ 8 ∧ lenB m ≤ k ∧ w = wr)
    case atStart => exact ⟨8, by go_num, rfl, by omega, Hm8.out, rfl⟩
    case round =>
      obtain ⟨k, rfl, hg, hk8, hk, hwr⟩ := hrel
      subst hwr
      by_cases hstop : k = 0 ∨ 0 < m / 2 ^ (8 * (k - 1))
      · have Hk : Hid (k = lenB m) := by
          rcases hstop with h | hj
          · show _ = _; omega
          · by_cases h0 : k = 0
            · show _ = _; omega
            · rw [pow_256] at hj
              have hle : 256 ^ (k - 1) ≤ m := by
                rcases Nat.lt_or_ge m (256 ^ (k - 1)) with h' | h'
                · rw [Nat.div_eq_of_lt h'] at hj; omega
                · exact h'
              have h3 : ¬ lenB m ≤ k - 1 := fun h' => by
                have := Nat.lt_of_lt_of_le (lt_lenB m) (Nat.pow_le_pow_right (show 256 > 0 by decide) h')
                omega
              show _ = _; omega
        obtain ⟨hd, hhd⟩ : ∃ hd, hd = flipB f (UInt8.ofNat (128 + k)) := ⟨_, rfl⟩
        have hb8 : bits BinOp.xor IntKind.u8 (128 + (k : Int)) (flipV f : Int) = (hd.toNat : Int) := by
          rw [hhd, ← flip_byte]
          congr 1
          omega
        have Hhd := Lib.hid hhd
        clear hhd
        by_cases hk0 : k = 0
        · have q0 : ¬ (0 : Int) < (k : Int) := by omega
          have Hk0 := Lib.hid hk0
          clear hstop hk0
          go_wp2_with fail
          clear hb8 q0 
          go_loopg [6, 7] k (fun g s6 s7 W => ∃ (j nn : Nat) (A : Option Addr) (c : Nat), s6 = .slice A nn c ∧ s7 = .int .i64 ((j : Int) - 1) ∧ g = j ∧ j ≤ k ∧ nn + j = k + 1 ∧ Hid (OS w 5 1 A nn c (Lib.byteCells (hd :: ((bigB m k).map (flipB f)).take (k - j))) W))
          case atStart => exact ⟨k, 1, _, 1, rfl, rfl, rfl, Nat.le_refl _, by omega, by rw [Nat.sub_self, List.take_zero]; exact ⟨(Below.refl _ _).alloc (Nat.le_refl _) _, own_new w (cs := Lib.byteCells [hd]) rfl (Nat.le_refl _) (by unfold maxLen; omega)⟩⟩
          case round =>
            obtain ⟨j, nn, A, c, rfl, rfl, hg, hjk, hnn, HS⟩ := hrel
            by_cases hj0 : j = 0
            · subst hj0
              go_wp2_with fail
              rw [Exit.noGoto_ret]
              go_ret
              have hint : intB n = hd :: ((bigB m k).map (flipB f)).take (k - 0) := by
                rw [Hout.out, Hhd.out, ← Hk.out, Nat.sub_zero, List.take_of_length_le (by rw [List.length_map, bigB_length]; exact Nat.le_refl _)]
              have hlen : (intB n).length = nn := by
                rw [hint, Nat.sub_zero, List.length_cons, List.take_of_length_le (by rw [List.length_map, bigB_length]; exact Nat.le_refl _), List.length_map, bigB_length]; omega
              unfold BytesR
              rw [hlen, hint]
              exact ⟨A, c, rfl, HS.out⟩
            · exact absurd hjk (by have := Hk0.out; omega)
        · have q0 : (0 : Int) < (k : Int) := by omega
          have q3 : 0 < k := by omega
          have q1 : 0 < m / 2 ^ (8 * (k - 1)) := by
            rcases hstop with h | h
            · exact absurd h hk0
            · exact h
          have q2 : (0 : Int) < (m : Int) / 2 ^ (8 * (k - 1)) := by exact_mod_cast q1
          clear hstop
          go_wp2_with fail
          clear hb8 q0 q1 q2 q3 hk0
          go_loopg [6, 7] k (fun g s6 s7 W => ∃ (j nn : Nat) (A : Option Addr) (c : Nat), s6 = .slice A nn c ∧ s7 = .int .i64 ((j : Int) - 1) ∧ g = j ∧ j ≤ k ∧ nn + j = k + 1 ∧ Hid (OS w 5 1 A nn c (Lib.byteCells (hd :: ((bigB m k).map (flipB f)).take (k - j))) W))
          case atStart => exact ⟨k, 1, _, 1, rfl, rfl, rfl, Nat.le_refl _, by omega, by rw [Nat.sub_self, List.take_zero]; exact ⟨(Below.refl _ _).alloc (Nat.le_refl _) _, own_new w (cs := Lib.byteCells [hd]) rfl (Nat.le_refl _) (by unfold maxLen; omega)⟩⟩
          case round =>
            obtain ⟨j, nn, A, c, rfl, rfl, hg, hjk, hnn, HS⟩ := hrel
            by_cases hj0 : j = 0
            · subst hj0
              go_wp2_with fail
              rw [Exit.noGoto_ret]
              go_ret
              have hint : intB n = hd :: ((bigB m k).map (flipB f)).take (k - 0) := by
                rw [Hout.out, Hhd.out, ← Hk.out, Nat.sub_zero, List.take_of_length_le (by rw [List.length_map, bigB_length]; exact Nat.le_refl _)]
              have hlen : (intB n).length = nn := by
                rw [hint, Nat.sub_zero, List.length_cons, List.take_of_length_le (by rw [List.length_map, bigB_length]; exact Nat.le_refl _), List.length_map, bigB_length]; omega
              unfold BytesR
              rw [hlen, hint]
              exact ⟨A, c, rfl, HS.out⟩
            · obtain ⟨i, rfl⟩ : ∃ i, j = i + 1 := ⟨j - 1, by omega⟩
              have hi : i < 8 := by omega
              have hbi : bits BinOp.xor IntKind.u8 ((m : Int) / 2 ^ (8 * i) % 256) (flipV f : Int) = ((flipB f (UInt8.ofNat (m / 256 ^ i))).toNat : Int) := by
                rw [← flip_byte, pow_256']
              have hstep : ((bigB m k).map (flipB f)).take (k - i) = ((bigB m k).map (flipB f)).take (k - (i + 1)) ++ [flipB f (UInt8.ofNat (m / 256 ^ i))] := by
                rw [show k - i = (k - (i + 1)) + 1 by omega, List.take_add_one, List.getElem?_map, bigB_get m k _ (by omega), show k - 1 - (k - (i + 1)) = i by omega]
                rfl
              have hb1 : nn + 1 ≤ maxLen := by unfold maxLen; omega
              have hb2 : (nn + 1) * 1 ≤ 140737488355328 := by omega
              have Hstep := Lib.hid hstep
              clear hstep
              go_wp2_with (at_builtin; refine wpList_append_sl rfl _ _ 38 rfl rfl rfl so38 (HS.out.o.alloc _) (m := 1) (news := [.int .u8 ((flipB f (UInt8.ofNat (m / 256 ^ i))).toNat : Int)]) rfl (Sl.new _ _ _) ?_ hb1 hb2 (Nat.le_trans HS.out.below.size (by simp)) ?_; (intro u hu; simp at hu; subst hu; rfl); intro A5 c5 w5 ho5 hg5; have HS5 := Lib.hid ((HS.out.alloc _).grow ho5 hg5); clear ho5 hg5)
              go_roundg i
              case measure => omega
              case rel => exact ⟨i, nn + 1, A5, c5, rfl, by go_num, rfl, by omega, by omega, by rw [Hstep.out, ← List.cons_append, byteCells_append]; exact HS5.out⟩
      · have hk0 : ¬ k = 0 := fun h => hstop (.inl h)
        have hj : m / 2 ^ (8 * (k - 1)) = 0 := by
          rcases Nat.eq_zero_or_pos (m / 2 ^ (8 * (k - 1))) with h | h
          · exact h
          · exact absurd (.inr h) hstop
        have hkj : lenB m ≤ k - 1 := by
          rw [pow_256] at hj
          apply lenB_le
          rcases Nat.lt_or_ge m (256 ^ (k - 1)) with h' | h'
          · exact h'
          · have := Nat.div_pos h' (Nat.pow_pos (by decide)); omega
        have q0 : (0 : Int) < (k : Int) := by omega
        have q2 : ¬ (0 : Int) < (m : Int) / 2 ^ (8 * (k - 1)) := by exact_mod_cast (show ¬ 0 < m / 2 ^ (8 * (k - 1)) by omega)
        clear hstop hj
        go_wp2_with fail
        go_roundg (k - 1)
        case measure => omega
        case rel => exact ⟨k - 1, by go_num, rfl, by omega, hkj, rfl⟩
  · have hnm : n = (m : Int) := by rw [hm]; unfold magB; rw [if_neg hneg]; omega
    have hf0 : f = false := by rw [hf]; unfold negB; exact decide_eq_false hneg
    have Hnm := Lib.hid hnm
    clear hm hf hnm
    subst hf0
    go_enter Tryz.func47, Tryz.ntmps47
    go_wp2_with fail
    go_step3
    go_wp2_with fail
    go_step3
    go_wp2_with fail
    have hneg' : decide (n < 0) = false := decide_eq_false (by omega)
    rw [hneg']
    obtain rfl := Hnm.out
    clear h1 h2 hneg Hn hneg' Hnm
    go_loopg [5] 8 (fun g s5 wr => ∃ k : Nat, s5 = .int .i64 (k : Int) ∧ g = k ∧ k ≤ 8 ∧ lenB m ≤ k ∧ w = wr)
    case atStart => exact ⟨8, by go_num, rfl, by omega, Hm8.out, rfl⟩
    case round =>
      obtain ⟨k, rfl, hg, hk8, hk, hwr⟩ := hrel
      subst hwr
      by_cases hstop : k = 0 ∨ 0 < m / 2 ^ (8 * (k - 1))
      · have Hk : Hid (k = lenB m) := by
          rcases hstop with h | hj
          · show _ = _; omega
          · by_cases h0 : k = 0
            · show _ = _; omega
            · rw [pow_256] at hj
              have hle : 256 ^ (k - 1) ≤ m := by
                rcases Nat.lt_or_ge m (256 ^ (k - 1)) with h' | h'
                · rw [Nat.div_eq_of_lt h'] at hj; omega
                · exact h'
              have h3 : ¬ lenB m ≤ k - 1 := fun h' => by
                have := Nat.lt_of_lt_of_le (lt_lenB m) (Nat.pow_le_pow_right (show 256 > 0 by decide) h')
                omega
              show _ = _; omega
        obtain ⟨hd, hhd⟩ : ∃ hd, hd = flipB false (UInt8.ofNat (128 + k)) := ⟨_, rfl⟩
        have hb8 : bits BinOp.xor IntKind.u8 (128 + (k : Int)) 0 = (hd.toNat : Int) := by
          have := flip_byte false (128 + k)
          rw [hhd, ← this, Int.natCast_emod]
          have : ((128 + k : Nat) : Int) % (256 : Nat) = 128 + (k : Int) := by omega
          rw [this]; rfl
        have Hhd := Lib.hid hhd
        clear hhd
        by_cases hk0 : k = 0
        · have q0 : ¬ (0 : Int) < (k : Int) := by omega
          have Hk0 := Lib.hid hk0
          clear hstop hk0
          go_wp2_with fail
          clear hb8 q0 
          go_loopg [6, 7] k (fun g s6 s7 W => ∃ (j nn : Nat) (A : Option Addr) (c : Nat), s6 = .slice A nn c ∧ s7 = .int .i64 ((j : Int) - 1) ∧ g = j ∧ j ≤ k ∧ nn + j = k + 1 ∧ Hid (OS w 5 1 A nn c (Lib.byteCells (hd :: ((bigB m k).map (flipB false)).take (k - j))) W))
          case atStart => exact ⟨k, 1, _, 1, rfl, rfl, rfl, Nat.le_refl _, by omega, by rw [Nat.sub_self, List.take_zero]; exact ⟨(Below.refl _ _).alloc (Nat.le_refl _) _, own_new w (cs := Lib.byteCells [hd]) rfl (Nat.le_refl _) (by unfold maxLen; omega)⟩⟩
          case round =>
            obtain ⟨j, nn, A, c, rfl, rfl, hg, hjk, hnn, HS⟩ := hrel
            by_cases hj0 : j = 0
            · subst hj0
              go_wp2_with fail
              rw [Exit.noGoto_ret]
              go_ret
              have hint : intB (m : Int) = hd :: ((bigB m k).map (flipB false)).take (k - 0) := by
                rw [Hout.out, Hhd.out, ← Hk.out, Nat.sub_zero, List.take_of_length_le (by rw [List.length_map, bigB_length]; exact Nat.le_refl _)]
              have hlen : (intB (m : Int)).length = nn := by
                rw [hint, Nat.sub_zero, List.length_cons, List.take_of_length_le (by rw [List.length_map, bigB_length]; exact Nat.le_refl _), List.length_map, bigB_length]; omega
              unfold BytesR
              rw [hlen, hint]
              exact ⟨A, c, rfl, HS.out⟩
            · exact absurd hjk (by have := Hk0.out; omega)
        · have q0 : (0 : Int) < (k : Int) := by omega
          have q3 : 0 < k := by omega
          have q1 : 0 < m / 2 ^ (8 * (k - 1)) := by
            rcases hstop with h | h
            · exact absurd h hk0
            · exact h
          have q2 : (0 : Int) < (m : Int) / 2 ^ (8 * (k - 1)) := by exact_mod_cast q1
          clear hstop
          go_wp2_with fail
          clear hb8 q0 q1 q2 q3 hk0
          go_loopg [6, 7] k (fun g s6 s7 W => ∃ (j nn : Nat) (A : Option Addr) (c : Nat), s6 = .slice A nn c ∧ s7 = .int .i64 ((j : Int) - 1) ∧ g = j ∧ j ≤ k ∧ nn + j = k + 1 ∧ Hid (OS w 5 1 A nn c (Lib.byteCells (hd :: ((bigB m k).map (flipB false)).take (k - j))) W))
          case atStart => exact ⟨k, 1, _, 1, rfl, rfl, rfl, Nat.le_refl _, by omega, by rw [Nat.sub_self, List.take_zero]; exact ⟨(Below.refl _ _).alloc (Nat.le_refl _) _, own_new w (cs := Lib.byteCells [hd]) rfl (Nat.le_refl _) (by unfold maxLen; omega)⟩⟩
          case round =>
            obtain ⟨j, nn, A, c, rfl, rfl, hg, hjk, hnn, HS⟩ := hrel
            by_cases hj0 : j = 0
            · subst hj0
              go_wp2_with fail
              rw [Exit.noGoto_ret]
              go_ret
              have hint : intB (m : Int) = hd :: ((bigB m k).map (flipB false)).take (k - 0) := by
                rw [Hout.out, Hhd.out, ← Hk.out, Nat.sub_zero, List.take_of_length_le (by rw [List.length_map, bigB_length]; exact Nat.le_refl _)]
              have hlen : (intB (m : Int)).length = nn := by
                rw [hint, Nat.sub_zero, List.length_cons, List.take_of_length_le (by rw [List.length_map, bigB_length]; exact Nat.le_refl _), List.length_map, bigB_length]; omega
              unfold BytesR
              rw [hlen, hint]
              exact ⟨A, c, rfl, HS.out⟩
            · obtain ⟨i, rfl⟩ : ∃ i, j = i + 1 := ⟨j - 1, by omega⟩
              have hi : i < 8 := by omega
              have hbi : bits BinOp.xor IntKind.u8 ((m : Int) / 2 ^ (8 * i) % 256) 0 = ((flipB false (UInt8.ofNat (m / 256 ^ i))).toNat : Int) := by
                rw [← flip_byte, pow_256']; rfl
              have hstep : ((bigB m k).map (flipB false)).take (k - i) = ((bigB m k).map (flipB false)).take (k - (i + 1)) ++ [flipB false (UInt8.ofNat (m / 256 ^ i))] := by
                rw [show k - i = (k - (i + 1)) + 1 by omega, List.take_add_one, List.getElem?_map, bigB_get m k _ (by omega), show k - 1 - (k - (i + 1)) = i by omega]
                rfl
              have hb1 : nn + 1 ≤ maxLen := by unfold maxLen; omega
              have hb2 : (nn + 1) * 1 ≤ 140737488355328 := by omega
              have Hstep := Lib.hid hstep
              clear hstep
              go_wp2_with (at_builtin; refine wpList_append_sl rfl _ _ 38 rfl rfl rfl so38 (HS.out.o.alloc _) (m := 1) (news := [.int .u8 ((flipB false (UInt8.ofNat (m / 256 ^ i))).toNat : Int)]) rfl (Sl.new _ _ _) ?_ hb1 hb2 (Nat.le_trans HS.out.below.size (by simp)) ?_; (intro u hu; simp at hu; subst hu; rfl); intro A5 c5 w5 ho5 hg5; have HS5 := Lib.hid ((HS.out.alloc _).grow ho5 hg5); clear ho5 hg5)
              go_roundg i
              case measure => omega
              case rel => exact ⟨i, nn + 1, A5, c5, rfl, by go_num, rfl, by omega, by omega, by rw [Hstep.out, ← List.cons_append, byteCells_append]; exact HS5.out⟩
      · have hk0 : ¬ k = 0 := fun h => hstop (.inl h)
        have hj : m / 2 ^ (8 * (k - 1)) = 0 := by
          rcases Nat.eq_zero_or_pos (m / 2 ^ (8 * (k - 1))) with h | h
          · exact h
          · exact absurd (.inr h) hstop
        have hkj : lenB m ≤ k - 1 := by
          rw [pow_256] at hj
          apply lenB_le
          rcases Nat.lt_or_ge m (256 ^ (k - 1)) with h' | h'
          · exact h'
          · have := Nat.div_pos h' (Nat.pow_pos (by decide)); omega
        have q0 : (0 : Int) < (k : Int) := by omega
        have q2 : ¬ (0 : Int) < (m : Int) / 2 ^ (8 * (k - 1)) := by exact_mod_cast (show ¬ 0 < m / 2 ^ (8 * (k - 1)) by omega)
        clear hstop hj
        go_wp2_with fail
        go_roundg (k - 1)
        case measure => omega
        case rel => exact ⟨k - 1, by go_num, rfl, by omega, hkj, rfl⟩
end Go.Proofs.YtdfhbnfhkckkbaaGreatDoor
