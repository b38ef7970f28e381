/-
  The walk of the wire's GetInt (printed by genW3.py).
-/
import Derived.Test.YtdfhbnfhkckkbaaGreatDoorW2
namespace Go.Proofs.YtdfhbnfhkckkbaaGreatDoor
open Go Go.RowKit Go.Walks

def errI (e : Nat) : Value := .int .i64 (e : Int)
/-- What GetInt hands back. -/
def gotV : Except Nat (Int × Nat) → Value
  | .ok (n, k) => .tuple #[.int .i64 n, .int .i64 (k : Int), .int .i64 0]
  | .error e => .tuple #[.int .i64 0, .int .i64 0, errI e]
def GetIntR (x : Except Nat (Int × Nat)) (w : World) (e : Ending) (w' : World) : Prop := e = .returned (gotV x) ∧ w' = w
theorem or_byte {a c : Nat} (ha : a * 256 < 18446744073709551616) (hc : c < 256) : bits .or .u64 ((a * 256 : Nat) : Int) (c : Int) = ((a * 256 + c : Nat) : Int) := by
  rw [u64_or_nat _ _ ha (by omega)]
  congr 1
  have := Nat.two_pow_add_eq_or_of_lt (i := 8) (b := c) (by omega) a
  rw [show (2 : Nat) ^ 8 = 256 by decide, Nat.mul_comm] at this
  exact this.symm
theorem val_take {l : Bytes} {k : Nat} {x : UInt8} (h : l[k]? = some x) : valB (l.take (k + 1)) = valB (l.take k) * 256 + x.toNat := by
  rw [List.take_add_one, h]
  exact val_snoc _ _
theorem val_take_lt (l : Bytes) (k : Nat) : valB (l.take k) < 256 ^ k := by
  have := val_lt (l.take k)
  have h2 := Nat.pow_le_pow_right (show 256 > 0 by decide) (List.length_take_le k l)
  omega

set_option maxRecDepth 100000 in
set_option maxHeartbeats 8000000 in
theorem getint_neg (c0 : UInt8) (r : Bytes) (b o c : Nat) (w : World) (hl : r.length ≤ 1000000000) (hc : r.length + 1 ≤ c) (hf : decide (c0.toNat < 128) = true) (Hs : Hid (Sl w w.heap.size (some ⟨b, o, none⟩) (Lib.byteCells (c0 :: r)))) : Calls Tryz.prog 72 #[.slice (some ⟨b, o, none⟩) (r.length + 1) c] w (GetIntR (getIntB (c0 :: r)) w) := by
  have hc0 : w.cell? ⟨b, o, none⟩ = some (.int .u8 (c0.toNat : Int)) := by
    obtain ⟨b', o', hA, -, h⟩ := byte_at Hs.out (k := 0) rfl
    obtain ⟨rfl, rfl⟩ : b = b' ∧ o = o' := by simpa using hA
    exact h
  have hcs : ∀ i x, r[i]? = some x → w.cell? ⟨b, o + (i + 1), none⟩ = some (.int .u8 (x.toNat : Int)) := fun i x hx => by
    obtain ⟨b', o', hA, -, h⟩ := byte_at Hs.out (k := i + 1) (x := x) hx
    obtain ⟨rfl, rfl⟩ : b = b' ∧ o = o' := by simpa using hA
    exact h
  have Hcs := Lib.hid hcs
  clear hcs Hs
  have hcb : c0.toNat < 256 := c0.toNat_lt
  have hlt : (c0.toNat : Int) < 128 := by have := of_decide_eq_true hf; omega
  obtain ⟨k, hk⟩ : ∃ k, k = (flipB true c0).toNat - 128 := ⟨_, rfl⟩
  have hkI : bits BinOp.xor IntKind.u8 (c0.toNat : Int) 255 - 128 = (k : Int) := by
    have h1 := flip_nat true c0
    have h2 := u8_xor_nat c0.toNat (flipV true) hcb (by decide)
    rw [← h1] at h2
    have h3 : (bits BinOp.xor IntKind.u8 (c0.toNat : Int) 255) = ((flipB true c0).toNat : Int) := h2
    rw [h3, hk]
    rw [flip_true] at *
    have := of_decide_eq_true hf
    omega
  have Hx : Hid (getIntB (c0 :: r) = if 8 < k then .error 6 else if r.length < k then .error 5 else if 0 < k ∧ (r.head?.map (flipB true)) = some 0 then .error 6 else if 2 ^ 63 ≤ valB ((r.take k).map (flipB true)) then .error 6 else .ok (sgnB true (valB ((r.take k).map (flipB true))), k + 1)) := by
    show _ = _
    rw [getIntB, hf, ← hk]
  have hk128 : k ≤ 127 := by
    rw [hk]
    have : (flipB true c0).toNat < 256 := UInt8.toNat_lt _
    omega
  clear hk hf
  obtain ⟨n, hn⟩ : ∃ n, n = r.length := ⟨_, rfl⟩
  rw [← hn] at Hx hl hc ⊢
  have Hn := Lib.hid hn
  clear hn
  go_enter Tryz.func72, Tryz.ntmps72
  go_upto_region 7 with fail
  by_cases ha : 8 < k
  · have q1 : (8 : Int) < (k : Int) := by omega
    go_wp2_with fail
    go_ret3
    exact ⟨by rw [Hx.out, if_pos ha]; rfl, rfl⟩
  have qa : ¬ (8 : Int) < (k : Int) := by omega
  by_cases hb : n < k
  · have q1 : (n : Int) + 1 ≤ (k : Int) := by omega
    go_wp2_with fail
    go_ret3
    exact ⟨by rw [Hx.out, if_neg ha, if_pos hb]; rfl, rfl⟩
  have qb : ¬ (n : Int) + 1 ≤ (k : Int) := by omega
  have Hab := Lib.hid (show ¬ 8 < k ∧ ¬ n < k from ⟨ha, hb⟩)
  by_cases hk0 : k = 0
  · have q2 : ¬ (0 : Int) < (k : Int) := by omega
    have Hz : Hid (¬ (0 < k ∧ (r.head?.map (flipB true)) = some 0)) := by show ¬ _; omega
    subst hk0
    have Hy : Hid (getIntB (c0 :: r) = .ok (sgnB true 0, 0 + 1)) := by
      show _ = _
      rw [Hx.out, if_neg Hab.out.1, if_neg Hab.out.2, if_neg Hz.out, List.take_zero, List.map_nil, if_neg (by decide)]
      rfl
    have hnot0 : wrap64 (bits BinOp.xor IntKind.u64 IntKind.u64.max 0) = -1 := by rw [u64_not (by omega) (by omega)]; unfold wrap64; omega
    by_cases hc1 : c = 1
    · subst hc1
      go_wp2_with fail
      go_loopg [48, 7] 0 (fun g s48 s7 wr => s48 = .int .i64 0 ∧ s7 = .int .u64 0 ∧ w = wr)
      case atStart => exact ⟨rfl, rfl, rfl⟩
      case round =>
        obtain ⟨rfl, rfl, hwr⟩ := hrel
        subst hwr
        go_wp2_with fail
        go_ret3
        exact ⟨by rw [Hy.out]; rfl, rfl⟩
    · go_wp2_with fail
      go_loopg [48, 7] 0 (fun g s48 s7 wr => s48 = .int .i64 0 ∧ s7 = .int .u64 0 ∧ w = wr)
      case atStart => exact ⟨rfl, rfl, rfl⟩
      case round =>
        obtain ⟨rfl, rfl, hwr⟩ := hrel
        subst hwr
        go_wp2_with fail
        go_ret3
        exact ⟨by rw [Hy.out]; rfl, rfl⟩
  · have q2 : (0 : Int) < (k : Int) := by omega
    obtain ⟨x1, hx1⟩ : ∃ x1, r[0]? = some x1 := ⟨_, List.getElem?_eq_getElem (by rw [← Hn.out]; omega)⟩
    have hc1 := Hcs.out 0 x1 hx1
    rw [Nat.zero_add] at hc1
    have hhd : r.head?.map (flipB true) = some (flipB true x1) := by rw [List.head?_eq_getElem?, hx1]; rfl
    have hx1I : bits BinOp.xor IntKind.u8 (x1.toNat : Int) 255 = ((flipB true x1).toNat : Int) := by
      have h1 := flip_nat true x1
      have h2 := u8_xor_nat x1.toNat (flipV true) x1.toNat_lt (by decide)
      rw [← h1] at h2
      exact h2
    by_cases hz : flipB true x1 = 0
    · have q3 : (((flipB true x1).toNat : Int) == 0) = true := by rw [hz]; rfl
      go_wp2_with fail
      go_ret3
      exact ⟨by rw [Hx.out, if_neg Hab.out.1, if_neg Hab.out.2, if_pos ⟨by omega, by rw [hhd, hz]⟩]; rfl, rfl⟩
    · have q3 : (((flipB true x1).toNat : Int) == 0) = false := by
        rw [beq_eq_false_iff_ne]
        exact fun h => hz (UInt8.toNat_inj.1 (by exact_mod_cast h))
      have Hz : Hid (¬ (0 < k ∧ (r.head?.map (flipB true)) = some 0)) := by
        show ¬ _
        rw [hhd]
        exact fun h => hz (by simpa using h.2)
      clear hz hhd hx1
      go_wp2_with fail
      go_loopg [48, 7] k (fun g s48 s7 wr => ∃ i : Nat, s48 = .int .i64 (i : Int) ∧ s7 = .int .u64 (valB ((r.map (flipB true)).take i) : Int) ∧ g = k - i ∧ i ≤ k ∧ w = wr)
      case atStart => exact ⟨0, rfl, rfl, rfl, Nat.zero_le _, rfl⟩
      case round =>
        obtain ⟨i, rfl, rfl, hg, hik, hwr⟩ := hrel
        subst hwr
        by_cases hlt2 : i < k
        · have hI1 : (0 : Int) ≤ (i : Int) := by omega
          have hI2 : (i : Int) < (k : Int) := by omega
          obtain ⟨x, hx⟩ : ∃ x, r[i]? = some x := ⟨_, List.getElem?_eq_getElem (by rw [← Hn.out]; omega)⟩
          have hcx := Hcs.out i x hx
          rw [show o + (i + 1) = o + 1 + i by omega] at hcx
          obtain ⟨v, hv⟩ : ∃ v, v = valB ((r.map (flipB true)).take i) := ⟨_, rfl⟩
          rw [← hv]
          have hv7 : v < 72057594037927936 := by
            have h1 := val_take_lt (r.map (flipB true)) i
            have h2 := Nat.pow_le_pow_right (show 256 > 0 by decide) (show i ≤ 7 by omega)
            rw [show (256 : Nat) ^ 7 = 72057594037927936 by decide] at h2
            omega
          have Hstep : Hid (valB ((r.map (flipB true)).take (i + 1)) = v * 256 + (flipB true x).toNat) := by
            show _ = _
            rw [hv]
            exact val_take (by rw [List.getElem?_map, hx]; rfl)
          have hxI : bits BinOp.xor IntKind.u8 (x.toNat : Int) 255 = ((flipB true x).toNat : Int) := by
            have h1 := flip_nat true x
            have h2 := u8_xor_nat x.toNat (flipV true) x.toNat_lt (by decide)
            rw [← h1] at h2
            exact h2
          obtain ⟨y, hy⟩ : ∃ y, y = (flipB true x).toNat := ⟨_, rfl⟩
          have hy256 : y < 256 := by rw [hy]; exact UInt8.toNat_lt _
          rw [← hy] at hxI Hstep
          have hor : bits BinOp.or IntKind.u64 ((v : Int) * 256) (y : Int) = ((v * 256 + y : Nat) : Int) := or_byte (a := v) (c := y) (by omega) hy256
          have Hor : Hid (((v * 256 + y : Nat) : Int) = (v : Int) * 256 + y) := by show _ = _; omega
          obtain ⟨z, hz⟩ : ∃ z, z = v * 256 + y := ⟨_, rfl⟩
          rw [← hz] at hor Hstep
          clear hv hx hy hz Hor
          go_wp2_with fail
          go_roundg (k - (i + 1))
          case measure => omega
          case rel => exact ⟨i + 1, by go_num, by rw [Hstep.out], rfl, by omega, rfl⟩
        · have hik2 : i = k := by omega
          have hI3 : ¬ (i : Int) < (k : Int) := by omega
          obtain ⟨m, hm⟩ : ∃ m, m = valB ((r.map (flipB true)).take i) := ⟨_, rfl⟩
          rw [← hm]
          have hm2 : m = valB ((r.take k).map (flipB true)) := by rw [hm, hik2, List.map_take]
          have hm64 : m < 18446744073709551616 := by
            have h1 := val_take_lt (r.map (flipB true)) i
            have h2 := Nat.pow_le_pow_right (show 256 > 0 by decide) (show i ≤ 8 by omega)
            rw [show (256 : Nat) ^ 8 = 18446744073709551616 by decide] at h2
            omega
          have Hy : Hid (getIntB (c0 :: r) = if 2 ^ 63 ≤ m then .error 6 else .ok (sgnB true m, k + 1)) := by
            show _ = _
            rw [Hx.out, if_neg Hab.out.1, if_neg Hab.out.2, if_neg Hz.out, hm2]
          clear hm hm2 hlt2
          by_cases h63 : 9223372036854775808 ≤ m
          · have q5 : (0 : Int) < (m : Int) / 2 ^ 63 := by omega
            have q6 : (0 : Int) < (m : Int) / 9223372036854775808 := by omega
            go_wp2_with fail
            go_ret3
            exact ⟨by rw [Hy.out, if_pos h63]; rfl, rfl⟩
          · have q5 : ¬ (0 : Int) < (m : Int) / 2 ^ 63 := by omega
            have q6 : ¬ (0 : Int) < (m : Int) / 9223372036854775808 := by omega
            have hnot : bits BinOp.xor IntKind.u64 IntKind.u64.max (m : Int) = 18446744073709551615 - (m : Int) := u64_not (by omega) (by omega)
            have hwr : IntKind.i64.wrap (18446744073709551615 - (m : Int)) = -1 - (m : Int) := by rw [IntWalk.i64_left]; unfold wrap64; omega
            have hwr2 : wrap64 (18446744073709551615 - (m : Int)) = -1 - (m : Int) := by unfold wrap64; omega
            go_wp2_with fail
            go_ret3
            exact ⟨by rw [Hy.out, if_neg h63]; rfl, rfl⟩

set_option maxRecDepth 100000 in
set_option maxHeartbeats 8000000 in
theorem getint_pos (c0 : UInt8) (r : Bytes) (b o c : Nat) (w : World) (hl : r.length ≤ 1000000000) (hc : r.length + 1 ≤ c) (hf : decide (c0.toNat < 128) = false) (Hs : Hid (Sl w w.heap.size (some ⟨b, o, none⟩) (Lib.byteCells (c0 :: r)))) : Calls Tryz.prog 72 #[.slice (some ⟨b, o, none⟩) (r.length + 1) c] w (GetIntR (getIntB (c0 :: r)) w) := by
  have hc0 : w.cell? ⟨b, o, none⟩ = some (.int .u8 (c0.toNat : Int)) := by
    obtain ⟨b', o', hA, -, h⟩ := byte_at Hs.out (k := 0) rfl
    obtain ⟨rfl, rfl⟩ : b = b' ∧ o = o' := by simpa using hA
    exact h
  have hcs : ∀ i x, r[i]? = some x → w.cell? ⟨b, o + (i + 1), none⟩ = some (.int .u8 (x.toNat : Int)) := fun i x hx => by
    obtain ⟨b', o', hA, -, h⟩ := byte_at Hs.out (k := i + 1) (x := x) hx
    obtain ⟨rfl, rfl⟩ : b = b' ∧ o = o' := by simpa using hA
    exact h
  have Hcs := Lib.hid hcs
  clear hcs Hs
  have hcb : c0.toNat < 256 := c0.toNat_lt
  have hlt : ¬ (c0.toNat : Int) < 128 := by have := of_decide_eq_false hf; omega
  obtain ⟨k, hk⟩ : ∃ k, k = (flipB false c0).toNat - 128 := ⟨_, rfl⟩
  have hkI : bits BinOp.xor IntKind.u8 (c0.toNat : Int) 0 - 128 = (k : Int) := by
    have h1 := flip_nat false c0
    have h2 := u8_xor_nat c0.toNat (flipV false) hcb (by decide)
    rw [← h1] at h2
    have h3 : (bits BinOp.xor IntKind.u8 (c0.toNat : Int) 0) = ((flipB false c0).toNat : Int) := h2
    rw [h3, hk]
    rw [flip_false]
    have := of_decide_eq_false hf
    omega
  have Hx : Hid (getIntB (c0 :: r) = if 8 < k then .error 6 else if r.length < k then .error 5 else if 0 < k ∧ (r.head?.map (flipB false)) = some 0 then .error 6 else if 2 ^ 63 ≤ valB ((r.take k).map (flipB false)) then .error 6 else .ok (sgnB false (valB ((r.take k).map (flipB false))), k + 1)) := by
    show _ = _
    rw [getIntB, hf, ← hk]
  have hk128 : k ≤ 127 := by
    rw [hk]
    have : (flipB false c0).toNat < 256 := UInt8.toNat_lt _
    omega
  clear hk hf
  obtain ⟨n, hn⟩ : ∃ n, n = r.length := ⟨_, rfl⟩
  rw [← hn] at Hx hl hc ⊢
  have Hn := Lib.hid hn
  clear hn
  go_enter Tryz.func72, Tryz.ntmps72
  go_upto_region 7 with fail
  by_cases ha : 8 < k
  · have q1 : (8 : Int) < (k : Int) := by omega
    go_wp2_with fail
    go_ret3
    exact ⟨by rw [Hx.out, if_pos ha]; rfl, rfl⟩
  have qa : ¬ (8 : Int) < (k : Int) := by omega
  by_cases hb : n < k
  · have q1 : (n : Int) + 1 ≤ (k : Int) := by omega
    go_wp2_with fail
    go_ret3
    exact ⟨by rw [Hx.out, if_neg ha, if_pos hb]; rfl, rfl⟩
  have qb : ¬ (n : Int) + 1 ≤ (k : Int) := by omega
  have Hab := Lib.hid (show ¬ 8 < k ∧ ¬ n < k from ⟨ha, hb⟩)
  by_cases hk0 : k = 0
  · have q2 : ¬ (0 : Int) < (k : Int) := by omega
    have Hz : Hid (¬ (0 < k ∧ (r.head?.map (flipB false)) = some 0)) := by show ¬ _; omega
    subst hk0
    have Hy : Hid (getIntB (c0 :: r) = .ok (sgnB false 0, 0 + 1)) := by
      show _ = _
      rw [Hx.out, if_neg Hab.out.1, if_neg Hab.out.2, if_neg Hz.out, List.take_zero, List.map_nil, if_neg (by decide)]
      rfl
    skip
    by_cases hc1 : c = 1
    · subst hc1
      go_wp2_with fail
      go_loopg [48, 7] 0 (fun g s48 s7 wr => s48 = .int .i64 0 ∧ s7 = .int .u64 0 ∧ w = wr)
      case atStart => exact ⟨rfl, rfl, rfl⟩
      case round =>
        obtain ⟨rfl, rfl, hwr⟩ := hrel
        subst hwr
        go_wp2_with fail
        go_ret3
        exact ⟨by rw [Hy.out]; rfl, rfl⟩
    · go_wp2_with fail
      go_loopg [48, 7] 0 (fun g s48 s7 wr => s48 = .int .i64 0 ∧ s7 = .int .u64 0 ∧ w = wr)
      case atStart => exact ⟨rfl, rfl, rfl⟩
      case round =>
        obtain ⟨rfl, rfl, hwr⟩ := hrel
        subst hwr
        go_wp2_with fail
        go_ret3
        exact ⟨by rw [Hy.out]; rfl, rfl⟩
  · have q2 : (0 : Int) < (k : Int) := by omega
    obtain ⟨x1, hx1⟩ : ∃ x1, r[0]? = some x1 := ⟨_, List.getElem?_eq_getElem (by rw [← Hn.out]; omega)⟩
    have hc1 := Hcs.out 0 x1 hx1
    rw [Nat.zero_add] at hc1
    have hhd : r.head?.map (flipB false) = some (flipB false x1) := by rw [List.head?_eq_getElem?, hx1]; rfl
    have hx1I : bits BinOp.xor IntKind.u8 (x1.toNat : Int) 0 = ((flipB false x1).toNat : Int) := by
      have h1 := flip_nat false x1
      have h2 := u8_xor_nat x1.toNat (flipV false) x1.toNat_lt (by decide)
      rw [← h1] at h2
      exact h2
    by_cases hz : flipB false x1 = 0
    · have q3 : (((flipB false x1).toNat : Int) == 0) = true := by rw [hz]; rfl
      go_wp2_with fail
      go_ret3
      exact ⟨by rw [Hx.out, if_neg Hab.out.1, if_neg Hab.out.2, if_pos ⟨by omega, by rw [hhd, hz]⟩]; rfl, rfl⟩
    · have q3 : (((flipB false x1).toNat : Int) == 0) = false := by
        rw [beq_eq_false_iff_ne]
        exact fun h => hz (UInt8.toNat_inj.1 (by exact_mod_cast h))
      have Hz : Hid (¬ (0 < k ∧ (r.head?.map (flipB false)) = some 0)) := by
        show ¬ _
        rw [hhd]
        exact fun h => hz (by simpa using h.2)
      clear hz hhd hx1
      go_wp2_with fail
      go_loopg [48, 7] k (fun g s48 s7 wr => ∃ i : Nat, s48 = .int .i64 (i : Int) ∧ s7 = .int .u64 (valB ((r.map (flipB false)).take i) : Int) ∧ g = k - i ∧ i ≤ k ∧ w = wr)
      case atStart => exact ⟨0, rfl, rfl, rfl, Nat.zero_le _, rfl⟩
      case round =>
        obtain ⟨i, rfl, rfl, hg, hik, hwr⟩ := hrel
        subst hwr
        by_cases hlt2 : i < k
        · have hI1 : (0 : Int) ≤ (i : Int) := by omega
          have hI2 : (i : Int) < (k : Int) := by omega
          obtain ⟨x, hx⟩ : ∃ x, r[i]? = some x := ⟨_, List.getElem?_eq_getElem (by rw [← Hn.out]; omega)⟩
          have hcx := Hcs.out i x hx
          rw [show o + (i + 1) = o + 1 + i by omega] at hcx
          obtain ⟨v, hv⟩ : ∃ v, v = valB ((r.map (flipB false)).take i) := ⟨_, rfl⟩
          rw [← hv]
          have hv7 : v < 72057594037927936 := by
            have h1 := val_take_lt (r.map (flipB false)) i
            have h2 := Nat.pow_le_pow_right (show 256 > 0 by decide) (show i ≤ 7 by omega)
            rw [show (256 : Nat) ^ 7 = 72057594037927936 by decide] at h2
            omega
          have Hstep : Hid (valB ((r.map (flipB false)).take (i + 1)) = v * 256 + (flipB false x).toNat) := by
            show _ = _
            rw [hv]
            exact val_take (by rw [List.getElem?_map, hx]; rfl)
          have hxI : bits BinOp.xor IntKind.u8 (x.toNat : Int) 0 = ((flipB false x).toNat : Int) := by
            have h1 := flip_nat false x
            have h2 := u8_xor_nat x.toNat (flipV false) x.toNat_lt (by decide)
            rw [← h1] at h2
            exact h2
          obtain ⟨y, hy⟩ : ∃ y, y = (flipB false x).toNat := ⟨_, rfl⟩
          have hy256 : y < 256 := by rw [hy]; exact UInt8.toNat_lt _
          rw [← hy] at hxI Hstep
          have hor : bits BinOp.or IntKind.u64 ((v : Int) * 256) (y : Int) = ((v * 256 + y : Nat) : Int) := or_byte (a := v) (c := y) (by omega) hy256
          have Hor : Hid (((v * 256 + y : Nat) : Int) = (v : Int) * 256 + y) := by show _ = _; omega
          obtain ⟨z, hz⟩ : ∃ z, z = v * 256 + y := ⟨_, rfl⟩
          rw [← hz] at hor Hstep
          clear hv hx hy hz Hor
          go_wp2_with fail
          go_roundg (k - (i + 1))
          case measure => omega
          case rel => exact ⟨i + 1, by go_num, by rw [Hstep.out], rfl, by omega, rfl⟩
        · have hik2 : i = k := by omega
          have hI3 : ¬ (i : Int) < (k : Int) := by omega
          obtain ⟨m, hm⟩ : ∃ m, m = valB ((r.map (flipB false)).take i) := ⟨_, rfl⟩
          rw [← hm]
          have hm2 : m = valB ((r.take k).map (flipB false)) := by rw [hm, hik2, List.map_take]
          have hm64 : m < 18446744073709551616 := by
            have h1 := val_take_lt (r.map (flipB false)) i
            have h2 := Nat.pow_le_pow_right (show 256 > 0 by decide) (show i ≤ 8 by omega)
            rw [show (256 : Nat) ^ 8 = 18446744073709551616 by decide] at h2
            omega
          have Hy : Hid (getIntB (c0 :: r) = if 2 ^ 63 ≤ m then .error 6 else .ok (sgnB false m, k + 1)) := by
            show _ = _
            rw [Hx.out, if_neg Hab.out.1, if_neg Hab.out.2, if_neg Hz.out, hm2]
          clear hm hm2 hlt2
          by_cases h63 : 9223372036854775808 ≤ m
          · have q5 : (0 : Int) < (m : Int) / 2 ^ 63 := by omega
            have q6 : (0 : Int) < (m : Int) / 9223372036854775808 := by omega
            go_wp2_with fail
            go_ret3
            exact ⟨by rw [Hy.out, if_pos h63]; rfl, rfl⟩
          · have q5 : ¬ (0 : Int) < (m : Int) / 2 ^ 63 := by omega
            have q6 : ¬ (0 : Int) < (m : Int) / 9223372036854775808 := by omega
            skip
            go_wp2_with fail
            go_ret3
            exact ⟨by rw [Hy.out, if_neg h63]; rfl, rfl⟩
end Go.Proofs.YtdfhbnfhkckkbaaGreatDoor
