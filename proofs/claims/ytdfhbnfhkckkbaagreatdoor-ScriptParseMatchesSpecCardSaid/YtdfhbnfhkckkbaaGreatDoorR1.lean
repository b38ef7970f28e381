/-
  The reference's encoding of an integer (printed by genR1.py).
  The reference's encoding of lists and texts.
  The reference's names and numbers of arguments.
-/
import Derived.Test.YtdfhbnfhkckkbaaGreatDoorW12
import Derived.Test.YtdfhbnfhkckkbaaGreatDoorW16
import Derived.Test.YtdfhbnfhkckkbaaGreatDoorW30
namespace Go.Proofs.YtdfhbnfhkckkbaaGreatDoor
open Go Go.RowKit Go.Walks

/-- The last bytes first. -/
def digB (m : Nat) : Bytes := if m = 0 then [] else UInt8.ofNat (m % 256) :: digB (m / 256)
decreasing_by omega
theorem digB_pos {m : Nat} (h : m ≠ 0) : digB m = UInt8.ofNat (m % 256) :: digB (m / 256) := by rw [digB, if_neg h]
theorem digB_zero : digB 0 = [] := by rw [digB]; rfl
theorem digB_get : ∀ (i m : Nat), i < lenB m → (digB m)[i]? = some (UInt8.ofNat (m / 256 ^ i))
  | i, m, h => by
    by_cases hm : m = 0
    · subst hm; rw [lenB] at h; simp at h
    · rw [digB_pos hm]
      cases i with
      | zero =>
        have : UInt8.ofNat (m % 256) = UInt8.ofNat m := by
          apply UInt8.toNat_inj.1
          rw [UInt8.toNat_ofNat', UInt8.toNat_ofNat']; omega
        simp [this]
      | succ i =>
        rw [lenB_pos hm] at h
        rw [List.getElem?_cons_succ, digB_get i (m / 256) (by omega), Nat.div_div_eq_div_mul, Nat.pow_succ, Nat.mul_comm 256]
theorem digB_length (m : Nat) : (digB m).length = lenB m := by
  induction m using Nat.strongRecOn with
  | _ m ih =>
    by_cases hm : m = 0
    · subst hm; rw [digB_zero, lenB]; rfl
    · rw [digB_pos hm, List.length_cons, ih (m / 256) (by omega), lenB_pos hm]
theorem own_down {W : World} {B B' n size : Nat} {e : TypeId} {v : Value} {xs : List Value} (h : W.ownsRow B e size v n xs) (hb : B' ≤ B) : W.ownsRow B' e size v n xs := by
  refine ⟨h.1, ?_⟩
  rcases h.2 with h | ⟨g, cap, cur, e1, hg, hh, h⟩
  · exact .inl h
  · exact .inr ⟨g, cap, cur, e1, Nat.le_trans hb hg, hh, h⟩
theorem flip_neg (c : UInt8) : 255 - (c.toNat : Int) = ((flipB true c).toNat : Int) := by
  have h := flip_nat true c
  have h2 : ∀ a : Fin 256, a.val ^^^ 255 = 255 - a.val := by decide +kernel
  have h3 : c.toNat ^^^ 255 = 255 - c.toNat := h2 ⟨c.toNat, c.toNat_lt⟩
  have h4 : flipV true = 255 := rfl
  rw [h4] at h
  rw [h, h3]
  have := c.toNat_lt
  omega
set_option maxRecDepth 100000 in
set_option maxHeartbeats 4000000 in
theorem rint_any (n : Int) (w : World) (Hn : Hid (I64 n)) : Calls Tryz.prog 50 #[.int .i64 n] w (BytesR (intB n) w) := by
  have h1 := Hn.out.1
  have h2 := Hn.out.2
  obtain ⟨m, hm⟩ : ∃ m, m = magB n := ⟨_, rfl⟩
  have hmag : m < 9223372036854775808 := by rw [hm]; exact mag_lt h1 h2
  have Hm8 : Hid (lenB m ≤ 8) := by rw [hm]; exact mag_len h1 h2
  clear Hn
  by_cases hneg : n < 0
  · have hd0 : decide (n < 0) = true := decide_eq_true hneg
    have hd1 : ¬ (0 : Int) ≤ n := by omega
    have hsub : -1 - n = (m : Int) := by rw [hm]; unfold magB; rw [if_pos hneg]; omega
    have hout : intB n = flipB true (UInt8.ofNat (128 + lenB m)) :: (bigB m (lenB m)).map (flipB true) := by
      unfold intB
      rw [show negB n = true from hd0, ← hm]
    have Hhead : Hid (∀ k : Nat, k ≤ 8 → 127 - (k : Int) = ((flipB true (UInt8.ofNat (128 + k))).toNat : Int)) := Lib.hid fun k hk => by
      rw [← flip_neg, UInt8.toNat_ofNat']
      omega
    have Hout := Lib.hid hout
    clear hout
    clear hm hneg
    go_enter Tryz.func50, Tryz.ntmps50
    go_wp2_with fail
    go_loopg [3, 4] (m + 1) (fun g s3 s4 W => ∃ (x k : Nat) (A : Option Addr) (c : Nat) (d : Bytes), s3 = .int .i64 (x : Int) ∧ s4 = .slice A k c ∧ g = x + 1 ∧ x ≤ m ∧ lenB x + k = lenB m ∧ Hid (d ++ digB x = digB m) ∧ Hid (OS w 5 1 A k c (Lib.byteCells d) W))
    case atStart => exact ⟨m, 0, none, 0, [], rfl, rfl, rfl, Nat.le_refl _, rfl, rfl, OS.nil _ _ _⟩
    case round =>
      obtain ⟨x, k, A, c, d, rfl, rfl, hg, hx, hk, HD, HS⟩ := hrel
      have hm8 := Hm8.out
      by_cases hx0 : x = 0
      · subst hx0
        have hk8 : k = lenB m := by rw [lenB, if_pos rfl] at hk; omega
        have HDe : Hid (d = digB m) := by have := HD.out; rw [digB_zero, List.append_nil] at this; exact this
        have Hk := Lib.hid hk8
        have hkb : k ≤ 8 := by omega
        have hh := Hhead.out k hkb
        obtain ⟨hd, hhd⟩ : ∃ hd, hd = flipB true (UInt8.ofNat (128 + k)) := ⟨_, rfl⟩
        rw [← hhd] at hh
        have Hhd := Lib.hid hhd
        have hhd1 : (hd.toNat : Int) < 256 := by have := hd.toNat_lt; omega
        clear hg hx hk HD hk8 hhd
        have HN : Hid (OS wr 5 1 none 0 0 (Lib.byteCells []) wr) := OS.nil _ _ _
        have hb1 : 0 + 1 ≤ maxLen := by unfold maxLen; omega
        have hb2 : (0 + 1) * 1 ≤ 140737488355328 := by omega
        go_upto_region 14 with (at_builtin; refine wpList_append_sl rfl _ _ 38 rfl rfl rfl so38 (HN.out.o.alloc _) (m := 1) (news := [.int .u8 (hd.toNat : Int)]) rfl (Sl.new _ _ _) ?_ hb1 hb2 (Nat.le_trans HN.out.below.size (by simp)) ?_; (intro u hu; simp at hu; subst hu; rfl); intro A5 c5 w5 ho5 hg5; have HS5 := Lib.hid ((HN.out.alloc _).grow ho5 hg5); clear ho5 hg5)
        have Hds := Lib.hid (own_sl HS.out.o)
        have HB := Lib.hid HS.out.below
        clear hb1 hb2 hh HN HS hhd1
        go_loopg [6, 7] k (fun g s6 s7 W => ∃ (j nn : Nat) (A' : Option Addr) (c' : Nat), s6 = .slice A' nn c' ∧ s7 = .int .i64 ((j : Int) - 1) ∧ g = j ∧ j ≤ k ∧ nn + j = k + 1 ∧ Hid (OS wr 5 1 A' nn c' (Lib.byteCells (hd :: ((bigB m k).map (flipB true)).take (k - j))) W))
        case atStart => exact ⟨k, 1, A5, c5, rfl, rfl, rfl, Nat.le_refl _, by omega, by rw [Nat.sub_self, List.take_zero]; exact HS5.out⟩
        case round =>
          obtain ⟨j, nn, A', c', rfl, rfl, hg, hjk, hnn, HS⟩ := hrel
          by_cases hj0 : j = 0
          · subst hj0
            go_wp2_with fail
            go_ret
            have hint : intB n = hd :: ((bigB m k).map (flipB true)).take (k - 0) := by
              rw [Hout.out, Hhd.out, ← Hk.out, Nat.sub_zero, List.take_of_length_le (by rw [List.length_map, bigB_length]; exact Nat.le_refl _)]
            have hlen : (intB n).length = nn := by
              rw [hint, Nat.sub_zero, List.length_cons, List.take_of_length_le (by rw [List.length_map, bigB_length]; exact Nat.le_refl _), List.length_map, bigB_length]; omega
            unfold BytesR
            rw [hlen, hint]
            exact ⟨A', c', rfl, HB.out.trans (HS.out.below.mono HB.out.size), own_down HS.out.o HB.out.size⟩
          · obtain ⟨i, rfl⟩ : ∃ i, j = i + 1 := ⟨j - 1, by omega⟩
            have hstep : ((bigB m k).map (flipB true)).take (k - i) = ((bigB m k).map (flipB true)).take (k - (i + 1)) ++ [flipB true (UInt8.ofNat (m / 256 ^ i))] := by
              rw [show k - i = (k - (i + 1)) + 1 by omega, List.take_add_one, List.getElem?_map, bigB_get m k _ (by omega), show k - 1 - (k - (i + 1)) = i by omega]
              rfl
            obtain ⟨b, o, hA, hbl, hcell⟩ := byte_at (Hds.out.below HS.out.below) (k := i) (x := UInt8.ofNat (m / 256 ^ i)) (by rw [HDe.out]; exact digB_get i m (by have := Hk.out; omega))
            subst hA
            obtain ⟨y, hy⟩ : ∃ y, y = UInt8.ofNat (m / 256 ^ i) := ⟨_, rfl⟩
            rw [← hy] at hcell hstep
            obtain ⟨z, hz⟩ : ∃ z, z = flipB true y := ⟨_, rfl⟩
            rw [← hz] at hstep
            have hzv : 255 - (y.toNat : Int) = (z.toNat : Int) := by rw [hz]; exact flip_neg y
            have hb1 : nn + 1 ≤ maxLen := by unfold maxLen; omega
            have hb2 : (nn + 1) * 1 ≤ 140737488355328 := by omega
            have hi1 : (i : Int) < (k : Int) := by omega
            have Hstep := Lib.hid hstep
            clear hstep hy hz hj0
            go_wp2_with (at_builtin; refine wpList_append_sl rfl _ _ 38 rfl rfl rfl so38 (HS.out.o.alloc _) (m := 1) (news := [.int .u8 (z.toNat : Int)]) rfl (Sl.new _ _ _) ?_ hb1 hb2 (Nat.le_trans HS.out.below.size (by simp)) ?_; (intro u hu; simp at hu; subst hu; rfl); intro A5 c5 w5 ho5 hg5; have HS5 := Lib.hid ((HS.out.alloc _).grow ho5 hg5); clear ho5 hg5)
            go_roundg i
            case measure => omega
            case rel => exact ⟨i, nn + 1, A5, c5, rfl, by go_num, rfl, by omega, by omega, by rw [Hstep.out, ← List.cons_append, byteCells_append]; exact HS5.out⟩
      · have hx1 : 0 < x := by omega
        have hl := lenB_pos hx0
        have hb1 : k + 1 ≤ maxLen := by unfold maxLen; omega
        have hb2 : (k + 1) * 1 ≤ 140737488355328 := by omega
        have HD2 : Hid ((d ++ [UInt8.ofNat (x % 256)]) ++ digB (x / 256) = digB m) := by
          show _ = _
          rw [← HD.out, digB_pos hx0, List.append_assoc]; rfl
        obtain ⟨y, hy⟩ : ∃ y, y = UInt8.ofNat (x % 256) := ⟨_, rfl⟩
        have hyv : (x : Int) % 256 = (y.toNat : Int) := by rw [hy, UInt8.toNat_ofNat']; omega
        have hy1 : (y.toNat : Int) < 256 := by have := y.toNat_lt; omega
        rw [← hy] at HD2
        clear hy hx0
        go_wp2_with (at_builtin; refine wpList_append_sl rfl _ _ 38 rfl rfl rfl so38 (HS.out.o.alloc _) (m := 1) (news := [.int .u8 (y.toNat : Int)]) rfl (Sl.new _ _ _) ?_ hb1 hb2 (Nat.le_trans HS.out.below.size (by simp)) ?_; (intro u hu; simp at hu; subst hu; rfl); intro A5 c5 w5 ho5 hg5; have HS5 := Lib.hid ((HS.out.alloc _).grow ho5 hg5); clear ho5 hg5)
        go_roundg (x / 256 + 1)
        case measure => omega
        case rel => exact ⟨x / 256, k + 1, A5, c5, d ++ [y], by go_num, rfl, rfl, by omega, by omega, HD2, by rw [byteCells_append]; exact HS5.out⟩
  have hd0 : ¬ n < 0 := hneg
  have hd1 : (0 : Int) ≤ n := by omega
  have hsub : n = (m : Int) := by rw [hm]; unfold magB; rw [if_neg hneg]; omega
  have hout : intB n = flipB false (UInt8.ofNat (128 + lenB m)) :: (bigB m (lenB m)).map (flipB false) := by
    unfold intB
    rw [show negB n = false from decide_eq_false hd0, ← hm]
  have Hhead : Hid (∀ k : Nat, k ≤ 8 → 128 + (k : Int) = ((flipB false (UInt8.ofNat (128 + k))).toNat : Int)) := Lib.hid fun k hk => by
    rw [flip_false, UInt8.toNat_ofNat']
    omega
  have Hout := Lib.hid hout
  clear hout
  have Hsub := Lib.hid hsub
  clear hm hneg hsub
  go_enter Tryz.func50, Tryz.ntmps50
  go_wp2_with fail
  go_loopg [3, 4] (m + 1) (fun g s3 s4 W => ∃ (x k : Nat) (A : Option Addr) (c : Nat) (d : Bytes), s3 = .int .i64 (x : Int) ∧ s4 = .slice A k c ∧ g = x + 1 ∧ x ≤ m ∧ lenB x + k = lenB m ∧ Hid (d ++ digB x = digB m) ∧ Hid (OS w 5 1 A k c (Lib.byteCells d) W))
  case atStart => exact ⟨m, 0, none, 0, [], (by rw [Hsub.out]), rfl, rfl, Nat.le_refl _, rfl, rfl, OS.nil _ _ _⟩
  case round =>
    obtain ⟨x, k, A, c, d, rfl, rfl, hg, hx, hk, HD, HS⟩ := hrel
    have hm8 := Hm8.out
    by_cases hx0 : x = 0
    · subst hx0
      have hk8 : k = lenB m := by rw [lenB, if_pos rfl] at hk; omega
      have HDe : Hid (d = digB m) := by have := HD.out; rw [digB_zero, List.append_nil] at this; exact this
      have Hk := Lib.hid hk8
      have hkb : k ≤ 8 := by omega
      have hh := Hhead.out k hkb
      obtain ⟨hd, hhd⟩ : ∃ hd, hd = flipB false (UInt8.ofNat (128 + k)) := ⟨_, rfl⟩
      rw [← hhd] at hh
      have Hhd := Lib.hid hhd
      have hhd1 : (hd.toNat : Int) < 256 := by have := hd.toNat_lt; omega
      clear hg hx hk HD hk8 hhd
      have HN : Hid (OS wr 5 1 none 0 0 (Lib.byteCells []) wr) := OS.nil _ _ _
      have hb1 : 0 + 1 ≤ maxLen := by unfold maxLen; omega
      have hb2 : (0 + 1) * 1 ≤ 140737488355328 := by omega
      go_upto_region 14 with (at_builtin; refine wpList_append_sl rfl _ _ 38 rfl rfl rfl so38 (HN.out.o.alloc _) (m := 1) (news := [.int .u8 (hd.toNat : Int)]) rfl (Sl.new _ _ _) ?_ hb1 hb2 (Nat.le_trans HN.out.below.size (by simp)) ?_; (intro u hu; simp at hu; subst hu; rfl); intro A5 c5 w5 ho5 hg5; have HS5 := Lib.hid ((HN.out.alloc _).grow ho5 hg5); clear ho5 hg5)
      have Hds := Lib.hid (own_sl HS.out.o)
      have HB := Lib.hid HS.out.below
      clear hb1 hb2 hh HN HS hhd1
      go_loopg [6, 7] k (fun g s6 s7 W => ∃ (j nn : Nat) (A' : Option Addr) (c' : Nat), s6 = .slice A' nn c' ∧ s7 = .int .i64 ((j : Int) - 1) ∧ g = j ∧ j ≤ k ∧ nn + j = k + 1 ∧ Hid (OS wr 5 1 A' nn c' (Lib.byteCells (hd :: ((bigB m k).map (flipB false)).take (k - j))) W))
      case atStart => exact ⟨k, 1, A5, c5, rfl, rfl, rfl, Nat.le_refl _, by omega, by rw [Nat.sub_self, List.take_zero]; exact HS5.out⟩
      case round =>
        obtain ⟨j, nn, A', c', rfl, rfl, hg, hjk, hnn, HS⟩ := hrel
        by_cases hj0 : j = 0
        · subst hj0
          go_wp2_with fail
          go_ret
          have hint : intB n = hd :: ((bigB m k).map (flipB false)).take (k - 0) := by
            rw [Hout.out, Hhd.out, ← Hk.out, Nat.sub_zero, List.take_of_length_le (by rw [List.length_map, bigB_length]; exact Nat.le_refl _)]
          have hlen : (intB n).length = nn := by
            rw [hint, Nat.sub_zero, List.length_cons, List.take_of_length_le (by rw [List.length_map, bigB_length]; exact Nat.le_refl _), List.length_map, bigB_length]; omega
          unfold BytesR
          rw [hlen, hint]
          exact ⟨A', c', rfl, HB.out.trans (HS.out.below.mono HB.out.size), own_down HS.out.o HB.out.size⟩
        · obtain ⟨i, rfl⟩ : ∃ i, j = i + 1 := ⟨j - 1, by omega⟩
          have hstep : ((bigB m k).map (flipB false)).take (k - i) = ((bigB m k).map (flipB false)).take (k - (i + 1)) ++ [flipB false (UInt8.ofNat (m / 256 ^ i))] := by
            rw [show k - i = (k - (i + 1)) + 1 by omega, List.take_add_one, List.getElem?_map, bigB_get m k _ (by omega), show k - 1 - (k - (i + 1)) = i by omega]
            rfl
          obtain ⟨b, o, hA, hbl, hcell⟩ := byte_at (Hds.out.below HS.out.below) (k := i) (x := UInt8.ofNat (m / 256 ^ i)) (by rw [HDe.out]; exact digB_get i m (by have := Hk.out; omega))
          subst hA
          obtain ⟨y, hy⟩ : ∃ y, y = UInt8.ofNat (m / 256 ^ i) := ⟨_, rfl⟩
          rw [← hy] at hcell hstep
          obtain ⟨z, hz⟩ : ∃ z, z = flipB false y := ⟨_, rfl⟩
          rw [← hz] at hstep
          have hzy : z = y := by rw [hz]; exact flip_false y
          subst hzy
          have hb1 : nn + 1 ≤ maxLen := by unfold maxLen; omega
          have hb2 : (nn + 1) * 1 ≤ 140737488355328 := by omega
          have hi1 : (i : Int) < (k : Int) := by omega
          have Hstep := Lib.hid hstep
          clear hstep hy hz hj0
          go_wp2_with (at_builtin; refine wpList_append_sl rfl _ _ 38 rfl rfl rfl so38 (HS.out.o.alloc _) (m := 1) (news := [.int .u8 (z.toNat : Int)]) rfl (Sl.new _ _ _) ?_ hb1 hb2 (Nat.le_trans HS.out.below.size (by simp)) ?_; (intro u hu; simp at hu; subst hu; rfl); intro A5 c5 w5 ho5 hg5; have HS5 := Lib.hid ((HS.out.alloc _).grow ho5 hg5); clear ho5 hg5)
          go_roundg i
          case measure => omega
          case rel => exact ⟨i, nn + 1, A5, c5, rfl, by go_num, rfl, by omega, by omega, by rw [Hstep.out, ← List.cons_append, byteCells_append]; exact HS5.out⟩
    · have hx1 : 0 < x := by omega
      have hl := lenB_pos hx0
      have hb1 : k + 1 ≤ maxLen := by unfold maxLen; omega
      have hb2 : (k + 1) * 1 ≤ 140737488355328 := by omega
      have HD2 : Hid ((d ++ [UInt8.ofNat (x % 256)]) ++ digB (x / 256) = digB m) := by
        show _ = _
        rw [← HD.out, digB_pos hx0, List.append_assoc]; rfl
      obtain ⟨y, hy⟩ : ∃ y, y = UInt8.ofNat (x % 256) := ⟨_, rfl⟩
      have hyv : (x : Int) % 256 = (y.toNat : Int) := by rw [hy, UInt8.toNat_ofNat']; omega
      have hy1 : (y.toNat : Int) < 256 := by have := y.toNat_lt; omega
      rw [← hy] at HD2
      clear hy hx0
      go_wp2_with (at_builtin; refine wpList_append_sl rfl _ _ 38 rfl rfl rfl so38 (HS.out.o.alloc _) (m := 1) (news := [.int .u8 (y.toNat : Int)]) rfl (Sl.new _ _ _) ?_ hb1 hb2 (Nat.le_trans HS.out.below.size (by simp)) ?_; (intro u hu; simp at hu; subst hu; rfl); intro A5 c5 w5 ho5 hg5; have HS5 := Lib.hid ((HS.out.alloc _).grow ho5 hg5); clear ho5 hg5)
      go_roundg (x / 256 + 1)
      case measure => omega
      case rel => exact ⟨x / 256, k + 1, A5, c5, d ++ [y], by go_num, rfl, rfl, by omega, by omega, HD2, by rw [byteCells_append]; exact HS5.out⟩
end Go.Proofs.YtdfhbnfhkckkbaaGreatDoor
namespace Go.Proofs.YtdfhbnfhkckkbaaGreatDoor
open Go Go.RowKit Go.Walks

set_option maxRecDepth 100000 in
set_option maxHeartbeats 4000000 in
theorem rints_any (l : List Int) (A : Option Addr) (c : Nat) (w : World) (hl : l.length ≤ 1000000) (Hl : Hid (∀ n ∈ l, I64 n)) (Hs : Hid (Sl w w.heap.size A (l.map intC))) : Calls Tryz.prog 49 #[.slice A l.length c] w (BytesR (intsB l) w) := by
  obtain ⟨m, hm⟩ : ∃ m, m = l.length := ⟨_, rfl⟩
  rw [← hm]
  have Hint : Hid (∀ W, Calls Tryz.prog 50 #[.int .i64 (m : Int)] W (BytesR (intB (m : Int)) W)) := fun W => rint_any _ _ (Lib.hid (nat_I64 (show m < 9223372036854775808 by omega)))
  have hm6 : m ≤ 1000000 := by omega
  have Hm := Lib.hid hm
  clear hm hl
  go_enter Tryz.func49, Tryz.ntmps49
  go_wp2_with fail
  refine (Hint.out _).mono ?_
  rintro e w1 ⟨A1, c1, rfl, hS1⟩
  have HS1 := Lib.hid hS1
  clear hS1
  go_wp2_with fail
  go_loopg [4, 3] m (fun g s11 s3 wr => ∃ (k nn : Nat) (A' : Option Addr) (c' : Nat), s11 = .int .i64 (k : Int) ∧ s3 = .slice A' nn c' ∧ g = m - k ∧ k ≤ m ∧ nn ≤ 9 + 9 * k ∧ nn = (intB (m : Int)).length + ((l.take k).flatMap intB).length ∧ Hid (OS w 5 1 A' nn c' (Lib.byteCells (intB (m : Int) ++ (l.take k).flatMap intB)) wr))
  case atStart => exact ⟨0, (intB (m : Int)).length, A1, c1, rfl, rfl, rfl, by omega, by have := intB_le (m : Int) (nat_I64 (by omega)); omega, by simp, by rw [List.take_zero, List.flatMap_nil, List.append_nil]; exact HS1.out⟩
  case round =>
    obtain ⟨k, nn, A', c', rfl, rfl, hg, hk, hnn, hne, HS⟩ := hrel
    have Hne := Lib.hid hne
    clear hne
    by_cases hlt : k < m
    · have hI1 : (0 : Int) ≤ (k : Int) := by omega
      have hI2 : (k : Int) < (m : Int) := by omega
      obtain ⟨x, hx⟩ : ∃ x, l[k]? = some x := ⟨_, List.getElem?_eq_getElem (by rw [← Hm.out]; exact hlt)⟩
      have hxI := Hl.out x (List.mem_of_getElem? hx)
      obtain ⟨b, o, hA, hb, hcell⟩ := int_at (Hs.out.below HS.out.below) hx
      have Hstep : Hid ((l.take (k + 1)).flatMap intB = (l.take k).flatMap intB ++ intB x) := by show _ = _; rw [List.take_add_one, hx]; simp
      have HxI := Lib.hid hxI
      clear hx hxI
      subst hA
      go_wp2_with fail
      refine (rint_any x _ HxI).mono ?_
      rintro e w2 ⟨A2, c2, rfl, hS2⟩
      have HS2 := Lib.hid hS2
      have HS' := Lib.hid (HS.out.call hS2.below)
      have hx9 := intB_le x HxI.out
      have hb1 : nn + (intB x).length ≤ maxLen := by unfold maxLen; omega
      have hb2 : (nn + (intB x).length) * 1 ≤ 140737488355328 := by omega
      clear hS2
      go_wp2_with (at_builtin; refine wpList_append_sl rfl _ _ 38 rfl rfl rfl so38 HS'.out.o (m := (intB x).length) (news := Lib.byteCells (intB x)) (by rw [byteCells_length, Nat.mul_one]) (own_sl HS2.out.o) (byteCells_one _) hb1 hb2 HS'.out.below.size ?_; intro A5 c5 w5 ho5 hg5; have HS5 := Lib.hid (HS'.out.grow ho5 hg5); clear ho5 hg5)
      go_roundg (m - (k + 1))
      case measure => omega
      case rel => exact ⟨k + 1, nn + (intB x).length, A5, c5, by go_num, rfl, rfl, by omega, by omega, by rw [Hstep.out, List.length_append, Hne.out]; omega, by rw [Hstep.out, ← List.append_assoc, byteCells_append]; exact HS5.out⟩
    · have hke : k = m := by omega
      have hI3 : ¬ (k : Int) < (m : Int) := by omega
      have Hke := Lib.hid hke
      clear hke hlt
      go_wp2_with fail
      go_ret
      have e1 : intsB l = intB (m : Int) ++ (l.take k).flatMap intB := by unfold intsB; rw [Hke.out, List.take_of_length_le (by have := Hm.out; omega), Hm.out]
      unfold BytesR
      rw [e1, List.length_append, ← Hne.out]
      exact ⟨_, _, rfl, HS.out⟩

set_option maxRecDepth 100000 in
set_option maxHeartbeats 4000000 in
theorem rbytes_any (s : Bytes) (w : World) (hl : s.length ≤ 1000000000000) : Calls Tryz.prog 51 #[.string ⟨s.toArray⟩] w (BytesR (bytesB s) w) := by
  obtain ⟨i0, hi, hz0, hz1, hz2⟩ := info_parts info5
  have hss := strBytes_size s
  have Hint := Lib.hid (rint_any (s.length : Int) w (Lib.hid (nat_I64 (show s.length < 9223372036854775808 by omega))))
  have hx9 := intB_le (s.length : Int) (nat_I64 (by omega))
  go_enter Tryz.func51, Tryz.ntmps51
  go_wp2_with fail
  refine Hint.out.mono ?_
  rintro e w1 ⟨A1, c1, rfl, hS1⟩
  have HS1 := Lib.hid hS1
  clear hS1
  go_wp2_with fail
  rw [Lib.run_convert_string_bytes w1 9 38 5 ⟨s.toArray⟩ Tryz.underlying9 Tryz.underlying38 Tryz.underlying5]
  simp only [Result.andThen]
  rw [Oper.upon_value]
  obtain ⟨n, hn⟩ : ∃ n, n = (⟨s.toArray⟩ : ByteArray).size := ⟨_, rfl⟩
  have hnl : n = s.length := by rw [hn]; exact hss
  have hbW := Lib.bytesWorld_below w1 5 ⟨s.toArray⟩
  have hSl : Sl (Lib.bytesWorld w1 5 ⟨s.toArray⟩) (Lib.bytesWorld w1 5 ⟨s.toArray⟩).heap.size (some ⟨w1.heap.size, 0, none⟩) (Lib.byteCells s) := by
    refine .inr ⟨w1.heap.size, 0, rfl, (Array.getElem?_eq_some_iff.1 (Lib.bytesWorld_at_new w1 5 _)).1, fun j u hu => ?_⟩
    unfold Lib.byteCells at hu
    rw [List.getElem?_map, Option.map_eq_some_iff] at hu
    obtain ⟨y, hy, rfl⟩ := hu
    have hjs := (List.getElem?_eq_some_iff.1 hy).1
    have := Lib.bytesWorld_cell w1 5 ⟨s.toArray⟩ j (by rw [hss]; exact hjs)
    rw [Nat.zero_add, this]
    simp [List.getD, hy]
  have HS2 := Lib.hid (HS1.out.call hbW)
  have HSl := Lib.hid hSl
  obtain ⟨g1, hg1⟩ : ∃ g, g = w1.heap.size := ⟨_, rfl⟩
  obtain ⟨cp, hcp⟩ : ∃ c, c = grownCap w1 n 0 5 := ⟨_, rfl⟩
  obtain ⟨W2, hW2⟩ : ∃ W, W = Lib.bytesWorld w1 5 ⟨s.toArray⟩ := ⟨_, rfl⟩
  rw [← hW2, ← hg1] at HSl
  rw [← hW2] at HS2
  rw [← hn, ← hW2, ← hg1, ← hcp]
  obtain ⟨q, hq⟩ : ∃ q, q = (intB (s.length : Int)).length := ⟨_, rfl⟩
  rw [← hq] at HS2 hx9 ⊢
  have Hq := Lib.hid hq
  have Hnl := Lib.hid hnl
  have hb1 : q + n ≤ maxLen := by unfold maxLen; omega
  have hb2 : (q + n) * 1 ≤ 140737488355328 := by omega
  clear hW2 hg1 hcp HS1 hSl hbW hq hn hnl
  go_wp2_with (at_builtin; refine wpList_append_sl rfl _ _ 38 rfl rfl rfl so38 HS2.out.o (m := n) (news := Lib.byteCells s) (by rw [byteCells_length, Nat.mul_one]; exact Hnl.out.symm) HSl.out (byteCells_one _) hb1 hb2 HS2.out.below.size ?_; intro A5 c5 w5 ho5 hg5; have HS5 := Lib.hid (HS2.out.grow ho5 hg5); clear ho5 hg5)
  go_ret
  unfold BytesR bytesB
  have e1 : (intB (s.length : Int) ++ s).length = q + n := by rw [List.length_append, ← Hq.out, ← Hnl.out]
  rw [e1]
  exact ⟨_, _, rfl, by rw [byteCells_append]; exact HS5.out⟩
set_option maxRecDepth 100000 in
theorem rnumbers_any (a b c d e f : Int) (w : World) : Calls Tryz.prog 44 #[.agg #[.int .i64 a, .int .i64 b, .int .i64 c, .int .i64 d, .int .i64 e, .int .i64 f]] w fun en w' => ∃ A, en = .returned (.slice A 6 6) ∧ OS w 3 1 A 6 6 ([a, b, c, d, e, f].map intC) w' := by
  obtain ⟨g, hg⟩ : ∃ g, g = w.heap.size := ⟨_, rfl⟩
  obtain ⟨W1, hW1⟩ : ∃ W, W = w.alloc (.cells #[.int .i64 a, .int .i64 b, .int .i64 c, .int .i64 d, .int .i64 e, .int .i64 f] 23) := ⟨_, rfl⟩
  have hr : W1.heap[g]? = some (.cells #[.int .i64 a, .int .i64 b, .int .i64 c, .int .i64 d, .int .i64 e, .int .i64 f] 23) := by rw [hW1, hg]; exact heap_new _ _
  obtain ⟨c0, -⟩ := cell_at hr 0 rfl
  obtain ⟨c1, -⟩ := cell_at hr 1 rfl
  obtain ⟨c2, -⟩ := cell_at hr 2 rfl
  obtain ⟨c3, -⟩ := cell_at hr 3 rfl
  obtain ⟨c4, -⟩ := cell_at hr 4 rfl
  obtain ⟨c5, -⟩ := cell_at hr 5 rfl
  have hb1 : Below w.heap.size w W1 := by rw [hW1]; exact (Below.refl _ _).alloc (Nat.le_refl _) _
  have HB := Lib.hid hb1
  clear hb1 hr
  go_enter Tryz.func44, Tryz.ntmps44
  go_upto_region 1 with fail
  rw [← hW1, ← hg]
  clear hW1 hg
  go_wp2_with fail
  go_ret
  refine ⟨_, rfl, HB.out.alloc HB.out.size _, ?_⟩
  exact own_new W1 (cs := [a, b, c, d, e, f].map intC) rfl HB.out.size (by unfold maxLen; omega)
end Go.Proofs.YtdfhbnfhkckkbaaGreatDoor
namespace Go.Proofs.YtdfhbnfhkckkbaaGreatDoor
open Go Go.RowKit Go.Walks

def namesL : List Bytes := kindsB.map (·.1)
def numsL : List Int := kindsB.map fun x => (x.2 : Int)
theorem names_cells : [.string ⟨#[99, 111, 100, 101]⟩, .string ⟨#[116, 101, 114, 109, 115]⟩, .string ⟨#[99, 114, 101, 97, 116, 101]⟩, .string ⟨#[100, 101, 108, 101, 116, 101]⟩, .string ⟨#[103, 105, 118, 101]⟩, .string ⟨#[119, 114, 105, 116, 101]⟩, .string ⟨#[102, 105, 108, 108]⟩, .string ⟨#[116, 119, 105, 110]⟩, .string ⟨#[100, 105, 115, 99, 97, 114, 100]⟩, .string ⟨#[114, 101, 97, 100]⟩, .string ⟨#[115, 110, 97, 112, 115, 104, 111, 116]⟩, .string ⟨#[100, 114, 111, 112]⟩, .string ⟨#[99, 108, 111, 110, 101]⟩, .string ⟨#[114, 101, 115, 116, 111, 114, 101]⟩, .string ⟨#[99, 104, 97, 110, 103, 101]⟩, .string ⟨#[99, 108, 111, 115, 101]⟩, .string ⟨#[107, 101, 101, 112]⟩, .string ⟨#[102, 117, 115, 101]⟩, .string ⟨#[109, 111, 117, 110, 116]⟩, .string ⟨#[107, 105, 108, 108]⟩, .string ⟨#[114, 101, 109, 111, 118, 101]⟩, .string ⟨#[105, 110, 115, 101, 114, 116]⟩, .string ⟨#[114, 101, 112, 108, 97, 99, 101]⟩, .string ⟨#[114, 111, 116]⟩, .string ⟨#[108, 111, 115, 101]⟩, .string ⟨#[109, 105, 115, 100, 105, 114, 101, 99, 116]⟩, .string ⟨#[97, 117, 100, 105, 116]⟩] = namesL.map strV := rfl
theorem nums_cells : [.int .i64 1, .int .i64 1, .int .i64 1, .int .i64 1, .int .i64 2, .int .i64 3, .int .i64 4, .int .i64 4, .int .i64 3, .int .i64 2, .int .i64 1, .int .i64 1, .int .i64 2, .int .i64 2, .int .i64 2, .int .i64 0, .int .i64 1, .int .i64 1, .int .i64 64, .int .i64 1, .int .i64 1, .int .i64 2, .int .i64 1, .int .i64 4, .int .i64 3, .int .i64 4, .int .i64 1] = numsL.map intC := rfl
def NamesR (w : World) (e : Ending) (w' : World) : Prop := Below w.heap.size w w' ∧ ∃ A B c d, e = .returned (.tuple #[.slice A 27 c, .slice B 27 d]) ∧ Sl w' w'.heap.size A (namesL.map strV) ∧ Sl w' w'.heap.size B (numsL.map intC)
set_option maxRecDepth 100000 in
theorem names_any (w : World) : Calls Tryz.prog 58 #[] w (NamesR w) := by
  go_enter Tryz.func58, Tryz.ntmps58
  go_wp2_with fail
  go_ret2
  generalize hW1 : w.alloc _ = W1
  generalize hW2 : W1.alloc _ = W2
  have s1 : W1.heap.size = w.heap.size + 1 := by rw [← hW1]; simp
  have b1 : Below w.heap.size w W1 := by rw [← hW1]; exact (Below.refl _ _).alloc (Nat.le_refl _) _
  have b2 : Below W1.heap.size W1 W2 := by rw [← hW2]; exact (Below.refl _ _).alloc (Nat.le_refl _) _
  have r1 : W1.heap[w.heap.size]? = some (.cells (namesL.map strV).toArray 9) := by rw [← hW1]; exact heap_new _ _
  have r2 : W2.heap[w.heap.size + 1]? = some (.cells (numsL.map intC).toArray 3) := by rw [← s1, ← hW2]; exact heap_new _ _
  have k1 := sl_row r1 (B := W1.heap.size) (by omega)
  have k2 := sl_row r2 (B := W2.heap.size) (by have := b2.size; have : W2.heap.size = W1.heap.size + 1 := by rw [← hW2]; simp
                                               omega)
  rw [List.toList_toArray] at k1 k2
  exact ⟨b1.trans (b2.mono b1.size), _, _, _, _, rfl, (k1.below b2).more b2.size, k2⟩
theorem kinds_get {n : Int} (h0 : 1 ≤ n) (h1 : n ≤ 27) : namesL[(n - 1).toNat]? = some (nameB n) ∧ numsL[(n - 1).toNat]? = some (arityB n) := by
  have hk : isKindB n = true := by unfold isKindB; simp [h0, h1]
  have hl : kindsB.length = 27 := by decide +kernel
  have hx : kindsB[(n - 1).toNat]? = some (kindsB[(n - 1).toNat]'(by omega)) := List.getElem?_eq_getElem _
  unfold namesL numsL nameB arityB
  rw [if_pos hk, if_pos hk, List.getElem?_map, List.getElem?_map, hx]
  exact ⟨rfl, rfl⟩
def StrB (l : Bytes) (w : World) (e : Ending) (w' : World) : Prop := e = .returned (strV l) ∧ Below w.heap.size w w'
def IntB (n : Int) (w : World) (e : Ending) (w' : World) : Prop := e = .returned (.int .i64 n) ∧ Below w.heap.size w w'
set_option maxRecDepth 100000 in
set_option maxHeartbeats 1000000 in
theorem rname_any (n : Int) (w : World) : Calls Tryz.prog 20 #[.int .i64 n] w (StrB (nameB n) w) := by
  have HN := Lib.hid (names_any w)
  go_enter Tryz.func20, Tryz.ntmps20
  go_wp2_with fail
  refine HN.out.mono ?_
  rintro e w1 ⟨hb, A, B, c, d, rfl, hA, hB⟩
  have HB := Lib.hid hb
  have HA := Lib.hid hA
  have HC := Lib.hid hB
  clear hb hA hB HN
  by_cases h0 : n < 1
  · have hq : decide (n < 1) = true := decide_eq_true h0
    have Hv : Hid (nameB n = []) := by
      show _ = _
      have : isKindB n = false := by unfold isKindB; rw [Bool.and_eq_false_iff]; exact .inl (decide_eq_false (by omega))
      unfold nameB
      rw [if_neg (by rw [this]; decide)]
    go_wp2_with fail
    go_ret
    exact ⟨by rw [Hv.out]; rfl, HB.out⟩
  · by_cases h1 : 27 < n
    · have hq : decide (n < 1) = false := decide_eq_false h0
      have hq2 : decide (27 < n) = true := decide_eq_true h1
      have Hv : Hid (nameB n = []) := by
        show _ = _
        have : isKindB n = false := by unfold isKindB; rw [Bool.and_eq_false_iff]; exact .inr (decide_eq_false (by omega))
        unfold nameB
        rw [if_neg (by rw [this]; decide)]
      go_wp2_with fail
      go_ret
      exact ⟨by rw [Hv.out]; rfl, HB.out⟩
    · have hg := kinds_get (n := n) (by omega) (by omega)
      obtain ⟨i, rfl⟩ : ∃ i : Nat, n = (i : Int) + 1 := ⟨(n - 1).toNat, by omega⟩
      rw [show ((i : Int) + 1 - 1).toNat = i by omega] at hg
      obtain ⟨b, o, hA, hlt, hc⟩ := str_at HA.out hg.1
      subst hA
      obtain ⟨x, hx⟩ : ∃ x, x = nameB ((i : Int) + 1) := ⟨_, rfl⟩
      rw [← hx] at hc
      have Hx := Lib.hid hx
      have hi : i < 27 := by omega
      have hI : (i : Int) < 27 := by omega
      clear hg hx h0 h1
      have hq : decide ((i : Int) + 1 < 1) = false := decide_eq_false (by omega)
      have hq2 : decide (27 < (i : Int) + 1) = false := decide_eq_false (by omega)
      go_wp2_with fail
      go_ret
      exact ⟨by rw [← Hx.out]; rfl, HB.out⟩
set_option maxRecDepth 100000 in
set_option maxHeartbeats 1000000 in
theorem rarity_any (n : Int) (w : World) : Calls Tryz.prog 22 #[.int .i64 n] w (IntB (arityB n) w) := by
  have HN := Lib.hid (names_any w)
  go_enter Tryz.func22, Tryz.ntmps22
  go_wp2_with fail
  refine HN.out.mono ?_
  rintro e w1 ⟨hb, A, B, c, d, rfl, hA, hB⟩
  have HB := Lib.hid hb
  have HA := Lib.hid hA
  have HC := Lib.hid hB
  clear hb hA hB HN
  by_cases h0 : n < 1
  · have hq : decide (n < 1) = true := decide_eq_true h0
    have Hv : Hid (arityB n = -1) := by
      show _ = _
      have : isKindB n = false := by unfold isKindB; rw [Bool.and_eq_false_iff]; exact .inl (decide_eq_false (by omega))
      unfold arityB
      rw [if_neg (by rw [this]; decide)]
    go_wp2_with fail
    go_ret
    exact ⟨by rw [Hv.out]; rfl, HB.out⟩
  · by_cases h1 : 27 < n
    · have hq : decide (n < 1) = false := decide_eq_false h0
      have hq2 : decide (27 < n) = true := decide_eq_true h1
      have Hv : Hid (arityB n = -1) := by
        show _ = _
        have : isKindB n = false := by unfold isKindB; rw [Bool.and_eq_false_iff]; exact .inr (decide_eq_false (by omega))
        unfold arityB
        rw [if_neg (by rw [this]; decide)]
      go_wp2_with fail
      go_ret
      exact ⟨by rw [Hv.out]; rfl, HB.out⟩
    · have hg := kinds_get (n := n) (by omega) (by omega)
      obtain ⟨i, rfl⟩ : ∃ i : Nat, n = (i : Int) + 1 := ⟨(n - 1).toNat, by omega⟩
      rw [show ((i : Int) + 1 - 1).toNat = i by omega] at hg
      obtain ⟨b, o, hA, hlt, hc⟩ := int_at HC.out hg.2
      subst hA
      obtain ⟨x, hx⟩ : ∃ x, x = arityB ((i : Int) + 1) := ⟨_, rfl⟩
      rw [← hx] at hc
      have Hx := Lib.hid hx
      have hi : i < 27 := by omega
      have hI : (i : Int) < 27 := by omega
      clear hg hx h0 h1
      have hq : decide ((i : Int) + 1 < 1) = false := decide_eq_false (by omega)
      have hq2 : decide (27 < (i : Int) + 1) = false := decide_eq_false (by omega)
      go_wp2_with fail
      go_ret
      exact ⟨by rw [← Hx.out]; rfl, HB.out⟩
end Go.Proofs.YtdfhbnfhkckkbaaGreatDoor
