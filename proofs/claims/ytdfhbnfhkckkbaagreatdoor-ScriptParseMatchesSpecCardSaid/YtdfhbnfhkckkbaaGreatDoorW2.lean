/-
  The walks of the wire's Ints and Bytes.
-/
import Derived.Test.YtdfhbnfhkckkbaaGreatDoorW1
namespace Go.Proofs.YtdfhbnfhkckkbaaGreatDoor
open Go Go.RowKit Go.Walks

theorem intB_le (n : Int) (h : I64 n) : (intB n).length ≤ 9 := by
  rw [intB_length]
  have := mag_len h.1 h.2
  omega
theorem flat_intB_le : ∀ l : List Int, (∀ n ∈ l, I64 n) → (l.flatMap intB).length ≤ 9 * l.length
  | [], _ => by simp
  | n :: l, h => by
    rw [List.flatMap_cons, List.length_append, List.length_cons]
    have := flat_intB_le l fun m hm => h m (by simp [hm])
    have := intB_le n (h n (by simp))
    omega
theorem nat_I64 {n : Nat} (h : n < 9223372036854775808) : I64 (n : Int) := ⟨by omega, by omega⟩

set_option maxRecDepth 100000 in
set_option maxHeartbeats 4000000 in
theorem ints_any (l : List Int) (A : Option Addr) (c : Nat) (w : World) (hl : l.length ≤ 1000000) (Hl : Hid (∀ n ∈ l, I64 n)) (Hs : Hid (Sl w w.heap.size A (l.map intC))) : Calls Tryz.prog 46 #[.slice A l.length c] w (BytesR (intsB l) w) := by
  obtain ⟨m, hm⟩ : ∃ m, m = l.length := ⟨_, rfl⟩
  rw [← hm]
  have Hint : Hid (∀ W, Calls Tryz.prog 47 #[.int .i64 (m : Int)] W (BytesR (intB (m : Int)) W)) := fun W => int_any _ _ (Lib.hid (nat_I64 (show m < 9223372036854775808 by omega)))
  have hm6 : m ≤ 1000000 := by omega
  have Hm := Lib.hid hm
  clear hm hl
  go_enter Tryz.func46, Tryz.ntmps46
  go_wp2_with fail
  refine (Hint.out _).mono ?_
  rintro e w1 ⟨A1, c1, rfl, hS1⟩
  have HS1 := Lib.hid hS1
  clear hS1
  go_wp2_with fail
  go_loopg [11, 3] m (fun g s11 s3 wr => ∃ (k nn : Nat) (A' : Option Addr) (c' : Nat), s11 = .int .i64 (k : Int) ∧ s3 = .slice A' nn c' ∧ g = m - k ∧ k ≤ m ∧ nn ≤ 9 + 9 * k ∧ nn = (intB (m : Int)).length + ((l.take k).flatMap intB).length ∧ Hid (OS w 5 1 A' nn c' (Lib.byteCells (intB (m : Int) ++ (l.take k).flatMap intB)) wr))
  case atStart => exact ⟨0, (intB (m : Int)).length, A1, c1, rfl, rfl, rfl, by omega, by have := intB_le (m : Int) (nat_I64 (by omega)); omega, by simp, by rw [List.take_zero, List.flatMap_nil, List.append_nil]; exact HS1.out⟩
  case round =>
    obtain ⟨k, nn, A', c', rfl, rfl, hg, hk, hnn, hne, HS⟩ := hrel
    have Hne := Lib.hid hne
    clear hne
    by_cases hlt : k < m
    · have hI1 : (0 : Int) ≤ (k : Int) := by omega
      have hI2 : (k : Int) < (m : Int) := by omega
      obtain ⟨x, hx⟩ : ∃ x, l[k]? = some x := ⟨_, List.getElem?_eq_getElem (by rw [← Hm.out]; exact hlt)⟩
      have hxI := Hl.out x (List.mem_of_getElem? hx)
      obtain ⟨b, o, hA, hb, hcell⟩ := int_at (Hs.out.below HS.out.below) hx
      have Hstep : Hid ((l.take (k + 1)).flatMap intB = (l.take k).flatMap intB ++ intB x) := by show _ = _; rw [List.take_add_one, hx]; simp
      have HxI := Lib.hid hxI
      clear hx hxI
      subst hA
      go_wp2_with fail
      refine (int_any x _ HxI).mono ?_
      rintro e w2 ⟨A2, c2, rfl, hS2⟩
      have HS2 := Lib.hid hS2
      have HS' := Lib.hid (HS.out.call hS2.below)
      have hx9 := intB_le x HxI.out
      have hb1 : nn + (intB x).length ≤ maxLen := by unfold maxLen; omega
      have hb2 : (nn + (intB x).length) * 1 ≤ 140737488355328 := by omega
      clear hS2
      go_wp2_with (at_builtin; refine wpList_append_sl rfl _ _ 38 rfl rfl rfl so38 HS'.out.o (m := (intB x).length) (news := Lib.byteCells (intB x)) (by rw [byteCells_length, Nat.mul_one]) (own_sl HS2.out.o) (byteCells_one _) hb1 hb2 HS'.out.below.size ?_; intro A5 c5 w5 ho5 hg5; have HS5 := Lib.hid (HS'.out.grow ho5 hg5); clear ho5 hg5)
      go_roundg (m - (k + 1))
      case measure => omega
      case rel => exact ⟨k + 1, nn + (intB x).length, A5, c5, by go_num, rfl, rfl, by omega, by omega, by rw [Hstep.out, List.length_append, Hne.out]; omega, by rw [Hstep.out, ← List.append_assoc, byteCells_append]; exact HS5.out⟩
    · have hke : k = m := by omega
      have hI3 : ¬ (k : Int) < (m : Int) := by omega
      have Hke := Lib.hid hke
      clear hke hlt
      go_wp2_with fail
      go_ret
      have e1 : intsB l = intB (m : Int) ++ (l.take k).flatMap intB := by unfold intsB; rw [Hke.out, List.take_of_length_le (by have := Hm.out; omega), Hm.out]
      unfold BytesR
      rw [e1, List.length_append, ← Hne.out]
      exact ⟨_, _, rfl, HS.out⟩

set_option maxRecDepth 100000 in
set_option maxHeartbeats 4000000 in
theorem bytes_any (s : Bytes) (w : World) (hl : s.length ≤ 1000000000000) : Calls Tryz.prog 48 #[.string ⟨s.toArray⟩] w (BytesR (bytesB s) w) := by
  obtain ⟨i0, hi, hz0, hz1, hz2⟩ := info_parts info5
  have hss := strBytes_size s
  have Hint := Lib.hid (int_any (s.length : Int) w (Lib.hid (nat_I64 (show s.length < 9223372036854775808 by omega))))
  have hx9 := intB_le (s.length : Int) (nat_I64 (by omega))
  go_enter Tryz.func48, Tryz.ntmps48
  go_wp2_with fail
  refine Hint.out.mono ?_
  rintro e w1 ⟨A1, c1, rfl, hS1⟩
  have HS1 := Lib.hid hS1
  clear hS1
  go_wp2_with (at_builtin; refine Lib.wpList_append_own_string _ rfl _ _ 38 9 rfl w.heap.size 5 i0 Tryz.underlying38 Tryz.underlying9 hi hz0 hz1 hz2 _ _ _ rfl HS1.out.o ⟨s.toArray⟩ rfl (by rw [hss]; unfold maxLen; omega) (by rw [hss]; omega) HS1.out.below.size ?_; intro v5 w5 ho5 hg5 _; rw [hss, strCells_bytes, ← byteCells_append] at ho5; obtain ⟨A5, c5, hv5⟩ := own_form ho5; subst hv5; have HS5 := Lib.hid (HS1.out.grow ho5 hg5); clear ho5 hg5)
  go_ret
  unfold BytesR bytesB
  rw [List.length_append]
  exact ⟨_, _, rfl, HS5.out⟩
end Go.Proofs.YtdfhbnfhkckkbaaGreatDoor
