/-
  The walks of strconv.ParseUint (at base 10 with 31 bits, at base 16 with two digits) and strconv.FormatUint at base 10.
-/
import Derived.Test.YtdfhbnfhkckkbaaGreatDoorW16
import Derived.Lib.ParseIntBMem
import Derived.Lib.Walk
import Derived.Laws.Closers25
import Derived.Laws.Closers25b
import Derived.Laws.Strings3
import Derived.BigGuard
namespace Go.Proofs.YtdfhbnfhkckkbaaGreatDoor
open Go Go.RowKit Go.Walks

/-! Plain. -/
/-- What the digits spell, if they are digits and no more than 31 bits. -/
theorem pu_spec : ∀ (l : Bytes) (acc : Nat), acc ≤ 2147483647 → (∀ n, Lib.parseUintM 2147483647 acc l = .ok n → n = l.foldl (fun n c => 10 * n + (c.toNat - 48)) acc ∧ n ≤ 2147483647) ∧ ((∀ n, Lib.parseUintM 2147483647 acc l ≠ .ok n) → (∀ c ∈ l, 48 ≤ c.toNat ∧ c.toNat ≤ 57) → 2147483647 < l.foldl (fun n c => 10 * n + (c.toNat - 48)) acc)
  | [], acc, ha => ⟨fun n h => by injection h with h; subst h; exact ⟨rfl, ha⟩, fun h => absurd rfl (h acc)⟩
  | c :: r, acc, ha => by
    have mono : ∀ (l : Bytes) (a : Nat), a ≤ l.foldl (fun n c => 10 * n + (c.toNat - 48)) a := by
      intro l
      induction l with
      | nil => intro a; exact Nat.le_refl _
      | cons c l ih => intro a; rw [List.foldl_cons]; exact Nat.le_trans (by omega) (ih (10 * a + (c.toNat - 48)))
    unfold Lib.parseUintM
    by_cases hd : 48 ≤ c.toNat ∧ c.toNat ≤ 57
    · rw [if_pos hd, if_neg (by omega)]
      by_cases hov : 2147483647 < acc * 10 + (c.toNat - 48)
      · rw [if_pos hov]
        refine ⟨fun n h => (by cases h), fun _ _ => ?_⟩
        rw [List.foldl_cons]
        have := mono r (10 * acc + (c.toNat - 48))
        omega
      · rw [if_neg hov]
        obtain ⟨h1, h2⟩ := pu_spec r (acc * 10 + (c.toNat - 48)) (by omega)
        rw [List.foldl_cons, show 10 * acc + (c.toNat - 48) = acc * 10 + (c.toNat - 48) by omega]
        exact ⟨h1, fun h hc => h2 h fun x hx => hc x (by simp [hx])⟩
    · rw [if_neg hd]
      exact ⟨fun n h => (by cases h), fun _ h => absurd (h c (by simp)) hd⟩
/-- The number of a field, in the words of the program. -/
theorem num_ok {s : Bytes} {n : Nat} (h : Lib.parseUintM 2147483647 0 s = .ok n) : numB s = if Lib.decDigits n = s then some (n : Int) else none := by
  obtain ⟨h1, h2⟩ := (pu_spec s 0 (by omega)).1 n h
  unfold numB
  have hv : valD s = n := h1.symm
  rw [hv]
  by_cases hs : Lib.decDigits n = s
  · rw [if_pos ⟨by omega, hs⟩, if_pos hs]
  · rw [if_neg (fun h => hs h.2), if_neg hs]
theorem num_bad {s : Bytes} (h : ∀ n, Lib.parseUintM 2147483647 0 s ≠ .ok n) : numB s = none := by
  unfold numB
  rw [if_neg]
  rintro ⟨h1, h2⟩
  have h3 := (pu_spec s 0 (by omega)).2 h fun c hc => (decD_spec (valD s)).1 c (by rw [h2]; exact hc)
  have : valD s = s.foldl (fun n c => 10 * n + (c.toNat - 48)) 0 := rfl
  omega

set_option maxHeartbeats 32000000 in
set_option maxRecDepth 100000 in
theorem pu31_any (t : ByteArray) (hne : t.size ≠ 0) (hmax : t.size ≤ 1000000000) (w : World) :
    Calls Tryz.prog 137 #[.string t, .int .i64 10, .int .i64 31] w fun e w' => e = .returned (Lib.uintTupleM 174 2147483647 (Lib.parseUintM 2147483647 0 t.data.toList)) ∧ w' = Lib.bytesWorld w 5 t := by
  have hemp : t.toList.isEmpty = false := by
    rw [← decide_eq_emptyBytes]
    exact decide_eq_false (fun h => hne (by rw [h]; rfl))
  have hcv := Lib.run_convert_string_bytes (P := Tryz.prog) w 9 38 5 t Tryz.underlying9 Tryz.underlying38 Tryz.underlying5
  have hB : ∀ j, j < t.size → (Lib.bytesWorld w 5 t).cell? ⟨w.heap.size, j, none⟩ = some (.int .u8 (t.data.toList.getD j 0).toNat) := fun j hj => Lib.bytesWorld_cell w 5 t j hj
  obtain ⟨W1, hW1⟩ : ∃ W1, W1 = Lib.bytesWorld w 5 t := ⟨_, rfl⟩
  rw [← hW1] at hcv hB ⊢
  clear hW1
  obtain ⟨bs, hL⟩ : ∃ bs, bs = t.data.toList := ⟨_, rfl⟩
  have hLn : bs.length = t.size := by rw [hL, Lib.size_eq]
  rw [← hL] at hB ⊢
  clear hL
  have hmv : IntKind.u64.wrap (IntKind.u64.wrap 2147483648 - 1) = 2147483647 := by
    rw [IntKind.wrap_u64, IntKind.wrap_u64]
    decide
  go_enter Tryz.func137, Tryz.ntmps137
  go_wp2
  go_loop [12, 13, 101] (fun vu vn vi => ∃ (k acc : Nat) (a : Int), vu = .bool false ∧ vn = .int .u64 a ∧ vi = .int .i64 k ∧ k ≤ t.size ∧ Hid (a = (acc : Int) ∧ acc ≤ 2147483647 ∧ Lib.parseUintM 2147483647 0 bs = Lib.parseUintM 2147483647 acc (bs.drop k)))
    (fun _ _ vi => t.size - (intOf vi).toNat)
  case atStart => exact ⟨0, 0, 0, rfl, rfl, rfl, by omega, rfl, by omega, rfl⟩
  case round =>
    obtain ⟨k, acc, a, rfl, rfl, rfl, hk, hh⟩ := hrel
    obtain ⟨ha, hacc, hdec⟩ := hh.out
    clear hh
    have a0 : 0 ≤ a := by omega
    have a1 : a ≤ 2147483647 := by omega
    by_cases hkn : k < t.size
    · have hc := hB k hkn
      have hdrop : bs.drop k = bs[k]'(by omega) :: bs.drop (k + 1) := List.drop_eq_getElem_cons (by omega)
      have hget : bs.getD k 0 = bs[k]'(by omega) := by simp [List.getD, List.getElem?_eq_getElem (show k < bs.length by omega)]
      rw [hdrop] at hdec
      rw [hget] at hc
      generalize bs[k]'(by omega) = c at hc hdec
      have hc256 : c.toNat < 256 := c.toNat_lt
      clear hB hdrop hget
      by_cases hdig : 48 ≤ c.toNat ∧ c.toNat ≤ 57
      · obtain ⟨hd0, hd1⟩ := hdig
        have hcut : ¬ 1844674407370955162 ≤ acc := by omega
        by_cases hov : 2147483647 < acc * 10 + (c.toNat - 48)
        · have hF : Lib.parseUintM 2147483647 acc (c :: bs.drop (k + 1)) = .range := by simp [Lib.parseUintM, hd0, hd1, hcut, hov]
          rw [hF] at hdec
          have iov : 2147483647 < a * 10 + ((c.toNat : Int) - 48) := by omega
          clear hcut hacc hF hov ha
          go_wp2
          go_ret2
          exact ⟨rfl, rfl⟩
        · have hF : Lib.parseUintM 2147483647 acc (c :: bs.drop (k + 1)) = Lib.parseUintM 2147483647 (acc * 10 + (c.toNat - 48)) (bs.drop (k + 1)) := by simp [Lib.parseUintM, hd0, hd1, hcut, hov]
          have HN : Hid (a * 10 + ((c.toNat : Int) - 48) = ((acc * 10 + (c.toNat - 48) : Nat) : Int) ∧ acc * 10 + (c.toNat - 48) ≤ 2147483647 ∧ Lib.parseUintM 2147483647 0 bs = Lib.parseUintM 2147483647 (acc * 10 + (c.toNat - 48)) (bs.drop (k + 1))) := Lib.hid ⟨by omega, by omega, hdec.trans hF⟩
          have iov : a * 10 + ((c.toNat : Int) - 48) ≤ 2147483647 := by omega
          clear hcut hacc hF hov hdec ha
          go_wp2
          refine ⟨⟨k + 1, acc * 10 + (c.toNat - 48), a * 10 + ((c.toNat : Int) - 48), rfl, (by first | rfl | (congr 1; omega)), (by first | rfl | (congr 1; omega)), by omega, HN⟩, by simp [intOf]; omega⟩
      · have hF : Lib.parseUintM 2147483647 acc (c :: bs.drop (k + 1)) = Lib.parseUintM 0 0 [0] := by simp [Lib.parseUintM, hdig]
        rw [hF] at hdec
        clear hacc hF ha
        have hv0 := bits_lo_u8 .or (c.toNat : Int) 32
        have hv1 := bits_hi_u8 .or (c.toNat : Int) 32
        have hu0 := bits_lo_u8 .or 95 32
        have hu1 := bits_hi_u8 .or 95 32
        go_wp2_with (go_at_call 147; refine (Tryz.internal_strconv_lower _ _).mono ?_; rintro e w' ⟨rfl, rfl⟩)
        all_goals go_ret2
        all_goals first | exact ⟨rfl, rfl⟩ | exact ⟨by rw [hdec]; rfl, rfl⟩
    · have hkk : k = t.size := by omega
      subst hkk
      have hF : Lib.parseUintM 2147483647 acc (bs.drop t.size) = .ok acc := by rw [List.drop_eq_nil_of_le (by omega)]; rfl
      rw [hF] at hdec
      subst ha
      clear hacc hF a0 a1
      go_wp2
      go_ret2
      exact ⟨rfl, rfl⟩
end Go.Proofs.YtdfhbnfhkckkbaaGreatDoor
