/-
  The walk of the search for a kind by its name.
-/
import Derived.Test.YtdfhbnfhkckkbaaGreatDoorW23
namespace Go.Proofs.YtdfhbnfhkckkbaaGreatDoor
open Go Go.RowKit Go.Walks

theorem str_beq {a b : Bytes} (h : a ≠ b) : (a == b) = false := beq_eq_false_iff_ne.2 h
set_option maxRecDepth 100000 in
set_option maxHeartbeats 400000 in
theorem isName_any (a b : Bytes) (n : Int) (gt : Nat) (w : World) (Hc : Hid (w.cell? ⟨gt, 0, none⟩ = some (.string ⟨b.toArray⟩))) (hgt : gt < w.heap.size) : Calls Tryz.prog 108 #[.agg #[.string ⟨a.toArray⟩, .int .i64 n], .pointer (some ⟨gt, 0, none⟩)] w (BoolR (decide (a = b)) w) := by
  obtain ⟨W1, hW1⟩ : ∃ W, W = w.alloc (.cells #[.string ⟨a.toArray⟩, .int .i64 n] 83) := ⟨_, rfl⟩
  have hb1 : Below w.heap.size w W1 := by rw [hW1]; exact (Below.refl _ _).alloc (Nat.le_refl _) _
  have c1 : W1.cell? ⟨gt, 0, none⟩ = some (.string ⟨b.toArray⟩) := (hb1.cell (p := ⟨gt, 0, none⟩) hgt).trans Hc.out
  obtain ⟨g, hg⟩ : ∃ g, g = w.heap.size := ⟨_, rfl⟩
  have c2 : W1.cell? ⟨g, 0, none⟩ = some (.string ⟨a.toArray⟩) := by rw [hW1, hg]; exact (cell_at (heap_new _ _) 0 rfl).1
  have HB1 := Lib.hid hb1
  clear hb1 hgt
  by_cases h : a = b
  · subst h
    go_enter Tryz.func108, Tryz.ntmps108
    go_upto_region 1 with fail
    rw [← hW1, ← hg]
    clear hW1 hg
    go_wp2_with fail
    go_ret
    exact ⟨by simp, HB1.out⟩
  · have q1 := str_beq h
    have H := Lib.hid h
    clear h
    go_enter Tryz.func108, Tryz.ntmps108
    go_upto_region 1 with fail
    rw [← hW1, ← hg]
    clear hW1 hg
    go_wp2_with fail
    go_ret
    exact ⟨by rw [decide_eq_false H.out]; rfl, HB1.out⟩
theorem kinds_len : kindsB.length = 27 := by decide +kernel
theorem idx_step {wd : Bytes} {k : Nat} {x : Bytes × Nat} (hx : kindsB[k]? = some x) (h : idxB wd (kindsB.drop k) k = kindOf wd) : (x.1 = wd → kindOf wd = k + 1) ∧ (x.1 ≠ wd → idxB wd (kindsB.drop (k + 1)) (k + 1) = kindOf wd) := by
  obtain ⟨h1, h2⟩ := List.getElem?_eq_some_iff.1 hx
  rw [List.drop_eq_getElem_cons h1, h2, idxB] at h
  exact ⟨fun e => by rw [if_pos e] at h; exact h.symm, fun e => by rw [if_neg e] at h; exact h⟩

set_option maxRecDepth 100000 in
set_option maxHeartbeats 1000000 in
theorem findKind_any (wd : Bytes) (gt : Nat) (w : World) (Hg : Hid (Gl w)) (Hc : Hid (w.cell? ⟨gt, 0, none⟩ = some (.string ⟨wd.toArray⟩))) (hgt : gt < w.heap.size) : Calls Tryz.prog 107 #[.slice (some ⟨0, 0, none⟩) 27 27, .func (.func 108) #[] #[.pointer (some ⟨gt, 0, none⟩)]] w fun e w' => e = .returned (.int .i64 ((kindOf wd : Int) - 1)) ∧ Below w.heap.size w w' := by
  have Hgt := Lib.hid hgt
  clear hgt
  go_enter Tryz.func107, Tryz.ntmps107
  go_wp2_with fail
  go_loopg [8] 27 (fun g s8 wr => ∃ k : Nat, s8 = .int .i64 (k : Int) ∧ g = 27 - k ∧ k ≤ 27 ∧ Hid (Below w.heap.size w wr ∧ idxB wd (kindsB.drop k) k = kindOf wd))
  case atStart => exact ⟨0, rfl, rfl, by omega, Below.refl _ _, rfl⟩
  case round =>
    obtain ⟨k, rfl, hg, hk, HN⟩ := hrel
    by_cases hlt : k < 27
    · have hI1 : (0 : Int) ≤ (k : Int) := by omega
      have hI2 : (k : Int) < 27 := by omega
      obtain ⟨x, hx⟩ : ∃ x, kindsB[k]? = some x := ⟨kindsB[k]'(by rw [kinds_len]; exact hlt), List.getElem?_eq_getElem _⟩
      obtain ⟨c1, c2⟩ := kind_cell (Hg.out.below HN.out.1) hx
      obtain ⟨h1, h2⟩ := idx_step hx HN.out.2
      obtain ⟨nm, ar⟩ := x
      dsimp only at c1 c2 h1 h2
      have HC := Lib.hid (isName_any nm wd ar gt wr ((HN.out.1.cell (p := ⟨gt, 0, none⟩) Hgt.out).trans Hc.out) (Nat.lt_of_lt_of_le Hgt.out HN.out.1.size))
      clear hx
      by_cases hp : nm = wd
      · have HV := Lib.hid (h1 hp)
        rw [decide_eq_true hp] at HC
        clear h1 h2 hp
        go_wp2_with fail
        refine HC.out.mono ?_
        rintro e w1 ⟨rfl, hb⟩
        have HB := Lib.hid (HN.out.1.trans (hb.mono HN.out.1.size))
        clear hb
        go_wp2_with fail
        go_ret
        exact ⟨by rw [HV.out]; simp, HB.out⟩
      · have HV := Lib.hid (h2 hp)
        rw [decide_eq_false hp] at HC
        clear h1 h2 hp
        go_wp2_with fail
        refine HC.out.mono ?_
        rintro e w1 ⟨rfl, hb⟩
        have HB := Lib.hid (HN.out.1.trans (hb.mono HN.out.1.size))
        clear hb
        go_wp2_with fail
        go_roundg (27 - (k + 1))
        case measure => omega
        case rel => exact ⟨k + 1, by go_num, rfl, by omega, HB.out, HV.out⟩
    · have hke : k = 27 := by omega
      have hI3 : ¬ (k : Int) < 27 := by omega
      have HV : Hid (kindOf wd = 0) := by
        show _ = _
        have := HN.out.2
        rw [hke, List.drop_of_length_le (by rw [kinds_len]; omega)] at this
        exact this.symm
      clear hke hlt
      go_wp2_with fail
      go_ret
      exact ⟨by rw [HV.out]; rfl, HN.out.1⟩
end Go.Proofs.YtdfhbnfhkckkbaaGreatDoor
