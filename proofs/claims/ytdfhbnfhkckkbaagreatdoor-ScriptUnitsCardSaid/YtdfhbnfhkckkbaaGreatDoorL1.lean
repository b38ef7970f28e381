/-
  The law about units: walked whole.
-/
import Derived.Test.YtdfhbnfhkckkbaaGreatDoorW30
namespace Go.Proofs.YtdfhbnfhkckkbaaGreatDoor
open Go Go.RowKit Go.Walks

set_option maxRecDepth 100000 in
theorem lawUnits_any (j k : Int) (w : World) (Hj : Hid (I64 j)) (Hk : Hid (I64 k)) (Hg : Hid (Gl w)) : Calls Tryz.prog 8 #[.int .i64 j, .int .i64 k] w (BoolR true w) := by
  have H1 : Hid (∀ (W : World), Calls Tryz.prog 26 #[.int .i64 j] W (StrR (unitB j) W)) := Lib.hid fun W => unit_any j W Hj
  have H2 : Hid (∀ (W : World), Calls Tryz.prog 26 #[.int .i64 k] W (StrR (unitB k) W)) := Lib.hid fun W => unit_any k W Hk
  have HS : Hid (∀ (W : World), Gl W → Calls Tryz.prog 11 #[] W (BoolR true W)) := Lib.hid fun W h => sanity_any W (Lib.hid h)
  obtain ⟨a, ha⟩ : ∃ a, a = unitB j := ⟨_, rfl⟩
  obtain ⟨b, hb⟩ : ∃ b, b = unitB k := ⟨_, rfl⟩
  have hla : a.length = 32 := by rw [ha]; exact unit_len j
  have hlb : b.length = 32 := by rw [hb]; exact unit_len k
  have Hab : Hid (a = b ↔ j = k) := Lib.hid (by rw [ha, hb]; exact unit_inj Hj.out Hk.out)
  rw [← ha] at H1
  rw [← hb] at H2
  clear ha hb Hj Hk
  unfold StrR strV at H1 H2
  go_enter Tryz.func8, Tryz.ntmps8
  go_wp2_with fail
  refine (H1.out _).mono ?_
  rintro en w1 ⟨rfl, hb1⟩
  have HG1 := Lib.hid (Hg.out.below hb1)
  have HB1 := Lib.hid hb1
  clear hb1
  go_wp2_with fail
  refine (H2.out _).mono ?_
  rintro en w2 ⟨rfl, hb2⟩
  have HG2 := Lib.hid (HG1.out.below hb2)
  have HB2 := Lib.hid (HB1.out.trans (hb2.mono HB1.out.size))
  clear hb2
  go_wp2_with fail
  refine (HS.out _ HG2.out).mono ?_
  rintro en w3 ⟨rfl, hb3⟩
  have HB3 := Lib.hid (HB2.out.trans (hb3.mono HB2.out.size))
  clear hb3
  go_wp2_with fail
  have hab : ((a == b) == (j == k)) = true := by
    by_cases h : j = k
    · have := Hab.out.2 h
      simp [h, this]
    · have h2 : a ≠ b := fun e => h (Hab.out.1 e)
      rw [beq_eq_false_iff_ne.2 h2, beq_eq_false_iff_ne.2 h]; rfl
  rw [hab]
  go_ret
  exact ⟨rfl, HB3.out⟩
end Go.Proofs.YtdfhbnfhkckkbaaGreatDoor
