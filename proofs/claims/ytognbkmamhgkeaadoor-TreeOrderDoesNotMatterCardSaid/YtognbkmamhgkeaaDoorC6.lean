/-
  The statement TreeOrderDoesNotMatter and its card: for every input the law returns true and leaves what came in as it was; the library's table is tied to the program's text.
-/
import Derived.Test.YtognbkmamhgkeaaDoorP2
import Derived.Test.YtognbkmamhgkeaaDoorL6
import Derived.Test.YtognbkmamhgkeaaDoorTie
import Derived.Test.YtognbkmamhgkeaaDoorCards
import Derived.SevenTiedAt
namespace Go.Proofs.YtognbkmamhgkeaaDoor
open Go Go.ChangeShapes Go.WideShapes Go.ChangeAt Go.RowKit Go.Walks

set_option maxRecDepth 100000 in
set_option maxHeartbeats 400000 in
theorem order_long1 (n1 n2 c1 c2 : Nat) (A1 A2 : Option Addr) (w : World) (Ht : Hid (Tab w)) (hn : 60 < n1) (hm : n1 ≤ maxLen) :
    Calls Tryd.prog 8 #[.slice A1 n1 c1, .slice A2 n2 c2] w (TrueP w) := by
  unfold maxLen at hm
  go_enter Tryd.func8, Tryd.ntmps8
  go_wp2_with (go_at_call 9; refine (sanity_any _ Ht).mono ?_; rintro e w1 ⟨rfl, hb1⟩; have Hb1 := Lib.hid hb1; clear hb1)
  go_ret
  exact ⟨rfl, Hb1.out⟩

set_option maxRecDepth 100000 in
set_option maxHeartbeats 400000 in
theorem order_long2 (n1 n2 c1 c2 : Nat) (A1 A2 : Option Addr) (w : World) (Ht : Hid (Tab w)) (hn1 : n1 ≤ 60) (hn : 60 < n2) (hm : n2 ≤ maxLen) :
    Calls Tryd.prog 8 #[.slice A1 n1 c1, .slice A2 n2 c2] w (TrueP w) := by
  unfold maxLen at hm
  have hn1' : decide ((60 : Int) < (n1 : Int)) = false := by simp; omega
  go_enter Tryd.func8, Tryd.ntmps8
  go_wp2_with (go_at_call 9; refine (sanity_any _ Ht).mono ?_; rintro e w1 ⟨rfl, hb1⟩; have Hb1 := Lib.hid hb1; clear hb1)
  go_ret
  exact ⟨rfl, Hb1.out⟩

theorem order_any (es : List (Int × Int)) (xs : List Int) (c1 c2 : Nat) (A1 A2 : Option Addr) (w : World) (Ht : Tab w) (hm1 : es.length ≤ maxLen) (hm2 : xs.length ≤ maxLen) (Hs1 : Sl w w.heap.size A1 (entCells es)) (Hs2 : Sl w w.heap.size A2 (intC xs)) :
    Calls Tryd.prog 8 #[.slice A1 es.length c1, .slice A2 xs.length c2] w (TrueP w) := by
  by_cases h : es.length ≤ 60
  · by_cases h2 : xs.length ≤ 60
    · exact order_short es xs c1 c2 A1 A2 w Ht h h2 Hs1 Hs2
    · exact order_long2 _ _ c1 c2 A1 A2 w Ht h (by omega) hm2
  · exact order_long1 _ _ c1 c2 A1 A2 w Ht (by omega) hm1

set_option maxRecDepth 100000 in
theorem treeOrderDoesNotMatter_lifted (os : Os) (started : os.Started) (H : Type) (enc : TypeId × Value → H) :
    ReturnsInHanded {} Tryd.checked os 8 .any (fun w args => (Rows.treeOrderDoesNotMatterSpec.pre enc Tryd.prog Tryd.f8 [] false w args ∧ laidMetH Tryd.prog laidT w) ∧ sizedMet enc Tryd.prog Tryd.f8 (OpenSpec.ofChange Rows.treeOrderDoesNotMatterSpec) false w args)
      (Rows.treeOrderDoesNotMatterSpec.post enc Tryd.prog Tryd.f8 false true false false) := by
  refine returnsInHanded_of_change_and (C := Tryd.checked) (X := fun w _ => laidMetH Tryd.prog laidT w) (fun _ _ _ hh h => h.of_heap hh) own started (by kernel_rfl) Tryd.func8
    (ChangeSpec.witness_shaped (enc := enc) (C := Tryd.checked) (os := os) (X := fun w _ => laidMetH Tryd.prog laidT w) false (World.doorLaid Tryd.prog 400 os) #[.slice none 0 0, .slice none 0 0] 8 rfl (World.shaped_of_RefB (by kernel_rfl) (by kernel_rfl)) (by kernel_rfl) (by kernel_rfl) (by kernel_rfl) (door_met os _)) ?_
  intro W base args ds gs before hval0 hW _ _ hL _
  have hval : ∀ (j : Nat) t v, Tryd.f8.params[j]? = some t → args[j]? = some v → Value.okWide Tryd.prog W .any base t v := hval0
  have hW' := hW
  obtain ⟨p, q, hA0, hV, rfl, hfz, hnd⟩ := hW
  have hA : DataW.TrodAll enc Tryd.prog W 0 (fun _ => true) true Tryd.f8.params.toList args.toList ds p := hA0
  rw [Tryd.params8] at hA hval
  obtain ⟨v0, v1, d0, d1, p0, p1, rfl, rfl, rfl, h0, h1⟩ := trodAll_two hA
  obtain ⟨rfl, rfl⟩ := trodVars_none hV
  clear hA0 hval0
  obtain ⟨a0, len, cap, rfl⟩ := okWide_slice Tryd.underlying33 (hval 0 33 v0 rfl rfl)
  obtain ⟨a1, len1, cap1, rfl⟩ := okWide_slice Tryd.underlying46 (hval 1 46 v1 rfl rfl)
  obtain ⟨fuel, hf⟩ := h0
  obtain ⟨es, rfl, hsl, hml⟩ := open_ents hf
  obtain ⟨fuel1, hf1⟩ := h1
  obtain ⟨xs, rfl, hsl1, hml1⟩ := open_intSl hf1
  refine (order_any es xs cap cap1 a0 a1 W (tab_of_laid hL) hml hml1 hsl hsl1).mono ?_
  rintro e W' ⟨rfl, hb⟩
  refine ⟨_, rfl, true_post rfl (by kernel_rfl) rfl (fun t ht => ?_) hW' hb⟩
  rw [Tryd.params8] at ht
  have hall : ([33, 46].all fun u => Tryd.prog.readableRec u && decide (u < Tryd.prog.types.size)) = true := by kernel_rfl
  simpa using List.all_eq_true.1 hall t (by simpa using ht)

theorem treeOrderDoesNotMatter_holds : Rows.TreeOrderDoesNotMatterSaid :=
  OpenClaim.holds_of_wide 8 Tryd.f8 rfl rfl rfl rfl rfl rfl rfl ⟨rfl, rfl, rfl, rfl, rfl⟩ rfl rfl rfl rfl rfl (by kernel_rfl) Tryd.func8 (by kernel_rfl)
    (of_decide_eq_true (by kernel_rfl)) (by unfold Func.isWrapper; first | (rw [if_pos (by decide +kernel)]; kernel_rfl) | (rw [if_neg (by decide +kernel)]; exact ⟨rfl, rfl⟩))
    (fun os started H enc _ => treeOrderDoesNotMatter_lifted os started H enc)

theorem treeOrderDoesNotMatter_card : Rows.TreeOrderDoesNotMatterCardSaid :=
  Claim7.holds_tied_plain_at .later [] [.data] true (true, "412cdf51e392c1caa9ccfce42da9bf76fdbf0cac5586afb74b005b9931e52e6f") false
    treeOrderDoesNotMatter_holds (fun _ h => by cases h) (by kernel_rfl) (fun _ h => by cases h) treeOrderDoesNotMatter_row_tie rfl ⟨rfl, rfl⟩ (by kernel_rfl) rfl
    (fun f fn hf hfn => by
      obtain rfl : f = 8 := Option.some.inj ((show Tryd.prog.funcNamed "solvent/solventlaw26.TreeOrderDoesNotMatter" = some 8 by kernel_rfl).symm.trans hf) |>.symm
      obtain rfl : fn = Tryd.f8 := (Option.some.inj (Tryd.func8.symm.trans hfn)).symm
      exact ⟨by kernel_rfl, fun j t ht => by
        rw [Tryd.params8] at ht
        have hm : t ∈ [33, 46] := by simpa using Array.mem_of_getElem? ht
        have hall : ([33, 46].all fun u => !Tryd.prog.wantsStandIn u) = true := by kernel_rfl
        exact (show Tryd.prog.wantsStandIn t = false by simpa using List.all_eq_true.1 hall t hm)⟩)
    (by kernel_rfl)
#print axioms treeOrderDoesNotMatter_card
end Go.Proofs.YtognbkmamhgkeaaDoor
