/-
  The statement ScriptDecodeMatchesSpec and its card: for every input the law returns true and leaves what came in as it was; the library's variables are tied to the program's text.
-/
import Derived.Test.YtdfhbnfhkckkbaaGreatDoorP0
import Derived.Test.YtdfhbnfhkckkbaaGreatDoorL6
import Derived.Test.YtdfhbnfhkckkbaaGreatDoorP1
import Derived.Test.YtdfhbnfhkckkbaaGreatDoorTie
import Derived.Test.YtdfhbnfhkckkbaaGreatDoorCards
import Derived.SevenTiedAt
import Derived.ChangeMaps5
namespace Go.Proofs.YtdfhbnfhkckkbaaGreatDoor
open Go Go.ChangeShapes Go.WideShapes Go.ChangeAt Go.RowKit Go.Walks

set_option maxRecDepth 100000 in
theorem scriptDecodeMatchesSpec_lifted (os : Os) (started : os.Started) (H : Type) (enc : TypeId × Value → H) :
    ReturnsInHanded {} Tryz.checked os 4 .any (fun w args => (Rows.scriptDecodeMatchesSpecSpec.pre enc Tryz.prog Tryz.f4 [] false w args ∧ laidMetH Tryz.prog laidL w) ∧ sizedMet enc Tryz.prog Tryz.f4 (OpenSpec.ofChange Rows.scriptDecodeMatchesSpecSpec) false w args)
      (Rows.scriptDecodeMatchesSpecSpec.post enc Tryz.prog Tryz.f4 false true false false) := by
  refine returns_and_shaped (C := Tryz.checked) (X := fun w _ => laidMetH Tryz.prog laidL w) (fun _ _ _ hh h => h.of_heap hh) own started (by kernel_rfl) Tryz.func4
    (ChangeSpec.witness_shaped (enc := enc) (C := Tryz.checked) (os := os) (X := fun w _ => laidMetH Tryz.prog laidL w) false (World.laidAll Tryz.prog os laidL) #[.slice none 0 0] 8 (World.laidAll_os _ _ _) (World.shaped_of_ZipB (by kernel_rfl) (by kernel_rfl)) (by kernel_rfl) (by kernel_rfl) (by kernel_rfl) (laid_met os _)) ?_
  intro W base args ds gs before hval0 hW hwt hL hsh
  have hval : ∀ (j : Nat) t v, Tryz.f4.params[j]? = some t → args[j]? = some v → Value.okWide Tryz.prog W .any base t v := hval0
  have hW' := hW
  obtain ⟨p, q, hA0, hV, rfl, hfz, hnd⟩ := hW
  have hA : DataW.TrodAll enc Tryz.prog W 0 (fun _ => true) true Tryz.f4.params.toList args.toList ds p := hA0
  rw [Tryz.params4] at hA hval
  obtain ⟨v0, d0, rfl, rfl, h0⟩ := trodAll_one hA
  obtain ⟨rfl, rfl⟩ := trodVars_none hV
  clear hA0 hval0
  obtain ⟨b, A, c, rfl, hSl, hc1, hc2⟩ := open_bytes (hval 0 38 v0 rfl rfl) h0
  refine (lawDec_any b A c W (Lib.hid (gl_of_laid hL hsh)) hc1 hc2 (Lib.hid hSl)).mono ?_
  rintro e W' ⟨rfl, hb⟩
  refine ⟨_, rfl, true_post rfl (by kernel_rfl) rfl (fun t ht => ?_) hW' hb⟩
  rw [Tryz.params4] at ht
  have hall : ([38].all fun u => Tryz.prog.readableRec u && decide (u < Tryz.prog.types.size)) = true := by kernel_rfl
  simpa using List.all_eq_true.1 hall t (by simpa using ht)

theorem scriptDecodeMatchesSpec_holds : Rows.ScriptDecodeMatchesSpecSaid :=
  OpenClaim.holds_of_wide 4 Tryz.f4 rfl rfl rfl rfl rfl rfl rfl ⟨rfl, rfl, rfl, rfl, rfl⟩ rfl rfl rfl rfl rfl (by kernel_rfl) Tryz.func4 (by kernel_rfl)
    (of_decide_eq_true (by kernel_rfl)) (by unfold Func.isWrapper; first | (rw [if_pos (by decide +kernel)]; kernel_rfl) | (rw [if_neg (by decide +kernel)]; exact ⟨rfl, rfl⟩))
    (fun os started H enc _ => scriptDecodeMatchesSpec_lifted os started H enc)

theorem scriptDecodeMatchesSpec_card : Rows.ScriptDecodeMatchesSpecCardSaid :=
  Claim7.holds_tied_plain_at .later [] [.data, .data, .data, .data, .sentinel, .sentinel, .widerDeep, .pinned] true (true, "0a2d93ca3369db707055f292ebabadb184a746756c5e780ac201985eeada2de3") true
    scriptDecodeMatchesSpec_holds (fun _ h => by cases h) (by kernel_rfl) (fun _ h => by cases h) scriptDecodeMatchesSpec_row_tie rfl ⟨rfl, rfl⟩ (by kernel_rfl) rfl
    (fun f fn hf hfn => by
      obtain rfl : f = 4 := Option.some.inj ((show Tryz.prog.funcNamed "solvent/solventlaw46.ScriptDecodeMatchesSpec" = some 4 by kernel_rfl).symm.trans hf) |>.symm
      obtain rfl : fn = Tryz.f4 := (Option.some.inj (Tryz.func4.symm.trans hfn)).symm
      exact ⟨by kernel_rfl, fun j t ht => by
        rw [Tryz.params4] at ht
        have hm : t ∈ [38] := by simpa using Array.mem_of_getElem? ht
        have hall : ([38].all fun u => !Tryz.prog.wantsStandIn u) = true := by kernel_rfl
        exact (show Tryz.prog.wantsStandIn t = false by simpa using List.all_eq_true.1 hall t hm)⟩)
    (by kernel_rfl)
#print axioms scriptDecodeMatchesSpec_card
end Go.Proofs.YtdfhbnfhkckkbaaGreatDoor
