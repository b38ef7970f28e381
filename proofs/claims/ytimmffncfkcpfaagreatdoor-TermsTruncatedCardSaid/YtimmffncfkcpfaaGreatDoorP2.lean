/-
  A class among the arguments, opened.
-/
import Derived.Test.YtimmffncfkcpfaaGreatDoorP1
namespace Go.Proofs.YtimmffncfkcpfaaGreatDoor
open Go Go.ChangeShapes Go.WideShapes Go.ChangeAt Go.RowKit Go.Walks
variable {H : Type} {enc : TypeId × Value → H}
set_option maxRecDepth 100000 in
theorem open_one {W : World} {v : Value} {base : Nat} {d : DataW H} {ps : List MemPlace} (hv : Value.okWide Tryz.prog W .any base 38 v) (h : DataW.Trod enc Tryz.prog W 0 (fun _ => true) true 38 v d ps) :
    ∃ C : ClassD, v = .agg (clsCs C).toArray ∧ C.name.length ≤ maxLen ∧ C.code.length ≤ maxLen := by
  have ct : Tryz.prog.cellsOf 38 = 4 := by kernel_rfl
  obtain ⟨cs, rfl, hcs⟩ := okWide_struct Tryz.underlying38 hv
  obtain ⟨fuel, h2⟩ := h
  rw [ct] at hcs
  obtain ⟨l⟩ := cs
  obtain ⟨C, hC, h3, h4⟩ := class_cells (cs := l) h2 hcs
  exact ⟨C, by rw [hC], h3, h4⟩
end Go.Proofs.YtimmffncfkcpfaaGreatDoor
