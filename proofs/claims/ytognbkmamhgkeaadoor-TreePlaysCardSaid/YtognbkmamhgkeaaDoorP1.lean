/-
  A row's argument that is one operation, opened.
-/
import Derived.Test.YtognbkmamhgkeaaDoorP0
namespace Go.Proofs.YtognbkmamhgkeaaDoor
open Go Go.ChangeShapes Go.WideShapes Go.ChangeAt Go.RowKit Go.Walks

section
variable {H : Type} {enc : TypeId × Value → H}
theorem open_op {W : World} {v : Value} {base : Nat} {d : DataW H} {ps : List MemPlace} (hv : Value.okWide Tryd.prog W .any base 38 v) (h : DataW.Trod enc Tryd.prog W 0 (fun _ => true) true 38 v d ps) :
    ∃ op : OpN, v = .agg #[.int .i64 op.frm, .bool op.clr, .int .i64 op.blk, .int .i64 op.chk] := by
  have c3 : Tryd.prog.cellsOf 3 = 1 := by kernel_rfl
  have c4 : Tryd.prog.cellsOf 4 = 1 := by kernel_rfl
  have c38 : Tryd.prog.cellsOf 38 = 4 := by kernel_rfl
  obtain ⟨cs, rfl, hcs⟩ := okWide_struct Tryd.underlying38 hv
  obtain ⟨fuel, h2⟩ := h
  rw [c38] at hcs
  obtain ⟨xs, m, _, _, _, hxl, hf⟩ := DataW.trod_struct Tryd.underlying38 h2
  obtain ⟨l⟩ := cs
  match l, hcs, hf with
  | [v0, v1, v2, v3], _, hf =>
    have g0 : DataW.trod enc Tryd.prog W 0 (fun _ => true) true m 3 (([v0, v1, v2, v3].drop 0).take (Tryd.prog.cellsOf 3)) = xs[0]? := hf 0 _ rfl
    have g1 : DataW.trod enc Tryd.prog W 0 (fun _ => true) true m 4 (([v0, v1, v2, v3].drop 1).take (Tryd.prog.cellsOf 4)) = xs[1]? := hf 1 _ rfl
    have g2 : DataW.trod enc Tryd.prog W 0 (fun _ => true) true m 3 (([v0, v1, v2, v3].drop 2).take (Tryd.prog.cellsOf 3)) = xs[2]? := hf 2 _ rfl
    have g3 : DataW.trod enc Tryd.prog W 0 (fun _ => true) true m 3 (([v0, v1, v2, v3].drop 3).take (Tryd.prog.cellsOf 3)) = xs[3]? := hf 3 _ rfl
    rw [c3] at g0 g2 g3
    rw [c4] at g1
    have hx : ∀ i, i < 4 → ∃ y, xs[i]? = some y := fun i hi => ⟨_, List.getElem?_eq_getElem (by rw [hxl]; exact hi)⟩
    obtain ⟨y0, e0⟩ := hx 0 (by omega)
    obtain ⟨y1, e1⟩ := hx 1 (by omega)
    obtain ⟨y2, e2⟩ := hx 2 (by omega)
    obtain ⟨y3, e3⟩ := hx 3 (by omega)
    rw [e0] at g0; rw [e1] at g1; rw [e2] at g2; rw [e3] at g3
    obtain ⟨n0, q0, _, _⟩ := DataW.trod_int Tryd.underlying3 g0
    obtain ⟨n1, q1, _⟩ := DataW.trod_bool Tryd.underlying4 g1
    obtain ⟨n2, q2, _, _⟩ := DataW.trod_int Tryd.underlying3 g2
    obtain ⟨n3, q3, _, _⟩ := DataW.trod_int Tryd.underlying3 g3
    simp at q0 q1 q2 q3
    subst q0; subst q1; subst q2; subst q3
    exact ⟨⟨n0, n1, n2, n3⟩, rfl⟩
end
end Go.Proofs.YtognbkmamhgkeaaDoor
