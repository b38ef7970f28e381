/-
  A row's arguments that are slices of entries and of integers, opened.
-/
import Derived.Test.YtognbkmamhgkeaaDoorP0
import Derived.Test.YtognbkmamhgkeaaDoorW13
import Derived.ChangeSlices
namespace Go.Proofs.YtognbkmamhgkeaaDoor
open Go Go.ChangeShapes Go.WideShapes Go.ChangeAt Go.RowKit Go.Walks

section
variable {H : Type} {enc : TypeId × Value → H}
/-- Cells that were read, as a slice. -/
theorem sl_of_read {W : World} {a : Addr} {xs : List Value} (hc : ∀ j u, xs[j]? = some u → W.cell? (a.add j) = some u) : Sl W W.heap.size (some a) xs := by
  by_cases hz : xs = []
  · exact .inl hz
  · have hpos : 0 < xs.length := List.length_pos_iff.2 hz
    have h0 := hc 0 _ (List.getElem?_eq_getElem hpos)
    obtain ⟨b, o, sp⟩ := a
    have hsp : sp = none := by simpa [Addr.add] using World.cell?_spot h0
    subst hsp
    refine .inr ⟨b, o, rfl, ?_, fun j u hu => ?_⟩
    · rcases Nat.lt_or_ge b W.heap.size with hb | hb
      · exact hb
      · simp only [Addr.add, World.cell?, if_true] at h0
        rw [Array.getElem?_eq_none hb] at h0
        cases h0
    · have := hc j u hu
      have e : (⟨b, o, none⟩ : Addr).add j = ⟨b, o + j, none⟩ := by unfold Addr.add; split <;> simp_all
      rw [e] at this
      exact this

theorem ents_read {W : World} {a : Addr} {len n : Nat} {D : Nat → DataW H} {Pl : Nat → List MemPlace}
    (h : ∀ i, i < len → ∃ cs', W.cells? 0 (a.add (i * Tryd.prog.cellsOf 59)) (Tryd.prog.cellsOf 59) = some cs' ∧ DataW.trod enc Tryd.prog W 0 (fun _ => true) true n 59 cs' = some (D i, Pl i)) :
    ∀ k, k ≤ len → ∃ es : List (Int × Int), es.length = k ∧ ∀ j u, (entCells es)[j]? = some u → W.cell? (a.add j) = some u := by
  have c59 : Tryd.prog.cellsOf 59 = 2 := by kernel_rfl
  have c3 : Tryd.prog.cellsOf 3 = 1 := by kernel_rfl
  intro k
  induction k with
  | zero => exact fun _ => ⟨[], rfl, fun j u hu => by simp [entCells] at hu⟩
  | succ k ih =>
    intro hk
    obtain ⟨es, hl, hc⟩ := ih (by omega)
    obtain ⟨cs, h1, h2⟩ := h k (by omega)
    rw [c59] at h1
    obtain ⟨_, hcl, hat⟩ := World.cells?_some h1
    obtain ⟨ys, m, _, _, _, hxl, hf⟩ := DataW.trod_struct Tryd.underlying59 h2
    match cs, hcl, hat, hf with
    | [v0, v1], _, hat, hf =>
      have g0 : DataW.trod enc Tryd.prog W 0 (fun _ => true) true m 3 (([v0, v1].drop 0).take (Tryd.prog.cellsOf 3)) = ys[0]? := hf 0 _ rfl
      have g1 : DataW.trod enc Tryd.prog W 0 (fun _ => true) true m 3 (([v0, v1].drop 1).take (Tryd.prog.cellsOf 3)) = ys[1]? := hf 1 _ rfl
      rw [c3] at g0 g1
      have hx : ∀ i, i < 2 → ∃ y, ys[i]? = some y := fun i hi => ⟨_, List.getElem?_eq_getElem (by rw [hxl]; exact hi)⟩
      obtain ⟨y0, e0⟩ := hx 0 (by omega)
      obtain ⟨y1, e1⟩ := hx 1 (by omega)
      rw [e0] at g0; rw [e1] at g1
      obtain ⟨n0, q0, _, _⟩ := DataW.trod_int Tryd.underlying3 g0
      obtain ⟨n1, q1, _, _⟩ := DataW.trod_int Tryd.underlying3 g1
      simp at q0 q1
      subst q0; subst q1
      refine ⟨es ++ [(n0, n1)], by simp [hl], fun j u hu => ?_⟩
      have ho : (entCells es).length = k * 2 := by rw [entCells_len, hl]
      have e : entCells (es ++ [(n0, n1)]) = entCells es ++ [.int .i64 n0, .int .i64 n1] := by simp [entCells]
      rw [e] at hu
      by_cases hj : j < k * 2
      · rw [List.getElem?_append_left (by omega)] at hu
        exact hc j u hu
      · rw [List.getElem?_append_right (by omega), ho] at hu
        have hj2 : j - k * 2 < 2 := by
          have := (List.getElem?_eq_some_iff.1 hu).1
          simpa using this
        have := hat (j - k * 2) hj2
        rw [hu, Go.Deep.add_add, show k * 2 + (j - k * 2) = j by omega] at this
        exact this

/-- A slice of entries, opened. -/
theorem open_ents {W : World} {fuel len cap : Nat} {a : Option Addr} {x : DataW H × List MemPlace} (h : DataW.trod enc Tryd.prog W 0 (fun _ => true) true fuel 33 [.slice a len cap] = some x) :
    ∃ es : List (Int × Int), len = es.length ∧ Sl W W.heap.size a (entCells es) ∧ len ≤ maxLen := by
  rcases Go.Deep.open_slice Tryd.underlying33 h with ⟨h0, _⟩ | ⟨a', len', cap', m, n, D, Pl, hcs, _, hl, hm, hmm, hx, hi⟩
  · simp only [List.cons.injEq, Value.slice.injEq] at h0
    obtain ⟨⟨rfl, rfl, rfl⟩, -⟩ := h0
    exact ⟨[], rfl, .inl rfl, Nat.zero_le _⟩
  · simp only [List.cons.injEq, Value.slice.injEq] at hcs
    obtain ⟨⟨rfl, rfl, rfl⟩, -⟩ := hcs
    simp only [if_true] at hmm
    obtain ⟨es, ho, hc⟩ := ents_read (fun i hil => hi i (by omega)) len (Nat.le_refl _)
    exact ⟨es, ho.symm, sl_of_read hc, by omega⟩

/-- A slice of integers, opened. -/
theorem open_intSl {W : World} {fuel len cap : Nat} {a : Option Addr} {x : DataW H × List MemPlace} (h : DataW.trod enc Tryd.prog W 0 (fun _ => true) true fuel 46 [.slice a len cap] = some x) :
    ∃ xs : List Int, len = xs.length ∧ Sl W W.heap.size a (xs.map fun x => Value.int .i64 x) ∧ len ≤ maxLen := by
  have c3 : Tryd.prog.cellsOf 3 = 1 := by kernel_rfl
  rcases Go.Deep.open_slice Tryd.underlying46 h with ⟨h0, _⟩ | ⟨a', len', cap', m, n, D, Pl, hcs, _, hl, hm, hmm, hx, hi⟩
  · simp only [List.cons.injEq, Value.slice.injEq] at h0
    obtain ⟨⟨rfl, rfl, rfl⟩, -⟩ := h0
    exact ⟨[], rfl, .inl rfl, Nat.zero_le _⟩
  · simp only [List.cons.injEq, Value.slice.injEq] at hcs
    obtain ⟨⟨rfl, rfl, rfl⟩, -⟩ := hcs
    simp only [if_true] at hmm
    have key : ∀ k, k ≤ len → ∃ xs : List Int, xs.length = k ∧ ∀ (j : Nat) (u : Value), (xs.map fun x => Value.int .i64 x)[j]? = some u → W.cell? (a'.add j) = some u := by
      intro k
      induction k with
      | zero => exact fun _ => ⟨[], rfl, fun j u hu => by simp at hu⟩
      | succ k ih =>
        intro hk
        obtain ⟨xs, hl', hc⟩ := ih (by omega)
        obtain ⟨cs, h1, h2⟩ := hi k (by omega)
        rw [c3] at h1
        obtain ⟨_, hcl, hat⟩ := World.cells?_some h1
        match cs, hcl, hat, h2 with
        | [v0], _, hat, h2 =>
          obtain ⟨n0, q0, _, _⟩ := DataW.trod_int Tryd.underlying3 h2
          simp at q0
          subst q0
          refine ⟨xs ++ [n0], by simp [hl'], fun j u hu => ?_⟩
          rw [List.map_append] at hu
          by_cases hj : j < k
          · rw [List.getElem?_append_left (by simp; omega)] at hu
            exact hc j u hu
          · rw [List.getElem?_append_right (by simp; omega)] at hu
            have hj1 : j - k < 1 := by
              have := (List.getElem?_eq_some_iff.1 hu).1
              simp [hl'] at this; omega
            have := hat (j - k) hj1
            simp only [List.length_map, hl'] at hu
            rw [Go.Deep.add_add, show k * 1 + (j - k) = j by omega] at this
            rw [this, ← hu]
            simp
    obtain ⟨xs, ho, hc⟩ := key len (Nat.le_refl _)
    exact ⟨xs, ho.symm, sl_of_read hc, by omega⟩
end
end Go.Proofs.YtognbkmamhgkeaaDoor
