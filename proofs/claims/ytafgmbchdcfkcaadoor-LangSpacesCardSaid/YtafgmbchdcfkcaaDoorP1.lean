/-
  A code among the arguments, opened: from a row's reading to what the walks ask.
-/
import Derived.Test.YtafgmbchdcfkcaaDoorP0
import Derived.Deep.Matrix
import Derived.ChangeMaps5
namespace Go.Proofs.YtafgmbchdcfkcaaDoor
open Go Go.ChangeShapes Go.WideShapes Go.ChangeAt Go.RowKit Go.Walks

/-- Cells one behind the other, read as a list. -/
theorem sl_of_cells {W : World} {a : Addr} {xs : List Value} (h : ∀ (j : Nat) (u : Value), xs[j]? = some u → W.cell? (a.add j) = some u) : Sl W W.heap.size (some a) xs := by
  by_cases hx : xs = []
  · exact .inl hx
  · obtain ⟨u, r, rfl⟩ := List.exists_cons_of_ne_nil hx
    have h0 := h 0 u rfl
    obtain ⟨b, o, sp⟩ := a
    have hsp : sp = none := by simpa [Addr.add] using World.cell?_spot h0
    subst hsp
    refine .inr ⟨b, o, rfl, ?_, fun j v hv => ?_⟩
    · rcases Nat.lt_or_ge b W.heap.size with hb | hb
      · exact hb
      · simp only [Addr.add, World.cell?, if_true] at h0
        rw [Array.getElem?_eq_none hb] at h0
        cases h0
    · have := h j v hv
      have e : (⟨b, o, none⟩ : Addr).add j = ⟨b, o + j, none⟩ := by unfold Addr.add; split <;> simp_all
      rw [e] at this
      exact this
theorem matS_of {W : World} {A : Nat → Option Addr} {L C : Nat → Nat} {R : Nat → List Int} : ∀ (l : List Nat), (∀ r ∈ l, (R r).length = L r ∧ Sl W W.heap.size (A r) ((R r).map intC)) → MatS W (l.map R) (l.map fun r => .slice (A r) (L r) (C r))
  | [], _ => rfl
  | r :: l, h => ⟨A r, C r, _, by rw [(h r (by simp)).1]; rfl, (h r (by simp)).2, matS_of l (fun r' h' => h r' (by simp [h']))⟩

section
variable {H : Type} {enc : TypeId × Value → H}
theorem open_par {W : World} {fuel len cap : Nat} {a : Option Addr} {x : DataW H × List MemPlace} (h : DataW.trod enc Tryd.prog W 0 (fun _ => true) true fuel 22 [.slice a len cap] = some x) :
    ∃ (rows : List (List Int)) (mc : List Value), rows.length = len ∧ Sl W W.heap.size a mc ∧ MatS W rows mc ∧ rows.length ≤ maxLen ∧ ∀ r ∈ rows, r.length ≤ maxLen := by
  rcases Go.Deep.open_int_rows Tryd.underlying22 Tryd.underlying61 Tryd.underlying3 (by kernel_rfl) (by kernel_rfl) h with ⟨h0, _⟩ | ⟨a', len', cap', A, L, C, Z, hcs, _, hl, hm, _, hr⟩
  · simp only [List.cons.injEq, Value.slice.injEq] at h0
    obtain ⟨⟨rfl, rfl, rfl⟩, -⟩ := h0
    exact ⟨[], [], rfl, .inl rfl, rfl, Nat.zero_le _, fun r hr => by cases hr⟩
  · simp only [List.cons.injEq, Value.slice.injEq] at hcs
    obtain ⟨⟨rfl, rfl, rfl⟩, -⟩ := hcs
    refine ⟨(List.range len).map fun r => (Z r).take (L r), (List.range len).map fun r => .slice (A r) (L r) (C r), by simp, ?_, ?_, by simp; omega, ?_⟩
    · refine sl_of_cells fun j u hu => ?_
      rw [List.getElem?_map, Option.map_eq_some_iff] at hu
      obtain ⟨k, hk, rfl⟩ := hu
      have hj := (List.getElem?_eq_some_iff.1 hk)
      obtain ⟨hj1, hj2⟩ := hj
      rw [List.getElem_range] at hj2
      subst hj2
      exact (hr j (by simp at hj1; omega)).1
    · refine matS_of _ fun r hrr => ?_
      have hrl : r < cap := by have := List.mem_range.1 hrr; omega
      obtain ⟨-, h1, h2, h3, -, h4, h5⟩ := hr r hrl
      refine ⟨by rw [List.length_take]; omega, ?_⟩
      cases hA : A r with
      | none =>
        have := h4 hA
        have h0 : L r = 0 := by omega
        rw [h0]
        exact .inl rfl
      | some a' =>
        obtain ⟨-, hc⟩ := h5 a' hA
        refine sl_of_cells fun j u hu => ?_
        rw [List.getElem?_map, Option.map_eq_some_iff] at hu
        obtain ⟨z, hz, rfl⟩ := hu
        rw [List.getElem?_take] at hz
        split at hz
        · rename_i hj
          have := hc j (by omega)
          rw [this]
          simp [List.getD, hz]
        · cases hz
    · intro r hrr
      obtain ⟨k, hk, rfl⟩ := List.mem_map.1 hrr
      have hkl : k < cap := by have := List.mem_range.1 hk; omega
      obtain ⟨-, h1, h2, -⟩ := hr k hkl
      rw [List.length_take]
      omega
set_option maxRecDepth 100000 in
theorem open_code {W : World} {v : Value} {base : Nat} {d : DataW H} {ps : List MemPlace} (hv : Value.okWide Tryd.prog W .any base 24 v) (h : DataW.Trod enc Tryd.prog W 0 (fun _ => true) true 24 v d ps) :
    ∃ (C : Code) (ca : List Value), v = .agg ca.toArray ∧ CodeS W C ca ∧ CodeL C ∧ C.name.length ≤ maxLen := by
  have c3 : Tryd.prog.cellsOf 3 = 1 := by kernel_rfl
  have c9 : Tryd.prog.cellsOf 9 = 1 := by kernel_rfl
  have c22 : Tryd.prog.cellsOf 22 = 1 := by kernel_rfl
  have c24 : Tryd.prog.cellsOf 24 = 5 := by kernel_rfl
  obtain ⟨cs, rfl, hcs⟩ := okWide_struct Tryd.underlying24 hv
  obtain ⟨fuel, h2⟩ := h
  rw [c24] at hcs
  obtain ⟨xs, m, _, _, _, hxl, hf⟩ := DataW.trod_struct Tryd.underlying24 h2
  obtain ⟨l⟩ := cs
  match l, hcs, hf with
  | [v0, v1, v2, v3, v4], _, hf =>
    have g0 : DataW.trod enc Tryd.prog W 0 (fun _ => true) true m 9 (([v0, v1, v2, v3, v4].drop 0).take (Tryd.prog.cellsOf 9)) = xs[0]? := hf 0 _ rfl
    have g1 : DataW.trod enc Tryd.prog W 0 (fun _ => true) true m 3 (([v0, v1, v2, v3, v4].drop 1).take (Tryd.prog.cellsOf 3)) = xs[1]? := hf 1 _ rfl
    have g2 : DataW.trod enc Tryd.prog W 0 (fun _ => true) true m 3 (([v0, v1, v2, v3, v4].drop 2).take (Tryd.prog.cellsOf 3)) = xs[2]? := hf 2 _ rfl
    have g3 : DataW.trod enc Tryd.prog W 0 (fun _ => true) true m 22 (([v0, v1, v2, v3, v4].drop 3).take (Tryd.prog.cellsOf 22)) = xs[3]? := hf 3 _ rfl
    have g4 : DataW.trod enc Tryd.prog W 0 (fun _ => true) true m 3 (([v0, v1, v2, v3, v4].drop 4).take (Tryd.prog.cellsOf 3)) = xs[4]? := hf 4 _ rfl
    rw [c3] at g1 g2 g4
    rw [c9] at g0
    rw [c22] at g3
    have hx : ∀ i, i < 5 → ∃ y, xs[i]? = some y := fun i hi => ⟨_, List.getElem?_eq_getElem (by rw [hxl]; exact hi)⟩
    obtain ⟨y0, e0⟩ := hx 0 (by omega)
    obtain ⟨y1, e1⟩ := hx 1 (by omega)
    obtain ⟨y2, e2⟩ := hx 2 (by omega)
    obtain ⟨y3, e3⟩ := hx 3 (by omega)
    obtain ⟨y4, e4⟩ := hx 4 (by omega)
    rw [e0] at g0; rw [e1] at g1; rw [e2] at g2; rw [e3] at g3; rw [e4] at g4
    obtain ⟨s, q0, _, hs⟩ := DataW.trod_string Tryd.underlying9 g0
    obtain ⟨n1, q1, _, _⟩ := DataW.trod_int Tryd.underlying3 g1
    obtain ⟨n2, q2, _, _⟩ := DataW.trod_int Tryd.underlying3 g2
    obtain ⟨n4, q4, _, _⟩ := DataW.trod_int Tryd.underlying3 g4
    simp at q0 q1 q2 q4 g3
    subst q0; subst q1; subst q2; subst q4
    have hsl : ∃ A len cap, v3 = .slice A len cap := by
      rcases DataW.trod_slice Tryd.underlying22 g3 with ⟨hq, _⟩ | ⟨a, len, cap, _, _, _, _, hq, _⟩
      · simp at hq; exact ⟨_, _, _, hq⟩
      · simp at hq; exact ⟨_, _, _, hq⟩
    obtain ⟨A, len, cap, rfl⟩ := hsl
    obtain ⟨rows, mc, h1, h2, h3, h4, h5⟩ := open_par g3
    refine ⟨⟨s.data.toList, n1, n2, rows, n4⟩, _, rfl, ⟨A, cap, mc, ?_, h2, h3⟩, ⟨h4, h5⟩, by simpa using hs⟩
    rw [← h1]
end
end Go.Proofs.YtafgmbchdcfkcaaDoor
