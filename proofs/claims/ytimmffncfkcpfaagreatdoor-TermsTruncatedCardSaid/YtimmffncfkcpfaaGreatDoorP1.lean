/-
  Terms among the arguments, opened: from a row's reading to what the walks ask (printed by gen_p1.py).
-/
import Derived.Test.YtimmffncfkcpfaaGreatDoorP0
import Derived.Test.YtimmffncfkcpfaaGreatDoorX0
import Derived.Deep.Matrix
import Derived.ChangeMaps5
namespace Go.Proofs.YtimmffncfkcpfaaGreatDoor
open Go Go.ChangeShapes Go.WideShapes Go.ChangeAt Go.RowKit Go.Walks

/-- Cells one behind the other, read as a list. -/
theorem sl_of_cells {W : World} {a : Addr} {xs : List Value} (h : ∀ (j : Nat) (u : Value), xs[j]? = some u → W.cell? (a.add j) = some u) : Sl W W.heap.size (some a) xs := by
  by_cases hx : xs = []
  · exact .inl hx
  · obtain ⟨u, r, rfl⟩ := List.exists_cons_of_ne_nil hx
    have h0 := h 0 u rfl
    obtain ⟨b, o, sp⟩ := a
    have hsp : sp = none := by simpa [Addr.add] using World.cell?_spot h0
    subst hsp
    refine .inr ⟨b, o, rfl, ?_, fun j v hv => ?_⟩
    · rcases Nat.lt_or_ge b W.heap.size with hb | hb
      · exact hb
      · simp only [Addr.add, World.cell?, if_true] at h0
        rw [Array.getElem?_eq_none hb] at h0
        cases h0
    · have := h j v hv
      have e : (⟨b, o, none⟩ : Addr).add j = ⟨b, o + j, none⟩ := by unfold Addr.add; split <;> simp_all
      rw [e] at this
      exact this
/-- Strings of any length that a machine can hold. -/
structure NamesL (T : TermsD) : Prop where
  cls : ∀ C ∈ T.classes, C.name.length ≤ maxLen ∧ C.code.length ≤ maxLen
  ctr : ∀ D ∈ T.contracts, D.tenant.length ≤ maxLen ∧ D.cls.length ≤ maxLen
section
variable {H : Type} {enc : TypeId × Value → H}
set_option maxRecDepth 100000 in
theorem class_cells {W : World} {fuel : Nat} {cs : List Value} {x : DataW H × List MemPlace} (h2 : DataW.trod enc Tryz.prog W 0 (fun _ => true) true fuel 38 cs = some x) (hcs : cs.length = 4) :
    ∃ C : ClassD, cs = clsCs C ∧ C.name.length ≤ maxLen ∧ C.code.length ≤ maxLen := by
  have c3 : Tryz.prog.cellsOf 3 = 1 := by kernel_rfl
  have c9 : Tryz.prog.cellsOf 9 = 1 := by kernel_rfl
  obtain ⟨xs, m, _, _, _, hxl, hf⟩ := DataW.trod_struct Tryz.underlying38 h2
  match cs, hcs, hf with
  | [v0, v1, v2, v3], _, hf =>
    have g0 : DataW.trod enc Tryz.prog W 0 (fun _ => true) true m 9 (([v0, v1, v2, v3].drop 0).take (Tryz.prog.cellsOf 9)) = xs[0]? := hf 0 _ rfl
    rw [c9] at g0
    have g1 : DataW.trod enc Tryz.prog W 0 (fun _ => true) true m 9 (([v0, v1, v2, v3].drop 1).take (Tryz.prog.cellsOf 9)) = xs[1]? := hf 1 _ rfl
    rw [c9] at g1
    have g2 : DataW.trod enc Tryz.prog W 0 (fun _ => true) true m 3 (([v0, v1, v2, v3].drop 2).take (Tryz.prog.cellsOf 3)) = xs[2]? := hf 2 _ rfl
    rw [c3] at g2
    have g3 : DataW.trod enc Tryz.prog W 0 (fun _ => true) true m 3 (([v0, v1, v2, v3].drop 3).take (Tryz.prog.cellsOf 3)) = xs[3]? := hf 3 _ rfl
    rw [c3] at g3
    have hx : ∀ i, i < 4 → ∃ y, xs[i]? = some y := fun i hi => ⟨_, List.getElem?_eq_getElem (by rw [hxl]; exact hi)⟩
    obtain ⟨y0, e0⟩ := hx 0 (by omega)
    rw [e0] at g0
    obtain ⟨s0, q0, _, hs0⟩ := DataW.trod_string Tryz.underlying9 g0
    obtain ⟨y1, e1⟩ := hx 1 (by omega)
    rw [e1] at g1
    obtain ⟨s1, q1, _, hs1⟩ := DataW.trod_string Tryz.underlying9 g1
    obtain ⟨y2, e2⟩ := hx 2 (by omega)
    rw [e2] at g2
    obtain ⟨n2, q2, _, _⟩ := DataW.trod_int Tryz.underlying3 g2
    obtain ⟨y3, e3⟩ := hx 3 (by omega)
    rw [e3] at g3
    obtain ⟨n3, q3, _, _⟩ := DataW.trod_int Tryz.underlying3 g3
    simp at q0 q1 q2 q3
    subst q0 q1 q2 q3
    exact ⟨⟨s0.data.toList, s1.data.toList, n2, n3⟩, rfl, by simpa using hs0, by simpa using hs1⟩
theorem class_read {W : World} {a : Addr} {len n : Nat} {D : Nat → DataW H} {Pl : Nat → List MemPlace}
    (h : ∀ i, i < len → ∃ cs', W.cells? 0 (a.add (i * Tryz.prog.cellsOf 38)) (Tryz.prog.cellsOf 38) = some cs' ∧ DataW.trod enc Tryz.prog W 0 (fun _ => true) true n 38 cs' = some (D i, Pl i)) :
    ∀ k, k ≤ len → ∃ Cs : List ClassD, Cs.length = k ∧ (∀ C ∈ Cs, C.name.length ≤ maxLen ∧ C.code.length ≤ maxLen) ∧ ∀ j u, (Cs.flatMap clsCs)[j]? = some u → W.cell? (a.add j) = some u := by
  have ct : Tryz.prog.cellsOf 38 = 4 := by kernel_rfl
  intro k
  induction k with
  | zero => exact fun _ => ⟨[], rfl, (fun C hC => by cases hC), fun j u hu => by simp at hu⟩
  | succ k ih =>
    intro hk
    obtain ⟨Cs, hl, hL, hc⟩ := ih (by omega)
    obtain ⟨cs, h1, h2⟩ := h k (by omega)
    rw [ct] at h1
    obtain ⟨_, hcl, hat⟩ := World.cells?_some h1
    obtain ⟨C, rfl, k2⟩ := class_cells h2 hcl
    have hcc : (Cs.flatMap clsCs).length = k * 4 := by rw [flat_len cls_len, hl]
    refine ⟨Cs ++ [C], by simp [hl], fun C' hC' => ?_, fun j u hu => ?_⟩
    · rcases List.mem_append.1 hC' with hC' | hC'
      · exact hL C' hC'
      · rw [List.mem_singleton] at hC'; rw [hC']; exact k2
    · rw [List.flatMap_append, List.flatMap_cons, List.flatMap_nil, List.append_nil] at hu
      by_cases hj : j < k * 4
      · rw [List.getElem?_append_left (by omega)] at hu
        exact hc j u hu
      · rw [List.getElem?_append_right (by omega), hcc] at hu
        have hj5 : j - k * 4 < 4 := by
          have := (List.getElem?_eq_some_iff.1 hu).1
          omega
        have := hat (j - k * 4) hj5
        rw [hu, Go.Deep.add_add, show k * 4 + (j - k * 4) = j by omega] at this
        exact this
theorem open_class {W : World} {fuel : Nat} {v : Value} {x : DataW H × List MemPlace} (h : DataW.trod enc Tryz.prog W 0 (fun _ => true) true fuel 23 [v] = some x) :
    ∃ (Cs : List ClassD) (a : Option Addr) (cap : Nat), v = .slice a Cs.length cap ∧ Sl W W.heap.size a (Cs.flatMap clsCs) ∧ (∀ C ∈ Cs, C.name.length ≤ maxLen ∧ C.code.length ≤ maxLen) ∧ Cs.length ≤ cap ∧ cap ≤ maxLen := by
  rcases Go.Deep.open_slice Tryz.underlying23 h with ⟨h0, _⟩ | ⟨a', len', cap', m, n, D, Pl, hcs, _, hl, hm, hmm, hx, hi⟩
  · simp only [List.cons.injEq, and_true] at h0
    exact ⟨[], none, 0, h0, .inl rfl, (fun C hC => by cases hC), Nat.zero_le _, Nat.zero_le _⟩
  · simp only [List.cons.injEq, and_true] at hcs
    simp only [if_true] at hmm
    obtain ⟨Cs, ho, hL, hc⟩ := class_read (fun i hil => hi i (by omega)) len' (Nat.le_refl _)
    exact ⟨Cs, some a', cap', by rw [hcs, ho], sl_of_cells hc, hL, by omega, by omega⟩
set_option maxRecDepth 100000 in
theorem contr_cells {W : World} {fuel : Nat} {cs : List Value} {x : DataW H × List MemPlace} (h2 : DataW.trod enc Tryz.prog W 0 (fun _ => true) true fuel 46 cs = some x) (hcs : cs.length = 6) :
    ∃ C : ContrD, cs = ctrCs C ∧ C.tenant.length ≤ maxLen ∧ C.cls.length ≤ maxLen := by
  have c3 : Tryz.prog.cellsOf 3 = 1 := by kernel_rfl
  have c9 : Tryz.prog.cellsOf 9 = 1 := by kernel_rfl
  obtain ⟨xs, m, _, _, _, hxl, hf⟩ := DataW.trod_struct Tryz.underlying46 h2
  match cs, hcs, hf with
  | [v0, v1, v2, v3, v4, v5], _, hf =>
    have g0 : DataW.trod enc Tryz.prog W 0 (fun _ => true) true m 9 (([v0, v1, v2, v3, v4, v5].drop 0).take (Tryz.prog.cellsOf 9)) = xs[0]? := hf 0 _ rfl
    rw [c9] at g0
    have g1 : DataW.trod enc Tryz.prog W 0 (fun _ => true) true m 3 (([v0, v1, v2, v3, v4, v5].drop 1).take (Tryz.prog.cellsOf 3)) = xs[1]? := hf 1 _ rfl
    rw [c3] at g1
    have g2 : DataW.trod enc Tryz.prog W 0 (fun _ => true) true m 3 (([v0, v1, v2, v3, v4, v5].drop 2).take (Tryz.prog.cellsOf 3)) = xs[2]? := hf 2 _ rfl
    rw [c3] at g2
    have g3 : DataW.trod enc Tryz.prog W 0 (fun _ => true) true m 3 (([v0, v1, v2, v3, v4, v5].drop 3).take (Tryz.prog.cellsOf 3)) = xs[3]? := hf 3 _ rfl
    rw [c3] at g3
    have g4 : DataW.trod enc Tryz.prog W 0 (fun _ => true) true m 3 (([v0, v1, v2, v3, v4, v5].drop 4).take (Tryz.prog.cellsOf 3)) = xs[4]? := hf 4 _ rfl
    rw [c3] at g4
    have g5 : DataW.trod enc Tryz.prog W 0 (fun _ => true) true m 9 (([v0, v1, v2, v3, v4, v5].drop 5).take (Tryz.prog.cellsOf 9)) = xs[5]? := hf 5 _ rfl
    rw [c9] at g5
    have hx : ∀ i, i < 6 → ∃ y, xs[i]? = some y := fun i hi => ⟨_, List.getElem?_eq_getElem (by rw [hxl]; exact hi)⟩
    obtain ⟨y0, e0⟩ := hx 0 (by omega)
    rw [e0] at g0
    obtain ⟨s0, q0, _, hs0⟩ := DataW.trod_string Tryz.underlying9 g0
    obtain ⟨y1, e1⟩ := hx 1 (by omega)
    rw [e1] at g1
    obtain ⟨n1, q1, _, _⟩ := DataW.trod_int Tryz.underlying3 g1
    obtain ⟨y2, e2⟩ := hx 2 (by omega)
    rw [e2] at g2
    obtain ⟨n2, q2, _, _⟩ := DataW.trod_int Tryz.underlying3 g2
    obtain ⟨y3, e3⟩ := hx 3 (by omega)
    rw [e3] at g3
    obtain ⟨n3, q3, _, _⟩ := DataW.trod_int Tryz.underlying3 g3
    obtain ⟨y4, e4⟩ := hx 4 (by omega)
    rw [e4] at g4
    obtain ⟨n4, q4, _, _⟩ := DataW.trod_int Tryz.underlying3 g4
    obtain ⟨y5, e5⟩ := hx 5 (by omega)
    rw [e5] at g5
    obtain ⟨s5, q5, _, hs5⟩ := DataW.trod_string Tryz.underlying9 g5
    simp at q0 q1 q2 q3 q4 q5
    subst q0 q1 q2 q3 q4 q5
    exact ⟨⟨s0.data.toList, n1, n2, n3, n4, s5.data.toList⟩, rfl, by simpa using hs0, by simpa using hs5⟩
theorem contr_read {W : World} {a : Addr} {len n : Nat} {D : Nat → DataW H} {Pl : Nat → List MemPlace}
    (h : ∀ i, i < len → ∃ cs', W.cells? 0 (a.add (i * Tryz.prog.cellsOf 46)) (Tryz.prog.cellsOf 46) = some cs' ∧ DataW.trod enc Tryz.prog W 0 (fun _ => true) true n 46 cs' = some (D i, Pl i)) :
    ∀ k, k ≤ len → ∃ Cs : List ContrD, Cs.length = k ∧ (∀ C ∈ Cs, C.tenant.length ≤ maxLen ∧ C.cls.length ≤ maxLen) ∧ ∀ j u, (Cs.flatMap ctrCs)[j]? = some u → W.cell? (a.add j) = some u := by
  have ct : Tryz.prog.cellsOf 46 = 6 := by kernel_rfl
  intro k
  induction k with
  | zero => exact fun _ => ⟨[], rfl, (fun C hC => by cases hC), fun j u hu => by simp at hu⟩
  | succ k ih =>
    intro hk
    obtain ⟨Cs, hl, hL, hc⟩ := ih (by omega)
    obtain ⟨cs, h1, h2⟩ := h k (by omega)
    rw [ct] at h1
    obtain ⟨_, hcl, hat⟩ := World.cells?_some h1
    obtain ⟨C, rfl, k2⟩ := contr_cells h2 hcl
    have hcc : (Cs.flatMap ctrCs).length = k * 6 := by rw [flat_len ctr_len, hl]
    refine ⟨Cs ++ [C], by simp [hl], fun C' hC' => ?_, fun j u hu => ?_⟩
    · rcases List.mem_append.1 hC' with hC' | hC'
      · exact hL C' hC'
      · rw [List.mem_singleton] at hC'; rw [hC']; exact k2
    · rw [List.flatMap_append, List.flatMap_cons, List.flatMap_nil, List.append_nil] at hu
      by_cases hj : j < k * 6
      · rw [List.getElem?_append_left (by omega)] at hu
        exact hc j u hu
      · rw [List.getElem?_append_right (by omega), hcc] at hu
        have hj5 : j - k * 6 < 6 := by
          have := (List.getElem?_eq_some_iff.1 hu).1
          omega
        have := hat (j - k * 6) hj5
        rw [hu, Go.Deep.add_add, show k * 6 + (j - k * 6) = j by omega] at this
        exact this
theorem open_contr {W : World} {fuel : Nat} {v : Value} {x : DataW H × List MemPlace} (h : DataW.trod enc Tryz.prog W 0 (fun _ => true) true fuel 24 [v] = some x) :
    ∃ (Cs : List ContrD) (a : Option Addr) (cap : Nat), v = .slice a Cs.length cap ∧ Sl W W.heap.size a (Cs.flatMap ctrCs) ∧ (∀ C ∈ Cs, C.tenant.length ≤ maxLen ∧ C.cls.length ≤ maxLen) ∧ Cs.length ≤ cap ∧ cap ≤ maxLen := by
  rcases Go.Deep.open_slice Tryz.underlying24 h with ⟨h0, _⟩ | ⟨a', len', cap', m, n, D, Pl, hcs, _, hl, hm, hmm, hx, hi⟩
  · simp only [List.cons.injEq, and_true] at h0
    exact ⟨[], none, 0, h0, .inl rfl, (fun C hC => by cases hC), Nat.zero_le _, Nat.zero_le _⟩
  · simp only [List.cons.injEq, and_true] at hcs
    simp only [if_true] at hmm
    obtain ⟨Cs, ho, hL, hc⟩ := contr_read (fun i hil => hi i (by omega)) len' (Nat.le_refl _)
    exact ⟨Cs, some a', cap', by rw [hcs, ho], sl_of_cells hc, hL, by omega, by omega⟩
set_option maxRecDepth 100000 in
theorem open_terms {W : World} {v : Value} {base : Nat} {d : DataW H} {ps : List MemPlace} (hv : Value.okWide Tryz.prog W .any base 26 v) (h : DataW.Trod enc Tryz.prog W 0 (fun _ => true) true 26 v d ps) :
    ∃ T : TermsD, TermsV W T v ∧ NamesL T := by
  have c22 : Tryz.prog.cellsOf 23 = 1 := by kernel_rfl
  have c23 : Tryz.prog.cellsOf 24 = 1 := by kernel_rfl
  have c25 : Tryz.prog.cellsOf 26 = 2 := by kernel_rfl
  obtain ⟨cs, rfl, hcs⟩ := okWide_struct Tryz.underlying26 hv
  obtain ⟨fuel, h2⟩ := h
  rw [c25] at hcs
  obtain ⟨xs, m, _, _, _, hxl, hf⟩ := DataW.trod_struct Tryz.underlying26 h2
  obtain ⟨l⟩ := cs
  match l, hcs, hf with
  | [v0, v1], _, hf =>
    have g0 : DataW.trod enc Tryz.prog W 0 (fun _ => true) true m 23 (([v0, v1].drop 0).take (Tryz.prog.cellsOf 23)) = xs[0]? := hf 0 _ rfl
    have g1 : DataW.trod enc Tryz.prog W 0 (fun _ => true) true m 24 (([v0, v1].drop 1).take (Tryz.prog.cellsOf 24)) = xs[1]? := hf 1 _ rfl
    rw [c22] at g0
    rw [c23] at g1
    have hx : ∀ i, i < 2 → ∃ y, xs[i]? = some y := fun i hi => ⟨_, List.getElem?_eq_getElem (by rw [hxl]; exact hi)⟩
    obtain ⟨y0, e0⟩ := hx 0 (by omega)
    obtain ⟨y1, e1⟩ := hx 1 (by omega)
    rw [e0] at g0; rw [e1] at g1
    simp at g0 g1
    obtain ⟨Cs, A, c, rfl, k1, k2, k3, k4⟩ := open_class g0
    obtain ⟨Ds, A', d', rfl, j1, j2, j3, j4⟩ := open_contr g1
    exact ⟨⟨Cs, Ds⟩, ⟨A, c, A', d', rfl, k1, j1, k3, j3, k4, j4⟩, ⟨k2, j2⟩⟩
end
end Go.Proofs.YtimmffncfkcpfaaGreatDoor
