/-
  A slice of codes among a law's arguments, opened.
-/
import Derived.Test.YtafgmbchdcfkcaaDoorP1
import Derived.Test.YtafgmbchdcfkcaaDoorS3
namespace Go.Proofs.YtafgmbchdcfkcaaDoor
open Go Go.ChangeShapes Go.WideShapes Go.ChangeAt Go.RowKit Go.Walks

theorem CodesS.snoc {w : World} : ∀ {Cs : List Code} {cs : List Value} {C : Code} {c : List Value}, CodesS w Cs cs → CodeS w C c → CodesS w (Cs ++ [C]) (cs ++ c)
  | [], cs, C, c, h, hc => by
    have : cs = [] := h
    subst this
    exact ⟨c, [], by simp, hc, rfl⟩
  | C' :: Cs, cs, C, c, ⟨c1, c2, e, h1, h2⟩, hc => ⟨c1, c2 ++ c, by rw [e, List.append_assoc], h1, h2.snoc hc⟩
section
variable {H : Type} {enc : TypeId × Value → H}
set_option maxRecDepth 100000 in
theorem code_cells {W : World} {fuel : Nat} {cs : List Value} {x : DataW H × List MemPlace} (h2 : DataW.trod enc Tryd.prog W 0 (fun _ => true) true fuel 24 cs = some x) (hcs : cs.length = 5) :
    ∃ C : Code, CodeS W C cs ∧ CodeL C ∧ C.name.length ≤ maxLen := by
  have c3 : Tryd.prog.cellsOf 3 = 1 := by kernel_rfl
  have c9 : Tryd.prog.cellsOf 9 = 1 := by kernel_rfl
  have c22 : Tryd.prog.cellsOf 22 = 1 := by kernel_rfl
  obtain ⟨xs, m, _, _, _, hxl, hf⟩ := DataW.trod_struct Tryd.underlying24 h2
  match cs, hcs, hf with
  | [v0, v1, v2, v3, v4], _, hf =>
    have g0 : DataW.trod enc Tryd.prog W 0 (fun _ => true) true m 9 (([v0, v1, v2, v3, v4].drop 0).take (Tryd.prog.cellsOf 9)) = xs[0]? := hf 0 _ rfl
    have g1 : DataW.trod enc Tryd.prog W 0 (fun _ => true) true m 3 (([v0, v1, v2, v3, v4].drop 1).take (Tryd.prog.cellsOf 3)) = xs[1]? := hf 1 _ rfl
    have g2 : DataW.trod enc Tryd.prog W 0 (fun _ => true) true m 3 (([v0, v1, v2, v3, v4].drop 2).take (Tryd.prog.cellsOf 3)) = xs[2]? := hf 2 _ rfl
    have g3 : DataW.trod enc Tryd.prog W 0 (fun _ => true) true m 22 (([v0, v1, v2, v3, v4].drop 3).take (Tryd.prog.cellsOf 22)) = xs[3]? := hf 3 _ rfl
    have g4 : DataW.trod enc Tryd.prog W 0 (fun _ => true) true m 3 (([v0, v1, v2, v3, v4].drop 4).take (Tryd.prog.cellsOf 3)) = xs[4]? := hf 4 _ rfl
    rw [c3] at g1 g2 g4
    rw [c9] at g0
    rw [c22] at g3
    have hx : ∀ i, i < 5 → ∃ y, xs[i]? = some y := fun i hi => ⟨_, List.getElem?_eq_getElem (by rw [hxl]; exact hi)⟩
    obtain ⟨y0, e0⟩ := hx 0 (by omega)
    obtain ⟨y1, e1⟩ := hx 1 (by omega)
    obtain ⟨y2, e2⟩ := hx 2 (by omega)
    obtain ⟨y3, e3⟩ := hx 3 (by omega)
    obtain ⟨y4, e4⟩ := hx 4 (by omega)
    rw [e0] at g0; rw [e1] at g1; rw [e2] at g2; rw [e3] at g3; rw [e4] at g4
    obtain ⟨s, q0, _, hs⟩ := DataW.trod_string Tryd.underlying9 g0
    obtain ⟨n1, q1, _, _⟩ := DataW.trod_int Tryd.underlying3 g1
    obtain ⟨n2, q2, _, _⟩ := DataW.trod_int Tryd.underlying3 g2
    obtain ⟨n4, q4, _, _⟩ := DataW.trod_int Tryd.underlying3 g4
    simp at q0 q1 q2 q4 g3
    subst q0; subst q1; subst q2; subst q4
    have hsl : ∃ A len cap, v3 = .slice A len cap := by
      rcases DataW.trod_slice Tryd.underlying22 g3 with ⟨hq, _⟩ | ⟨a, len, cap, _, _, _, _, hq, _⟩
      · simp at hq; exact ⟨_, _, _, hq⟩
      · simp at hq; exact ⟨_, _, _, hq⟩
    obtain ⟨A, len, cap, rfl⟩ := hsl
    obtain ⟨rows, mc, h1, h2, h3, h4, h5⟩ := open_par g3
    refine ⟨⟨s.data.toList, n1, n2, rows, n4⟩, ⟨A, cap, mc, ?_, h2, h3⟩, ⟨h4, h5⟩, by simpa using hs⟩
    rw [← h1]
/-- The cells of k codes, read. -/
theorem codes_read {W : World} {a : Addr} {len n : Nat} {D : Nat → DataW H} {Pl : Nat → List MemPlace}
    (h : ∀ i, i < len → ∃ cs', W.cells? 0 (a.add (i * Tryd.prog.cellsOf 24)) (Tryd.prog.cellsOf 24) = some cs' ∧ DataW.trod enc Tryd.prog W 0 (fun _ => true) true n 24 cs' = some (D i, Pl i)) :
    ∀ k, k ≤ len → ∃ (Cs : List Code) (cc : List Value), Cs.length = k ∧ cc.length = k * 5 ∧ CodesS W Cs cc ∧ (∀ C ∈ Cs, CodeL C ∧ C.name.length ≤ maxLen) ∧ ∀ j u, cc[j]? = some u → W.cell? (a.add j) = some u := by
  have c24 : Tryd.prog.cellsOf 24 = 5 := by kernel_rfl
  intro k
  induction k with
  | zero => exact fun _ => ⟨[], [], rfl, rfl, rfl, (fun C hC => by cases hC), fun j u hu => by simp at hu⟩
  | succ k ih =>
    intro hk
    obtain ⟨Cs, cc, hl, hcc, hS, hL, hc⟩ := ih (by omega)
    obtain ⟨cs, h1, h2⟩ := h k (by omega)
    rw [c24] at h1
    obtain ⟨_, hcl, hat⟩ := World.cells?_some h1
    obtain ⟨C, k1, k2, k3⟩ := code_cells h2 hcl
    refine ⟨Cs ++ [C], cc ++ cs, by simp [hl], by rw [List.length_append, hcc, hcl]; omega, hS.snoc k1, fun C' hC' => ?_, fun j u hu => ?_⟩
    · rcases List.mem_append.1 hC' with hC' | hC'
      · exact hL C' hC'
      · rw [List.mem_singleton] at hC'; rw [hC']; exact ⟨k2, k3⟩
    · by_cases hj : j < k * 5
      · rw [List.getElem?_append_left (by omega)] at hu
        exact hc j u hu
      · rw [List.getElem?_append_right (by omega), hcc] at hu
        have hj5 : j - k * 5 < 5 := by
          have := (List.getElem?_eq_some_iff.1 hu).1
          omega
        have := hat (j - k * 5) hj5
        rw [hu, Go.Deep.add_add, show k * 5 + (j - k * 5) = j by omega] at this
        exact this
/-- A slice of codes, opened. -/
theorem open_codes {W : World} {fuel len cap : Nat} {a : Option Addr} {x : DataW H × List MemPlace} (h : DataW.trod enc Tryd.prog W 0 (fun _ => true) true fuel 34 [.slice a len cap] = some x) :
    ∃ (Cs : List Code) (cc : List Value), len = Cs.length ∧ Sl W W.heap.size a cc ∧ CodesS W Cs cc ∧ (∀ C ∈ Cs, CodeL C ∧ C.name.length ≤ maxLen) ∧ Cs.length ≤ maxLen := by
  rcases Go.Deep.open_slice Tryd.underlying34 h with ⟨h0, _⟩ | ⟨a', len', cap', m, n, D, Pl, hcs, _, hl, hm, hmm, hx, hi⟩
  · simp only [List.cons.injEq, Value.slice.injEq] at h0
    obtain ⟨⟨rfl, rfl, rfl⟩, -⟩ := h0
    exact ⟨[], [], rfl, .inl rfl, rfl, (fun C hC => by cases hC), Nat.zero_le _⟩
  · simp only [List.cons.injEq, Value.slice.injEq] at hcs
    obtain ⟨⟨rfl, rfl, rfl⟩, -⟩ := hcs
    simp only [if_true] at hmm
    obtain ⟨Cs, cc, ho, -, hS, hL, hc⟩ := codes_read (fun i hil => hi i (by omega)) len (Nat.le_refl _)
    exact ⟨Cs, cc, ho.symm, sl_of_cells hc, hS, hL, by omega⟩
end
end Go.Proofs.YtafgmbchdcfkcaaDoor
