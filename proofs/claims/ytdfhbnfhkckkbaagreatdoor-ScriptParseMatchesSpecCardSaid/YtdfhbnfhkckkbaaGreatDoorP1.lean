/-
  A script among the arguments, opened: from a row's reading to what the walks ask.
-/
import Derived.Test.YtdfhbnfhkckkbaaGreatDoorP0
import Derived.Deep.Matrix
import Derived.ChangeMaps5
import Derived.SliceStrings
namespace Go.Proofs.YtdfhbnfhkckkbaaGreatDoor
open Go Go.ChangeShapes Go.WideShapes Go.ChangeAt Go.RowKit Go.Walks

/-- Cells one behind the other, read as a list. -/
theorem sl_of_cells {W : World} {a : Addr} {xs : List Value} (h : ∀ (j : Nat) (u : Value), xs[j]? = some u → W.cell? (a.add j) = some u) : Sl W W.heap.size (some a) xs := by
  by_cases hx : xs = []
  · exact .inl hx
  · obtain ⟨u, r, rfl⟩ := List.exists_cons_of_ne_nil hx
    have h0 := h 0 u rfl
    obtain ⟨b, o, sp⟩ := a
    have hsp : sp = none := by simpa [Addr.add] using World.cell?_spot h0
    subst hsp
    refine .inr ⟨b, o, rfl, ?_, fun j v hv => ?_⟩
    · rcases Nat.lt_or_ge b W.heap.size with hb | hb
      · exact hb
      · simp only [Addr.add, World.cell?, if_true] at h0
        rw [Array.getElem?_eq_none hb] at h0
        cases h0
    · have := h j v hv
      have e : (⟨b, o, none⟩ : Addr).add j = ⟨b, o + j, none⟩ := by unfold Addr.add; split <;> simp_all
      rw [e] at this
      exact this
section
variable {H : Type} {enc : TypeId × Value → H}
theorem open_il {W : World} {fuel : Nat} {v : Value} {x : DataW H × List MemPlace} (h : DataW.trod enc Tryz.prog W 0 (fun _ => true) true fuel 65 [v] = some x) :
    ∃ (l : List Int) (A : Option Addr) (c : Nat), v = .slice A l.length c ∧ Sl W W.heap.size A (l.map intC) ∧ l.length ≤ c ∧ l.length ≤ maxLen ∧ ∀ n ∈ l, I64 n := by
  rcases open_ints Tryz.underlying65 Tryz.underlying3 (by kernel_rfl) h with ⟨h0, _⟩ | ⟨a', len', cap', zs, hcs, _, hl, hm, hz, _, hat, hw⟩
  · simp only [List.cons.injEq, and_true] at h0
    exact ⟨[], none, 0, h0, .inl rfl, Nat.zero_le _, Nat.zero_le _, fun n hn => by cases hn⟩
  · simp only [List.cons.injEq, and_true] at hcs
    simp only [if_true] at hz
    have ht : (zs.take len').length = len' := by rw [List.length_take]; omega
    refine ⟨zs.take len', some a', cap', by rw [hcs, ht], sl_of_cells fun j u hu => ?_, by omega, by omega, fun n hn => i64_of_wf (hw n (List.mem_of_mem_take hn))⟩
    rw [List.getElem?_map, Option.map_eq_some_iff] at hu
    obtain ⟨z, hzj, rfl⟩ := hu
    rw [List.getElem?_take] at hzj
    split at hzj
    · rename_i hj
      rw [hat j (by omega)]
      simp [List.getD, hzj, intC]
    · cases hzj
set_option maxRecDepth 100000 in
theorem open_bytes {W : World} {v : Value} {d : DataW H} {ps : List MemPlace} {base : Nat} (hv : Value.okWide Tryz.prog W .any base 38 v) (h : DataW.Trod enc Tryz.prog W 0 (fun _ => true) true 38 v d ps) :
    ∃ (l : Bytes) (A : Option Addr) (c : Nat), v = .slice A l.length c ∧ Sl W W.heap.size A (Lib.byteCells l) ∧ l.length ≤ c ∧ c ≤ maxLen := by
  obtain ⟨a0, n0, c0, rfl⟩ := okWide_slice Tryz.underlying38 hv
  obtain ⟨fuel, h⟩ := h
  have h : DataW.trod enc Tryz.prog W 0 (fun _ => true) true fuel 38 [.slice a0 n0 c0] = some (d, ps) := h
  rcases open_ints Tryz.underlying38 Tryz.underlying5 (by kernel_rfl) h with ⟨h0, _⟩ | ⟨a', len', cap', zs, hcs, _, hl, hm, hz, _, hat, hwf⟩
  · simp only [List.cons.injEq, Value.slice.injEq] at h0
    obtain ⟨⟨rfl, rfl, rfl⟩, -⟩ := h0
    exact ⟨[], none, 0, rfl, .inl rfl, Nat.zero_le _, Nat.zero_le _⟩
  · simp only [List.cons.injEq, Value.slice.injEq] at hcs
    obtain ⟨⟨rfl, rfl, rfl⟩, -⟩ := hcs
    simp only [if_true] at hz
    have hr : ∀ z ∈ zs, 0 ≤ z ∧ z ≤ 255 := fun z hz => by
      have := hwf z hz
      unfold Lit.wf at this
      rw [Bool.and_eq_true, decide_eq_true_eq, decide_eq_true_eq] at this
      have e1 : IntKind.min .u8 = 0 := rfl
      have e2 : IntKind.max .u8 = 255 := rfl
      rw [e1, e2] at this
      exact this
    have ht : ((zs.take n0).map fun z => UInt8.ofNat z.toNat).length = n0 := by rw [List.length_map, List.length_take]; omega
    refine ⟨(zs.take n0).map fun z => UInt8.ofNat z.toNat, some a', c0, by rw [ht], sl_of_cells fun j u hu => ?_, by omega, by omega⟩
    unfold Lib.byteCells at hu
    rw [List.map_map, List.getElem?_map] at hu
    obtain ⟨z, hz1, rfl⟩ := Option.map_eq_some_iff.1 hu
    rw [List.getElem?_take] at hz1
    split at hz1
    · have hjz := (List.getElem?_eq_some_iff.1 hz1).1
      have := hat j hjz
      rw [this]
      have h0 := hr z (List.mem_of_getElem? hz1)
      have e1 : zs.getD j 0 = z := by simp [List.getD, hz1]
      rw [e1]
      have e2 : (UInt8.ofNat z.toNat).toNat = z.toNat := by
        rw [UInt8.toNat_ofNat']
        omega
      show _ = some (Value.int .u8 (((UInt8.ofNat z.toNat).toNat : Nat) : Int))
      rw [e2, Int.toNat_of_nonneg h0.1]
    · cases hz1
theorem open_sl {W : World} {fuel : Nat} {v : Value} {x : DataW H × List MemPlace} (h : DataW.trod enc Tryz.prog W 0 (fun _ => true) true fuel 24 [v] = some x) :
    ∃ (l : List Bytes) (A : Option Addr) (c : Nat), v = .slice A l.length c ∧ Sl W W.heap.size A (l.map strV) ∧ l.length ≤ c ∧ l.length ≤ maxLen ∧ (∀ t ∈ l, t.length ≤ maxLen) ∧ ∀ n, (∀ m ∈ x.1.weights Tryz.prog 24, m ≤ n) → l.length * 16 ≤ n := by
  have b9 : Tryz.prog.bytesOf 9 = 16 := by kernel_rfl
  rcases open_strings Tryz.underlying24 Tryz.underlying9 (by kernel_rfl) h with ⟨h0, _⟩ | ⟨a', len', cap', zs, hcs, _, hl, hm, hz, hxx, hat, hw⟩
  · simp only [List.cons.injEq, and_true] at h0
    exact ⟨[], none, 0, h0, .inl rfl, Nat.zero_le _, Nat.zero_le _, (fun n hn => by cases hn), fun n _ => by simp⟩
  · simp only [List.cons.injEq, and_true] at hcs
    simp only [if_true] at hz
    have ht : ((zs.take len').map fun s => s.data.toList).length = len' := by rw [List.length_map, List.length_take]; omega
    refine ⟨(zs.take len').map fun s => s.data.toList, some a', cap', by rw [hcs, ht], sl_of_cells fun j u hu => ?_, by omega, by omega, fun n hn => ?_, fun n hn => ?_⟩
    · rw [List.getElem?_map, Option.map_eq_some_iff] at hu
      obtain ⟨z, hzj, rfl⟩ := hu
      rw [List.getElem?_map, Option.map_eq_some_iff] at hzj
      obtain ⟨y, hyj, rfl⟩ := hzj
      rw [List.getElem?_take] at hyj
      split at hyj
      · rename_i hj
        rw [hat j (by omega)]
        simp [List.getD, hyj, strV]
      · cases hyj
    · obtain ⟨y, hy, rfl⟩ := List.mem_map.1 hn
      exact hw y (List.mem_of_mem_take hy)
    · rw [ht]
      have h1 := hn _ (by rw [hxx]; simp only [DataW.weights, Tryz.underlying24]; exact List.mem_cons_self ..)
      simp only [b9, strs, List.length_map, List.length_take, List.length_drop] at h1
      omega
set_option maxRecDepth 100000 in
theorem stp_cells {W : World} {fuel : Nat} {cs : List Value} {x : DataW H × List MemPlace} (h2 : DataW.trod enc Tryz.prog W 0 (fun _ => true) true fuel 67 cs = some x) (hcs : cs.length = 2) :
    ∃ (C : StepD) (A : Option Addr) (c : Nat), cs = [.int .i64 C.kind, .slice A C.args.length c] ∧ Sl W W.heap.size A (C.args.map intC) ∧ C.args.length ≤ c ∧ C.args.length ≤ maxLen ∧ I64 C.kind ∧ ∀ n ∈ C.args, I64 n := by
  have c3 : Tryz.prog.cellsOf 3 = 1 := by kernel_rfl
  have c9 : Tryz.prog.cellsOf 65 = 1 := by kernel_rfl
  obtain ⟨xs, m, _, _, _, hxl, hf⟩ := DataW.trod_struct Tryz.underlying67 h2
  match cs, hcs, hf with
  | [v0, v1], _, hf =>
    have g0 : DataW.trod enc Tryz.prog W 0 (fun _ => true) true m 3 (([v0, v1].drop 0).take (Tryz.prog.cellsOf 3)) = xs[0]? := hf 0 _ rfl
    rw [c3] at g0
    have g1 : DataW.trod enc Tryz.prog W 0 (fun _ => true) true m 65 (([v0, v1].drop 1).take (Tryz.prog.cellsOf 65)) = xs[1]? := hf 1 _ rfl
    rw [c9] at g1
    have hx : ∀ i, i < 2 → ∃ y, xs[i]? = some y := fun i hi => ⟨_, List.getElem?_eq_getElem (by rw [hxl]; exact hi)⟩
    obtain ⟨y0, e0⟩ := hx 0 (by omega)
    rw [e0] at g0
    obtain ⟨n0, q0, _, hw⟩ := DataW.trod_int Tryz.underlying3 g0
    obtain ⟨y1, e1⟩ := hx 1 (by omega)
    rw [e1] at g1
    simp at q0 g1
    obtain ⟨l, A, c, rfl, k1, k2, k3, k4⟩ := open_il g1
    subst q0
    exact ⟨⟨n0, l⟩, A, c, rfl, k1, k2, k3, i64_of_wf hw, k4⟩
theorem StepsS.push {w : World} {x : StepD} {A : Option Addr} {c : Nat} (h1 : Sl w w.heap.size A (x.args.map intC)) (h2 : x.args.length ≤ c) : ∀ {xs : List StepD} {cs : List Value}, StepsS w xs cs → StepsS w (xs ++ [x]) (cs ++ [.int .i64 x.kind, .slice A x.args.length c])
  | [], cs, h => by
    have : cs = [] := h
    subst this
    exact ⟨A, c, [], rfl, h1, h2, rfl⟩
  | y :: xs, cs, ⟨A', c', cs', e, k1, k2, k3⟩ => by
    subst e
    exact ⟨A', c', _, rfl, k1, k2, StepsS.push h1 h2 k3⟩
theorem stp_read {W : World} {a : Addr} {len n : Nat} {D : Nat → DataW H} {Pl : Nat → List MemPlace}
    (h : ∀ i, i < len → ∃ cs', W.cells? 0 (a.add (i * Tryz.prog.cellsOf 67)) (Tryz.prog.cellsOf 67) = some cs' ∧ DataW.trod enc Tryz.prog W 0 (fun _ => true) true n 67 cs' = some (D i, Pl i)) :
    ∀ k, k ≤ len → ∃ (Cs : List StepD) (ms : List Value), Cs.length = k ∧ StepsS W Cs ms ∧ (∀ C ∈ Cs, C.args.length ≤ maxLen ∧ I64 C.kind ∧ ∀ n ∈ C.args, I64 n) ∧ ∀ j u, ms[j]? = some u → W.cell? (a.add j) = some u := by
  have ct : Tryz.prog.cellsOf 67 = 2 := by kernel_rfl
  intro k
  induction k with
  | zero => exact fun _ => ⟨[], [], rfl, rfl, (fun C hC => by cases hC), fun j u hu => by simp at hu⟩
  | succ k ih =>
    intro hk
    obtain ⟨Cs, ms, hl, hS, hL, hc⟩ := ih (by omega)
    obtain ⟨cs, h1, h2⟩ := h k (by omega)
    rw [ct] at h1
    obtain ⟨_, hcl, hat⟩ := World.cells?_some h1
    obtain ⟨C, A, c, rfl, k1, k2, k3⟩ := stp_cells h2 hcl
    have hcc : ms.length = k * 2 := by rw [hS.len, hl]
    refine ⟨Cs ++ [C], _, by simp [hl], StepsS.push k1 k2 hS, fun C' hC' => ?_, fun j u hu => ?_⟩
    · rcases List.mem_append.1 hC' with hC' | hC'
      · exact hL C' hC'
      · rw [List.mem_singleton] at hC'; rw [hC']; exact k3
    · by_cases hj : j < k * 2
      · rw [List.getElem?_append_left (by omega)] at hu
        exact hc j u hu
      · rw [List.getElem?_append_right (by omega), hcc] at hu
        have hj5 : j - k * 2 < 2 := by
          have := (List.getElem?_eq_some_iff.1 hu).1
          simp at this
          omega
        have := hat (j - k * 2) hj5
        rw [hu, Go.Deep.add_add, show k * 2 + (j - k * 2) = j by omega] at this
        exact this
/-- The bounds of a script that a row hands over. -/
structure ScriptB (S : ScriptD) : Prop where
  lens : ScriptL S
  steps : S.steps.length * 32 ≤ 140737488355328
  texts : S.texts.length * 16 ≤ 140737488355328
  i64 : ∀ C ∈ S.steps, I64 C.kind ∧ ∀ n ∈ C.args, I64 n
set_option maxRecDepth 100000 in
theorem open_script {W : World} {v : Value} {base : Nat} {d : DataW H} {ps : List MemPlace} (hv : Value.okWide Tryz.prog W .any base 27 v) (h : DataW.Trod enc Tryz.prog W 0 (fun _ => true) true 27 v d ps)
    (hwt : ∀ n ∈ d.weights Tryz.prog 27, n ≤ reachBytes) :
    ∃ S : ScriptD, ScriptS W S v ∧ ScriptB S := by
  have c3 : Tryz.prog.cellsOf 3 = 1 := by kernel_rfl
  have c23 : Tryz.prog.cellsOf 23 = 6 := by kernel_rfl
  have c24 : Tryz.prog.cellsOf 24 = 1 := by kernel_rfl
  have c25 : Tryz.prog.cellsOf 25 = 1 := by kernel_rfl
  have c27 : Tryz.prog.cellsOf 27 = 8 := by kernel_rfl
  have b67 : Tryz.prog.bytesOf 67 = 32 := by kernel_rfl
  obtain ⟨cs, rfl, hcs⟩ := okWide_struct Tryz.underlying27 hv
  obtain ⟨fuel, h2⟩ := h
  rw [c27] at hcs
  obtain ⟨xs, m, _, hd, _, hxl, hf⟩ := DataW.trod_struct Tryz.underlying27 h2
  have hd := congrArg Prod.fst hd
  simp only at hd
  subst hd
  obtain ⟨l⟩ := cs
  match l, hcs, hf with
  | [v0, v1, v2, v3, v4, v5, v6, v7], _, hf =>
    have g0 : DataW.trod enc Tryz.prog W 0 (fun _ => true) true m 23 (([v0, v1, v2, v3, v4, v5, v6, v7].drop 0).take (Tryz.prog.cellsOf 23)) = xs[0]? := hf 0 _ rfl
    have g1 : DataW.trod enc Tryz.prog W 0 (fun _ => true) true m 24 (([v0, v1, v2, v3, v4, v5, v6, v7].drop 6).take (Tryz.prog.cellsOf 24)) = xs[1]? := hf 1 _ rfl
    have g2 : DataW.trod enc Tryz.prog W 0 (fun _ => true) true m 25 (([v0, v1, v2, v3, v4, v5, v6, v7].drop 7).take (Tryz.prog.cellsOf 25)) = xs[2]? := hf 2 _ rfl
    rw [c23] at g0
    rw [c24] at g1
    rw [c25] at g2
    have hx : ∀ i, i < 3 → ∃ y, xs[i]? = some y := fun i hi => ⟨_, List.getElem?_eq_getElem (by rw [hxl]; exact hi)⟩
    obtain ⟨y0, e0⟩ := hx 0 (by omega)
    obtain ⟨y1, e1⟩ := hx 1 (by omega)
    obtain ⟨y2, e2⟩ := hx 2 (by omega)
    rw [e0] at g0; rw [e1] at g1; rw [e2] at g2
    simp at g0 g1 g2
    obtain ⟨zs, m', _, _, _, hzl, hz⟩ := DataW.trod_struct Tryz.underlying23 g0
    have hy : ∀ i, i < 6 → ∃ y, zs[i]? = some y := fun i hi => ⟨_, List.getElem?_eq_getElem (by rw [hzl]; exact hi)⟩
    have k0 : DataW.trod enc Tryz.prog W 0 (fun _ => true) true m' 3 (([v0, v1, v2, v3, v4, v5].drop 0).take (Tryz.prog.cellsOf 3)) = zs[0]? := hz 0 _ rfl
    have k1 : DataW.trod enc Tryz.prog W 0 (fun _ => true) true m' 3 (([v0, v1, v2, v3, v4, v5].drop 1).take (Tryz.prog.cellsOf 3)) = zs[1]? := hz 1 _ rfl
    have k2 : DataW.trod enc Tryz.prog W 0 (fun _ => true) true m' 3 (([v0, v1, v2, v3, v4, v5].drop 2).take (Tryz.prog.cellsOf 3)) = zs[2]? := hz 2 _ rfl
    have k3 : DataW.trod enc Tryz.prog W 0 (fun _ => true) true m' 3 (([v0, v1, v2, v3, v4, v5].drop 3).take (Tryz.prog.cellsOf 3)) = zs[3]? := hz 3 _ rfl
    have k4 : DataW.trod enc Tryz.prog W 0 (fun _ => true) true m' 3 (([v0, v1, v2, v3, v4, v5].drop 4).take (Tryz.prog.cellsOf 3)) = zs[4]? := hz 4 _ rfl
    have k5 : DataW.trod enc Tryz.prog W 0 (fun _ => true) true m' 3 (([v0, v1, v2, v3, v4, v5].drop 5).take (Tryz.prog.cellsOf 3)) = zs[5]? := hz 5 _ rfl
    rw [c3] at k0 k1 k2 k3 k4 k5
    obtain ⟨w0, j0⟩ := hy 0 (by omega)
    obtain ⟨w1, j1⟩ := hy 1 (by omega)
    obtain ⟨w2, j2⟩ := hy 2 (by omega)
    obtain ⟨w3, j3⟩ := hy 3 (by omega)
    obtain ⟨w4, j4⟩ := hy 4 (by omega)
    obtain ⟨w5, j5⟩ := hy 5 (by omega)
    rw [j0] at k0; rw [j1] at k1; rw [j2] at k2; rw [j3] at k3; rw [j4] at k4; rw [j5] at k5
    obtain ⟨n0, q0, _, _⟩ := DataW.trod_int Tryz.underlying3 k0
    obtain ⟨n1, q1, _, _⟩ := DataW.trod_int Tryz.underlying3 k1
    obtain ⟨n2, q2, _, _⟩ := DataW.trod_int Tryz.underlying3 k2
    obtain ⟨n3, q3, _, _⟩ := DataW.trod_int Tryz.underlying3 k3
    obtain ⟨n4, q4, _, _⟩ := DataW.trod_int Tryz.underlying3 k4
    obtain ⟨n5, q5, _, _⟩ := DataW.trod_int Tryz.underlying3 k5
    simp at q0 q1 q2 q3 q4 q5
    subst q0 q1 q2 q3 q4 q5
    obtain ⟨T, A, tc, rfl, t1, t2, t3, t4, t5⟩ := open_sl g1
    have htx : T.length * 16 ≤ 140737488355328 := by
      have := reachBytes_lt
      have := t5 reachBytes fun m hm => hwt _ (by
        simp only [DataW.weights, Tryz.underlying27]
        exact DataW.weights_mem_each (j := 1) (t := 24) (d := y1.1) rfl (by rw [List.getElem?_map, e1]; rfl) _ hm)
      omega
    rcases Go.Deep.open_slice Tryz.underlying25 g2 with ⟨h0, _⟩ | ⟨a', len', cap', m2, n, D, Pl, hcs, _, hl, hm, hmm, hy2, hi⟩
    · simp only [List.cons.injEq, and_true] at h0
      subst h0
      exact ⟨⟨[n0, n1, n2, n3, n4, n5], T, []⟩, ⟨n0, n1, n2, n3, n4, n5, A, tc, none, 0, rfl, rfl, t1, ⟨[], .inl rfl, rfl⟩, t2, Nat.le_refl _⟩, ⟨t3, Nat.zero_le _, t4, fun x hx => (by cases hx)⟩, by simp, htx, fun x hx => by cases hx⟩
    · simp only [List.cons.injEq, and_true] at hcs
      simp only [if_true] at hmm
      subst hcs
      obtain ⟨Cs, ms, ho, hS, hL, hc⟩ := stp_read (fun i hil => hi i (by omega)) len' (Nat.le_refl _)
      refine ⟨⟨[n0, n1, n2, n3, n4, n5], T, Cs⟩, ⟨n0, n1, n2, n3, n4, n5, A, tc, some a', cap', by rw [ho]; rfl, rfl, t1, ⟨ms, sl_of_cells hc, hS⟩, t2, (by show Cs.length ≤ _; omega)⟩, ⟨t3, (by show Cs.length ≤ _; omega), t4, fun x hx => (hL x hx).1⟩, ?_, htx, fun x hx => (hL x hx).2⟩
      have hwn : (len' + (m2 - len')) * 32 ≤ reachBytes := by
        refine hwt _ ?_
        simp only [DataW.weights, Tryz.underlying27]
        refine DataW.weights_mem_each (j := 2) (t := 25) (d := y2.1) rfl (by rw [List.getElem?_map, e2]; rfl) _ ?_
        rw [hy2]
        simp [DataW.weights, Tryz.underlying25, b67]
      have := reachBytes_lt
      show Cs.length * 32 ≤ _
      rw [ho]
      omega
end
end Go.Proofs.YtdfhbnfhkckkbaaGreatDoor
