/-
  What the rows of this seat share: from a row's reading of its arguments to lists, from the listed table to the walk's fact, and back from 'nothing old has turned' to the row's post.
-/
import Derived.Test.YtognbkmamhgkeaaDoorRows
import Derived.Test.YtognbkmamhgkeaaDoorW15
import Derived.Test.YtognbkmamhgkeaaDoorW7
import Derived.ProofKit
import Derived.LaidMore
import Derived.Deep.Slices
import Derived.Lib.LaidTab
import Derived.Stop.Joined
namespace Go.Proofs.YtognbkmamhgkeaaDoor
open Go Go.ChangeShapes Go.WideShapes Go.ChangeAt Go.RowKit Go.Walks

theorem own : ownKnob Tryd.prog.godebug = none := by kernel_rfl
theorem laidOut : laidOutB Tryd.prog = true := by kernel_rfl

def laidT : List (String × DataW Unit) := [("math/bits.deBruijn32tab", Rows.laid_math_bits_deBruijn32tab)]

theorem tabG : Tryd.prog.globalNamed "math/bits.deBruijn32tab" = some 0 := by kernel_rfl
theorem door_met (os : Os) (args : Array Value) : laidMetH Tryd.prog laidT ((World.doorLaid Tryd.prog 400 os).forCall (fun _ _ => 0) ⟨#[], args, []⟩).memory :=
  laidMetH_of_parts3 (fuel := 8) (laidMet_of_run' 8 (by kernel_rfl) (by kernel_rfl)) (by kernel_rfl) (by kernel_rfl)

section
variable {H : Type} {enc : TypeId × Value → H}
/-- Arguments read, in a world that has only grown, as they did. -/
theorem trodAll_grown {P : Program} (hl : laidOutB P = true) {W W' : World} (hb : Below W.heap.size W W') {sp : Nat → Bool} : ∀ {ts : List TypeId} {vs : List Value} {ds : List (DataW H)} {ps : List MemPlace},
    (∀ t ∈ ts, P.readableRec t = true ∧ t < P.types.size) → DataW.TrodAll enc P W 0 (fun _ => true) true ts vs ds ps → (∀ p ∈ ps, p.block < W.heap.size) → (∀ p ∈ ps, sp p.block = true) → DataW.TrodAll enc P W' 0 sp true ts vs ds ps
  | [], [], [], _, _, h, _, _ => h
  | [], [], _ :: _, _, _, h, _, _ => h.elim
  | [], _ :: _, _, _, _, h, _, _ => h.elim
  | _ :: _, [], _, _, _, h, _, _ => h.elim
  | _ :: _, _ :: _, [], _, _, h, _, _ => h.elim
  | t :: ts, v :: vs, d :: ds, ps, ht, h, hlt, hs => by
    obtain ⟨p, q, h1, h2, rfl⟩ := h
    have hr := ht t (by simp)
    exact ⟨p, q, WideElems.Trod_stays hl hr.1 hr.2 h1 (fun x hx => hb.same (hlt x (by simp [hx]))) (fun x hx => hs x (by simp [hx])),
      trodAll_grown hl hb (fun t h => ht t (by simp [h])) h2 (fun x hx => hlt x (by simp [hx])) (fun x hx => hs x (by simp [hx])), rfl⟩

/-- A law that returned true, where nothing old has turned, meets its row's post. -/
theorem true_post {f : Func} {s : ChangeSpec} {W W' : World} {args : Array Value} {ds : List (DataW H)} {before : List MemPlace} (hvars : s.vars = []) (hrt : f.resultTypes = #[4])
    (hfn : s.fn H (ds ++ []) = { results := [.lit (.bool true)], args := ds }) (hpar : ∀ t ∈ f.params.toList, Tryd.prog.readableRec t = true ∧ t < Tryd.prog.types.size)
    (hW : DataW.Whole enc Tryd.prog f.params.toList s.vars false W args.toList ds [] before) (hb : Below W.heap.size W W') : s.post enc Tryd.prog f false true false false W args (.bool true) W' := by
  have hlt : ∀ p ∈ before, p.block < W.heap.size := fun p hp => hW.lt p hp
  obtain ⟨p, q, hA, hV, rfl, hz, _⟩ := id hW
  rw [hvars] at hV
  obtain ⟨-, rfl⟩ := trodVars_none hV
  have hrs : ∀ (b : Nat) (sp : Nat → Bool) (hd : Bool), DataW.TrodAll enc Tryd.prog W' b sp hd f.resultTypes.toList ((Value.bool true).resultList f.resultTypes.size) (s.fn H (ds ++ [])).results [] := by
    intro b sp hd
    rw [hfn, hrt]
    exact trodAll_mk1 (shut_bool Tryd.underlying4 true)
  have hargs : ∀ sp : Nat → Bool, (∀ x ∈ p ++ [], sp x.block = true) → DataW.TrodAll enc Tryd.prog W' 0 sp true f.params.toList args.toList (s.fn H (ds ++ [])).args p := by
    intro sp hsp
    rw [hfn]
    exact trodAll_grown laidOut hb hpar hA (fun x hx => hlt x (by simpa using hx)) (fun x hx => hsp x (by simpa using hx))
  have hvs : ∀ sp : Nat → Bool, DataW.TrodVars enc Tryd.prog W' sp s.vars (s.fn H (ds ++ [])).vars [] := by
    intro sp; rw [hvars, hfn]; rfl
  refine ⟨ds, [], p ++ [], [], p, [], hW, hrs _ _ _, hargs _ (fun x hx => by simpa using hlt x hx), hvs _, World.keptBut_mono (fun x hx => ⟨hx, .inr (by simpa using hx)⟩) (hb.frame (· ∈ p ++ [])), fun _ => ?_⟩
  refine ⟨ok_one hrt rfl (okWide_bool_mk Tryd.underlying4 _), _, _, ([] ++ p) ++ [], ⟨[] ++ p, [], trodAll_append (hargs _ (fun _ _ => rfl)) (hrs _ _ _), hvs _, rfl, ?_, fun h => by cases h⟩, fun x hx _ => by simpa using hx⟩
  intro b off hp
  have hin : MemPlace.cell b off ∈ p ++ [] := by simpa using hp
  rw [hb.frozen (hlt _ hin)]
  exact hz b off hin

theorem tab_of_laid {W : World} (h : laidMetH Tryd.prog laidT W) : Tab W := by
  rw [MakeChecks.laidMetH_plain _ _ _ (by kernel_rfl)] at h
  have hT : Lib.TabIs Tryd.prog W "math/bits.deBruijn32tab" .u8 (tabN.map fun n : Nat => (n : Int)) :=
    Lib.tabIs_of_head (zs := tabN.map fun n : Nat => (n : Int)) (rest := []) (g := 0) (t := 85) (e := 5) (n := 32) tabG (by kernel_rfl) Tryd.underlying85 Tryd.underlying5 (by kernel_rfl) (by kernel_rfl) h
  have hc : ∀ j n, tabN[j]? = some n → W.cell? ⟨0, j, none⟩ = some (.int .u8 (n : Nat)) := by
    intro j n hj
    have hjl : j < tabN.length := (List.getElem?_eq_some_iff.1 hj).1
    have := hT.cell tabG j (by simpa using hjl)
    rw [this]
    simp [List.getD, hj]
  refine ⟨?_, hc⟩
  have h0 := hc 0 0 rfl
  rcases Nat.lt_or_ge 0 W.heap.size with h | h
  · exact h
  · simp only [World.cell?] at h0
    rw [Array.getElem?_eq_none h] at h0
    cases h0

/-- The cells of k operations, read. -/
theorem ops_read {W : World} {a : Addr} {len n : Nat} {D : Nat → DataW H} {Pl : Nat → List MemPlace}
    (h : ∀ i, i < len → ∃ cs', W.cells? 0 (a.add (i * Tryd.prog.cellsOf 38)) (Tryd.prog.cellsOf 38) = some cs' ∧ DataW.trod enc Tryd.prog W 0 (fun _ => true) true n 38 cs' = some (D i, Pl i)) :
    ∀ k, k ≤ len → ∃ ops : List OpN, ops.length = k ∧ ∀ j u, (opCells ops)[j]? = some u → W.cell? (a.add j) = some u := by
  have c38 : Tryd.prog.cellsOf 38 = 4 := by kernel_rfl
  have c3 : Tryd.prog.cellsOf 3 = 1 := by kernel_rfl
  have c4 : Tryd.prog.cellsOf 4 = 1 := by kernel_rfl
  intro k
  induction k with
  | zero => exact fun _ => ⟨[], rfl, fun j u hu => by simp [opCells] at hu⟩
  | succ k ih =>
    intro hk
    obtain ⟨ops, hl, hc⟩ := ih (by omega)
    obtain ⟨cs, h1, h2⟩ := h k (by omega)
    rw [c38] at h1
    obtain ⟨_, hcl, hat⟩ := World.cells?_some h1
    obtain ⟨xs, m, _, _, _, hxl, hf⟩ := DataW.trod_struct Tryd.underlying38 h2
    match cs, hcl, hat, hf with
    | [v0, v1, v2, v3], _, hat, hf =>
      have g0 : DataW.trod enc Tryd.prog W 0 (fun _ => true) true m 3 (([v0, v1, v2, v3].drop 0).take (Tryd.prog.cellsOf 3)) = xs[0]? := hf 0 _ rfl
      have g1 : DataW.trod enc Tryd.prog W 0 (fun _ => true) true m 4 (([v0, v1, v2, v3].drop 1).take (Tryd.prog.cellsOf 4)) = xs[1]? := hf 1 _ rfl
      have g2 : DataW.trod enc Tryd.prog W 0 (fun _ => true) true m 3 (([v0, v1, v2, v3].drop 2).take (Tryd.prog.cellsOf 3)) = xs[2]? := hf 2 _ rfl
      have g3 : DataW.trod enc Tryd.prog W 0 (fun _ => true) true m 3 (([v0, v1, v2, v3].drop 3).take (Tryd.prog.cellsOf 3)) = xs[3]? := hf 3 _ rfl
      rw [c3] at g0 g2 g3
      rw [c4] at g1
      have hx : ∀ i, i < 4 → ∃ y, xs[i]? = some y := fun i hi => ⟨_, List.getElem?_eq_getElem (by rw [hxl]; exact hi)⟩
      obtain ⟨y0, e0⟩ := hx 0 (by omega)
      obtain ⟨y1, e1⟩ := hx 1 (by omega)
      obtain ⟨y2, e2⟩ := hx 2 (by omega)
      obtain ⟨y3, e3⟩ := hx 3 (by omega)
      rw [e0] at g0; rw [e1] at g1; rw [e2] at g2; rw [e3] at g3
      obtain ⟨n0, q0, _, _⟩ := DataW.trod_int Tryd.underlying3 g0
      obtain ⟨n1, q1, _⟩ := DataW.trod_bool Tryd.underlying4 g1
      obtain ⟨n2, q2, _, _⟩ := DataW.trod_int Tryd.underlying3 g2
      obtain ⟨n3, q3, _, _⟩ := DataW.trod_int Tryd.underlying3 g3
      simp at q0 q1 q2 q3
      subst q0; subst q1; subst q2; subst q3
      refine ⟨ops ++ [⟨n0, n1, n2, n3⟩], by simp [hl], fun j u hu => ?_⟩
      have ho : (opCells ops).length = k * 4 := by rw [opCells_len, hl]
      have e : opCells (ops ++ [⟨n0, n1, n2, n3⟩]) = opCells ops ++ [.int .i64 n0, .bool n1, .int .i64 n2, .int .i64 n3] := by simp [opCells, OpN.cells]
      rw [e] at hu
      by_cases hj : j < k * 4
      · rw [List.getElem?_append_left (by omega)] at hu
        exact hc j u hu
      · rw [List.getElem?_append_right (by omega), ho] at hu
        have hj4 : j - k * 4 < 4 := by
          have := (List.getElem?_eq_some_iff.1 hu).1
          simpa using this
        have := hat (j - k * 4) hj4
        rw [hu, Go.Deep.add_add, show k * 4 + (j - k * 4) = j by omega] at this
        exact this

/-- A slice of operations, opened. -/
theorem open_ops {W : World} {fuel len cap : Nat} {a : Option Addr} {x : DataW H × List MemPlace} (h : DataW.trod enc Tryd.prog W 0 (fun _ => true) true fuel 22 [.slice a len cap] = some x) :
    ∃ ops : List OpN, len = ops.length ∧ Sl W W.heap.size a (opCells ops) ∧ len ≤ maxLen := by
  rcases Go.Deep.open_slice Tryd.underlying22 h with ⟨h0, _⟩ | ⟨a', len', cap', m, n, D, Pl, hcs, _, hl, hm, hmm, hx, hi⟩
  · simp only [List.cons.injEq, Value.slice.injEq] at h0
    obtain ⟨⟨rfl, rfl, rfl⟩, -⟩ := h0
    exact ⟨[], rfl, .inl rfl, Nat.zero_le _⟩
  · simp only [List.cons.injEq, Value.slice.injEq] at hcs
    obtain ⟨⟨rfl, rfl, rfl⟩, -⟩ := hcs
    simp only [if_true] at hmm
    obtain ⟨ops, ho, hc⟩ := ops_read (fun i hil => hi i (by omega)) len (Nat.le_refl _)
    refine ⟨ops, ho.symm, ?_, by omega⟩
    by_cases hz : opCells ops = []
    · exact .inl hz
    · have hpos : 0 < (opCells ops).length := List.length_pos_iff.2 hz
      have h0 := hc 0 _ (List.getElem?_eq_getElem hpos)
      obtain ⟨b, o, sp⟩ := a'
      have hsp : sp = none := by simpa [Addr.add] using World.cell?_spot h0
      subst hsp
      refine .inr ⟨b, o, rfl, ?_, fun j u hu => ?_⟩
      · rcases Nat.lt_or_ge b W.heap.size with hb | hb
        · exact hb
        · simp only [Addr.add, World.cell?, if_true] at h0
          rw [Array.getElem?_eq_none hb] at h0
          cases h0
      · have := hc j u hu
        have e : (⟨b, o, none⟩ : Addr).add j = ⟨b, o + j, none⟩ := by unfold Addr.add; split <;> simp_all
        rw [e] at this
        exact this
end
end Go.Proofs.YtognbkmamhgkeaaDoor
