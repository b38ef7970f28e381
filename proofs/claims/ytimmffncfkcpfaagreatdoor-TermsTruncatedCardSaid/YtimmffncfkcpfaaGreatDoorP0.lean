/-
  What the rows of this seat share: from the listed variables to the walk's facts, and back from 'nothing old has turned' to the row's post.
-/
import Derived.Test.YtimmffncfkcpfaaGreatDoorRows
import Derived.Test.YtimmffncfkcpfaaGreatDoorW11
import Derived.ProofKit
import Derived.LaidMore
import Derived.LaidLaws
import Derived.Lib.LaidU8
import Derived.Deep.Slices
import Derived.Lib.LaidTab
import Derived.Stop.Joined
import Derived.OpenShut
namespace Go.Proofs.YtimmffncfkcpfaaGreatDoor
open Go Go.ChangeShapes Go.WideShapes Go.ChangeAt Go.RowKit Go.Walks

theorem own : ownKnob Tryz.prog.godebug = none := by kernel_rfl
theorem laidOut : laidOutB Tryz.prog = true := by kernel_rfl

def laidL : List (String × DataW Unit) := [("math/bits.deBruijn32tab", Rows.laid_math_bits_deBruijn32tab), ("math/bits.deBruijn64tab", Rows.laid_math_bits_deBruijn64tab), ("internal/strconv.uint64pow10", Rows.laid_internal_strconv_uint64pow10), ("strconv.ErrRange", Rows.laid_strconv_ErrRange), ("strconv.ErrSyntax", Rows.laid_strconv_ErrSyntax), ("solvent/contractlang.limits", Rows.laid_solvent_contractlang_limits)]
theorem door_met (os : Os) (args : Array Value) : laidMetH Tryz.prog laidL ((World.doorLaid Tryz.prog 400 os).forCall (fun _ _ => 0) ⟨#[], args, []⟩).memory :=
  laidMetH_of_parts3 (fuel := 8) (laidMet_of_run' 8 (by kernel_rfl) (by kernel_rfl)) (by kernel_rfl) (by kernel_rfl)

theorem errG : Tryz.prog.globalNamed "strconv.ErrSyntax" = some 2 := by kernel_rfl
theorem rngG : Tryz.prog.globalNamed "strconv.ErrRange" = some 3 := by kernel_rfl
theorem limG : Tryz.prog.globalNamed "solvent/contractlang.limits" = some 0 := by kernel_rfl
theorem tabG : Tryz.prog.globalNamed "math/bits.deBruijn64tab" = some 6 := by kernel_rfl
theorem var_row {w : World} {n : String} {g : Nat} {cs : Array Value} (hg : Tryz.prog.globalNamed n = some g) (h : w.var? Tryz.prog n = some cs) : ∃ t fz, w.heap[g]? = some (.cells cs t fz) := by
  unfold World.var? at h
  rw [hg] at h
  simp only [Option.bind_some] at h
  split at h
  · rename_i hh
    injection h with h
    subst h
    exact ⟨_, _, hh⟩
  · cases h
theorem lim_one {H : Type} {enc : TypeId × Value → H} {W : World} {b : Nat} {sp : Nat → Bool} {hd : Bool} {fuel : Nat} {u v x : Value} {wd : Bytes} {lo hi : Int} {p : List MemPlace}
    (h : DataW.trod enc Tryz.prog W b sp hd fuel 126 [u, v, x] = some (.agg [.lit (.string wd), .lit (.int .i64 lo), .lit (.int .i64 hi)], p)) : u = strV wd ∧ v = intC lo ∧ x = intC hi := by
  have c3 : Tryz.prog.cellsOf 3 = 1 := by kernel_rfl
  have c9 : Tryz.prog.cellsOf 9 = 1 := by kernel_rfl
  obtain ⟨xs, m, _, hx, _, hxl, hf⟩ := DataW.trod_struct Tryz.underlying126 h
  have g0 : DataW.trod enc Tryz.prog W b sp hd m 9 (([u, v, x].drop 0).take (Tryz.prog.cellsOf 9)) = xs[0]? := hf 0 _ rfl
  have g1 : DataW.trod enc Tryz.prog W b sp hd m 3 (([u, v, x].drop 1).take (Tryz.prog.cellsOf 3)) = xs[1]? := hf 1 _ rfl
  have g2 : DataW.trod enc Tryz.prog W b sp hd m 3 (([u, v, x].drop 2).take (Tryz.prog.cellsOf 3)) = xs[2]? := hf 2 _ rfl
  rw [c3] at g1 g2
  rw [c9] at g0
  match xs, hxl with
  | [y0, y1, y2], _ =>
    have hx := congrArg Prod.fst hx
    injection hx with hx
    simp only [List.map_cons, List.map_nil, List.cons.injEq, and_true] at hx
    obtain ⟨h0, h1, h2⟩ := hx
    obtain ⟨s, q0, e0, -⟩ := DataW.trod_string Tryz.underlying9 g0
    obtain ⟨n1, q1, e1, -⟩ := DataW.trod_int Tryz.underlying3 g1
    obtain ⟨n2, q2, e2, -⟩ := DataW.trod_int Tryz.underlying3 g2
    rw [e0] at h0
    rw [e1] at h1
    rw [e2] at h2
    injection h0 with h0
    injection h0 with h0
    injection h1 with h1
    injection h1 with _ h1
    injection h2 with h2
    injection h2 with _ h2
    simp at q0 q1 q2
    refine ⟨?_, by rw [q1, h1]; rfl, by rw [q2, h2]; rfl⟩
    rw [q0, h0]; rfl
set_option maxRecDepth 100000 in
theorem lim_of_laid {W : World} (h : laidMetH Tryz.prog laidL W) : ∃ t fz, W.heap[0]? = some (.cells limCells.toArray t fz) := by
  rw [MakeChecks.laidMetH_plain _ _ _ (by kernel_rfl)] at h
  obtain ⟨g, t, cs, fuel, p, hg, ht, hv, hd⟩ := Lib.laidMet.reads h (n := "solvent/contractlang.limits") (d := Rows.laid_solvent_contractlang_limits) (by simp [laidL])
  obtain rfl := Option.some.inj (limG.symm.trans hg)
  obtain rfl := Option.some.inj ((show (Tryz.prog.globals[0]?).map (·.type) = some 127 by kernel_rfl).symm.trans ht)
  obtain ⟨xs, m, -, hx, hcl, hl, hat⟩ := DataW.trod_array Tryz.underlying127 hd
  have c87 : Tryz.prog.cellsOf 126 = 3 := by kernel_rfl
  have c88 : Tryz.prog.cellsOf 127 = 18 := by kernel_rfl
  obtain ⟨t, fz, hr⟩ := var_row limG hv
  refine ⟨t, fz, ?_⟩
  rw [hr]
  have hlen : cs.toList.length = 18 := by rw [← c88]; exact hcl
  have hcs : cs = cs.toList.toArray := by simp
  rw [hcs]
  generalize cs.toList = l at hat hlen
  rw [c87] at hat
  have hx := congrArg Prod.fst hx
  injection hx with hx
  match l, hlen, xs, hl with
  | [v0, v1, v2, v3, v4, v5, v6, v7, v8, v9, v10, v11, v12, v13, v14, v15, v16, v17], _, [y0, y1, y2, y3, y4, y5], _ =>
    simp only [List.map_cons, List.map_nil, List.cons.injEq, and_true] at hx
    obtain ⟨e0, e1, e2, e3, e4, e5⟩ := hx
    obtain ⟨a0, a1, a2⟩ := lim_one (p := y0.2) ((hat 0 (by omega)).trans (by rw [e0]; rfl))
    obtain ⟨a3, a4, a5⟩ := lim_one (p := y1.2) ((hat 1 (by omega)).trans (by rw [e1]; rfl))
    obtain ⟨a6, a7, a8⟩ := lim_one (p := y2.2) ((hat 2 (by omega)).trans (by rw [e2]; rfl))
    obtain ⟨a9, a10, a11⟩ := lim_one (p := y3.2) ((hat 3 (by omega)).trans (by rw [e3]; rfl))
    obtain ⟨a12, a13, a14⟩ := lim_one (p := y4.2) ((hat 4 (by omega)).trans (by rw [e4]; rfl))
    obtain ⟨a15, a16, a17⟩ := lim_one (p := y5.2) ((hat 5 (by omega)).trans (by rw [e5]; rfl))
    subst a0 a1 a2 a3 a4 a5 a6 a7 a8 a9 a10 a11 a12 a13 a14 a15 a16 a17
    rfl
theorem gl_of_laid {W : World} (h0 : laidMetH Tryz.prog laidL W) : Gl W := by
  have h := h0
  rw [MakeChecks.laidMetH_plain _ _ _ (by kernel_rfl)] at h
  have h1 := Lib.laidMet.reads h (n := "strconv.ErrSyntax") (d := Rows.laid_strconv_ErrSyntax) (by simp [laidL])
  have h2 := Lib.laidMet.reads h (n := "strconv.ErrRange") (d := Rows.laid_strconv_ErrRange) (by simp [laidL])
  have h3 := Lib.laidMet.reads h (n := "internal/strconv.uint64pow10") (d := Rows.laid_internal_strconv_uint64pow10) (by simp [laidL])
  have h4 := Lib.laidMet.reads h (n := "math/bits.deBruijn64tab") (d := Rows.laid_math_bits_deBruijn64tab) (by simp [laidL])
  refine ⟨?_, ?_, ?_, lim_of_laid h0, ?_⟩
  · obtain ⟨g, t, cs, fuel, p, hg, ht, hv, hd⟩ := h1
    obtain rfl := Option.some.inj (errG.symm.trans hg)
    obtain rfl := Option.some.inj ((show (Tryz.prog.globals[2]?).map (·.type) = some 89 by kernel_rfl).symm.trans ht)
    obtain ⟨fuel', u, v, hcs, -, -⟩ := iface_of_trod Tryz.underlying89 hd
    refine ⟨.iface u v, ?_, .inr ⟨u, v, rfl⟩⟩
    rw [World.var?_cell errG hv 0]
    have : cs[0]? = cs.toList[0]? := by simp
    rw [this, hcs]; rfl
  · obtain ⟨g, t, cs, fuel, p, hg, ht, hv, hd⟩ := h2
    obtain rfl := Option.some.inj (rngG.symm.trans hg)
    obtain rfl := Option.some.inj ((show (Tryz.prog.globals[3]?).map (·.type) = some 89 by kernel_rfl).symm.trans ht)
    obtain ⟨fuel', u, v, hcs, -, -⟩ := iface_of_trod Tryz.underlying89 hd
    refine ⟨.iface u v, ?_, .inr ⟨u, v, rfl⟩⟩
    rw [World.var?_cell rngG hv 0]
    have : cs[0]? = cs.toList[0]? := by simp
    rw [this, hcs]; rfl
  · obtain ⟨g, t, cs, fuel, p, hg, ht, hv, hd⟩ := h3
    obtain rfl := Option.some.inj (powG.symm.trans hg)
    obtain rfl := Option.some.inj ((show (Tryz.prog.globals[4]?).map (·.type) = some 159 by kernel_rfl).symm.trans ht)
    have hc := Lib.cells_of_tab (k := .u64) (zs := Lib.pow10Tab) (n := 20) (e := 147) Tryz.underlying159 Tryz.underlying147 (by kernel_rfl) (by kernel_rfl) (show DataW.trod _ _ _ _ _ _ _ _ _ = some (Lib.tabData .u64 Lib.pow10Tab, p) from hd)
    unfold Lib.TabIs
    rw [hv, ← hc]
  · obtain ⟨g, t, cs, fuel, p, hg, ht, hv, hd⟩ := h4
    obtain ⟨t, fz, hr⟩ := var_row tabG hv
    exact (Array.getElem?_eq_some_iff.1 hr).1
section
variable {H : Type} {enc : TypeId × Value → H}
/-- Arguments read, in a world that has only grown, as they did. -/
theorem trodAll_grown {P : Program} (hl : laidOutB P = true) {W W' : World} (hb : Below W.heap.size W W') {sp : Nat → Bool} : ∀ {ts : List TypeId} {vs : List Value} {ds : List (DataW H)} {ps : List MemPlace},
    (∀ t ∈ ts, P.readableRec t = true ∧ t < P.types.size) → DataW.TrodAll enc P W 0 (fun _ => true) true ts vs ds ps → (∀ p ∈ ps, p.block < W.heap.size) → (∀ p ∈ ps, sp p.block = true) → DataW.TrodAll enc P W' 0 sp true ts vs ds ps
  | [], [], [], _, _, h, _, _ => h
  | [], [], _ :: _, _, _, h, _, _ => h.elim
  | [], _ :: _, _, _, _, h, _, _ => h.elim
  | _ :: _, [], _, _, _, h, _, _ => h.elim
  | _ :: _, _ :: _, [], _, _, h, _, _ => h.elim
  | t :: ts, v :: vs, d :: ds, ps, ht, h, hlt, hs => by
    obtain ⟨p, q, h1, h2, rfl⟩ := h
    have hr := ht t (by simp)
    exact ⟨p, q, WideElems.Trod_stays hl hr.1 hr.2 h1 (fun x hx => hb.same (hlt x (by simp [hx]))) (fun x hx => hs x (by simp [hx])),
      trodAll_grown hl hb (fun t h => ht t (by simp [h])) h2 (fun x hx => hlt x (by simp [hx])) (fun x hx => hs x (by simp [hx])), rfl⟩

set_option maxRecDepth 100000 in
/-- A law that returned true, where nothing old has turned, meets its row's post. -/
theorem true_post {f : Func} {s : ChangeSpec} {W W' : World} {args : Array Value} {ds : List (DataW H)} {before : List MemPlace} (hvars : s.vars = []) (hrt : f.resultTypes = #[4])
    (hfn : s.fn H (ds ++ []) = { results := [.lit (.bool true)], args := ds }) (hpar : ∀ t ∈ f.params.toList, Tryz.prog.readableRec t = true ∧ t < Tryz.prog.types.size)
    (hW : DataW.Whole enc Tryz.prog f.params.toList s.vars false W args.toList ds [] before) (hb : Below W.heap.size W W') : s.post enc Tryz.prog f false true false false W args (.bool true) W' := by
  have hlt : ∀ p ∈ before, p.block < W.heap.size := fun p hp => hW.lt p hp
  obtain ⟨p, q, hA, hV, rfl, hz, _⟩ := id hW
  rw [hvars] at hV
  obtain ⟨-, rfl⟩ := trodVars_none hV
  have hrs : ∀ (b : Nat) (sp : Nat → Bool) (hd : Bool), DataW.TrodAll enc Tryz.prog W' b sp hd f.resultTypes.toList ((Value.bool true).resultList f.resultTypes.size) (s.fn H (ds ++ [])).results [] := by
    intro b sp hd
    rw [hfn, hrt]
    exact trodAll_mk1 (shut_bool Tryz.underlying4 true)
  have hargs : ∀ sp : Nat → Bool, (∀ x ∈ p ++ [], sp x.block = true) → DataW.TrodAll enc Tryz.prog W' 0 sp true f.params.toList args.toList (s.fn H (ds ++ [])).args p := by
    intro sp hsp
    rw [hfn]
    exact trodAll_grown laidOut hb hpar hA (fun x hx => hlt x (by simpa using hx)) (fun x hx => hsp x (by simpa using hx))
  have hvs : ∀ sp : Nat → Bool, DataW.TrodVars enc Tryz.prog W' sp s.vars (s.fn H (ds ++ [])).vars [] := by
    intro sp; rw [hvars, hfn]; rfl
  refine ⟨ds, [], p ++ [], [], p, [], hW, hrs _ _ _, hargs _ (fun x hx => by simpa using hlt x hx), hvs _, World.keptBut_mono (fun x hx => ⟨hx, .inr (by simpa using hx)⟩) (hb.frame (· ∈ p ++ [])), fun _ => ?_⟩
  refine ⟨ok_one hrt rfl (okWide_bool_mk Tryz.underlying4 _), _, _, ([] ++ p) ++ [], ⟨[] ++ p, [], trodAll_append (hargs _ (fun _ _ => rfl)) (hrs _ _ _), hvs _, rfl, ?_, fun h => by cases h⟩, fun x hx _ => by simpa using hx⟩
  intro b off hp
  have hin : MemPlace.cell b off ∈ p ++ [] := by simpa using hp
  rw [hb.frozen (hlt _ hin)]
  exact hz b off hin

end
end Go.Proofs.YtimmffncfkcpfaaGreatDoor
