/-
  What the rows of this seat share: from the listed variables to the walk's facts, and back from 'nothing old has turned' to the row's post.
-/
import Derived.Test.YtdfhbnfhkckkbaaGreatDoorRows
import Derived.Test.YtdfhbnfhkckkbaaGreatDoorW9
import Derived.ProofKit
import Derived.LaidMore
import Derived.LaidLaws
import Derived.Lay
import Derived.Lib.LaidU8
import Derived.Deep.Slices
import Derived.Lib.LaidTab
import Derived.Stop.Joined
import Derived.OpenShut
import Derived.SizedLaws
import Derived.ShapedOpen
namespace Go.Proofs.YtdfhbnfhkckkbaaGreatDoor
open Go Go.ChangeShapes Go.WideShapes Go.ChangeAt Go.RowKit Go.Walks

theorem own : ownKnob Tryz.prog.godebug = none := by kernel_rfl
theorem laidOut : laidOutB Tryz.prog = true := by kernel_rfl

def laidL : List (String × DataW Unit) := [("math/bits.deBruijn32tab", Rows.laid_math_bits_deBruijn32tab), ("math/bits.deBruijn64tab", Rows.laid_math_bits_deBruijn64tab), ("internal/strconv.uint64pow10", Rows.laid_internal_strconv_uint64pow10), ("unicode/utf8.acceptRanges", Rows.laid_unicode_utf8_acceptRanges), ("strconv.ErrRange", Rows.laid_strconv_ErrRange), ("strconv.ErrSyntax", Rows.laid_strconv_ErrSyntax), ("solvent/script.kinds", Rows.laid_solvent_script_kinds), ("unicode/utf8.first", Rows.laid_unicode_utf8_first)]
theorem laid_met (os : Os) (args : Array Value) : laidMetH Tryz.prog laidL ((World.laidAll Tryz.prog os laidL).forCall (fun _ _ => 0) ⟨#[], args, []⟩).memory := by
  rw [MakeChecks.laidMetH_plain _ _ _ (by kernel_rfl)]
  exact laidMet_laidAll _ (by kernel_rfl) (by kernel_rfl)

theorem errG : Tryz.prog.globalNamed "strconv.ErrSyntax" = some 5 := by kernel_rfl
theorem rngG : Tryz.prog.globalNamed "strconv.ErrRange" = some 6 := by kernel_rfl
theorem kinG : Tryz.prog.globalNamed "solvent/script.kinds" = some 0 := by kernel_rfl
theorem tabG : Tryz.prog.globalNamed "math/bits.deBruijn64tab" = some 8 := by kernel_rfl
theorem var_row {w : World} {n : String} {g : Nat} {cs : Array Value} (hg : Tryz.prog.globalNamed n = some g) (h : w.var? Tryz.prog n = some cs) : ∃ t fz, w.heap[g]? = some (.cells cs t fz) := by
  unfold World.var? at h
  rw [hg] at h
  simp only [Option.bind_some] at h
  split at h
  · rename_i hh
    injection h with h
    subst h
    exact ⟨_, _, hh⟩
  · cases h
theorem kind_one {H : Type} {enc : TypeId × Value → H} {W : World} {b : Nat} {sp : Nat → Bool} {hd : Bool} {fuel : Nat} {u v : Value} {wd : Bytes} {lo : Int} {p : List MemPlace}
    (h : DataW.trod enc Tryz.prog W b sp hd fuel 83 [u, v] = some (.agg [.lit (.string wd), .lit (.int .i64 lo)], p)) : u = strV wd ∧ v = intC lo := by
  have c3 : Tryz.prog.cellsOf 3 = 1 := by kernel_rfl
  have c9 : Tryz.prog.cellsOf 9 = 1 := by kernel_rfl
  obtain ⟨xs, m, _, hx, _, hxl, hf⟩ := DataW.trod_struct Tryz.underlying83 h
  have g0 : DataW.trod enc Tryz.prog W b sp hd m 9 (([u, v].drop 0).take (Tryz.prog.cellsOf 9)) = xs[0]? := hf 0 _ rfl
  have g1 : DataW.trod enc Tryz.prog W b sp hd m 3 (([u, v].drop 1).take (Tryz.prog.cellsOf 3)) = xs[1]? := hf 1 _ rfl
  rw [c3] at g1
  rw [c9] at g0
  match xs, hxl with
  | [y0, y1], _ =>
    have hx := congrArg Prod.fst hx
    injection hx with hx
    simp only [List.map_cons, List.map_nil, List.cons.injEq, and_true] at hx
    obtain ⟨h0, h1⟩ := hx
    obtain ⟨s, q0, e0, -⟩ := DataW.trod_string Tryz.underlying9 g0
    obtain ⟨n1, q1, e1, -⟩ := DataW.trod_int Tryz.underlying3 g1
    rw [e0] at h0
    rw [e1] at h1
    injection h0 with h0
    injection h0 with h0
    injection h1 with h1
    injection h1 with _ h1
    simp at q0 q1
    refine ⟨?_, by rw [q1, h1]; rfl⟩
    rw [q0, h0]; rfl
set_option maxRecDepth 100000 in
theorem kin_of_laid {W : World} (h : laidMetH Tryz.prog laidL W) : ∃ t fz, W.heap[0]? = some (.cells kindCells.toArray t fz) := by
  rw [MakeChecks.laidMetH_plain _ _ _ (by kernel_rfl)] at h
  obtain ⟨g, t, cs, fuel, p, hg, ht, hv, hd⟩ := Lib.laidMet.reads h (n := "solvent/script.kinds") (d := Rows.laid_solvent_script_kinds) (by simp [laidL])
  obtain rfl := Option.some.inj (kinG.symm.trans hg)
  obtain rfl := Option.some.inj ((show (Tryz.prog.globals[0]?).map (·.type) = some 84 by kernel_rfl).symm.trans ht)
  obtain ⟨xs, m, -, hx, hcl, hl, hat⟩ := DataW.trod_array Tryz.underlying84 hd
  have c87 : Tryz.prog.cellsOf 83 = 2 := by kernel_rfl
  have c88 : Tryz.prog.cellsOf 84 = 54 := by kernel_rfl
  obtain ⟨t, fz, hr⟩ := var_row kinG hv
  refine ⟨t, fz, ?_⟩
  rw [hr]
  have hlen : cs.toList.length = 54 := by rw [← c88]; exact hcl
  have hcs : cs = cs.toList.toArray := by simp
  rw [hcs]
  generalize cs.toList = l at hat hlen
  rw [c87] at hat
  have hx := congrArg Prod.fst hx
  injection hx with hx
  have hxs : xs.map Prod.fst = kindsB.map fun x => DataW.agg [.lit (.string x.1), .lit (.int .i64 (x.2 : Int))] := hx.symm.trans rfl
  congr 3
  apply List.ext_getElem?
  intro i
  by_cases hi : i < 54
  · obtain ⟨q, r, hr2, rfl⟩ : ∃ q r, r < 2 ∧ i = q * 2 + r := ⟨i / 2, i % 2, Nat.mod_lt _ (by omega), by omega⟩
    have hq : q < 27 := by omega
    obtain ⟨x, hxq⟩ : ∃ x, kindsB[q]? = some x := ⟨_, List.getElem?_eq_getElem (show q < kindsB.length from hq)⟩
    have h1 : (xs.map Prod.fst)[q]? = some (.agg [.lit (.string x.1), .lit (.int .i64 (x.2 : Int))]) := by rw [hxs, List.getElem?_map, hxq]; rfl
    rw [List.getElem?_map, Option.map_eq_some_iff] at h1
    obtain ⟨⟨y, p⟩, hy, hyx⟩ := h1
    dsimp only at hyx
    subst hyx
    have h2 := (hat q (by omega)).trans hy
    have h3 : ((l.drop (q * 2)).take 2).length = 2 := by rw [List.length_take, List.length_drop, hlen]; omega
    have h4 : (l.drop (q * 2)).take 2 = kindCs x := by
      generalize hz : (l.drop (q * 2)).take 2 = z at h2 h3
      match z, h3 with
      | [u, v], _ =>
        obtain ⟨e1, e2⟩ := kind_one h2
        rw [e1, e2]; rfl
    have h5 : kindCells[q * 2 + r]? = (kindCs x)[r]? := flat_get (f := kindCs) (s := 2) (fun _ => rfl) kindsB q r x hxq hr2
    rw [h5, ← h4, List.getElem?_take, if_pos hr2, List.getElem?_drop]
  · have hk : kindCells.length = 54 := by decide +kernel
    rw [List.getElem?_eq_none (by omega), List.getElem?_eq_none (by omega)]
theorem gl_of_laid {W : World} (h0 : laidMetH Tryz.prog laidL W) (hsh : W.ShapedOpen Tryz.prog) : Gl W := by
  have h := h0
  rw [MakeChecks.laidMetH_plain _ _ _ (by kernel_rfl)] at h
  have h1 := Lib.laidMet.reads h (n := "strconv.ErrSyntax") (d := Rows.laid_strconv_ErrSyntax) (by simp [laidL])
  have h2 := Lib.laidMet.reads h (n := "strconv.ErrRange") (d := Rows.laid_strconv_ErrRange) (by simp [laidL])
  have h3 := Lib.laidMet.reads h (n := "internal/strconv.uint64pow10") (d := Rows.laid_internal_strconv_uint64pow10) (by simp [laidL])
  have h4 := Lib.laidMet.reads h (n := "math/bits.deBruijn64tab") (d := Rows.laid_math_bits_deBruijn64tab) (by simp [laidL])
  refine ⟨?_, ?_, Tryz.laysM219.s1_3 W hsh, ?_, kin_of_laid h0, ?_⟩
  · obtain ⟨g, t, cs, fuel, p, hg, ht, hv, hd⟩ := h1
    obtain rfl := Option.some.inj (errG.symm.trans hg)
    obtain rfl := Option.some.inj ((show (Tryz.prog.globals[5]?).map (·.type) = some 128 by kernel_rfl).symm.trans ht)
    obtain ⟨fuel', u, v, hcs, -, -⟩ := iface_of_trod Tryz.underlying128 hd
    refine ⟨.iface u v, ?_, .inr ⟨u, v, rfl⟩⟩
    rw [World.var?_cell errG hv 0]
    have : cs[0]? = cs.toList[0]? := by simp
    rw [this, hcs]; rfl
  · obtain ⟨g, t, cs, fuel, p, hg, ht, hv, hd⟩ := h2
    obtain rfl := Option.some.inj (rngG.symm.trans hg)
    obtain rfl := Option.some.inj ((show (Tryz.prog.globals[6]?).map (·.type) = some 128 by kernel_rfl).symm.trans ht)
    obtain ⟨fuel', u, v, hcs, -, -⟩ := iface_of_trod Tryz.underlying128 hd
    refine ⟨.iface u v, ?_, .inr ⟨u, v, rfl⟩⟩
    rw [World.var?_cell rngG hv 0]
    have : cs[0]? = cs.toList[0]? := by simp
    rw [this, hcs]; rfl
  · obtain ⟨g, t, cs, fuel, p, hg, ht, hv, hd⟩ := h3
    obtain rfl := Option.some.inj (powG.symm.trans hg)
    obtain rfl := Option.some.inj ((show (Tryz.prog.globals[2]?).map (·.type) = some 180 by kernel_rfl).symm.trans ht)
    have hc := Lib.cells_of_tab (k := .u64) (zs := Lib.pow10Tab) (n := 20) (e := 92) Tryz.underlying180 Tryz.underlying92 (by kernel_rfl) (by kernel_rfl) (show DataW.trod _ _ _ _ _ _ _ _ _ = some (Lib.tabData .u64 Lib.pow10Tab, p) from hd)
    unfold Lib.TabIs
    rw [hv, ← hc]
  · obtain ⟨g, t, cs, fuel, p, hg, ht, hv, hd⟩ := h4
    obtain ⟨t, fz, hr⟩ := var_row tabG hv
    exact (Array.getElem?_eq_some_iff.1 hr).1
theorem i64_of_wf {n : Int} (h : (Lit.int IntKind.i64 n).wf = true) : I64 n := by
  unfold Lit.wf at h
  rw [Bool.and_eq_true, decide_eq_true_eq, decide_eq_true_eq] at h
  have e1 : IntKind.min .i64 = -9223372036854775808 := rfl
  have e2 : IntKind.max .i64 = 9223372036854775807 := rfl
  rw [e1, e2] at h
  unfold I64
  omega
section
variable {H : Type} {enc : TypeId × Value → H}
/-- The wrap of a change's row that hands on the laid variables, the reach and the world's shape. -/
theorem returns_and_shaped {a : Assume} {C : Checked} {os : Os} {f : FuncId} {fn : Func} {s : ChangeSpec} {conds : List PathCond} {apart fresh handsOn again : Bool} {X : World → Array Value → Prop}
    (hX : ∀ (w w' : World) (args : Array Value), w.heap = w'.heap → X w args → X w' args)
    (own : ownKnob C.prog.godebug = none) (started : os.Started) (noInit : C.prog.inits.idxOf? f = none) (hfn : C.prog.funcs[f]? = some fn)
    (witness : ∃ (w : World) (tape : Tape) (i : Input), w.os = os ∧ (w.forCall tape i).Shaped C.prog ∧ i.vars = [] ∧ Input.okWide C.prog (w.forCall tape i) .any w.heap.size f i ∧
      ((s.pre enc C.prog fn conds apart (w.forCall tape i).memory i.args ∧ X (w.forCall tape i).memory i.args) ∧ sizedMet enc C.prog fn (OpenSpec.ofChange s) apart (w.forCall tape i).memory i.args) ∧ a.holds C.prog (lone (Frame.enter C.prog f i.args .normal) [] (w.forCall tape i)))
    (contract : ∀ (W : World) (base : Nat) (args : Array Value) (ds gs : List (DataW H)) (before : List MemPlace),
      (∀ (j : Nat) t v, fn.params[j]? = some t → args[j]? = some v → Value.okWide C.prog W .any base t v) →
      DataW.Whole enc C.prog fn.params.toList s.vars apart W args.toList ds gs before →
      (DataW.weightsEach C.prog (fn.params.toList ++ s.plain.varTypes C.prog) (ds ++ gs)).all (· ≤ reachBytes) = true → X W args → W.ShapedOpen C.prog →
      Calls C.prog f args W fun e W' => ∃ v, e = .returned v ∧ s.post enc C.prog fn apart fresh handsOn again W args v W') :
    ReturnsInHanded a C os f .any (fun w args => (s.pre enc C.prog fn conds apart w args ∧ X w args) ∧ sizedMet enc C.prog fn (OpenSpec.ofChange s) apart w args) (s.post enc C.prog fn apart fresh handsOn again) := by
  refine returnsInHanded_of_calls own started noInit witness ?_
  intro w tape i _ hsh _ hok hpre _
  obtain ⟨_, _, _, fn', hfn', _, _, _, _, hval⟩ := hok
  have e : fn' = fn := Option.some.inj (hfn'.symm.trans hfn)
  subst e
  obtain ⟨⟨⟨ds, gs, before, hw, hc⟩, hx⟩, hz⟩ := hpre
  have hw' := DataW.Whole.of_heap (w' := w.forCall tape i) (by rfl) hw
  refine (contract (w.forCall tape i) w.heap.size i.args ds gs before hval hw' (hz.weights hw) (hX _ _ _ (by rfl) hx) hsh).mono fun e W' ⟨v, he, hp⟩ => ?_
  subst he
  exact ChangeSpec.post_blind hp
end
section
variable {H : Type} {enc : TypeId × Value → H}
/-- Arguments read, in a world that has only grown, as they did. -/
theorem trodAll_grown {P : Program} (hl : laidOutB P = true) {W W' : World} (hb : Below W.heap.size W W') {sp : Nat → Bool} : ∀ {ts : List TypeId} {vs : List Value} {ds : List (DataW H)} {ps : List MemPlace},
    (∀ t ∈ ts, P.readableRec t = true ∧ t < P.types.size) → DataW.TrodAll enc P W 0 (fun _ => true) true ts vs ds ps → (∀ p ∈ ps, p.block < W.heap.size) → (∀ p ∈ ps, sp p.block = true) → DataW.TrodAll enc P W' 0 sp true ts vs ds ps
  | [], [], [], _, _, h, _, _ => h
  | [], [], _ :: _, _, _, h, _, _ => h.elim
  | [], _ :: _, _, _, _, h, _, _ => h.elim
  | _ :: _, [], _, _, _, h, _, _ => h.elim
  | _ :: _, _ :: _, [], _, _, h, _, _ => h.elim
  | t :: ts, v :: vs, d :: ds, ps, ht, h, hlt, hs => by
    obtain ⟨p, q, h1, h2, rfl⟩ := h
    have hr := ht t (by simp)
    exact ⟨p, q, WideElems.Trod_stays hl hr.1 hr.2 h1 (fun x hx => hb.same (hlt x (by simp [hx]))) (fun x hx => hs x (by simp [hx])),
      trodAll_grown hl hb (fun t h => ht t (by simp [h])) h2 (fun x hx => hlt x (by simp [hx])) (fun x hx => hs x (by simp [hx])), rfl⟩

set_option maxRecDepth 100000 in
/-- A law that returned true, where nothing old has turned, meets its row's post. -/
theorem true_post {f : Func} {s : ChangeSpec} {W W' : World} {args : Array Value} {ds : List (DataW H)} {before : List MemPlace} (hvars : s.vars = []) (hrt : f.resultTypes = #[4])
    (hfn : s.fn H (ds ++ []) = { results := [.lit (.bool true)], args := ds }) (hpar : ∀ t ∈ f.params.toList, Tryz.prog.readableRec t = true ∧ t < Tryz.prog.types.size)
    (hW : DataW.Whole enc Tryz.prog f.params.toList s.vars false W args.toList ds [] before) (hb : Below W.heap.size W W') : s.post enc Tryz.prog f false true false false W args (.bool true) W' := by
  have hlt : ∀ p ∈ before, p.block < W.heap.size := fun p hp => hW.lt p hp
  obtain ⟨p, q, hA, hV, rfl, hz, _⟩ := id hW
  rw [hvars] at hV
  obtain ⟨-, rfl⟩ := trodVars_none hV
  have hrs : ∀ (b : Nat) (sp : Nat → Bool) (hd : Bool), DataW.TrodAll enc Tryz.prog W' b sp hd f.resultTypes.toList ((Value.bool true).resultList f.resultTypes.size) (s.fn H (ds ++ [])).results [] := by
    intro b sp hd
    rw [hfn, hrt]
    exact trodAll_mk1 (shut_bool Tryz.underlying4 true)
  have hargs : ∀ sp : Nat → Bool, (∀ x ∈ p ++ [], sp x.block = true) → DataW.TrodAll enc Tryz.prog W' 0 sp true f.params.toList args.toList (s.fn H (ds ++ [])).args p := by
    intro sp hsp
    rw [hfn]
    exact trodAll_grown laidOut hb hpar hA (fun x hx => hlt x (by simpa using hx)) (fun x hx => hsp x (by simpa using hx))
  have hvs : ∀ sp : Nat → Bool, DataW.TrodVars enc Tryz.prog W' sp s.vars (s.fn H (ds ++ [])).vars [] := by
    intro sp; rw [hvars, hfn]; rfl
  refine ⟨ds, [], p ++ [], [], p, [], hW, hrs _ _ _, hargs _ (fun x hx => by simpa using hlt x hx), hvs _, World.keptBut_mono (fun x hx => ⟨hx, .inr (by simpa using hx)⟩) (hb.frame (· ∈ p ++ [])), fun _ => ?_⟩
  refine ⟨ok_one hrt rfl (okWide_bool_mk Tryz.underlying4 _), _, _, ([] ++ p) ++ [], ⟨[] ++ p, [], trodAll_append (hargs _ (fun _ _ => rfl)) (hrs _ _ _), hvs _, rfl, ?_, fun h => by cases h⟩, fun x hx _ => by simpa using hx⟩
  intro b off hp
  have hin : MemPlace.cell b off ∈ p ++ [] := by simpa using hp
  rw [hb.frozen (hlt _ hin)]
  exact hz b off hin

end
end Go.Proofs.YtdfhbnfhkckkbaaGreatDoor
