/-
  The walks of the law's own, spec and few (printed by genW27.py).
-/
import Derived.Test.YtdfhbnfhkckkbaaGreatDoorW26
namespace Go.Proofs.YtdfhbnfhkckkbaaGreatDoor
open Go Go.RowKit Go.Walks

theorem StepsS.snoc {w : World} {x : StepD} {A : Option Addr} {c : Nat} (h1 : Sl w w.heap.size A (x.args.map intC)) (h2 : x.args.length ≤ c) : ∀ {xs : List StepD} {cs : List Value}, StepsS w xs cs → StepsS w (xs ++ [x]) (cs ++ [.int .i64 x.kind, .slice A x.args.length c])
  | [], cs, h => by rw [show cs = [] from h]; exact ⟨A, c, [], rfl, h1, h2, rfl⟩
  | _ :: _, _, ⟨A', c', cs', e, k1, k2, k3⟩ => by rw [e]; exact ⟨A', c', _, rfl, k1, k2, StepsS.snoc h1 h2 k3⟩
/-- While a script is turned into one of the other type: the result's block g, the new script in block o, k of its steps. -/
structure OW (w : World) (td te : TypeId) (g o : Nat) (a b c d e f : Int) (T : Option Addr) (nt tc : Nat) (U : Option Addr) (k uc : Nat) (xs : List StepD) (W : World) : Prop where
  below : Below w.heap.size w W
  eg : w.heap.size ≤ g
  go : g < o
  res : W.heap[g]? = some (.cells (scrCs 0 0 0 0 0 0 none 0 0 none 0 0) td)
  row : W.heap[o]? = some (.cells (scrCs a b c d e f T nt tc U k uc) td)
  own : ∃ ms, W.ownsRow (o + 1) te 2 (.slice U k uc) k ms ∧ StepsS w xs ms
theorem OW.call {w W W' : World} {td te : TypeId} {g o nt tc k uc : Nat} {a b c d e f : Int} {T U : Option Addr} {xs : List StepD} (h : OW w td te g o a b c d e f T nt tc U k uc xs W) (hb : Below W.heap.size W W') : OW w td te g o a b c d e f T nt tc U k uc xs W' := by
  obtain ⟨ms, h1, h2⟩ := h.own
  exact ⟨h.below.trans (hb.mono h.below.size), h.eg, h.go, below_cells h.res hb, below_cells h.row hb, ⟨ms, own_below h1 hb, h2⟩⟩
theorem OW.grow {w W W' : World} {td te : TypeId} {g o nt tc k uc : Nat} {a b c d e f : Int} {T U : Option Addr} {xs : List StepD} {x : StepD} {A A' : Option Addr} {c0 c' : Nat} {ms : List Value} {ob : Obj} (h : OW w td te g o a b c d e f T nt tc U k uc xs W) (h1 : W.ownsRow (o + 1) te 2 (.slice U k uc) k ms) (h2 : StepsS w xs ms) (hA : Sl w w.heap.size A (x.args.map intC)) (hc : x.args.length ≤ c0) (ho : W'.ownsRow (o + 1) te 2 (.slice A' (k + 1) c') (k + 1) (ms ++ [.int .i64 x.kind, .slice A x.args.length c0])) (hg : (W.alloc ob).grownBy W' (Value.slice U k uc).ownBlock) :
    W'.heap[o]? = some (.cells (scrCs a b c d e f T nt tc U k uc) td) ∧ OW w td te g o a b c d e f T nt tc A' (k + 1) c' (xs ++ [x]) (W'.setCell ⟨o, 7, none⟩ (.slice A' (k + 1) c')) := by
  have e1 := h.eg
  have e2 := h.go
  have hsz : o < W.heap.size := (Array.getElem?_eq_some_iff.1 h.row).1
  have low : ∀ j, j < o + 1 → W'.heap[j]? = W.heap[j]? := fun j hj => grown_low h1 hg hj (by omega)
  have hrow := (low o (by omega)).trans h.row
  have hb : Below w.heap.size w W' := below_append h.below (own_less h1 (by omega)) hg
  refine ⟨hrow, hb.setCell (p := ⟨o, 7, none⟩) (by show w.heap.size ≤ o; omega) _, h.eg, h.go, (Below.heap_setCell _ _ _ _ (by show g ≠ o; omega)).trans ((low g (by omega)).trans h.res), (set_at hrow 7 _).trans rfl, ⟨_, own_rb_lt ho ((RB.refl o W').setCell 7 (.slice A' (k + 1) c')) (Nat.lt_succ_self _), StepsS.snoc hA hc h2⟩⟩
theorem scriptS_same {w w' : World} {S : ScriptD} {a b c d e f : Int} {T U U' : Option Addr} {tc uc uc' : Nat} (hp : ScriptP w S a b c d e f T tc U uc) (hb : Below w.heap.size w w') {ms : List Value} (h1 : Sl w' w'.heap.size U' ms) (h2 : StepsS w S.steps ms) (h3 : S.steps.length ≤ uc') : ScriptP w' S a b c d e f T tc U' uc' :=
  ⟨hp.cfg, (hp.txt.below hb).more hb.size, ⟨ms, h1, h2.below hb⟩, hp.tl, h3⟩
set_option maxRecDepth 100000 in
theorem info27 : (Tryz.prog.info? 27).map (·.size) = some 8 := by kernel_rfl
theorem so25' : SliceOf Tryz.prog 25 67 2 32 := so25

theorem res13 (tmps : Array Value) (w : World) (g : Nat) (cs : Array Value) (hs : cs.size = 8) (hp : tmps.getD 2 undef = .pointer (some ⟨g, 0, none⟩)) (hg : w.heap[g]? = some (.cells cs 35)) :
    (results Tryz.f13 tmps).run Tryz.prog w = .ok (.agg cs) w :=
  results_cell_row (p := 2) (ty := 35) rfl tmps w g 35 cs (0, 0) _ hp hg Tryz.underlying35 rfl (by rw [hs]; exact info35)

set_option maxRecDepth 100000 in
set_option maxHeartbeats 4000000 in
theorem own_any (S : ScriptD) (v : Value) (w : World) (Hv : Hid (ScriptS w S v)) (hn : S.steps.length * 32 ≤ 140737488355328) : Calls Tryz.prog 13 #[v] w fun e w' => Below w.heap.size w w' ∧ ∃ v', e = .returned v' ∧ ScriptS w' S v' := by
  obtain ⟨a, b, c, d, e, f, T, tc, U, uc, rfl, hp⟩ := Hv.out
  obtain ⟨nt, hnt⟩ : ∃ n, n = S.texts.length := ⟨_, rfl⟩
  obtain ⟨ns, hns⟩ : ∃ n, n = S.steps.length := ⟨_, rfl⟩
  obtain ⟨ms, hms, hst⟩ := hp.stp
  have Hms := Lib.hid hms
  have Hst := Lib.hid hst
  have Hp := Lib.hid hp
  rw [← hnt, ← hns]
  rw [← hns] at hn
  have Hnt := Lib.hid hnt
  have Hns := Lib.hid hns
  obtain ⟨W0, hW0⟩ : ∃ W, W = w.alloc (.cells (scrCs a b c d e f T nt tc U ns uc) 27) := ⟨_, rfl⟩
  obtain ⟨W1, hW1⟩ : ∃ W, W = W0.alloc (.cells (scrCs 0 0 0 0 0 0 none 0 0 none 0 0) 35) := ⟨_, rfl⟩
  obtain ⟨W2, hW2⟩ : ∃ W, W = W1.alloc (.cells (scrCs a b c d e f T nt tc none 0 0) 35) := ⟨_, rfl⟩
  obtain ⟨g0, hg0⟩ : ∃ g, g = w.heap.size := ⟨_, rfl⟩
  obtain ⟨g, hg⟩ : ∃ g, g = w.heap.size + 1 := ⟨_, rfl⟩
  obtain ⟨o, ho⟩ : ∃ g, g = w.heap.size + 1 + 1 := ⟨_, rfl⟩
  have h0 : Below w.heap.size w W0 := by rw [hW0]; exact (Below.refl _ _).alloc (Nat.le_refl _) _
  have h1 : Below W0.heap.size W0 W1 := by rw [hW1]; exact (Below.refl _ _).alloc (Nat.le_refl _) _
  have h2 : Below W1.heap.size W1 W2 := by rw [hW2]; exact (Below.refl _ _).alloc (Nat.le_refl _) _
  have s0 : W0.heap.size = w.heap.size + 1 := by rw [hW0]; simp
  have s1 : W1.heap.size = w.heap.size + 1 + 1 := by rw [hW1]; simp [s0]
  have r0 : W0.heap[g0]? = some (.cells (scrCs a b c d e f T nt tc U ns uc) 27) := by rw [hW0, hg0]; exact heap_new _ _
  have r1 : W1.heap[g]? = some (.cells (scrCs 0 0 0 0 0 0 none 0 0 none 0 0) 35) := by rw [hW1, hg, ← s0]; exact heap_new _ _
  have r2 : W2.heap[o]? = some (.cells (scrCs a b c d e f T nt tc none 0 0) 35) := by rw [hW2, ho, ← s1]; exact heap_new _ _
  have r01 := below_cells r0 h1
  have HR0 := Lib.hid (below_cells r01 h2)
  have HOW : Hid (OW w 35 69 g o a b c d e f T nt tc none 0 0 [] W2) :=
    ⟨(h0.trans (h1.mono h0.size)).trans (h2.mono (h0.trans (h1.mono h0.size)).size), by omega, by omega, below_cells r1 h2, r2, [], own_nil _ _ _ _, rfl⟩
  have hg0lt : g0 < w.heap.size + 1 := by omega
  have z0 := (cell_at (u := .int .i64 a) r01 0 rfl).1
  have z1 := (cell_at (u := .int .i64 b) r01 1 rfl).1
  have z2 := (cell_at (u := .int .i64 c) r01 2 rfl).1
  have z3 := (cell_at (u := .int .i64 d) r01 3 rfl).1
  have z4 := (cell_at (u := .int .i64 e) r01 4 rfl).1
  have z5 := (cell_at (u := .int .i64 f) r01 5 rfl).1
  have z6 := (cell_at (u := .slice T nt tc) r01 6 rfl).1
  have HW1' : Hid ((w.alloc (.cells (scrCs a b c d e f T nt tc U ns uc) 27)).alloc (.cells #[.int .i64 0, .int .i64 0, .int .i64 0, .int .i64 0, .int .i64 0, .int .i64 0, .slice none 0 0, .slice none 0 0] 35) = W1) := by show _ = _; rw [hW1, hW0]; rfl
  have HW2' : Hid (W1.alloc (.cells #[.int .i64 a, .int .i64 b, .int .i64 c, .int .i64 d, .int .i64 e, .int .i64 f, .slice T nt tc, .slice none 0 0] 35) = W2) := hW2.symm
  have Hs1 := Lib.hid s1
  clear hnt hns hms hst hp Hv hW0 hW1 hW2 h0 h1 h2 s0 s1 r0 r1 r2 r01
  subst hg0 hg ho
  go_enter Tryz.func13, Tryz.ntmps13
  go_upto_region 1 with fail
  rw [HW1'.out]
  clear HW1'
  go_upto_region 2 with fail
  rw [Hs1.out, HW2'.out]
  clear HW2' z0 z1 z2 z3 z4 z5 z6
  have z7 := (cell_at (u := .slice U ns uc) HR0.out 7 rfl).1
  go_wp2_with fail
  clear z7
  obtain ⟨g, hg⟩ : ∃ g, g = w.heap.size + 1 := ⟨_, rfl⟩
  obtain ⟨o, ho⟩ : ∃ g, g = w.heap.size + 1 + 1 := ⟨_, rfl⟩
  rw [← ho, ← hg] at HOW
  rw [← ho, ← hg]
  clear hg ho Hs1 HR0
  go_loopg [14] ns (fun gh s14 wr => ∃ (k : Nat) (V : Option Addr) (vc : Nat), s14 = .int .i64 (k : Int) ∧ gh = ns - k ∧ k ≤ ns ∧ Hid (OW w 35 69 g o a b c d e f T nt tc V k vc (S.steps.take k) wr))
  case atStart => exact ⟨0, none, 0, rfl, rfl, Nat.zero_le _, HOW.out⟩
  case round =>
    obtain ⟨k, V, vc, rfl, hgh, hk, HO⟩ := hrel
    by_cases hlt : k < ns
    · have hI1 : (0 : Int) ≤ (k : Int) := by omega
      have hI2 : (k : Int) < (ns : Int) := by omega
      obtain ⟨y, hy⟩ : ∃ y, S.steps[k]? = some y := ⟨S.steps[k]'(by rw [← Hns.out]; exact hlt), List.getElem?_eq_getElem _⟩
      obtain ⟨bb, oo, A, cc, hU, hbw, hck0, hcs0, hsl, hcc⟩ := step_at Hms.out Hst.out (Below.refl _ _) hy
      have hck := (HO.out.below.cell (p := ⟨bb, oo + k * 2, none⟩) hbw).trans hck0
      have hcs := (HO.out.below.cell (p := ⟨bb, oo + k * 2 + 1, none⟩) hbw).trans hcs0
      clear hck0 hcs0
      subst hU
      have Hstep : Hid (S.steps.take (k + 1) = S.steps.take k ++ [y]) := by show _ = _; rw [List.take_add_one, hy]; rfl
      have Hsl := Lib.hid hsl
      have Hcc := Lib.hid hcc
      obtain ⟨q, hq⟩ : ∃ q, q = y.args.length := ⟨_, rfl⟩
      obtain ⟨kd, hkd⟩ : ∃ kd, kd = y.kind := ⟨_, rfl⟩
      rw [← hq] at hcs
      rw [← hkd] at hck
      have Hq := Lib.hid hq
      have Hkd := Lib.hid hkd
      have hb1 : k + 1 ≤ maxLen := by unfold maxLen; omega
      have hb2 : (k + 1) * 32 ≤ 140737488355328 := by omega
      obtain ⟨W5, hW5⟩ : ∃ W, W = wr.alloc (.cells #[.int .i64 kd, .slice A q cc] 67) := ⟨_, rfl⟩
      obtain ⟨g5, hg5⟩ : ∃ g, g = wr.heap.size := ⟨_, rfl⟩
      have hb5 : Below wr.heap.size wr W5 := by rw [hW5]; exact (Below.refl _ _).alloc (Nat.le_refl _) _
      have hr5 : W5.heap[g5]? = some (.cells #[.int .i64 kd, .slice A q cc] 67) := by rw [hW5, hg5]; exact heap_new _ _
      have HO5 := Lib.hid (HO.out.call hb5)
      obtain ⟨x0, x1, -⟩ := two_cells hr5
      clear hy hsl hcc hq hkd hb5 hr5 hbw
      go_upto_region 5 with fail
      rw [← hW5, ← hg5]
      clear hW5 hg5 hck hcs
      have x7 := (cell_at (u := .slice V k vc) HO5.out.row 7 rfl).1
      obtain ⟨ms5, hm1, hm2⟩ := HO5.out.own
      have HM1 := Lib.hid hm1
      have HM2 := Lib.hid hm2
      clear hm1 hm2
      have hoz : o + 1 ≤ W5.heap.size := (Array.getElem?_eq_some_iff.1 HO5.out.row).1
      go_wp2_with (at_builtin; refine wpList_append_sl rfl _ _ 33 rfl rfl rfl so33 (HM1.out.alloc _) (m := 1) (news := [.int .i64 kd, .slice A q cc]) rfl (Sl.new _ _ _) (fun u hu => by simp at hu; rcases hu with rfl | rfl <;> rfl) hb1 hb2 (Nat.le_trans hoz (by simp)) ?_; intro A8 c8 w8 ho8 hg8; have hst8 := HO5.out.grow (x := y) (A := A) (c0 := cc) HM1.out HM2.out Hsl.out Hcc.out (by rw [← Hq.out, ← Hkd.out]; exact ho8) hg8; obtain ⟨hrow8, hO8⟩ := hst8; rw [← Hstep.out] at hO8; have HO8 := Lib.hid hO8; obtain ⟨c77, f77⟩ := cell_at (u := .slice V k vc) hrow8 7 rfl; clear ho8 hg8 hO8 hrow8 x7 x0 x1)
      go_roundg (ns - (k + 1))
      case measure => omega
      case rel => exact ⟨k + 1, A8, c8, by go_num, rfl, by omega, HO8⟩
    · have hke : k = ns := by omega
      have hI3 : ¬ (k : Int) < (ns : Int) := by omega
      subst hke
      have hst8 : Hid (S.steps.take k = S.steps) := List.take_of_length_le (by have := Hns.out; omega)
      rw [hst8.out] at HO
      have hrow := HO.out.row
      have hres := HO.out.res
      obtain ⟨CS, hCS⟩ : ∃ C, C = scrCs a b c d e f T nt tc V k vc := ⟨_, rfl⟩
      obtain ⟨C0, hC0⟩ : ∃ C, C = scrCs 0 0 0 0 0 0 none 0 0 none 0 0 := ⟨_, rfl⟩
      have i8 : (Tryz.prog.info? 35).map (·.size) = some CS.size := by rw [hCS]; exact info35
      have o8 : C0.size = CS.size := by rw [hCS, hC0]; rfl
      have c8 : CS.size = 8 := by rw [hCS]; rfl
      have all1 : CS.all (·.oneCell') = true := by rw [hCS]; exact scr_one _ _ _ _ _ _ _ _ _ _ _ _
      have HS : Hid (ScriptS (wr.setRow g CS) S (.agg CS)) := by
        obtain ⟨ms8, k1, k2⟩ := HO.out.own
        have e2 := HO.out.go
        have k3 := own_rb_lt k1 (rb_setRow1 g wr CS) (by omega)
        have hb9 := below_setRow1 HO.out.below HO.out.eg CS
        exact ⟨a, b, c, d, e, f, T, tc, V, vc, by rw [hCS, Hnt.out, Hns.out], scriptS_same Hp.out hb9 (own_sl k3) k2 (by have := (own_cap k1).1; have := Hns.out; omega)⟩
      rw [← hC0] at hres
      rw [← hCS] at hrow
      clear hCS hC0 hlt hgh hk
      go_wp2_with (first | (refine wpList_load_row rfl 35 _ rfl o rfl 35 CS (0, 0) _ hrow Tryz.underlying35 rfl i8 ?_) | (refine wpList_store_row rfl 35 _ _ rfl g CS rfl rfl 35 C0 hres i8 o8 all1 ?_))
      refine bodyPost_ret (res13 _ _ g CS c8 rfl (setRow_heap _ _ _ _ _ _ hres)) rfl ?_
      exact ⟨below_setRow1 HO.out.below HO.out.eg CS, _, rfl, HS.out⟩

theorem res30 (tmps : Array Value) (w : World) (g : Nat) (cs : Array Value) (hs : cs.size = 8) (hp : tmps.getD 2 undef = .pointer (some ⟨g, 0, none⟩)) (hg : w.heap[g]? = some (.cells cs 27)) :
    (results Tryz.f30 tmps).run Tryz.prog w = .ok (.agg cs) w :=
  results_cell_row (p := 2) (ty := 27) rfl tmps w g 27 cs (0, 0) _ hp hg Tryz.underlying27 rfl (by rw [hs]; exact info27)

set_option maxRecDepth 100000 in
set_option maxHeartbeats 4000000 in
theorem spec_any (S : ScriptD) (v : Value) (w : World) (Hv : Hid (ScriptS w S v)) (hn : S.steps.length * 32 ≤ 140737488355328) : Calls Tryz.prog 30 #[v] w fun e w' => Below w.heap.size w w' ∧ ∃ v', e = .returned v' ∧ ScriptS w' S v' := by
  obtain ⟨a, b, c, d, e, f, T, tc, U, uc, rfl, hp⟩ := Hv.out
  obtain ⟨nt, hnt⟩ : ∃ n, n = S.texts.length := ⟨_, rfl⟩
  obtain ⟨ns, hns⟩ : ∃ n, n = S.steps.length := ⟨_, rfl⟩
  obtain ⟨ms, hms, hst⟩ := hp.stp
  have Hms := Lib.hid hms
  have Hst := Lib.hid hst
  have Hp := Lib.hid hp
  rw [← hnt, ← hns]
  rw [← hns] at hn
  have Hnt := Lib.hid hnt
  have Hns := Lib.hid hns
  obtain ⟨W0, hW0⟩ : ∃ W, W = w.alloc (.cells (scrCs a b c d e f T nt tc U ns uc) 35) := ⟨_, rfl⟩
  obtain ⟨W1, hW1⟩ : ∃ W, W = W0.alloc (.cells (scrCs 0 0 0 0 0 0 none 0 0 none 0 0) 27) := ⟨_, rfl⟩
  obtain ⟨W2, hW2⟩ : ∃ W, W = W1.alloc (.cells (scrCs a b c d e f T nt tc none 0 0) 27) := ⟨_, rfl⟩
  obtain ⟨g0, hg0⟩ : ∃ g, g = w.heap.size := ⟨_, rfl⟩
  obtain ⟨g, hg⟩ : ∃ g, g = w.heap.size + 1 := ⟨_, rfl⟩
  obtain ⟨o, ho⟩ : ∃ g, g = w.heap.size + 1 + 1 := ⟨_, rfl⟩
  have h0 : Below w.heap.size w W0 := by rw [hW0]; exact (Below.refl _ _).alloc (Nat.le_refl _) _
  have h1 : Below W0.heap.size W0 W1 := by rw [hW1]; exact (Below.refl _ _).alloc (Nat.le_refl _) _
  have h2 : Below W1.heap.size W1 W2 := by rw [hW2]; exact (Below.refl _ _).alloc (Nat.le_refl _) _
  have s0 : W0.heap.size = w.heap.size + 1 := by rw [hW0]; simp
  have s1 : W1.heap.size = w.heap.size + 1 + 1 := by rw [hW1]; simp [s0]
  have r0 : W0.heap[g0]? = some (.cells (scrCs a b c d e f T nt tc U ns uc) 35) := by rw [hW0, hg0]; exact heap_new _ _
  have r1 : W1.heap[g]? = some (.cells (scrCs 0 0 0 0 0 0 none 0 0 none 0 0) 27) := by rw [hW1, hg, ← s0]; exact heap_new _ _
  have r2 : W2.heap[o]? = some (.cells (scrCs a b c d e f T nt tc none 0 0) 27) := by rw [hW2, ho, ← s1]; exact heap_new _ _
  have r01 := below_cells r0 h1
  have HR0 := Lib.hid (below_cells r01 h2)
  have HOW : Hid (OW w 27 67 g o a b c d e f T nt tc none 0 0 [] W2) :=
    ⟨(h0.trans (h1.mono h0.size)).trans (h2.mono (h0.trans (h1.mono h0.size)).size), by omega, by omega, below_cells r1 h2, r2, [], own_nil _ _ _ _, rfl⟩
  have hg0lt : g0 < w.heap.size + 1 := by omega
  have z0 := (cell_at (u := .int .i64 a) r01 0 rfl).1
  have z1 := (cell_at (u := .int .i64 b) r01 1 rfl).1
  have z2 := (cell_at (u := .int .i64 c) r01 2 rfl).1
  have z3 := (cell_at (u := .int .i64 d) r01 3 rfl).1
  have z4 := (cell_at (u := .int .i64 e) r01 4 rfl).1
  have z5 := (cell_at (u := .int .i64 f) r01 5 rfl).1
  have z6 := (cell_at (u := .slice T nt tc) r01 6 rfl).1
  have HW1' : Hid ((w.alloc (.cells (scrCs a b c d e f T nt tc U ns uc) 35)).alloc (.cells #[.int .i64 0, .int .i64 0, .int .i64 0, .int .i64 0, .int .i64 0, .int .i64 0, .slice none 0 0, .slice none 0 0] 27) = W1) := by show _ = _; rw [hW1, hW0]; rfl
  have HW2' : Hid (W1.alloc (.cells #[.int .i64 a, .int .i64 b, .int .i64 c, .int .i64 d, .int .i64 e, .int .i64 f, .slice T nt tc, .slice none 0 0] 27) = W2) := hW2.symm
  have Hs1 := Lib.hid s1
  clear hnt hns hms hst hp Hv hW0 hW1 hW2 h0 h1 h2 s0 s1 r0 r1 r2 r01
  subst hg0 hg ho
  go_enter Tryz.func30, Tryz.ntmps30
  go_upto_region 1 with fail
  rw [HW1'.out]
  clear HW1'
  go_upto_region 2 with fail
  rw [Hs1.out, HW2'.out]
  clear HW2' z0 z1 z2 z3 z4 z5 z6
  have z7 := (cell_at (u := .slice U ns uc) HR0.out 7 rfl).1
  go_wp2_with fail
  clear z7
  obtain ⟨g, hg⟩ : ∃ g, g = w.heap.size + 1 := ⟨_, rfl⟩
  obtain ⟨o, ho⟩ : ∃ g, g = w.heap.size + 1 + 1 := ⟨_, rfl⟩
  rw [← ho, ← hg] at HOW
  rw [← ho, ← hg]
  clear hg ho Hs1 HR0
  go_loopg [14] ns (fun gh s14 wr => ∃ (k : Nat) (V : Option Addr) (vc : Nat), s14 = .int .i64 (k : Int) ∧ gh = ns - k ∧ k ≤ ns ∧ Hid (OW w 27 67 g o a b c d e f T nt tc V k vc (S.steps.take k) wr))
  case atStart => exact ⟨0, none, 0, rfl, rfl, Nat.zero_le _, HOW.out⟩
  case round =>
    obtain ⟨k, V, vc, rfl, hgh, hk, HO⟩ := hrel
    by_cases hlt : k < ns
    · have hI1 : (0 : Int) ≤ (k : Int) := by omega
      have hI2 : (k : Int) < (ns : Int) := by omega
      obtain ⟨y, hy⟩ : ∃ y, S.steps[k]? = some y := ⟨S.steps[k]'(by rw [← Hns.out]; exact hlt), List.getElem?_eq_getElem _⟩
      obtain ⟨bb, oo, A, cc, hU, hbw, hck0, hcs0, hsl, hcc⟩ := step_at Hms.out Hst.out (Below.refl _ _) hy
      have hck := (HO.out.below.cell (p := ⟨bb, oo + k * 2, none⟩) hbw).trans hck0
      have hcs := (HO.out.below.cell (p := ⟨bb, oo + k * 2 + 1, none⟩) hbw).trans hcs0
      clear hck0 hcs0
      subst hU
      have Hstep : Hid (S.steps.take (k + 1) = S.steps.take k ++ [y]) := by show _ = _; rw [List.take_add_one, hy]; rfl
      have Hsl := Lib.hid hsl
      have Hcc := Lib.hid hcc
      obtain ⟨q, hq⟩ : ∃ q, q = y.args.length := ⟨_, rfl⟩
      obtain ⟨kd, hkd⟩ : ∃ kd, kd = y.kind := ⟨_, rfl⟩
      rw [← hq] at hcs
      rw [← hkd] at hck
      have Hq := Lib.hid hq
      have Hkd := Lib.hid hkd
      have hb1 : k + 1 ≤ maxLen := by unfold maxLen; omega
      have hb2 : (k + 1) * 32 ≤ 140737488355328 := by omega
      obtain ⟨W5, hW5⟩ : ∃ W, W = wr.alloc (.cells #[.int .i64 kd, .slice A q cc] 69) := ⟨_, rfl⟩
      obtain ⟨g5, hg5⟩ : ∃ g, g = wr.heap.size := ⟨_, rfl⟩
      have hb5 : Below wr.heap.size wr W5 := by rw [hW5]; exact (Below.refl _ _).alloc (Nat.le_refl _) _
      have hr5 : W5.heap[g5]? = some (.cells #[.int .i64 kd, .slice A q cc] 69) := by rw [hW5, hg5]; exact heap_new _ _
      have HO5 := Lib.hid (HO.out.call hb5)
      obtain ⟨x0, x1, -⟩ := two_cells hr5
      clear hy hsl hcc hq hkd hb5 hr5 hbw
      go_upto_region 5 with fail
      rw [← hW5, ← hg5]
      clear hW5 hg5 hck hcs
      have x7 := (cell_at (u := .slice V k vc) HO5.out.row 7 rfl).1
      obtain ⟨ms5, hm1, hm2⟩ := HO5.out.own
      have HM1 := Lib.hid hm1
      have HM2 := Lib.hid hm2
      clear hm1 hm2
      have hoz : o + 1 ≤ W5.heap.size := (Array.getElem?_eq_some_iff.1 HO5.out.row).1
      go_wp2_with (at_builtin; refine wpList_append_sl rfl _ _ 25 rfl rfl rfl so25 (HM1.out.alloc _) (m := 1) (news := [.int .i64 kd, .slice A q cc]) rfl (Sl.new _ _ _) (fun u hu => by simp at hu; rcases hu with rfl | rfl <;> rfl) hb1 hb2 (Nat.le_trans hoz (by simp)) ?_; intro A8 c8 w8 ho8 hg8; have hst8 := HO5.out.grow (x := y) (A := A) (c0 := cc) HM1.out HM2.out Hsl.out Hcc.out (by rw [← Hq.out, ← Hkd.out]; exact ho8) hg8; obtain ⟨hrow8, hO8⟩ := hst8; rw [← Hstep.out] at hO8; have HO8 := Lib.hid hO8; obtain ⟨c77, f77⟩ := cell_at (u := .slice V k vc) hrow8 7 rfl; clear ho8 hg8 hO8 hrow8 x7 x0 x1)
      go_roundg (ns - (k + 1))
      case measure => omega
      case rel => exact ⟨k + 1, A8, c8, by go_num, rfl, by omega, HO8⟩
    · have hke : k = ns := by omega
      have hI3 : ¬ (k : Int) < (ns : Int) := by omega
      subst hke
      have hst8 : Hid (S.steps.take k = S.steps) := List.take_of_length_le (by have := Hns.out; omega)
      rw [hst8.out] at HO
      have hrow := HO.out.row
      have hres := HO.out.res
      obtain ⟨CS, hCS⟩ : ∃ C, C = scrCs a b c d e f T nt tc V k vc := ⟨_, rfl⟩
      obtain ⟨C0, hC0⟩ : ∃ C, C = scrCs 0 0 0 0 0 0 none 0 0 none 0 0 := ⟨_, rfl⟩
      have i8 : (Tryz.prog.info? 27).map (·.size) = some CS.size := by rw [hCS]; exact info27
      have o8 : C0.size = CS.size := by rw [hCS, hC0]; rfl
      have c8 : CS.size = 8 := by rw [hCS]; rfl
      have all1 : CS.all (·.oneCell') = true := by rw [hCS]; exact scr_one _ _ _ _ _ _ _ _ _ _ _ _
      have HS : Hid (ScriptS (wr.setRow g CS) S (.agg CS)) := by
        obtain ⟨ms8, k1, k2⟩ := HO.out.own
        have e2 := HO.out.go
        have k3 := own_rb_lt k1 (rb_setRow1 g wr CS) (by omega)
        have hb9 := below_setRow1 HO.out.below HO.out.eg CS
        exact ⟨a, b, c, d, e, f, T, tc, V, vc, by rw [hCS, Hnt.out, Hns.out], scriptS_same Hp.out hb9 (own_sl k3) k2 (by have := (own_cap k1).1; have := Hns.out; omega)⟩
      rw [← hC0] at hres
      rw [← hCS] at hrow
      clear hCS hC0 hlt hgh hk
      go_wp2_with (first | (refine wpList_load_row rfl 27 _ rfl o rfl 27 CS (0, 0) _ hrow Tryz.underlying27 rfl i8 ?_) | (refine wpList_store_row rfl 27 _ _ rfl g CS rfl rfl 27 C0 hres i8 o8 all1 ?_))
      refine bodyPost_ret (res30 _ _ g CS c8 rfl (setRow_heap _ _ _ _ _ _ hres)) rfl ?_
      exact ⟨below_setRow1 HO.out.below HO.out.eg CS, _, rfl, HS.out⟩
end Go.Proofs.YtdfhbnfhkckkbaaGreatDoor
