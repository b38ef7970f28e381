/-
  The walk of yields: an iterator over the entries D of a tree yields just the list of the entries D, twice.
-/
import Derived.Test.YtognbkmamhgkeaaDoorW26
import Derived.Test.YtognbkmamhgkeaaDoorRj
namespace Go.Proofs.YtognbkmamhgkeaaDoor
open Go Go.RowKit Go.Walks Go.Shelf
attribute [local go_sem] Oper.semAt_some

def YP (w : World) (e : Ending) (w' : World) : Prop := e = .returned (.bool true) ∧ Below w.heap.size w w'

theorem four_boxes {w W : World} {o0 o1 o2 o3 : Obj} (h : Below ((((w.alloc o0).alloc o1).alloc o2).alloc o3).heap.size ((((w.alloc o0).alloc o1).alloc o2).alloc o3) W) :
    W.heap[w.heap.size + 1]? = some o1 ∧ W.heap[w.heap.size + 1 + 1]? = some o2 ∧ W.heap[w.heap.size + 1 + 1 + 1]? = some o3 := by
  refine ⟨(h.block _ (by simp)).trans ?_, (h.block _ (by simp)).trans ?_, (h.block _ (by simp)).trans ?_⟩
  · rw [Below.heap_alloc _ _ _ (by simp), Below.heap_alloc _ _ _ (by simp)]
    have := World.alloc_heap_new (w.alloc o0) o1
    rwa [World.size_alloc] at this
  · rw [Below.heap_alloc _ _ _ (by simp)]
    have := World.alloc_heap_new ((w.alloc o0).alloc o1) o2
    rwa [World.size_alloc, World.size_alloc] at this
  · have := World.alloc_heap_new (((w.alloc o0).alloc o1).alloc o2) o3
    rwa [World.size_alloc, World.size_alloc, World.size_alloc] at this

theorem func_nil (cap : Array Value) (w : World) : (binOp .eql 78 (.func (.func 43) #[] cap) .nilFunc).run Tryd.prog w = .ok (.bool false) w := by kernel_rfl

/-- What the function's frame holds while entries come: pre have come; i counts them. -/
structure YInv (w w1 : World) (A : Option Addr) (c : Nat) (nn : Int) (D : List (Nat × Int)) (bi bk : Nat) (kv : Int) (ds : List Nat) (pre : List (Nat × Int)) (W : World) : Prop where
  i : Boxed W bi 3 (.int .i64 (pre.length : Nat))
  k : Boxed W bk 3 (.int .i64 kv)
  want : Boxed W (w.heap.size + 1) 33 (.slice A D.length c)
  n : Boxed W (w.heap.size + 1 + 1) 3 (.int .i64 nn)
  res : Boxed W (w.heap.size + 1 + 1 + 1) 4 (.bool false)
  pre : pre <+: D
  below : Below w.heap.size w W
  below1 : Below w1.heap.size w1 W
  marks : ∀ d ∈ ds, W.heap[d]? = some (.deferred (some []))

theorem box_own {W W' : World} {row : Option Nat} {b : Nat} {t : TypeId} {v : Value} (h : Boxed W b t v) (hg : W.grownBy W' row) (hr : ∀ r, row = some r → ∃ o : Obj, W.heap[r]? = some o ∧ o.isCells = false) : Boxed W' b t v :=
  h.kept hg fun e => by
    obtain ⟨o, ho, hc⟩ := hr b e.symm
    rw [show W.heap[b]? = _ from h] at ho
    injection ho with ho; subst ho; cases hc

section
variable {w w1 : World} {A : Option Addr} {c : Nat} {nn : Int} {D : List (Nat × Int)} {bi bk : Nat} {kv : Int} {ds : List Nat}
theorem yinv_own {B : Nat} (hB : w.heap.size ≤ B) (hB1 : w1.heap.size ≤ B) (hd : ∀ d ∈ ds, d < B) : OwnFrom B (YInv w w1 A c nn D bi bk kv ds) := by
  intro s X Y row h hg hr
  have hr' := fun r e => (hr r e).2
  refine ⟨box_own h.i hg hr', box_own h.k hg hr', box_own h.want hg hr', box_own h.n hg hr', box_own h.res hg hr', h.pre, h.below.grown hg h.below.size (fun r e => Nat.le_trans hB (hr r e).1), h.below1.grown hg h.below1.size (fun r e => Nat.le_trans hB1 (hr r e).1), fun d m => ?_⟩
  exact (hg.block d (Array.getElem?_eq_some_iff.1 (h.marks d m)).1 (fun e => by have := (hr d e.symm).1; have := hd d m; omega)).trans (h.marks d m)

theorem YInv.step {pre : List (Nat × Int)} {W : World} {x : Nat × Int} (h : YInv w w1 A c nn D bi bk kv ds pre W) (hb : w.heap.size + 4 ≤ bi) (hb1 : w1.heap.size ≤ bi) (hk : bk ≠ bi) (hx : pre ++ [x] <+: D) :
    YInv w w1 A c nn D bi bk kv ds (pre ++ [x]) (W.setCell ⟨bi, 0, none⟩ (.int .i64 ((pre.length : Nat) + 1 : Int))) := by
  refine ⟨?_, h.k.other hk _, h.want.other (by omega) _, h.n.other (by omega) _, h.res.other (by omega) _, hx, h.below.setCell (p := ⟨bi, 0, none⟩) (by simp; omega) _, h.below1.setCell (p := ⟨bi, 0, none⟩) hb1 _, fun d m => ?_⟩
  · have := h.i.set (.int .i64 ((pre.length : Nat) + 1 : Int))
    simpa using this
  · refine (Below.heap_setCell _ _ _ _ (fun e => ?_)).trans (h.marks d m)
    have := h.marks _ m
    rw [show d = bi from e, show W.heap[bi]? = _ from h.i] at this
    cases this

theorem keeps76_box {W : World} {b : Nat} {v u : Value} (h : Boxed W b 3 v) (h0 : 0 < b) : Keeps76 W (W.setCell ⟨b, 0, none⟩ u) := by
  refine ⟨by rw [World.size_setCell]; exact Nat.le_refl _, fun k cs hk => ?_, ?_⟩
  · refine (Below.heap_setCell _ _ _ _ (fun e => ?_)).trans hk
    subst e
    rw [show W.heap[k]? = _ from h] at hk
    injection hk with hk; injection hk with _ hk; cases hk
  · exact Below.heap_setCell _ _ _ _ (by simp; omega)

theorem prefix_next {pre : List (Nat × Int)} {y : Nat × Int} (h : pre <+: D) (hy : D[pre.length]? = some y) (x : Nat × Int) : pre ++ [x] <+: D ↔ x = y := by
  obtain ⟨r, rfl⟩ := h
  cases r with
  | nil => simp at hy
  | cons z r =>
    have hz : z = y := by simpa using hy
    subst hz
    constructor
    · rintro ⟨r', e⟩
      rw [List.append_assoc] at e
      have := List.append_cancel_left e
      simpa using congrArg List.head? this
    · rintro rfl
      exact ⟨r, by simp⟩
end

theorem res24 (tmps : Array Value) (w : World) (g : Nat) (b : Bool) (hp : tmps.getD 12 undef = .pointer (some ⟨g, 0, none⟩)) (hg : Boxed w g 4 (.bool b)) :
    (results Tryd.f24 tmps).run Tryd.prog w = .ok (.bool b) w := by
  have hc := hg.cell
  have hp' : tmps[12]?.getD undef = .pointer (some ⟨g, 0, none⟩) := by simpa using hp
  simp [results, Tryd.results24, hp', asAddr, go_sem, hc]

theorem YInv.leave {w w1 : World} {A : Option Addr} {c : Nat} {nn kv : Int} {D pre : List (Nat × Int)} {bi bk Dm Dn : Nat} {W : World} (h : YInv w w1 A c nn D bi bk kv [Dm] pre W) (hne : Dm ≠ Dn) (hm : w.heap.size ≤ Dm) (hn : w.heap.size ≤ Dn) (hk : W.heap[Dn]? = some (.deferred (some [])))
    (tmps : Array Value) (v : Value) (hp : tmps.getD 12 undef = .pointer (some ⟨w.heap.size + 1 + 1 + 1, 0, none⟩)) :
    bodyPostM Fence.wide 3 Tryd.prog Tryd.f24 (YP w) .ret { tmps := tmps, defers := [{ target := .collected Dn, args := #[] }, { target := .collected Dm, args := #[] }] } ((W.alloc (.cells #[v] 3)).setCell ⟨w.heap.size + 1 + 1 + 1, 0, none⟩ (.bool true)) := by
  have hbs := h.below.size
  have hlt : ∀ {d : Nat} {o : Obj}, W.heap[d]? = some o → d < W.heap.size := fun hd => (Array.getElem?_eq_some_iff.1 hd).1
  have hmk : ∀ d : Nat, W.heap[d]? = some (Obj.deferred (some [])) → ((W.alloc (.cells #[v] 3)).setCell ⟨w.heap.size + 1 + 1 + 1, 0, none⟩ (.bool true)).heap[d]? = some (.deferred (some [])) := fun d hd => by
    refine (Below.heap_setCell _ _ _ _ (fun e => ?_)).trans ((Below.heap_alloc _ _ _ (hlt hd)).trans hd)
    rw [show d = w.heap.size + 1 + 1 + 1 from e, show W.heap[w.heap.size + 1 + 1 + 1]? = _ from h.res] at hd
    cases hd
  have hm1 := hmk Dn hk
  have hm2 := hmk Dm (h.marks Dm (by simp))
  have hres : Boxed ((W.alloc (.cells #[v] 3)).setCell ⟨w.heap.size + 1 + 1 + 1, 0, none⟩ (.bool true)) (w.heap.size + 1 + 1 + 1) 4 (.bool true) := (h.res.alloc _).set _
  have hbel : Below w.heap.size w ((W.alloc (.cells #[v] 3)).setCell ⟨w.heap.size + 1 + 1 + 1, 0, none⟩ (.bool true)) := (h.below.alloc hbs _).setCell (p := ⟨w.heap.size + 1 + 1 + 1, 0, none⟩) (by simp; omega) _
  generalize (W.alloc (.cells #[v] 3)).setCell ⟨w.heap.size + 1 + 1 + 1, 0, none⟩ (.bool true) = X at hm1 hm2 hres hbel
  have hbp : ∀ {X Y : World} {d : Nat} {o' : Obj}, Below w.heap.size w X → X.heap[d]? = some (Obj.deferred (some [])) → w.heap.size ≤ d → Below w.heap.size w (X.putObj d o') := fun {X Y d o'} hb hd hl =>
    hb.trans (belowK_b (w := w) (Nat.le_refl _) X d _ _ hl hd rfl rfl)
  have hm3 : (X.putObj Dn (.deferred none)).heap[Dm]? = some (.deferred (some [])) := (World.putObj_heap_other hne).trans hm2
  refine ⟨by simp, .inl ⟨_, _, rfl, run_takeDeferred hm1, ?_⟩⟩
  refine ⟨by simp, .inl ⟨_, _, rfl, run_takeDeferred hm3, ?_⟩⟩
  refine ⟨_, res24 _ _ _ true hp ?_, rfl, hbp (Y := X) (hbp (Y := X) hbel hm1 hn) hm3 hm⟩
  exact box_own (box_own hres (grownBy_putObj' _ _ _) (fun r e => by cases e; exact ⟨_, hm1, rfl⟩)) (grownBy_putObj' _ _ _) (fun r e => by cases e; exact ⟨_, hm3, rfl⟩)
theorem YInv.second {w w1 : World} {A : Option Addr} {c : Nat} {nn : Int} {D pre : List (Nat × Int)} {bi bk Dm : Nat} {W : World} (h : YInv w w1 A c nn D bi bk 0 [] pre W) (hk : W.heap[Dm]? = some (.deferred (some []))) :
    YInv w w1 A c nn D (W.heap.size + 1) W.heap.size 1 [Dm] [] ((W.alloc (.cells #[.int .i64 1] 3)).alloc (.cells #[.int .i64 0] 3)) := by
  have hi := Boxed.new (W.alloc (.cells #[.int .i64 1] 3)) 3 (.int .i64 0)
  rw [World.size_alloc] at hi
  refine ⟨hi, (Boxed.new W 3 (.int .i64 1)).alloc _, (h.want.alloc _).alloc _, (h.n.alloc _).alloc _, (h.res.alloc _).alloc _, List.nil_prefix, (h.below.alloc h.below.size _).alloc (by have := h.below.size; simp; omega) _, (h.below1.alloc h.below1.size _).alloc (by have := h.below1.size; simp; omega) _, fun d hd => ?_⟩
  obtain rfl : d = Dm := by simpa using hd
  have hlt := (Array.getElem?_eq_some_iff.1 hk).1
  rw [Below.heap_alloc _ _ _ (by simp; omega), Below.heap_alloc _ _ _ hlt]
  exact hk
theorem yinv_start {w w1 : World} {A : Option Addr} {c : Nat} {nn : Int} {D : List (Nat × Int)} (r1 : w1.heap[w.heap.size + 1]? = some (.cells #[.slice A D.length c] 33)) (r2 : w1.heap[w.heap.size + 1 + 1]? = some (.cells #[.int .i64 nn] 3))
    (r3 : w1.heap[w.heap.size + 1 + 1 + 1]? = some (.cells #[.bool false] 4)) (hb : Below w.heap.size w w1) (hw : w.heap.size + 4 ≤ w1.heap.size) :
    YInv w w1 A c nn D (w1.heap.size + 1) w1.heap.size 0 [] [] ((w1.alloc (.cells #[.int .i64 0] 3)).alloc (.cells #[.int .i64 0] 3)) := by
  have hi := Boxed.new (w1.alloc (.cells #[.int .i64 0] 3)) 3 (.int .i64 0)
  rw [World.size_alloc] at hi
  exact ⟨hi, (Boxed.new w1 3 (.int .i64 0)).alloc _, ((show Boxed w1 _ _ _ from r1).alloc _).alloc _, ((show Boxed w1 _ _ _ from r2).alloc _).alloc _, ((show Boxed w1 _ _ _ from r3).alloc _).alloc _, List.nil_prefix, (hb.alloc hb.size _).alloc (by simp; omega) _, ((Below.refl _ _).alloc (Nat.le_refl _) _).alloc (by simp) _, fun d h => by cases h⟩
theorem four_cells (w : World) (a b : Value) (t0 : TypeId) (o1 o2 o3 : Obj) : ((((w.alloc (.cells #[a, b] t0)).alloc o1).alloc o2).alloc o3).cell? ⟨w.heap.size, 0, none⟩ = some a ∧ ((((w.alloc (.cells #[a, b] t0)).alloc o1).alloc o2).alloc o3).cell? ⟨w.heap.size, 1, none⟩ = some b := by
  have h : ((((w.alloc (.cells #[a, b] t0)).alloc o1).alloc o2).alloc o3).heap[w.heap.size]? = some (.cells #[a, b] t0) := by
    rw [Below.heap_alloc _ _ _ (by simp; omega), Below.heap_alloc _ _ _ (by simp; omega), Below.heap_alloc _ _ _ (by simp)]
    exact World.alloc_heap_new w _
  exact ⟨by simp [World.cell?, h], by simp [World.cell?, h]⟩
theorem four_cells_b {w W : World} {a b : Value} {t0 : TypeId} {o1 o2 o3 : Obj} (h : Below ((((w.alloc (.cells #[a, b] t0)).alloc o1).alloc o2).alloc o3).heap.size ((((w.alloc (.cells #[a, b] t0)).alloc o1).alloc o2).alloc o3) W) :
    W.cell? ⟨w.heap.size, 0, none⟩ = some a ∧ W.cell? ⟨w.heap.size, 1, none⟩ = some b :=
  ⟨(h.cell (p := ⟨w.heap.size, 0, none⟩) (by simp; omega)).trans (four_cells w _ _ _ _ _ _).1, (h.cell (p := ⟨w.heap.size, 1, none⟩) (by simp; omega)).trans (four_cells w _ _ _ _ _ _).2⟩

set_option maxRecDepth 100000 in
set_option maxHeartbeats 4000000 in
theorem yields_range (T : TV) (n1 f t nn : Int) (A : Option Addr) (c : Nat) (D : List (Nat × Int)) (w : World) (Hs : Hid (Sub w T 2 0)) (HD : Hid (D = entR T.m f t 0 4096)) (Hsl : Hid (Sl w w.heap.size A (entCells (entI D)))) :
    CallsIn Fence.wide 3 Tryd.prog 24 #[.agg #[ptrV (T.adr 2 0), .int .i64 n1], .bool false, .int .i64 f, .int .i64 t, .slice A D.length c, .int .i64 nn] w (YP w) := by
  refine callsIn_of_wp_marks Tryd.func24 rfl trivial ?_ rfl
  simp only [Tryd.ntmps24, List.size_toArray, List.length_cons, List.length_nil, Nat.reduceAdd, Nat.reduceSub, Array.replicate_succ, Array.replicate_zero, List.push_toArray, List.append_toArray, List.nil_append, List.cons_append]
  have hb0 : Below w.heap.size w ((((w.alloc (.cells #[ptrV (T.adr 2 0), .int .i64 n1] 31)).alloc (.cells #[.slice A D.length c] 33)).alloc (.cells #[.int .i64 nn] 3)).alloc (.cells #[.bool false] 4)) := ((((Below.refl _ _).alloc (Nat.le_refl _) _).alloc (by simp) _).alloc (by simp; omega) _).alloc (by simp; omega) _
  have Hb0 := Lib.hid hb0
  have HDl : Hid (D.length ≤ 4096) := by show _ ≤ _; rw [HD.out]; exact ent_len _ _ _ _ _
  clear hb0
  have hfn := func_nil
  gi_wp2_with (refine ⟨trivial, ?_⟩; gi_at_call 38; refine (callsIn_wide.2 (range_any T n1 f t _ (Hs.out.below Hb0.out))).mono ?_; rintro e w1 ⟨v, rfl, hv, hb⟩; obtain ⟨b1, b2, b3, rfl, hv⟩ := hv; have Hv := Lib.hid hv; have Hb := Lib.hid hb; clear hv hb)
  obtain ⟨r1, r2, r3⟩ := four_boxes Hb.out
  have hb1 : Below w.heap.size w w1 := Hb0.out.trans (Hb.out.mono (by simp; omega))
  have hw1 : w.heap.size + 4 ≤ w1.heap.size := by have := Hb.out.size; simp at this; omega
  have Hb1 := Lib.hid hb1
  have R1 := Lib.hid r1
  have R2 := Lib.hid r2
  have R3 := Lib.hid r3
  have hseq : ∀ m, SeqStopsK Fence.wide m Tryd.prog 43 #[.pointer (some ⟨b1, 0, none⟩), .pointer (some ⟨b2, 0, none⟩), .pointer (some ⟨b3, 0, none⟩)] encE Keeps76 (fun ys => ys = D) (fun pre => pre <+: D) D.length w1 := by
    intro m
    obtain ⟨T', n', f', t', eD, h0, hs, q1, q2, q3⟩ := Hv.out
    rw [HD.out, eD]
    exact range_stops m b1 b2 b3 T' n' f' t' w1 h0 hs q1 q2 q3
  have Hseq := Lib.hid hseq
  clear hb1 r1 r2 r3 hseq
  refine wpIn_loop_rounds 3 ?_
  rw [roundsIn_succ]
  gi_wp2
  refine wpIn_rangeFunc_join rfl (by omega) (gf := 43) (lb := #[.pointer (some ⟨b1, 0, none⟩), .pointer (some ⟨b2, 0, none⟩), .pointer (some ⟨b3, 0, none⟩)]) rfl trivial (enters_of Tryd.func43 (by kernel_rfl) rfl)
    (Hseq.out 2) Keeps76.trans (keeps76_putObj (by simp <;> omega)) (((Below.refl _ _).alloc (Nat.le_refl _) _).alloc (by simp) _) (fun _ => rfl)
    (YInv w w1 A c nn D (w1.heap.size + 1) (w1.heap.size) 0 []) (fun pre => ((pre.length : Nat) : Int) = nn) 2
    (yinv_own (by simp <;> omega) (by simp <;> omega) (fun d h => by cases h)) (yinv_start R1.out R2.out R3.out Hb1.out hw1)
    (fun x => { tmps := #[.agg #[ptrV (T.adr 2 0), .int .i64 n1], .bool false, .int .i64 f, .int .i64 t, .slice A D.length c, .int .i64 nn, .pointer (some ⟨w.heap.size, 0, none⟩), undef, undef, undef, .pointer (some ⟨w.heap.size + 1, 0, none⟩), .pointer (some ⟨w.heap.size + 1 + 1, 0, none⟩), .pointer (some ⟨w.heap.size + 1 + 1 + 1, 0, none⟩), .func (.func 43) #[] #[.pointer (some ⟨b1, 0, none⟩), .pointer (some ⟨b2, 0, none⟩), .pointer (some ⟨b3, 0, none⟩)], .pointer (some ⟨w1.heap.size, 0, none⟩), .pointer (some ⟨w1.heap.size + 1, 0, none⟩), .int .i64 (x.1 : Int), .int .i64 x.2, .agg #[ptrV (T.adr 2 0), .int .i64 n1], .int .i64 f, .int .i64 t, .func (.func 43) #[] #[.pointer (some ⟨b1, 0, none⟩), .pointer (some ⟨b2, 0, none⟩), .pointer (some ⟨b3, 0, none⟩)], .bool false, undef, undef, .func (.func 43) #[] #[.pointer (some ⟨b1, 0, none⟩), .pointer (some ⟨b2, 0, none⟩), .pointer (some ⟨b3, 0, none⟩)], .bool false, .int .i64 0, .bool true, undef, undef, .func (.func 43) #[] #[.pointer (some ⟨b1, 0, none⟩), .pointer (some ⟨b2, 0, none⟩), .pointer (some ⟨b3, 0, none⟩)], .int .i64 (x.1 : Int), .int .i64 x.2, undef, undef, undef, undef, undef, undef, undef, undef, undef, undef, undef, undef, undef, undef, undef, undef, undef, undef, undef, undef, undef, undef, undef, undef, undef, undef, undef, undef, undef, undef, undef, undef, undef, undef, undef, undef, undef, undef, undef, undef, undef, undef, undef, undef, undef], defers := [] }) ?assign0 ?body0 (fun _ _ h => h) ?cont0
  case assign0 =>
    intro l x W K hK
    simp only [encE]
    gi_wp2
    exact hK
  case body0 =>
    rintro l pre x W hI hlt
    have hci := hI.i.cell
    have hck := hI.k.cell
    have hcw := hI.want.cell
    have hcn := hI.n.cell
    have hcr := hI.res.cell
    have hfi := hI.i.frozen
    have hfr := hI.res.frozen
    obtain ⟨y, hy⟩ : ∃ y, D[pre.length]? = some y := ⟨_, List.getElem?_eq_getElem hlt⟩
    obtain ⟨g, o, rfl, hg, hc⟩ := Hsl.out.at_ (k := pre.length * 2) (by rw [entCells_len]; simp only [entI, List.length_map]; omega)
    have hyI : (entI D)[pre.length]? = some ((y.1 : Int), y.2) := by simp [entI, hy]
    have hc0 : W.cell? ⟨g, o + pre.length * 2, none⟩ = some (.int .i64 (y.1 : Int)) := by rw [hI.below.cell (p := ⟨g, o + pre.length * 2, none⟩) hg]; exact hc _ _ (entCells_at (entI D) _ _ hyI).1
    have hc1 : W.cell? ⟨g, o + pre.length * 2 + 1, none⟩ = some (.int .i64 y.2) := by rw [hI.below.cell (p := ⟨g, o + pre.length * 2 + 1, none⟩) hg]; exact hc _ _ (entCells_at (entI D) _ _ hyI).2
    have hpx := prefix_next hI.pre hy x
    have Hpx := Lib.hid hpx
    have HI := Lib.hid hI
    have hlD := HDl.out
    have hL1 : (0 : Int) ≤ (pre.length : Int) := by omega
    have hL2 : (pre.length : Int) < (D.length : Int) := by omega
    clear hpx hI hy hyI hc
    by_cases h1 : (y.1 : Int) = (x.1 : Int)
    · have t1 : ((y.1 : Int) != (x.1 : Int)) = false := by simp; omega
      by_cases h2 : y.2 = x.2
      · have t2 : (y.2 != x.2) = false := by simp [h2]
        have hstep := HI.out.step (x := x) (by omega) (by omega) (by omega) (Hpx.out.2 (by cases x; cases y; simp only [Prod.mk.injEq]; simp only at h1 h2; exact ⟨by omega, h2.symm⟩))
        have Hstep := Lib.hid hstep
        have Hk7 := Lib.hid (keeps76_box (u := .int .i64 ((pre.length : Nat) + 1 : Int)) HI.out.i (by omega))
        clear hstep h1 h2
        by_cases hn : (pre.length : Int) + 1 = nn
        · have t3 : ((pre.length : Int) + 1 == nn) = true := by simp [hn]
          have Hn := Lib.hid hn
          clear hn
          gi_wp2
          exact ⟨(KeepsOthers.setCell _ _ _).from _, .inr ⟨rfl, by simpa using Hn.out, Hstep.out⟩⟩
        · have t3 : ((pre.length : Int) + 1 == nn) = false := by simp [hn]
          clear hn
          gi_wp2
          exact ⟨(KeepsOthers.setCell _ _ _).from _, Hk7.out, Hstep.out⟩
      · have t2 : (y.2 != x.2) = true := by simp [h2]
        have HN : Hid (¬ pre ++ [x] <+: D) := fun h => h2 (by rw [Hpx.out.1 h])
        clear h1 h2
        gi_wp2
        exact ⟨(KeepsOthers.setCell _ _ _).from _, .inl ⟨rfl, HN.out⟩⟩
    · have t1 : ((y.1 : Int) != (x.1 : Int)) = true := by simp; omega
      have HN : Hid (¬ pre ++ [x] <+: D) := fun h => h1 (by rw [Hpx.out.1 h])
      clear h1
      gi_wp2
      exact ⟨(KeepsOthers.setCell _ _ _).from _, .inl ⟨rfl, HN.out⟩⟩
  case cont0 =>
    rintro Dm pre W hDm hor hI hK
    have hci := hI.i.cell
    have hck := hI.k.cell
    have hcw := hI.want.cell
    have hcn := hI.n.cell
    have hlp : pre.length ≤ 4096 := Nat.le_trans (hI.pre.length_le) HDl.out
    have hlD := HDl.out
    have hWs : w1.heap.size + 2 ≤ W.heap.size := by have := hI.i.lt; omega
    have HI := Lib.hid hI
    have HK := Lib.hid hK
    have HDm := Lib.hid hDm
    have hkW := hI.k.alloc (.cells #[.int .i64 0] 3)
    clear hI hK hDm
    obtain ⟨u1, u2, hu1, hu2, hch⟩ : ∃ u1 u2 : Bool, u1 = ((pre.length : Int) != (D.length : Int)) ∧ u2 = ((pre.length : Int) != nn) ∧ (u1 && u2) = false := by
      refine ⟨_, _, rfl, rfl, ?_⟩
      rcases hor with h | h
      · have h' : pre = D := h
        subst h'; simp
      · simp [h]
    clear hor
    have hu1' := hu1.symm
    have hu2' := hu2.symm
    clear hu1 hu2
    cases u1
    · clear hu2' hch
      have hW0 : w.heap.size + 4 ≤ W.heap.size := by omega
      gi_wp2
      rw [roundsIn_succ]
      gi_wp2
      refine wpIn_rangeFunc_join rfl (by omega) (gf := 43) (lb := #[.pointer (some ⟨b1, 0, none⟩), .pointer (some ⟨b2, 0, none⟩), .pointer (some ⟨b3, 0, none⟩)]) rfl trivial (enters_of Tryd.func43 (by kernel_rfl) rfl)
        (Hseq.out 2) Keeps76.trans (keeps76_putObj (by simp <;> omega)) ((HI.out.below1.alloc (by omega) _).alloc (by simp; omega) _) (fun _ => rfl)
        (YInv w w1 A c nn D (W.heap.size + 1) (W.heap.size) 1 [Dm]) (fun _ => False) 2
        (yinv_own (by simp <;> omega) (by simp <;> omega) (fun d h => by have := (Array.getElem?_eq_some_iff.1 HK.out).1; simp only [List.mem_singleton] at h; subst h; simp; omega)) (HI.out.second HK.out)
        (fun x => { tmps := #[.agg #[ptrV (T.adr 2 0), .int .i64 n1], .bool false, .int .i64 f, .int .i64 t, .slice A D.length c, .int .i64 nn, .pointer (some ⟨w.heap.size, 0, none⟩), undef, undef, undef, .pointer (some ⟨w.heap.size + 1, 0, none⟩), .pointer (some ⟨w.heap.size + 1 + 1, 0, none⟩), .pointer (some ⟨w.heap.size + 1 + 1 + 1, 0, none⟩), .func (.func 43) #[] #[.pointer (some ⟨b1, 0, none⟩), .pointer (some ⟨b2, 0, none⟩), .pointer (some ⟨b3, 0, none⟩)], .pointer (some ⟨W.heap.size, 0, none⟩), .pointer (some ⟨W.heap.size + 1, 0, none⟩), .int .i64 (x.1 : Int), .int .i64 x.2, .agg #[ptrV (T.adr 2 0), .int .i64 n1], .int .i64 f, .int .i64 t, .func (.func 43) #[] #[.pointer (some ⟨b1, 0, none⟩), .pointer (some ⟨b2, 0, none⟩), .pointer (some ⟨b3, 0, none⟩)], .bool false, undef, undef, .func (.func 43) #[] #[.pointer (some ⟨b1, 0, none⟩), .pointer (some ⟨b2, 0, none⟩), .pointer (some ⟨b3, 0, none⟩)], .bool false, .int .i64 1, .bool true, .int .i64 0, .int .i64 1, .func (.func 43) #[] #[.pointer (some ⟨b1, 0, none⟩), .pointer (some ⟨b2, 0, none⟩), .pointer (some ⟨b3, 0, none⟩)], .int .i64 (x.1 : Int), .int .i64 x.2, undef, undef, undef, undef, undef, undef, undef, undef, undef, undef, undef, undef, undef, undef, undef, undef, undef, undef, undef, undef, undef, undef, undef, undef, undef, undef, undef, undef, undef, undef, undef, .int .i64 (pre.length : Int), .slice A D.length c, .int .i64 (D.length : Int), .bool false, .bool false, undef, undef, undef, undef, undef, undef, undef, .bool false, .int .i64 0], defers := [] }) ?assign1 ?body1 (fun _ _ h => h) ?cont1
      case assign1 =>
        intro l x W K hK
        simp only [encE]
        gi_wp2
        exact hK
      case body1 =>
        rintro l pre x W hI hlt
        have hci := hI.i.cell
        have hck := hI.k.cell
        have hcw := hI.want.cell
        have hcn := hI.n.cell
        have hcr := hI.res.cell
        have hfi := hI.i.frozen
        have hfr := hI.res.frozen
        obtain ⟨y, hy⟩ : ∃ y, D[pre.length]? = some y := ⟨_, List.getElem?_eq_getElem hlt⟩
        obtain ⟨g, o, rfl, hg, hc⟩ := Hsl.out.at_ (k := pre.length * 2) (by rw [entCells_len]; simp only [entI, List.length_map]; omega)
        have hyI : (entI D)[pre.length]? = some ((y.1 : Int), y.2) := by simp [entI, hy]
        have hc0 : W.cell? ⟨g, o + pre.length * 2, none⟩ = some (.int .i64 (y.1 : Int)) := by rw [hI.below.cell (p := ⟨g, o + pre.length * 2, none⟩) hg]; exact hc _ _ (entCells_at (entI D) _ _ hyI).1
        have hc1 : W.cell? ⟨g, o + pre.length * 2 + 1, none⟩ = some (.int .i64 y.2) := by rw [hI.below.cell (p := ⟨g, o + pre.length * 2 + 1, none⟩) hg]; exact hc _ _ (entCells_at (entI D) _ _ hyI).2
        have hpx := prefix_next hI.pre hy x
        have Hpx := Lib.hid hpx
        have HI := Lib.hid hI
        have hlD := HDl.out
        have hL1 : (0 : Int) ≤ (pre.length : Int) := by omega
        have hL2 : (pre.length : Int) < (D.length : Int) := by omega
        clear hpx hI hy hyI hc
        by_cases h1 : (y.1 : Int) = (x.1 : Int)
        · have t1 : ((y.1 : Int) != (x.1 : Int)) = false := by simp; omega
          by_cases h2 : y.2 = x.2
          · have t2 : (y.2 != x.2) = false := by simp [h2]
            have hstep := HI.out.step (x := x) (by omega) (by omega) (by omega) (Hpx.out.2 (by cases x; cases y; simp only [Prod.mk.injEq]; simp only at h1 h2; exact ⟨by omega, h2.symm⟩))
            have Hstep := Lib.hid hstep
            have Hk7 := Lib.hid (keeps76_box (u := .int .i64 ((pre.length : Nat) + 1 : Int)) HI.out.i (by omega))
            clear hstep h1 h2
            gi_wp2
            exact ⟨(KeepsOthers.setCell _ _ _).from _, Hk7.out, Hstep.out⟩
          · have t2 : (y.2 != x.2) = true := by simp [h2]
            have HN : Hid (¬ pre ++ [x] <+: D) := fun h => h2 (by rw [Hpx.out.1 h])
            clear h1 h2
            gi_wp2
            exact ⟨(KeepsOthers.setCell _ _ _).from _, .inl ⟨rfl, HN.out⟩⟩
        · have t1 : ((y.1 : Int) != (x.1 : Int)) = true := by simp; omega
          have HN : Hid (¬ pre ++ [x] <+: D) := fun h => h1 (by rw [Hpx.out.1 h])
          clear h1
          gi_wp2
          exact ⟨(KeepsOthers.setCell _ _ _).from _, .inl ⟨rfl, HN.out⟩⟩
      case cont1 =>
        rintro Dn pre2 W2 hDn hor2 hI2 hK2
        obtain rfl : pre2 = D := by rcases hor2 with h | h; exact h; exact h.elim
        have hci2 := hI2.i.cell
        have hck2 := hI2.k.cell
        have hcw2 := hI2.want.cell
        have hcn2 := hI2.n.cell
        have hfr2 := (hI2.res.alloc (.cells #[.int .i64 2] 3)).frozen
        have hcr2 := (hI2.res.alloc (.cells #[.int .i64 2] 3)).cell
        have hW2 : W.heap.size + 2 ≤ W2.heap.size := by have := hI2.i.lt; omega
        have HI2 := Lib.hid hI2
        have HK2 := Lib.hid hK2
        clear hI2 hK2 hor2
        gi_wp2
        rw [roundsIn_succ]
        gi_wp2
        have hDm := HDm.out
        have hDmW := (Array.getElem?_eq_some_iff.1 HK.out).1
        simp only [World.size_alloc] at hDn hDm
        exact HI2.out.leave (by omega) (by omega) (by omega) HK2.out _ _ rfl

    · have hu3 : u2 = false := by simpa using hch
      subst hu3
      clear hch
      have hW0 : w.heap.size + 4 ≤ W.heap.size := by omega
      gi_wp2
      rw [roundsIn_succ]
      gi_wp2
      refine wpIn_rangeFunc_join rfl (by omega) (gf := 43) (lb := #[.pointer (some ⟨b1, 0, none⟩), .pointer (some ⟨b2, 0, none⟩), .pointer (some ⟨b3, 0, none⟩)]) rfl trivial (enters_of Tryd.func43 (by kernel_rfl) rfl)
        (Hseq.out 2) Keeps76.trans (keeps76_putObj (by simp <;> omega)) ((HI.out.below1.alloc (by omega) _).alloc (by simp; omega) _) (fun _ => rfl)
        (YInv w w1 A c nn D (W.heap.size + 1) (W.heap.size) 1 [Dm]) (fun _ => False) 2
        (yinv_own (by simp <;> omega) (by simp <;> omega) (fun d h => by have := (Array.getElem?_eq_some_iff.1 HK.out).1; simp only [List.mem_singleton] at h; subst h; simp; omega)) (HI.out.second HK.out)
        (fun x => { tmps := #[.agg #[ptrV (T.adr 2 0), .int .i64 n1], .bool false, .int .i64 f, .int .i64 t, .slice A D.length c, .int .i64 nn, .pointer (some ⟨w.heap.size, 0, none⟩), undef, undef, undef, .pointer (some ⟨w.heap.size + 1, 0, none⟩), .pointer (some ⟨w.heap.size + 1 + 1, 0, none⟩), .pointer (some ⟨w.heap.size + 1 + 1 + 1, 0, none⟩), .func (.func 43) #[] #[.pointer (some ⟨b1, 0, none⟩), .pointer (some ⟨b2, 0, none⟩), .pointer (some ⟨b3, 0, none⟩)], .pointer (some ⟨W.heap.size, 0, none⟩), .pointer (some ⟨W.heap.size + 1, 0, none⟩), .int .i64 (x.1 : Int), .int .i64 x.2, .agg #[ptrV (T.adr 2 0), .int .i64 n1], .int .i64 f, .int .i64 t, .func (.func 43) #[] #[.pointer (some ⟨b1, 0, none⟩), .pointer (some ⟨b2, 0, none⟩), .pointer (some ⟨b3, 0, none⟩)], .bool false, undef, undef, .func (.func 43) #[] #[.pointer (some ⟨b1, 0, none⟩), .pointer (some ⟨b2, 0, none⟩), .pointer (some ⟨b3, 0, none⟩)], .bool false, .int .i64 1, .bool true, .int .i64 0, .int .i64 1, .func (.func 43) #[] #[.pointer (some ⟨b1, 0, none⟩), .pointer (some ⟨b2, 0, none⟩), .pointer (some ⟨b3, 0, none⟩)], .int .i64 (x.1 : Int), .int .i64 x.2, undef, undef, undef, undef, undef, undef, undef, undef, undef, undef, undef, undef, undef, undef, undef, undef, undef, undef, undef, undef, undef, undef, undef, undef, undef, undef, undef, undef, undef, undef, undef, .int .i64 (pre.length : Int), .slice A D.length c, .int .i64 (D.length : Int), .bool true, .bool true, .int .i64 0, .bool false, .bool false, .int .i64 (pre.length : Int), .int .i64 nn, .bool false, .bool false, .bool false, .int .i64 0], defers := [] }) ?assign1 ?body1 (fun _ _ h => h) ?cont1
      case assign1 =>
        intro l x W K hK
        simp only [encE]
        gi_wp2
        exact hK
      case body1 =>
        rintro l pre x W hI hlt
        have hci := hI.i.cell
        have hck := hI.k.cell
        have hcw := hI.want.cell
        have hcn := hI.n.cell
        have hcr := hI.res.cell
        have hfi := hI.i.frozen
        have hfr := hI.res.frozen
        obtain ⟨y, hy⟩ : ∃ y, D[pre.length]? = some y := ⟨_, List.getElem?_eq_getElem hlt⟩
        obtain ⟨g, o, rfl, hg, hc⟩ := Hsl.out.at_ (k := pre.length * 2) (by rw [entCells_len]; simp only [entI, List.length_map]; omega)
        have hyI : (entI D)[pre.length]? = some ((y.1 : Int), y.2) := by simp [entI, hy]
        have hc0 : W.cell? ⟨g, o + pre.length * 2, none⟩ = some (.int .i64 (y.1 : Int)) := by rw [hI.below.cell (p := ⟨g, o + pre.length * 2, none⟩) hg]; exact hc _ _ (entCells_at (entI D) _ _ hyI).1
        have hc1 : W.cell? ⟨g, o + pre.length * 2 + 1, none⟩ = some (.int .i64 y.2) := by rw [hI.below.cell (p := ⟨g, o + pre.length * 2 + 1, none⟩) hg]; exact hc _ _ (entCells_at (entI D) _ _ hyI).2
        have hpx := prefix_next hI.pre hy x
        have Hpx := Lib.hid hpx
        have HI := Lib.hid hI
        have hlD := HDl.out
        have hL1 : (0 : Int) ≤ (pre.length : Int) := by omega
        have hL2 : (pre.length : Int) < (D.length : Int) := by omega
        clear hpx hI hy hyI hc
        by_cases h1 : (y.1 : Int) = (x.1 : Int)
        · have t1 : ((y.1 : Int) != (x.1 : Int)) = false := by simp; omega
          by_cases h2 : y.2 = x.2
          · have t2 : (y.2 != x.2) = false := by simp [h2]
            have hstep := HI.out.step (x := x) (by omega) (by omega) (by omega) (Hpx.out.2 (by cases x; cases y; simp only [Prod.mk.injEq]; simp only at h1 h2; exact ⟨by omega, h2.symm⟩))
            have Hstep := Lib.hid hstep
            have Hk7 := Lib.hid (keeps76_box (u := .int .i64 ((pre.length : Nat) + 1 : Int)) HI.out.i (by omega))
            clear hstep h1 h2
            gi_wp2
            exact ⟨(KeepsOthers.setCell _ _ _).from _, Hk7.out, Hstep.out⟩
          · have t2 : (y.2 != x.2) = true := by simp [h2]
            have HN : Hid (¬ pre ++ [x] <+: D) := fun h => h2 (by rw [Hpx.out.1 h])
            clear h1 h2
            gi_wp2
            exact ⟨(KeepsOthers.setCell _ _ _).from _, .inl ⟨rfl, HN.out⟩⟩
        · have t1 : ((y.1 : Int) != (x.1 : Int)) = true := by simp; omega
          have HN : Hid (¬ pre ++ [x] <+: D) := fun h => h1 (by rw [Hpx.out.1 h])
          clear h1
          gi_wp2
          exact ⟨(KeepsOthers.setCell _ _ _).from _, .inl ⟨rfl, HN.out⟩⟩
      case cont1 =>
        rintro Dn pre2 W2 hDn hor2 hI2 hK2
        obtain rfl : pre2 = D := by rcases hor2 with h | h; exact h; exact h.elim
        have hci2 := hI2.i.cell
        have hck2 := hI2.k.cell
        have hcw2 := hI2.want.cell
        have hcn2 := hI2.n.cell
        have hfr2 := (hI2.res.alloc (.cells #[.int .i64 2] 3)).frozen
        have hcr2 := (hI2.res.alloc (.cells #[.int .i64 2] 3)).cell
        have hW2 : W.heap.size + 2 ≤ W2.heap.size := by have := hI2.i.lt; omega
        have HI2 := Lib.hid hI2
        have HK2 := Lib.hid hK2
        clear hI2 hK2 hor2
        gi_wp2
        rw [roundsIn_succ]
        gi_wp2
        have hDm := HDm.out
        have hDmW := (Array.getElem?_eq_some_iff.1 HK.out).1
        simp only [World.size_alloc] at hDn hDm
        exact HI2.out.leave (by omega) (by omega) (by omega) HK2.out _ _ rfl


end Go.Proofs.YtognbkmamhgkeaaDoor
