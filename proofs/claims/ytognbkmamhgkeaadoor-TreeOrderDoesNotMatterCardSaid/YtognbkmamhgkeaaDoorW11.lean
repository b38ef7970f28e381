/-
  The walks of tree.Diff and tree.Equal: the blocks that two trees do not map alike, in increasing order, in a slice of the call's own.
-/
import Derived.Test.YtognbkmamhgkeaaDoorW10
import Derived.LoopNIn
import Derived.LoopIn
import Derived.Maps.AppendAt
namespace Go.Proofs.YtognbkmamhgkeaaDoor
open Go Go.RowKit Go.Walks Go.Shelf
attribute [local go_sem] Oper.semAt_some

theorem info3 : (Tryd.prog.info? 3).map (fun i => (i.zero, i.size, i.bytes)) = some (some (.int .i64 0), 1, 8) := by kernel_rfl

/-- The integers of a list of blocks. -/
def natInts (xs : List Nat) : List Value := xs.map fun (x : Nat) => Value.int .i64 (x : Int)

theorem diff_len (m1 m2 : Nat → Option Int) (lo n : Nat) : (diffR m1 m2 lo n).length ≤ n := by
  unfold diffR
  have := List.length_filter_le (fun x => decide (m1 x ≠ m2 x)) ((List.range n).map (lo + ·))
  simpa using this

theorem keeps76_putObj {w : World} (h0 : 0 < w.heap.size) (W : World) (l : Nat) (o o' : Obj) (hl : w.heap.size ≤ l) (h : W.heap[l]? = some o) (hc : o.isCells = false) (_ : o.isWalk = false) : Keeps76 W (W.putObj l o') := by
  have hg := grownBy_putObj' W l o'
  have lt : ∀ {g : Nat} {x : Obj}, W.heap[g]? = some x → g < W.heap.size := fun {g x} hx => (Array.getElem?_eq_some_iff.1 hx).1
  refine ⟨hg.size, fun k cs hk => ?_, hg.block 0 (by have := lt h; omega) (fun e => by injection e with e; omega)⟩
  refine (hg.block k (lt hk) (fun e => ?_)).trans hk
  injection e with e; subst e
  rw [h] at hk; injection hk with hk; subst hk; cases hc

theorem append_keeps76 {W w1 : World} {o : Obj} {b base n : Nat} {t e : TypeId} {v v' u : Value} {xs : List Value} {size : Nat} (hv : Boxed W b t u) (ht : t ≠ 76) (he : e ≠ 76) (hrow : W.ownsRow base e size v n xs)
    (hgrow : (W.alloc o).grownBy w1 v.ownBlock) (hb : 0 < b) (hbase : 0 < base) : Keeps76 W (w1.setCell ⟨b, 0, none⟩ v') := by
  have lt : ∀ {g : Nat} {x : Obj}, W.heap[g]? = some x → g < W.heap.size := fun {g x} hx => (Array.getElem?_eq_some_iff.1 hx).1
  have hown : ∀ g, v.ownBlock = some g → base ≤ g ∧ ∃ cur, W.heap[g]? = some (.cells cur e) := by
    intro g hg
    rcases hrow.2 with ⟨rfl, _⟩ | ⟨g', cap, cur, rfl, hle, hh, _⟩
    · simp [Value.ownBlock] at hg
    · have : g' = g := by simpa [Value.ownBlock] using hg
      subst this; exact ⟨hle, cur, hh⟩
  have hs := hgrow.size
  have hlt := hv.lt
  refine ⟨by rw [World.size_setCell]; simp at hs; omega, fun k cs hk => ?_, ?_⟩
  · have h1 := lt hk
    have hkb : k ≠ b := by
      rintro rfl
      rw [show W.heap[k]? = _ from hv] at hk
      injection hk with hk; injection hk with _ hk; exact ht hk
    rw [Below.heap_setCell _ _ _ _ hkb, hgrow.block k (by simp; omega) (fun e' => ?_), Below.heap_alloc _ _ _ h1]
    · exact hk
    · obtain ⟨_, cur, hh⟩ := hown k e'.symm
      rw [hh] at hk
      injection hk with hk; injection hk with _ hk; exact he hk
  · rw [Below.heap_setCell _ _ _ _ (by simp; omega), hgrow.block 0 (by simp) (fun e' => ?_), Below.heap_alloc _ _ _ (by omega)]
    have := (hown 0 e'.symm).1; omega

def DiffPost (w : World) (D : List Nat) (e : Ending) (W' : World) : Prop :=
  ∃ v, e = .returned v ∧ W'.ownsRow w.heap.size 3 1 v D.length (natInts D) ∧ Below w.heap.size w W'

set_option maxRecDepth 100000 in
set_option maxHeartbeats 1000000 in
theorem diff_in (T1 T2 : TV) (n1 n2 : Int) (w : World) (Ht : Hid (Tab w)) (Hs1 : Hid (Sub w T1 2 0)) (Hs2 : Hid (Sub w T2 2 0)) :
    CallsIn Fence.wide 3 Tryd.prog 20 #[.agg #[ptrV (T1.adr 2 0), .int .i64 n1], .agg #[ptrV (T2.adr 2 0), .int .i64 n2]] w (DiffPost w (diffR T1.m T2.m 0 4096)) := by
  obtain ⟨i0, hi, hz0, hz1, hz2⟩ := info_parts info3
  have hdl := diff_len T1.m T2.m 0 4096
  refine callsIn_of_wp_marks Tryd.func20 rfl trivial ?_ rfl
  simp only [Tryd.ntmps20, List.size_toArray, List.length_cons, List.length_nil, Nat.reduceAdd, Nat.reduceSub, Array.replicate_succ, Array.replicate_zero, List.push_toArray, List.append_toArray, List.nil_append, List.cons_append]
  gi_wp2_with (refine ⟨trivial, ?_⟩; gi_at_call 36; refine (callsIn_wide.2 (changes_any _ _ _ _ _)).mono ?_; rintro e w' ⟨rfl, rfl⟩)
  obtain ⟨W0, hW0⟩ : ∃ W0, ((((w.alloc (Obj.cells #[ptrV (T1.adr 2 0), Value.int IntKind.i64 n1] 31)).alloc (Obj.cells #[ptrV (T2.adr 2 0), Value.int IntKind.i64 n2] 31)).alloc (Obj.cells #[Value.slice none 0 0] 46)).alloc (Obj.cells #[ptrV (T1.adr 2 0), Value.int IntKind.i64 n1] 31)).alloc (Obj.cells #[ptrV (T2.adr 2 0), Value.int IntKind.i64 n2] 31) = W0 := ⟨_, rfl⟩
  have hsz : W0.heap.size = w.heap.size + 5 := by rw [← hW0]; simp
  have hB0 : Below w.heap.size w W0 := by
    rw [← hW0]
    exact (((((Below.refl _ w).alloc (Nat.le_refl _) _).alloc (by simp) _).alloc (by simp; omega) _).alloc (by simp; omega) _).alloc (by simp; omega) _
  have hbox : Boxed W0 (w.heap.size + 1 + 1) 46 (.slice none 0 0) := by
    have := Boxed.new ((w.alloc (Obj.cells #[ptrV (T1.adr 2 0), Value.int IntKind.i64 n1] 31)).alloc (Obj.cells #[ptrV (T2.adr 2 0), Value.int IntKind.i64 n2] 31)) 46 (.slice none 0 0)
    rw [← hW0]
    refine Boxed.alloc (Boxed.alloc ?_ _) _
    simpa using this
  have r1 : W0.heap[w.heap.size + 3]? = some (.cells #[ptrV (T1.adr 2 0), .int .i64 n1] 31) := by
    rw [← hW0]
    have := heap_alloc2_old (((w.alloc (Obj.cells #[ptrV (T1.adr 2 0), Value.int IntKind.i64 n1] 31)).alloc (Obj.cells #[ptrV (T2.adr 2 0), Value.int IntKind.i64 n2] 31)).alloc (Obj.cells #[Value.slice none 0 0] 46)) (Obj.cells #[ptrV (T1.adr 2 0), Value.int IntKind.i64 n1] 31) (Obj.cells #[ptrV (T2.adr 2 0), Value.int IntKind.i64 n2] 31)
    simpa using this
  have r2 : W0.heap[w.heap.size + 4]? = some (.cells #[ptrV (T2.adr 2 0), .int .i64 n2] 31) := by
    rw [← hW0]
    have := heap_alloc2_new (((w.alloc (Obj.cells #[ptrV (T1.adr 2 0), Value.int IntKind.i64 n1] 31)).alloc (Obj.cells #[ptrV (T2.adr 2 0), Value.int IntKind.i64 n2] 31)).alloc (Obj.cells #[Value.slice none 0 0] 46)) (Obj.cells #[ptrV (T1.adr 2 0), Value.int IntKind.i64 n1] 31) (Obj.cells #[ptrV (T2.adr 2 0), Value.int IntKind.i64 n2] 31)
    simpa using this
  rw [hW0]
  clear hW0
  have hk0 := Keeps76.of_below hB0 Ht.out.1
  have h0 : 0 < W0.heap.size := by omega
  refine wpIn_rangeFunc_ownG rfl (by omega) (gf := 41) (lb := #[.pointer (some ⟨w.heap.size + 3, 0, none⟩), .pointer (some ⟨w.heap.size + 4, 0, none⟩)]) rfl trivial (enters_of Tryd.func41 (by kernel_rfl) rfl)
    (changes_stops 2 (w.heap.size + 3) (w.heap.size + 4) T1 T2 n1 n2 W0 (Ht.out.below hB0 Ht.out.1) (Sub.keep hk0 Hs1.out) (Sub.keep hk0 Hs2.out) r1 r2 (by omega) (by omega)) Keeps76.trans (keeps76_putObj h0) (Below.refl _ _) (fun _ => rfl)
    (fun pre W => (∃ v, Boxed W (w.heap.size + 1 + 1) 46 v ∧ W.ownsRow w.heap.size 3 1 v pre.length (natInts pre) ∧ True) ∧ Below w.heap.size w W)
    (fun _ _ _ => False)
    (OwnFrom.and (Own.from (holdsRow_own w.heap.size (w.heap.size + 1 + 1) 46 3 1 (fun pre : List Nat => pre.length) (fun pre => natInts pre) (fun _ _ => True)) _) (ownFrom_below (Nat.le_refl _) (by omega)))
    (fun _ _ _ _ _ hs _ _ => hs)
    ⟨⟨_, hbox, World.ownsRow_nil _ _ _ _, trivial⟩, hB0⟩
    (fun x => { tmps := #[.agg #[ptrV (T1.adr 2 0), .int .i64 n1], .agg #[ptrV (T2.adr 2 0), .int .i64 n2], .pointer (some ⟨w.heap.size, 0, none⟩), .pointer (some ⟨w.heap.size + 1, 0, none⟩), .slice none 0 0, .pointer (some ⟨w.heap.size + 1 + 1, 0, none⟩), .int .i64 (x : Int), .agg #[ptrV (T1.adr 2 0), .int .i64 n1], .agg #[ptrV (T2.adr 2 0), .int .i64 n2], .func (.func 41) #[] #[.pointer (some ⟨w.heap.size + 3, 0, none⟩), .pointer (some ⟨w.heap.size + 4, 0, none⟩)], .int .i64 (x : Int), undef, undef, undef, undef, undef], defers := [] }) ?assign ?body ?done ?stop
  case assign =>
    intro l x W K hK
    gi_wp2
    exact hK
  case body =>
    rintro l pre x W ⟨⟨v, hv, hrow, _⟩, hB⟩ hlt
    have hc := hv.cell
    have hml : pre.length + 1 ≤ maxLen := by unfold maxLen; omega
    gi_wp2_with (gi_at_builtin; refine wpListIn_append_own _ rfl _ _ 46 rfl w.heap.size 3 i0 (.int .i64 0) 1 8 Tryd.underlying46 hi hz0 hz1 hz2 rfl (by decide) _ _ _ rfl (hrow.alloc _) ⟨W.heap.size, 0, none⟩ 1 1 [.int .i64 x] rfl rfl (cell_one_new _ _ _) (by simp [Value.oneCell']) hml (by omega) (by have := hB.size; simp; omega) ?_; intro v' w1 hown' hgrow _; have hk76 := fun v'' => append_keeps76 (v' := v'') hv (by decide) (by decide) hrow hgrow (by omega) Ht.out.1; obtain ⟨g', cap', rfl⟩ := ownsRow_succ hown'; obtain ⟨hv1, hv2, hr2, hk2, hb2⟩ := hv.appended (by decide) hrow hB.size (by omega) hown' hgrow; have hc1 := hv1.cell; have hf1 := hv1.frozen)
    exact ⟨hk2.from _, hk76 _, ⟨_, hv2, by simpa [natInts] using hr2, trivial⟩, hB.trans hb2⟩
  case done =>
    rintro D ys W hD rfl ⟨⟨v, hv, hrow, _⟩, hB⟩ hK
    have hc := hv.cell
    gi_wp2
    refine ⟨by simp, .inl ⟨_, _, rfl, run_takeDeferred hK, ?_⟩⟩
    exact ⟨_, results_tmp rfl _ _ _, v, rfl, ownsRow_putObj hrow _ hK rfl, hB.trans (belowK_b (w := w) (Nat.le_refl _) W D _ _ (by omega) hK rfl rfl)⟩
  case stop =>
    rintro D c pre W _ _ h _
    exact h.elim

theorem diff_any (T1 T2 : TV) (n1 n2 : Int) (w : World) (Ht : Tab w) (Hs1 : Sub w T1 2 0) (Hs2 : Sub w T2 2 0) :
    Calls Tryd.prog 20 #[.agg #[ptrV (T1.adr 2 0), .int .i64 n1], .agg #[ptrV (T2.adr 2 0), .int .i64 n2]] w (DiffPost w (diffR T1.m T2.m 0 4096)) :=
  callsIn_wide.1 (diff_in T1 T2 n1 n2 w Ht Hs1 Hs2)

end Go.Proofs.YtognbkmamhgkeaaDoor
