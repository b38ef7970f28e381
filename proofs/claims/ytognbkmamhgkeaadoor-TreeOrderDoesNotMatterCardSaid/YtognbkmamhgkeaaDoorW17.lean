/-
  The walk of the statements' play: all versions of a script, as trees.
-/
import Derived.Test.YtognbkmamhgkeaaDoorW16
import Derived.Test.YtognbkmamhgkeaaDoorMl
import Derived.Test.YtognbkmamhgkeaaDoorW6
import Derived.StillTailTactics
import Derived.Deep.DeepCutAuto
namespace Go.Proofs.YtognbkmamhgkeaaDoor
open Go Go.RowKit Go.Walks

theorem so24 : SliceOf Tryd.prog 24 31 2 16 := SliceOf.mk (z := .agg #[.pointer none, .int .i64 0]) Tryd.underlying24 (by omega) (by kernel_rfl) rfl

/-- The versions in memory: a slice of the call's own, each of whose elements is a good tree that maps what the reference's list maps. -/
structure TVers (w wr : World) (v : Value) (Ls : List (List (Int × Int))) (Ts : List (TV × Int)) : Prop where
  below : Below w.heap.size w wr
  own : wr.ownsRow w.heap.size 31 2 v Ts.length (treeCells Ts)
  len : Ts.length = Ls.length
  good : ∀ (j : Nat) (x : TV × Int) (l : List (Int × Int)), Ts[j]? = some x → Ls[j]? = some l → Good wr x.1 x.2 ∧ x.1.m = mOf l

def opM (m : Nat → Option Int) (o : OpN) : Nat → Option Int := if o.clr then delM m o.blk else setM m o.blk o.chk
theorem opM_mOf {l : List (Int × Int)} (h : Srt l) (o : OpN) : opM (mOf l) o = mOf (doL l o) := by
  unfold opM doL
  split
  · rw [mOf_clrL h]
  · rw [mOf_setL h]

theorem treeCells_append (a b : List (TV × Int)) : treeCells (a ++ b) = treeCells a ++ treeCells b := by simp [treeCells]
theorem tree_one {Ts : List (TV × Int)} (u : Value) (h : u ∈ treeCells Ts) : u.oneCell' = true := by
  obtain ⟨x, _, hx⟩ := List.mem_flatMap.1 h
  simp at hx
  rcases hx with rfl | rfl <;> rfl

theorem own2_fresh (w : World) : (w.alloc (.cells #[.pointer none, .int .i64 0] 31)).ownsRow w.heap.size 31 2 (.slice (some ⟨w.heap.size, 0, none⟩) 1 1) 1 [.pointer none, .int .i64 0] :=
  ⟨rfl, .inr ⟨w.heap.size, 1, #[.pointer none, .int .i64 0], rfl, Nat.le_refl _, heap_alloc_new _ _, Nat.le_refl _, by unfold maxLen; omega, rfl, rfl⟩⟩

theorem mOf_nil : mOf [] = TV.empty.m := by funext x; rfl

theorem TVers.start (w : World) : TVers w (w.alloc (.cells #[.pointer none, .int .i64 0] 31)) (.slice (some ⟨w.heap.size, 0, none⟩) 1 1) (playL []) [(TV.empty, 0)] := by
  refine ⟨(Below.refl _ _).alloc (Nat.le_refl _) _, own2_fresh w, rfl, fun j x l hx hl => ?_⟩
  cases j with
  | zero =>
    have h1 : (TV.empty, (0 : Int)) = x := by simpa using hx
    have h2 : [] = l := by simpa [playL] using hl
    subst h1; subst h2
    exact ⟨good_empty _, mOf_nil.symm⟩
  | succ j => simp at hx

theorem TVers.at_ {w wr : World} {A : Option Addr} {n c : Nat} {Ls : List (List (Int × Int))} {Ts : List (TV × Int)} (h : TVers w wr (.slice A n c) Ls Ts) (hn : n = Ls.length) {j : Nat} (hj : j < n) :
    ∃ (g : Nat) (T : TV) (k : Int) (l : List (Int × Int)), A = some ⟨g, 0, none⟩ ∧ Ts[j]? = some (T, k) ∧ Ls[j]? = some l ∧ wr.cell? ⟨g, j * 2, none⟩ = some (ptrV (T.adr 2 0)) ∧ wr.cell? ⟨g, j * 2 + 1, none⟩ = some (.int .i64 k) ∧ Good wr T k ∧ T.m = mOf l := by
  have hl := h.len
  have ho := h.own
  obtain ⟨x, hx⟩ : ∃ x, Ts[j]? = some x := ⟨_, List.getElem?_eq_getElem (by omega)⟩
  obtain ⟨l, hL⟩ : ∃ l, Ls[j]? = some l := ⟨_, List.getElem?_eq_getElem (by omega)⟩
  obtain ⟨h0, h1⟩ := treeCells_at Ts j x hx
  obtain ⟨hg, hm⟩ := h.good j x l hx hL
  rcases ho.2 with ⟨_, h0⟩ | ⟨g, cap, cur, e, _, hh, _, _, _, ht⟩
  · omega
  · injection e with e1 _ _
    refine ⟨g, x.1, x.2, l, e1, hx, hL, ?_, ?_, hg, hm⟩
    · rw [← ht, List.getElem?_take] at h0
      split at h0
      · simp only [World.cell?, hh]; rw [Nat.mul_comm]; simpa using h0
      · cases h0
    · rw [← ht, List.getElem?_take] at h1
      split at h1
      · simp only [World.cell?, hh]; rw [Nat.mul_comm]; simpa using h1
      · cases h1

theorem Good.grown {w1 w2 : World} {T : TV} {n : Int} {o : Obj} {v : Value} (h : Good w1 T n) (hg : (w1.alloc o).grownBy w2 v.ownBlock) (hv : ∀ g, v.ownBlock = some g → ∃ cur t, w1.heap[g]? = some (.cells cur t) ∧ t ≠ 76) : Good w2 T n := by
  refine ⟨Sub.move (S := fun b => NodeBlk w1 b) (fun b hb => ?_) h.sub ?_, h.out, h.inj, h.num⟩
  · obtain ⟨cs, hc, _⟩ := hb
    have hlt := (Array.getElem?_eq_some_iff.1 hc).1
    rw [hg.block b (by simp; omega) (fun e => ?_), Below.heap_alloc _ _ _ hlt]
    obtain ⟨cur, t, hh, ht⟩ := hv b e.symm
    rw [hc] at hh; injection hh with hh; injection hh with _ hh; exact ht hh.symm
  · intro l hl x hx b hb
    have hs := h.sub
    have nd : ∀ L q, Sub w1 T L q → ∀ l, l ≤ L → ∀ x, x / 16 ^ (L - l) = q → ∀ b, T.adr l x = some b → NodeBlk w1 b := by
      intro L
      induction L with
      | zero =>
        intro q h l hl x hx b hb
        obtain rfl : l = 0 := by omega
        have hxq : x = q := by simpa using hx
        subst hxq
        obtain ⟨⟨has, hat, _⟩, _⟩ := h.2 b hb
        exact hat.blk
      | succ L ih =>
        intro q h l hl x hx b hb
        by_cases hlL : l = L + 1
        · subst hlL
          have hxq : x = q := by simpa using hx
          subst hxq
          obtain ⟨⟨has, hat, _⟩, _⟩ := h.1.2 b hb
          exact hat.blk
        · have hx' : x / 16 ^ (L - l) / 16 = q := by rw [← div_succ, show (L - l) + 1 = L + 1 - l by omega]; exact hx
          exact ih _ (h.2 (x / 16 ^ (L - l) % 16) (Nat.mod_lt _ (by omega))) l (by omega) x (by omega) b hb
    exact nd 2 0 hs l hl x hx b hb

theorem TVers.step {w wr w1 w2 : World} {v v' : Value} {Ls : List (List (Int × Int))} {Ts : List (TV × Int)} {T' : TV} {n' : Int} {l' : List (Int × Int)} (h : TVers w wr v Ls Ts)
    (hb : Below wr.heap.size wr w1) (hr : Good w1 T' n') (hm : T'.m = mOf l') (o : Obj) (hg : (w1.alloc o).grownBy w2 v.ownBlock) (ho : w2.ownsRow w.heap.size 31 2 v' (Ts.length + 1) (treeCells Ts ++ [ptrV (T'.adr 2 0), .int .i64 n'])) :
    TVers w w2 v' (Ls ++ [l']) (Ts ++ [(T', n')]) := by
  have hown : ∀ g, v.ownBlock = some g → w.heap.size ≤ g ∧ ∃ cur, wr.heap[g]? = some (.cells cur 31) := by
    intro g hg
    rcases h.own.2 with ⟨rfl, _⟩ | ⟨g', cap, cur, rfl, hle, hh, _⟩
    · simp [Value.ownBlock] at hg
    · have : g' = g := by simpa [Value.ownBlock] using hg
      subst this; exact ⟨hle, cur, hh⟩
  have hv : ∀ g, v.ownBlock = some g → ∃ cur t, w1.heap[g]? = some (.cells cur t) ∧ t ≠ 76 := by
    intro g hg
    obtain ⟨_, cur, hh⟩ := hown g hg
    exact ⟨cur, 31, (hb.block g (Array.getElem?_eq_some_iff.1 hh).1).trans hh, by decide⟩
  refine ⟨((h.below.trans (hb.mono h.below.size)).alloc (Nat.le_trans h.below.size hb.size) o).grown hg (by have := hb.size; have := h.below.size; simp; omega) (fun k e => (hown k e).1), ?_, by simp [h.len], fun j x l hx hL => ?_⟩
  · rw [treeCells_append, List.length_append]; exact ho
  · have hlen := h.len
    by_cases hj : j < Ts.length
    · rw [List.getElem?_append_left hj] at hx
      rw [List.getElem?_append_left (by omega)] at hL
      obtain ⟨h1, h2⟩ := h.good j x l hx hL
      exact ⟨(h1.below hb).grown hg hv, h2⟩
    · have hj' : j = Ts.length := by
        rcases Nat.lt_or_ge Ts.length j with h | h
        · rw [List.getElem?_eq_none (by simp; omega)] at hx; cases hx
        · omega
      subst hj'
      rw [List.getElem?_append_right (Nat.le_refl _)] at hx
      rw [hlen, List.getElem?_append_right (Nat.le_refl _)] at hL
      have h1 : (T', n') = x := by simpa using hx
      have h2 : l' = l := by simpa using hL
      subst h1; subst h2
      exact ⟨hr.grown hg hv, hm⟩

def PlayPost (w : World) (Ls : List (List (Int × Int))) (e : Ending) (w' : World) : Prop := ∃ v Ts, e = .returned v ∧ TVers w w' v Ls Ts

theorem own_laterS {wr w1 : World} {B n m size : Nat} {t : TypeId} {v : Value} {vs : List Value} (h : wr.ownsRow B t size v m vs) (hm : m = n) (hb : Below wr.heap.size wr w1) (o : Obj) : (w1.alloc o).ownsRow B t size v n vs := by
  subst hm
  refine World.ownsRow.alloc ?_ o
  refine ⟨h.1, ?_⟩
  rcases h.2 with h2 | ⟨g, cap, cur, hv, hg, hh, r⟩
  · exact .inl h2
  · exact .inr ⟨g, cap, cur, hv, hg, (hb.block g (Array.getElem?_eq_some_iff.1 hh).1).trans hh, r⟩

theorem Good.drew {w : World} {T : TV} {n : Int} (h : Good w T n) : Good w.drew T n := ⟨h.sub.below (Below.refl _ _).drew, h.out, h.inj, h.num⟩

theorem Good.keep {w w' : World} {T : TV} {n : Int} (h : Good w T n) (hk : ∀ (k : Nat) (cs : Array Value), w.heap[k]? = some (Obj.cells cs 76) → w'.heap[k]? = some (Obj.cells cs 76)) : Good w' T n := by
  refine ⟨?_, h.out, h.inj, h.num⟩
  have nd : ∀ L q, Nd w T L q → Nd w' T L q := by
    intro L q h
    refine ⟨h.1, fun b e => ?_⟩
    obtain ⟨⟨has, ⟨cs, hr, hn⟩, hbit⟩, hi⟩ := h.2 b e
    exact ⟨⟨has, ⟨cs, hk b cs hr, hn⟩, hbit⟩, hi⟩
  have sb : ∀ L q, Sub w T L q → Sub w' T L q := by
    intro L
    induction L with
    | zero => intro q h; exact nd 0 q h
    | succ L ih => intro q h; exact ⟨nd _ q h.1, fun i hi => ih _ (h.2 i hi)⟩
  exact sb 2 0 h.sub

/-- The box of a tree is written: nothing else changes. -/
theorem box_store {wr w1 : World} {a b u v : Value} {o : Obj} (ho : o = .cells #[a, b] 31) (hb : Below (wr.alloc o).heap.size (wr.alloc o) w1) {T : TV} {n : Int} (hg : Good w1 T n) :
    Below wr.heap.size wr ((w1.setCell ⟨wr.heap.size, 0, none⟩ u).setCell ⟨wr.heap.size, 1, none⟩ v) ∧ Good ((w1.setCell ⟨wr.heap.size, 0, none⟩ u).setCell ⟨wr.heap.size, 1, none⟩ v) T n ∧
      ((w1.setCell ⟨wr.heap.size, 0, none⟩ u).setCell ⟨wr.heap.size, 1, none⟩ v).heap[wr.heap.size]? = some (.cells #[u, v] 31) ∧
      w1.heap[wr.heap.size]? = some (.cells #[a, b] 31) := by
  subst ho
  have r0 : w1.heap[wr.heap.size]? = some (.cells #[a, b] 31) := (hb.block _ (by simp)).trans (heap_alloc_new _ _)
  have h0 : Below wr.heap.size wr w1 := ((Below.refl _ _).alloc (Nat.le_refl _) _).trans (hb.mono (by simp))
  refine ⟨(h0.setCell (p := ⟨wr.heap.size, 0, none⟩) (Nat.le_refl _) _).setCell (p := ⟨wr.heap.size, 1, none⟩) (Nat.le_refl _) _, hg.keep fun k cs hk => ?_, set_two1 (set_two0 r0 _) _, r0⟩
  have hne : k ≠ wr.heap.size := by
    rintro rfl
    rw [r0] at hk; injection hk with hk; injection hk with _ hk; cases hk
  rw [Below.heap_setCell _ _ _ _ hne, Below.heap_setCell _ _ _ _ hne]; exact hk

set_option maxHeartbeats 4000000 in
theorem play_any (ops : List OpN) (A : Option Addr) (c : Nat) (w : World) (hl : ops.length ≤ 1000) (Hsl : Hid (Sl w w.heap.size A (opCells ops))) :
    Calls Tryd.prog 10 #[.slice A ops.length c] w (PlayPost w (playL ops)) := by
  go_enter Tryd.func10, Tryd.ntmps10
  go_wp2_with fail
  go_loopw [3, 4] (fun sl ix wr => ∃ (k : Nat) (A' : Option Addr) (c' : Nat) (Ts : List (TV × Int)), k ≤ ops.length ∧ ix = .int .i64 k ∧ sl = .slice A' (k + 1) c' ∧ Hid (TVers w wr (.slice A' (k + 1) c') (playL (ops.take k)) Ts)) (fun _ ix _ => ops.length - (intOf ix).toNat)
  case atStart => exact ⟨0, _, _, _, by omega, rfl, rfl, by rw [List.take_zero]; exact TVers.start w⟩
  case round =>
    obtain ⟨k, A', c', Ts, hk, rfl, rfl, HV⟩ := hrel
    by_cases hlt : k < ops.length
    · obtain ⟨g, o, rfl, hg, hc⟩ := Hsl.out.at_ (k := k * 4) (by rw [opCells_len]; omega)
      obtain ⟨op, hx⟩ : ∃ x, ops[k]? = some x := ⟨_, List.getElem?_eq_getElem hlt⟩
      obtain ⟨q0, q1, q2, q3⟩ := opCells_at ops k op hx
      have hc0 : wr.cell? ⟨g, o + k * 4, none⟩ = some (.int .i64 op.frm) := by rw [HV.out.below.cell hg]; exact hc _ _ q0
      have hc1 : wr.cell? ⟨g, o + k * 4 + 1, none⟩ = some (.bool op.clr) := by rw [HV.out.below.cell hg]; exact hc _ _ q1
      have hc2 : wr.cell? ⟨g, o + k * 4 + 2, none⟩ = some (.int .i64 op.blk) := by rw [HV.out.below.cell hg]; exact hc _ _ q2
      have hc3 : wr.cell? ⟨g, o + k * 4 + 3, none⟩ = some (.int .i64 op.chk) := by rw [HV.out.below.cell hg]; exact hc _ _ q3
      have hgr : g < wr.heap.size := by have := HV.out.below.size; omega
      have Hx := Lib.hid hx
      clear hc q0 q1 q2 q3 hx
      by_cases hneg : op.frm.tmod ((k : Int) + 1) < 0
      · obtain ⟨gv, T, nT, lj, rfl, hTj, hlj, hcj, hcj1, hgT, hmT⟩ := HV.out.at_ (by rw [playL_len, List.length_take]; omega) (j := 0) (by omega)
        have Hlj := Lib.hid hlj
        have HgT := Lib.hid hgT
        have HmT := Lib.hid hmT
        have hsl : Srt lj := srt_play _ lj (List.mem_of_getElem? hlj)
        have hlen : (playL (ops.take k)).length = k + 1 := by rw [playL_len, List.length_take]; omega
        have Hlen := Lib.hid hlen
        have Hsrt := Lib.hid hsl
        have hTl : Ts.length = k + 1 := by rw [HV.out.len, hlen]
        have HTl := Lib.hid hTl
        clear hlj hlen hgT hmT hTj hsl hTl
        simp only [Nat.zero_mul, Nat.zero_add] at hcj hcj1
        cases hcl : op.clr with
        | true =>
          rw [hcl] at hc1
          have Hcl := Lib.hid hcl
          clear hcl
          go_wp2_with fail
          obtain ⟨W1, hW1⟩ : ∃ W1, W1 = wr.alloc (Obj.cells #[ptrV (T.adr 2 0), Value.int IntKind.i64 nT] 31) := ⟨_, rfl⟩
          have hbW : Below wr.heap.size wr W1 := by rw [hW1]; exact (Below.refl _ _).alloc (Nat.le_refl _) _
          have rW : W1.heap[wr.heap.size]? = some (.cells #[ptrV (T.adr 2 0), .int .i64 nT] 31) := by rw [hW1]; exact heap_alloc_new _ _
          have hd2 : W1.cell? ⟨g, o + k * 4 + 2, none⟩ = some (.int .i64 op.blk) := (hbW.cell (p := ⟨g, o + k * 4 + 2, none⟩) hgr).trans hc2
          have hd3 : W1.cell? ⟨g, o + k * 4 + 3, none⟩ = some (.int .i64 op.chk) := (hbW.cell (p := ⟨g, o + k * 4 + 3, none⟩) hgr).trans hc3
          obtain ⟨a0, a1, _, _⟩ := two_cells rW
          have HbW := Lib.hid hbW
          rw [← hW1]
          have HW1 := Lib.hid hW1
          clear hW1 rW hbW
          go_still_tail 6, (by kernel_rfl)
          change wpList _ _ _ _ _ W1.drew
          go_upto_region 12 with ((go_at_call 15; refine (tclr_any T nT op.blk _ (HgT.out.below HbW.out).drew).mono ?_; rintro e w1 ⟨T', n', rfl, hg1, hm1, hb1, _⟩; unfold TreeV; have hb1' := below_of_drew hb1; have Hg1 := Lib.hid hg1; have Hm1 := Lib.hid hm1; have Hb1 := Lib.hid hb1'; rw [HW1.out] at hb1' Hb1; have r0 := (box_store (u := ptrV (T'.adr 2 0)) (v := .int .i64 n') rfl hb1' hg1).2.2.2; obtain ⟨b0, b1, f0, f1⟩ := two_cells r0; clear hg1 hm1 hb1 hb1' r0))
          obtain ⟨hB2, hG2, r2, _⟩ := box_store (u := ptrV (T'.adr 2 0)) (v := .int .i64 n') rfl Hb1.out Hg1.out
          obtain ⟨W2, hW2⟩ : ∃ W2, W2 = (w1.setCell ⟨wr.heap.size, 0, none⟩ (ptrV (T'.adr 2 0))).setCell ⟨wr.heap.size, 1, none⟩ (.int .i64 n') := ⟨_, rfl⟩
          rw [← hW2] at hB2 hG2 r2 ⊢
          obtain ⟨d0, d1, _, _⟩ := two_cells r2
          have HB2 := Lib.hid hB2
          have HG2 := Lib.hid hG2
          clear hW2 hB2 hG2 r2 b0 b1 f0 f1
          go_wp2_with ((at_builtin; refine wpList_append_sl rfl _ _ 24 rfl rfl rfl so24 (own_laterS HV.out.own HTl.out HB2.out _) (m := 1) (news := [ptrV (T'.adr 2 0), .int .i64 n']) rfl (Sl.new _ _ _) (fun u hu => by simp at hu; rcases hu with rfl | rfl <;> rfl) (by unfold maxLen; omega) (by omega) (by have h1 := HV.out.below.size; have h2 := HB2.out.size; simp; omega) ?_; intro A2 c2 w2 ho2 hg2; have HV2 := Lib.hid (HV.out.step (l' := doL lj op) HB2.out HG2.out (by rw [Hm1.out, HmT.out, ← mOf_clrL Hsrt.out]; unfold doL; rw [Hcl.out]; rfl) _ hg2 (by rw [HTl.out]; exact ho2)); clear ho2 hg2))
          refine ⟨⟨k + 1, _, _, Ts ++ [(T', n')], by omega, by go_num, rfl, ?_⟩, by simp [intOf]; omega⟩
          show TVers _ _ _ _ _
          rw [List.take_succ_eq_append_getElem hlt, playL_snoc]
          have hop : ops[k] = op := by have := Hx.out; rw [List.getElem?_eq_getElem hlt] at this; injection this
          have hfr : fromI op (playL (ops.take k)).length = 0 := by rw [Hlen.out]; unfold fromI; rw [if_pos (by simpa using hneg)]
          have hgd : (playL (ops.take k)).getD (fromI op (playL (ops.take k)).length) [] = lj := by rw [hfr, List.getD_eq_getElem?_getD, Hlj.out]; rfl
          rw [hop, stepL, hgd]
          exact HV2.out
        | false =>
          rw [hcl] at hc1
          have Hcl := Lib.hid hcl
          clear hcl
          go_wp2_with fail
          obtain ⟨W1, hW1⟩ : ∃ W1, W1 = wr.alloc (Obj.cells #[ptrV (T.adr 2 0), Value.int IntKind.i64 nT] 31) := ⟨_, rfl⟩
          have hbW : Below wr.heap.size wr W1 := by rw [hW1]; exact (Below.refl _ _).alloc (Nat.le_refl _) _
          have rW : W1.heap[wr.heap.size]? = some (.cells #[ptrV (T.adr 2 0), .int .i64 nT] 31) := by rw [hW1]; exact heap_alloc_new _ _
          have hd2 : W1.cell? ⟨g, o + k * 4 + 2, none⟩ = some (.int .i64 op.blk) := (hbW.cell (p := ⟨g, o + k * 4 + 2, none⟩) hgr).trans hc2
          have hd3 : W1.cell? ⟨g, o + k * 4 + 3, none⟩ = some (.int .i64 op.chk) := (hbW.cell (p := ⟨g, o + k * 4 + 3, none⟩) hgr).trans hc3
          obtain ⟨a0, a1, _, _⟩ := two_cells rW
          have HbW := Lib.hid hbW
          rw [← hW1]
          have HW1 := Lib.hid hW1
          clear hW1 rW hbW
          go_still_tail 11, (by kernel_rfl)
          change wpList _ _ _ _ _ W1.drew
          go_upto_region 12 with ((go_at_call 14; refine (tset_any T nT op.blk op.chk _ (HgT.out.below HbW.out).drew).mono ?_; rintro e w1 ⟨T', n', rfl, hg1, hm1, hb1, _⟩; unfold TreeV; have hb1' := below_of_drew hb1; have Hg1 := Lib.hid hg1; have Hm1 := Lib.hid hm1; have Hb1 := Lib.hid hb1'; rw [HW1.out] at hb1' Hb1; have r0 := (box_store (u := ptrV (T'.adr 2 0)) (v := .int .i64 n') rfl hb1' hg1).2.2.2; obtain ⟨b0, b1, f0, f1⟩ := two_cells r0; clear hg1 hm1 hb1 hb1' r0))
          obtain ⟨hB2, hG2, r2, _⟩ := box_store (u := ptrV (T'.adr 2 0)) (v := .int .i64 n') rfl Hb1.out Hg1.out
          obtain ⟨W2, hW2⟩ : ∃ W2, W2 = (w1.setCell ⟨wr.heap.size, 0, none⟩ (ptrV (T'.adr 2 0))).setCell ⟨wr.heap.size, 1, none⟩ (.int .i64 n') := ⟨_, rfl⟩
          rw [← hW2] at hB2 hG2 r2 ⊢
          obtain ⟨d0, d1, _, _⟩ := two_cells r2
          have HB2 := Lib.hid hB2
          have HG2 := Lib.hid hG2
          clear hW2 hB2 hG2 r2 b0 b1 f0 f1
          go_wp2_with ((at_builtin; refine wpList_append_sl rfl _ _ 24 rfl rfl rfl so24 (own_laterS HV.out.own HTl.out HB2.out _) (m := 1) (news := [ptrV (T'.adr 2 0), .int .i64 n']) rfl (Sl.new _ _ _) (fun u hu => by simp at hu; rcases hu with rfl | rfl <;> rfl) (by unfold maxLen; omega) (by omega) (by have h1 := HV.out.below.size; have h2 := HB2.out.size; simp; omega) ?_; intro A2 c2 w2 ho2 hg2; have HV2 := Lib.hid (HV.out.step (l' := doL lj op) HB2.out HG2.out (by rw [Hm1.out, HmT.out, ← mOf_setL Hsrt.out]; unfold doL; rw [Hcl.out]; rfl) _ hg2 (by rw [HTl.out]; exact ho2)); clear ho2 hg2))
          refine ⟨⟨k + 1, _, _, Ts ++ [(T', n')], by omega, by go_num, rfl, ?_⟩, by simp [intOf]; omega⟩
          show TVers _ _ _ _ _
          rw [List.take_succ_eq_append_getElem hlt, playL_snoc]
          have hop : ops[k] = op := by have := Hx.out; rw [List.getElem?_eq_getElem hlt] at this; injection this
          have hfr : fromI op (playL (ops.take k)).length = 0 := by rw [Hlen.out]; unfold fromI; rw [if_pos (by simpa using hneg)]
          have hgd : (playL (ops.take k)).getD (fromI op (playL (ops.take k)).length) [] = lj := by rw [hfr, List.getD_eq_getElem?_getD, Hlj.out]; rfl
          rw [hop, stepL, hgd]
          exact HV2.out
      · obtain ⟨j, hj⟩ : ∃ j : Nat, op.frm.tmod ((k : Int) + 1) = (j : Int) := ⟨(op.frm.tmod ((k : Int) + 1)).toNat, by omega⟩
        have hj1 : j < k + 1 := by have := Int.tmod_lt_of_pos op.frm (b := (k : Int) + 1) (by omega); omega
        have hneg' : ¬ ((j : Int) < 0) := by omega
        have hI1 : (0 : Int) ≤ (j : Int) := by omega
        have hI2 : (j : Int) < (k : Int) + 1 := by omega
        have Hj := Lib.hid hj
        clear hneg
        obtain ⟨gv, T, nT, lj, rfl, hTj, hlj, hcj, hcj1, hgT, hmT⟩ := HV.out.at_ (by rw [playL_len, List.length_take]; omega) (j := j) (by omega)
        have Hlj := Lib.hid hlj
        have HgT := Lib.hid hgT
        have HmT := Lib.hid hmT
        have hsl : Srt lj := srt_play _ lj (List.mem_of_getElem? hlj)
        have hlen : (playL (ops.take k)).length = k + 1 := by rw [playL_len, List.length_take]; omega
        have Hlen := Lib.hid hlen
        have Hsrt := Lib.hid hsl
        have hTl : Ts.length = k + 1 := by rw [HV.out.len, hlen]
        have HTl := Lib.hid hTl
        clear hlj hlen hgT hmT hTj hsl hTl
        cases hcl : op.clr with
        | true =>
          rw [hcl] at hc1
          have Hcl := Lib.hid hcl
          clear hcl
          go_wp2_with fail
          obtain ⟨W1, hW1⟩ : ∃ W1, W1 = wr.alloc (Obj.cells #[ptrV (T.adr 2 0), Value.int IntKind.i64 nT] 31) := ⟨_, rfl⟩
          have hbW : Below wr.heap.size wr W1 := by rw [hW1]; exact (Below.refl _ _).alloc (Nat.le_refl _) _
          have rW : W1.heap[wr.heap.size]? = some (.cells #[ptrV (T.adr 2 0), .int .i64 nT] 31) := by rw [hW1]; exact heap_alloc_new _ _
          have hd2 : W1.cell? ⟨g, o + k * 4 + 2, none⟩ = some (.int .i64 op.blk) := (hbW.cell (p := ⟨g, o + k * 4 + 2, none⟩) hgr).trans hc2
          have hd3 : W1.cell? ⟨g, o + k * 4 + 3, none⟩ = some (.int .i64 op.chk) := (hbW.cell (p := ⟨g, o + k * 4 + 3, none⟩) hgr).trans hc3
          obtain ⟨a0, a1, _, _⟩ := two_cells rW
          have HbW := Lib.hid hbW
          rw [← hW1]
          have HW1 := Lib.hid hW1
          clear hW1 rW hbW
          go_still_tail 6, (by kernel_rfl)
          change wpList _ _ _ _ _ W1.drew
          go_upto_region 12 with ((go_at_call 15; refine (tclr_any T nT op.blk _ (HgT.out.below HbW.out).drew).mono ?_; rintro e w1 ⟨T', n', rfl, hg1, hm1, hb1, _⟩; unfold TreeV; have hb1' := below_of_drew hb1; have Hg1 := Lib.hid hg1; have Hm1 := Lib.hid hm1; have Hb1 := Lib.hid hb1'; rw [HW1.out] at hb1' Hb1; have r0 := (box_store (u := ptrV (T'.adr 2 0)) (v := .int .i64 n') rfl hb1' hg1).2.2.2; obtain ⟨b0, b1, f0, f1⟩ := two_cells r0; clear hg1 hm1 hb1 hb1' r0))
          obtain ⟨hB2, hG2, r2, _⟩ := box_store (u := ptrV (T'.adr 2 0)) (v := .int .i64 n') rfl Hb1.out Hg1.out
          obtain ⟨W2, hW2⟩ : ∃ W2, W2 = (w1.setCell ⟨wr.heap.size, 0, none⟩ (ptrV (T'.adr 2 0))).setCell ⟨wr.heap.size, 1, none⟩ (.int .i64 n') := ⟨_, rfl⟩
          rw [← hW2] at hB2 hG2 r2 ⊢
          obtain ⟨d0, d1, _, _⟩ := two_cells r2
          have HB2 := Lib.hid hB2
          have HG2 := Lib.hid hG2
          clear hW2 hB2 hG2 r2 b0 b1 f0 f1
          go_wp2_with ((at_builtin; refine wpList_append_sl rfl _ _ 24 rfl rfl rfl so24 (own_laterS HV.out.own HTl.out HB2.out _) (m := 1) (news := [ptrV (T'.adr 2 0), .int .i64 n']) rfl (Sl.new _ _ _) (fun u hu => by simp at hu; rcases hu with rfl | rfl <;> rfl) (by unfold maxLen; omega) (by omega) (by have h1 := HV.out.below.size; have h2 := HB2.out.size; simp; omega) ?_; intro A2 c2 w2 ho2 hg2; have HV2 := Lib.hid (HV.out.step (l' := doL lj op) HB2.out HG2.out (by rw [Hm1.out, HmT.out, ← mOf_clrL Hsrt.out]; unfold doL; rw [Hcl.out]; rfl) _ hg2 (by rw [HTl.out]; exact ho2)); clear ho2 hg2))
          refine ⟨⟨k + 1, _, _, Ts ++ [(T', n')], by omega, by go_num, rfl, ?_⟩, by simp [intOf]; omega⟩
          show TVers _ _ _ _ _
          rw [List.take_succ_eq_append_getElem hlt, playL_snoc]
          have hop : ops[k] = op := by have := Hx.out; rw [List.getElem?_eq_getElem hlt] at this; injection this
          have hfr : fromI op (playL (ops.take k)).length = j := by rw [Hlen.out]; have := Hj.out; unfold fromI; rw [show (((k + 1 : Nat)) : Int) = (k : Int) + 1 by omega, this, if_neg (by omega)]; simp
          have hgd : (playL (ops.take k)).getD (fromI op (playL (ops.take k)).length) [] = lj := by rw [hfr, List.getD_eq_getElem?_getD, Hlj.out]; rfl
          rw [hop, stepL, hgd]
          exact HV2.out
        | false =>
          rw [hcl] at hc1
          have Hcl := Lib.hid hcl
          clear hcl
          go_wp2_with fail
          obtain ⟨W1, hW1⟩ : ∃ W1, W1 = wr.alloc (Obj.cells #[ptrV (T.adr 2 0), Value.int IntKind.i64 nT] 31) := ⟨_, rfl⟩
          have hbW : Below wr.heap.size wr W1 := by rw [hW1]; exact (Below.refl _ _).alloc (Nat.le_refl _) _
          have rW : W1.heap[wr.heap.size]? = some (.cells #[ptrV (T.adr 2 0), .int .i64 nT] 31) := by rw [hW1]; exact heap_alloc_new _ _
          have hd2 : W1.cell? ⟨g, o + k * 4 + 2, none⟩ = some (.int .i64 op.blk) := (hbW.cell (p := ⟨g, o + k * 4 + 2, none⟩) hgr).trans hc2
          have hd3 : W1.cell? ⟨g, o + k * 4 + 3, none⟩ = some (.int .i64 op.chk) := (hbW.cell (p := ⟨g, o + k * 4 + 3, none⟩) hgr).trans hc3
          obtain ⟨a0, a1, _, _⟩ := two_cells rW
          have HbW := Lib.hid hbW
          rw [← hW1]
          have HW1 := Lib.hid hW1
          clear hW1 rW hbW
          go_still_tail 11, (by kernel_rfl)
          change wpList _ _ _ _ _ W1.drew
          go_upto_region 12 with ((go_at_call 14; refine (tset_any T nT op.blk op.chk _ (HgT.out.below HbW.out).drew).mono ?_; rintro e w1 ⟨T', n', rfl, hg1, hm1, hb1, _⟩; unfold TreeV; have hb1' := below_of_drew hb1; have Hg1 := Lib.hid hg1; have Hm1 := Lib.hid hm1; have Hb1 := Lib.hid hb1'; rw [HW1.out] at hb1' Hb1; have r0 := (box_store (u := ptrV (T'.adr 2 0)) (v := .int .i64 n') rfl hb1' hg1).2.2.2; obtain ⟨b0, b1, f0, f1⟩ := two_cells r0; clear hg1 hm1 hb1 hb1' r0))
          obtain ⟨hB2, hG2, r2, _⟩ := box_store (u := ptrV (T'.adr 2 0)) (v := .int .i64 n') rfl Hb1.out Hg1.out
          obtain ⟨W2, hW2⟩ : ∃ W2, W2 = (w1.setCell ⟨wr.heap.size, 0, none⟩ (ptrV (T'.adr 2 0))).setCell ⟨wr.heap.size, 1, none⟩ (.int .i64 n') := ⟨_, rfl⟩
          rw [← hW2] at hB2 hG2 r2 ⊢
          obtain ⟨d0, d1, _, _⟩ := two_cells r2
          have HB2 := Lib.hid hB2
          have HG2 := Lib.hid hG2
          clear hW2 hB2 hG2 r2 b0 b1 f0 f1
          go_wp2_with ((at_builtin; refine wpList_append_sl rfl _ _ 24 rfl rfl rfl so24 (own_laterS HV.out.own HTl.out HB2.out _) (m := 1) (news := [ptrV (T'.adr 2 0), .int .i64 n']) rfl (Sl.new _ _ _) (fun u hu => by simp at hu; rcases hu with rfl | rfl <;> rfl) (by unfold maxLen; omega) (by omega) (by have h1 := HV.out.below.size; have h2 := HB2.out.size; simp; omega) ?_; intro A2 c2 w2 ho2 hg2; have HV2 := Lib.hid (HV.out.step (l' := doL lj op) HB2.out HG2.out (by rw [Hm1.out, HmT.out, ← mOf_setL Hsrt.out]; unfold doL; rw [Hcl.out]; rfl) _ hg2 (by rw [HTl.out]; exact ho2)); clear ho2 hg2))
          refine ⟨⟨k + 1, _, _, Ts ++ [(T', n')], by omega, by go_num, rfl, ?_⟩, by simp [intOf]; omega⟩
          show TVers _ _ _ _ _
          rw [List.take_succ_eq_append_getElem hlt, playL_snoc]
          have hop : ops[k] = op := by have := Hx.out; rw [List.getElem?_eq_getElem hlt] at this; injection this
          have hfr : fromI op (playL (ops.take k)).length = j := by rw [Hlen.out]; have := Hj.out; unfold fromI; rw [show (((k + 1 : Nat)) : Int) = (k : Int) + 1 by omega, this, if_neg (by omega)]; simp
          have hgd : (playL (ops.take k)).getD (fromI op (playL (ops.take k)).length) [] = lj := by rw [hfr, List.getD_eq_getElem?_getD, Hlj.out]; rfl
          rw [hop, stepL, hgd]
          exact HV2.out
    · go_wp2_with fail
      go_ret
      have hk' : ops.take k = ops := List.take_of_length_le (by omega)
      have hv := HV.out
      rw [hk'] at hv
      exact ⟨_, Ts, rfl, hv⟩
end Go.Proofs.YtognbkmamhgkeaaDoor
