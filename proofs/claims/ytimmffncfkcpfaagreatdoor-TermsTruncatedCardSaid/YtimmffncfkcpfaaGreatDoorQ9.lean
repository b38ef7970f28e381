/-
  The walk of the reference's class (printed by gen_class.py).
  The walk of the reference's tenant (printed by gen_class.py).
  The reference's parser against the plain one: the same tokens, the same error (printed by gen_rel.py). No program is run here.
-/
import Derived.Test.YtimmffncfkcpfaaGreatDoorQ7
import Derived.Laws.Tables
import Derived.Test.YtimmffncfkcpfaaGreatDoorV5
namespace Go.Proofs.YtimmffncfkcpfaaGreatDoor
open Go Go.RowKit Go.Walks

structure RItem where
  tenant : Bool
  name : Tok
  other : Tok
  losses : Tok
  whole : Tok
  guar : Tok
  snap : Tok
  burst : Tok
  rank : Tok
def itemA (x : RItem) : Array Value := #[.bool x.tenant, .string ⟨x.name.text.toArray⟩, .int .i64 (x.name.at_ : Int), .string ⟨x.other.text.toArray⟩, .int .i64 (x.other.at_ : Int), .string ⟨x.losses.text.toArray⟩, .int .i64 (x.losses.at_ : Int), .string ⟨x.whole.text.toArray⟩, .int .i64 (x.whole.at_ : Int), .string ⟨x.guar.text.toArray⟩, .int .i64 (x.guar.at_ : Int), .string ⟨x.snap.text.toArray⟩, .int .i64 (x.snap.at_ : Int), .string ⟨x.burst.text.toArray⟩, .int .i64 (x.burst.at_ : Int), .string ⟨x.rank.text.toArray⟩, .int .i64 (x.rank.at_ : Int)]
set_option maxRecDepth 100000 in
theorem info75 : (Tryz.prog.info? 75).map (·.size) = some 17 := by kernel_rfl
theorem rb_setRow {r : Nat} {a w : World} (h : RB r a w) {g : Nat} (hg : a.heap.size ≤ g) (cs : Array Value) : RB r a (w.setRow g cs) :=
  ⟨h.os, h.tape, h.output, by rw [setRow_size]; exact h.size, fun k hk hr => (setRow_other _ _ _ _ (by omega)).trans (h.block k hk hr)⟩
def mustR (s : Bytes) (S : RSt) : RSt := (stepR (· == s) S).2
def classR (S : RSt) : RItem × RSt :=
  let n := stepR wordB S
  let o := stepR wordB (mustR kCode (mustR kOpen n.2))
  let l := stepR numHead (mustR kLosses (mustR kSemi o.2))
  let h := stepR numHead (mustR kWhole (mustR kSemi l.2))
  (⟨false, n.1, o.1, l.1, h.1, tok0, tok0, tok0, tok0⟩, mustR kClose (mustR kSemi h.2))

set_option maxRecDepth 100000 in
theorem res61 (tmps : Array Value) (w : World) (g : Nat) (cs : Array Value) (hs : cs.size = 17) (hp : tmps.getD 2 undef = .pointer (some ⟨g, 0, none⟩)) (hg : w.heap[g]? = some (.cells cs 75)) :
    (results Tryz.f61 tmps).run Tryz.prog w = .ok (.agg cs) w :=
  results_cell_row (p := 2) (ty := 75) rfl tmps w g 75 cs (0, 0) _ hp hg Tryz.underlying75 rfl (by rw [hs]; exact info75)

set_option maxRecDepth 100000 in
set_option maxHeartbeats 16000000 in
theorem rclass_any {r c stop : Nat} {A : Option Addr} {acc : List Tok} {S : RSt} (w : World) (H : Hid (RP w r A c acc stop S)) (HK : Hid (RK c acc)) :
    Calls Tryz.prog 61 #[.pointer (some ⟨r, 0, none⟩)] w (StepR r A c acc stop (classR S).2 (.agg (itemA (classR S).1)) w) := by
  obtain ⟨z, hz⟩ : ∃ x, x = classR S := ⟨_, rfl⟩
  rw [← hz]
  have HZ := Lib.hid hz
  obtain ⟨W0, hW0⟩ : ∃ W, W = w.alloc (.cells #[.bool false, .string ⟨#[]⟩, .int .i64 0, .string ⟨#[]⟩, .int .i64 0, .string ⟨#[]⟩, .int .i64 0, .string ⟨#[]⟩, .int .i64 0, .string ⟨#[]⟩, .int .i64 0, .string ⟨#[]⟩, .int .i64 0, .string ⟨#[]⟩, .int .i64 0, .string ⟨#[]⟩, .int .i64 0] 75) := ⟨_, rfl⟩
  have hB0 : Below w.heap.size w W0 := by rw [hW0]; exact (Below.refl _ _).alloc (Nat.le_refl _) _
  have hN0 : W0.heap[w.heap.size]? = some (.cells #[.bool false, .string ⟨#[]⟩, .int .i64 0, .string ⟨#[]⟩, .int .i64 0, .string ⟨#[]⟩, .int .i64 0, .string ⟨#[]⟩, .int .i64 0, .string ⟨#[]⟩, .int .i64 0, .string ⟨#[]⟩, .int .i64 0, .string ⟨#[]⟩, .int .i64 0, .string ⟨#[]⟩, .int .i64 0] 75) := by rw [hW0]; exact heap_new _ _
  have HP0 := Lib.hid (H.out.below hB0)
  have HRB0 := Lib.hid (RB.of_below (r := r) hB0)
  have HN0 := Lib.hid hN0
  have hrl := H.out.lt
  have ne2 : w.heap.size ≠ r := by omega
  have hf := fld73
  clear hz hB0 hN0
  go_enter Tryz.func61, Tryz.ntmps61
  go_wp2_with fail
  rw [← hW0]
  clear hW0
  have hc0 := rwordP_any _ HP0 HK
  obtain ⟨y0, hy0⟩ : ∃ x, x = (stepR wordB S) := ⟨_, rfl⟩
  rw [← hy0] at hc0
  have Hc0 := Lib.hid hc0
  have Hy0 := Lib.hid hy0
  clear hc0 hy0
  refine Hc0.out.mono ?_
  rintro e v0 ⟨rfl, hrb, hp⟩
  have HRBc0 := Lib.hid (HRB0.out.trans hrb)
  have HPc0 := Lib.hid hp
  have HNc0 := Lib.hid (hrb.row ne2 HN0.out)
  have hszc0 := hrb.size
  clear hrb hp
  unfold TokV strV
  go_wp2_with fail
  obtain ⟨u0, hu0⟩ : ∃ W, W = v0.alloc (.cells #[.bool false, .string ⟨y0.1.text.toArray⟩, .int .i64 (y0.1.at_ : Int), .string ⟨#[]⟩, .int .i64 0, .string ⟨#[]⟩, .int .i64 0, .string ⟨#[]⟩, .int .i64 0, .string ⟨#[]⟩, .int .i64 0, .string ⟨#[]⟩, .int .i64 0, .string ⟨#[]⟩, .int .i64 0, .string ⟨#[]⟩, .int .i64 0] 75) := ⟨_, rfl⟩
  obtain ⟨g3, hg3e⟩ : ∃ g, g = v0.heap.size := ⟨_, rfl⟩
  have hb0 : Below v0.heap.size v0 u0 := by rw [hu0]; exact (Below.refl _ _).alloc (Nat.le_refl _) _
  have HXs0 : Hid (u0.heap[g3]? = some (.cells #[.bool false, .string ⟨y0.1.text.toArray⟩, .int .i64 (y0.1.at_ : Int), .string ⟨#[]⟩, .int .i64 0, .string ⟨#[]⟩, .int .i64 0, .string ⟨#[]⟩, .int .i64 0, .string ⟨#[]⟩, .int .i64 0, .string ⟨#[]⟩, .int .i64 0, .string ⟨#[]⟩, .int .i64 0, .string ⟨#[]⟩, .int .i64 0] 75)) := by rw [hu0, hg3e]; exact heap_new _ _
  have hwv : w.heap.size < v0.heap.size := (Array.getElem?_eq_some_iff.1 HNc0.out).1
  have hg3 : w.heap.size ≤ g3 := by omega
  have ne1 : w.heap.size ≠ g3 := by omega
  have ne3 : g3 ≠ r := by have := HPc0.out.lt; omega
  have HNs0 := Lib.hid (below_cells HNc0.out hb0)
  have HRBs0 := Lib.hid (HRBc0.out.trans (RB.of_below hb0))
  have HPs0 := Lib.hid (HPc0.out.below hb0)
  rw [← hg3e, ← hu0]
  clear hu0 hb0 hg3e
  go_wp2_with fail
  have hc1 := rmust_any kOpen _ HPs0 HK
  obtain ⟨y1, hy1⟩ : ∃ x, x = (stepR (· == kOpen) y0.2) := ⟨_, rfl⟩
  rw [← hy1] at hc1
  have Hc1 := Lib.hid hc1
  have Hy1 := Lib.hid hy1
  clear hc1 hy1
  refine Hc1.out.mono ?_
  rintro e v1 ⟨rfl, hrb, hp⟩
  have HRBc1 := Lib.hid (HRBs0.out.trans hrb)
  have HPc1 := Lib.hid hp
  have HNc1 := Lib.hid (hrb.row ne2 HNs0.out)
  have HXc1 := Lib.hid (hrb.row ne3 HXs0.out)
  have hszc1 := hrb.size
  clear hrb hp
  go_wp2_with fail
  have hc2 := rmust_any kCode _ HPc1 HK
  obtain ⟨y2, hy2⟩ : ∃ x, x = (stepR (· == kCode) y1.2) := ⟨_, rfl⟩
  rw [← hy2] at hc2
  have Hc2 := Lib.hid hc2
  have Hy2 := Lib.hid hy2
  clear hc2 hy2
  refine Hc2.out.mono ?_
  rintro e v2 ⟨rfl, hrb, hp⟩
  have HRBc2 := Lib.hid (HRBc1.out.trans hrb)
  have HPc2 := Lib.hid hp
  have HNc2 := Lib.hid (hrb.row ne2 HNc1.out)
  have HXc2 := Lib.hid (hrb.row ne3 HXc1.out)
  have hszc2 := hrb.size
  clear hrb hp
  go_wp2_with fail
  have hc3 := rwordP_any _ HPc2 HK
  obtain ⟨y3, hy3⟩ : ∃ x, x = (stepR wordB y2.2) := ⟨_, rfl⟩
  rw [← hy3] at hc3
  have Hc3 := Lib.hid hc3
  have Hy3 := Lib.hid hy3
  clear hc3 hy3
  refine Hc3.out.mono ?_
  rintro e v3 ⟨rfl, hrb, hp⟩
  have HRBc3 := Lib.hid (HRBc2.out.trans hrb)
  have HPc3 := Lib.hid hp
  have HNc3 := Lib.hid (hrb.row ne2 HNc2.out)
  have HXc3 := Lib.hid (hrb.row ne3 HXc2.out)
  have hszc3 := hrb.size
  clear hrb hp
  obtain ⟨c3, d3⟩ := cell_at HXc3.out 3 rfl
  obtain ⟨c3b, d3b⟩ := cell_at HXc3.out 4 rfl
  unfold TokV strV
  go_wp2_with fail
  clear c3 c3b d3 d3b
  obtain ⟨u3, hu3⟩ : ∃ W, W = (v3.setCell ⟨g3, 3, none⟩ (.string ⟨y3.1.text.toArray⟩)).setCell ⟨g3, 4, none⟩ (.int .i64 (y3.1.at_ : Int)) := ⟨_, rfl⟩
  have HXs3 : Hid (u3.heap[g3]? = some (.cells #[.bool false, .string ⟨y0.1.text.toArray⟩, .int .i64 (y0.1.at_ : Int), .string ⟨y3.1.text.toArray⟩, .int .i64 (y3.1.at_ : Int), .string ⟨#[]⟩, .int .i64 0, .string ⟨#[]⟩, .int .i64 0, .string ⟨#[]⟩, .int .i64 0, .string ⟨#[]⟩, .int .i64 0, .string ⟨#[]⟩, .int .i64 0, .string ⟨#[]⟩, .int .i64 0] 75)) := by rw [hu3]; exact set_at (set_at HXc3.out 3 _) 4 _
  have HNs3 : Hid (u3.heap[w.heap.size]? = some (.cells #[.bool false, .string ⟨#[]⟩, .int .i64 0, .string ⟨#[]⟩, .int .i64 0, .string ⟨#[]⟩, .int .i64 0, .string ⟨#[]⟩, .int .i64 0, .string ⟨#[]⟩, .int .i64 0, .string ⟨#[]⟩, .int .i64 0, .string ⟨#[]⟩, .int .i64 0, .string ⟨#[]⟩, .int .i64 0] 75)) := by rw [hu3]; exact (Below.heap_setCell _ _ _ _ ne1).trans ((Below.heap_setCell _ _ _ _ ne1).trans HNc3.out)
  have HRBs3 : Hid (RB r w u3) := by rw [hu3]; exact (HRBc3.out.setNew hg3 _ _).setNew hg3 _ _
  have HPs3 := Lib.hid (H.out.of HRBs3.out HPc3.out (by rw [hu3]; exact (Below.heap_setCell _ _ _ _ (Ne.symm ne3)).trans (Below.heap_setCell _ _ _ _ (Ne.symm ne3))))
  rw [← hu3]
  clear hu3
  go_wp2_with fail
  have hc4 := rmust_any kSemi _ HPs3 HK
  obtain ⟨y4, hy4⟩ : ∃ x, x = (stepR (· == kSemi) y3.2) := ⟨_, rfl⟩
  rw [← hy4] at hc4
  have Hc4 := Lib.hid hc4
  have Hy4 := Lib.hid hy4
  clear hc4 hy4
  refine Hc4.out.mono ?_
  rintro e v4 ⟨rfl, hrb, hp⟩
  have HRBc4 := Lib.hid (HRBs3.out.trans hrb)
  have HPc4 := Lib.hid hp
  have HNc4 := Lib.hid (hrb.row ne2 HNs3.out)
  have HXc4 := Lib.hid (hrb.row ne3 HXs3.out)
  have hszc4 := hrb.size
  clear hrb hp
  go_wp2_with fail
  have hc5 := rmust_any kLosses _ HPc4 HK
  obtain ⟨y5, hy5⟩ : ∃ x, x = (stepR (· == kLosses) y4.2) := ⟨_, rfl⟩
  rw [← hy5] at hc5
  have Hc5 := Lib.hid hc5
  have Hy5 := Lib.hid hy5
  clear hc5 hy5
  refine Hc5.out.mono ?_
  rintro e v5 ⟨rfl, hrb, hp⟩
  have HRBc5 := Lib.hid (HRBc4.out.trans hrb)
  have HPc5 := Lib.hid hp
  have HNc5 := Lib.hid (hrb.row ne2 HNc4.out)
  have HXc5 := Lib.hid (hrb.row ne3 HXc4.out)
  have hszc5 := hrb.size
  clear hrb hp
  go_wp2_with fail
  have hc6 := rnumP_any _ HPc5 HK
  obtain ⟨y6, hy6⟩ : ∃ x, x = (stepR numHead y5.2) := ⟨_, rfl⟩
  rw [← hy6] at hc6
  have Hc6 := Lib.hid hc6
  have Hy6 := Lib.hid hy6
  clear hc6 hy6
  refine Hc6.out.mono ?_
  rintro e v6 ⟨rfl, hrb, hp⟩
  have HRBc6 := Lib.hid (HRBc5.out.trans hrb)
  have HPc6 := Lib.hid hp
  have HNc6 := Lib.hid (hrb.row ne2 HNc5.out)
  have HXc6 := Lib.hid (hrb.row ne3 HXc5.out)
  have hszc6 := hrb.size
  clear hrb hp
  obtain ⟨c6, d6⟩ := cell_at HXc6.out 5 rfl
  obtain ⟨c6b, d6b⟩ := cell_at HXc6.out 6 rfl
  unfold TokV strV
  go_wp2_with fail
  clear c6 c6b d6 d6b
  obtain ⟨u6, hu6⟩ : ∃ W, W = (v6.setCell ⟨g3, 5, none⟩ (.string ⟨y6.1.text.toArray⟩)).setCell ⟨g3, 6, none⟩ (.int .i64 (y6.1.at_ : Int)) := ⟨_, rfl⟩
  have HXs6 : Hid (u6.heap[g3]? = some (.cells #[.bool false, .string ⟨y0.1.text.toArray⟩, .int .i64 (y0.1.at_ : Int), .string ⟨y3.1.text.toArray⟩, .int .i64 (y3.1.at_ : Int), .string ⟨y6.1.text.toArray⟩, .int .i64 (y6.1.at_ : Int), .string ⟨#[]⟩, .int .i64 0, .string ⟨#[]⟩, .int .i64 0, .string ⟨#[]⟩, .int .i64 0, .string ⟨#[]⟩, .int .i64 0, .string ⟨#[]⟩, .int .i64 0] 75)) := by rw [hu6]; exact set_at (set_at HXc6.out 5 _) 6 _
  have HNs6 : Hid (u6.heap[w.heap.size]? = some (.cells #[.bool false, .string ⟨#[]⟩, .int .i64 0, .string ⟨#[]⟩, .int .i64 0, .string ⟨#[]⟩, .int .i64 0, .string ⟨#[]⟩, .int .i64 0, .string ⟨#[]⟩, .int .i64 0, .string ⟨#[]⟩, .int .i64 0, .string ⟨#[]⟩, .int .i64 0, .string ⟨#[]⟩, .int .i64 0] 75)) := by rw [hu6]; exact (Below.heap_setCell _ _ _ _ ne1).trans ((Below.heap_setCell _ _ _ _ ne1).trans HNc6.out)
  have HRBs6 : Hid (RB r w u6) := by rw [hu6]; exact (HRBc6.out.setNew hg3 _ _).setNew hg3 _ _
  have HPs6 := Lib.hid (H.out.of HRBs6.out HPc6.out (by rw [hu6]; exact (Below.heap_setCell _ _ _ _ (Ne.symm ne3)).trans (Below.heap_setCell _ _ _ _ (Ne.symm ne3))))
  rw [← hu6]
  clear hu6
  go_wp2_with fail
  have hc7 := rmust_any kSemi _ HPs6 HK
  obtain ⟨y7, hy7⟩ : ∃ x, x = (stepR (· == kSemi) y6.2) := ⟨_, rfl⟩
  rw [← hy7] at hc7
  have Hc7 := Lib.hid hc7
  have Hy7 := Lib.hid hy7
  clear hc7 hy7
  refine Hc7.out.mono ?_
  rintro e v7 ⟨rfl, hrb, hp⟩
  have HRBc7 := Lib.hid (HRBs6.out.trans hrb)
  have HPc7 := Lib.hid hp
  have HNc7 := Lib.hid (hrb.row ne2 HNs6.out)
  have HXc7 := Lib.hid (hrb.row ne3 HXs6.out)
  have hszc7 := hrb.size
  clear hrb hp
  go_wp2_with fail
  have hc8 := rmust_any kWhole _ HPc7 HK
  obtain ⟨y8, hy8⟩ : ∃ x, x = (stepR (· == kWhole) y7.2) := ⟨_, rfl⟩
  rw [← hy8] at hc8
  have Hc8 := Lib.hid hc8
  have Hy8 := Lib.hid hy8
  clear hc8 hy8
  refine Hc8.out.mono ?_
  rintro e v8 ⟨rfl, hrb, hp⟩
  have HRBc8 := Lib.hid (HRBc7.out.trans hrb)
  have HPc8 := Lib.hid hp
  have HNc8 := Lib.hid (hrb.row ne2 HNc7.out)
  have HXc8 := Lib.hid (hrb.row ne3 HXc7.out)
  have hszc8 := hrb.size
  clear hrb hp
  go_wp2_with fail
  have hc9 := rnumP_any _ HPc8 HK
  obtain ⟨y9, hy9⟩ : ∃ x, x = (stepR numHead y8.2) := ⟨_, rfl⟩
  rw [← hy9] at hc9
  have Hc9 := Lib.hid hc9
  have Hy9 := Lib.hid hy9
  clear hc9 hy9
  refine Hc9.out.mono ?_
  rintro e v9 ⟨rfl, hrb, hp⟩
  have HRBc9 := Lib.hid (HRBc8.out.trans hrb)
  have HPc9 := Lib.hid hp
  have HNc9 := Lib.hid (hrb.row ne2 HNc8.out)
  have HXc9 := Lib.hid (hrb.row ne3 HXc8.out)
  have hszc9 := hrb.size
  clear hrb hp
  obtain ⟨c9, d9⟩ := cell_at HXc9.out 7 rfl
  obtain ⟨c9b, d9b⟩ := cell_at HXc9.out 8 rfl
  unfold TokV strV
  go_wp2_with fail
  clear c9 c9b d9 d9b
  obtain ⟨u9, hu9⟩ : ∃ W, W = (v9.setCell ⟨g3, 7, none⟩ (.string ⟨y9.1.text.toArray⟩)).setCell ⟨g3, 8, none⟩ (.int .i64 (y9.1.at_ : Int)) := ⟨_, rfl⟩
  have HXs9 : Hid (u9.heap[g3]? = some (.cells #[.bool false, .string ⟨y0.1.text.toArray⟩, .int .i64 (y0.1.at_ : Int), .string ⟨y3.1.text.toArray⟩, .int .i64 (y3.1.at_ : Int), .string ⟨y6.1.text.toArray⟩, .int .i64 (y6.1.at_ : Int), .string ⟨y9.1.text.toArray⟩, .int .i64 (y9.1.at_ : Int), .string ⟨#[]⟩, .int .i64 0, .string ⟨#[]⟩, .int .i64 0, .string ⟨#[]⟩, .int .i64 0, .string ⟨#[]⟩, .int .i64 0] 75)) := by rw [hu9]; exact set_at (set_at HXc9.out 7 _) 8 _
  have HNs9 : Hid (u9.heap[w.heap.size]? = some (.cells #[.bool false, .string ⟨#[]⟩, .int .i64 0, .string ⟨#[]⟩, .int .i64 0, .string ⟨#[]⟩, .int .i64 0, .string ⟨#[]⟩, .int .i64 0, .string ⟨#[]⟩, .int .i64 0, .string ⟨#[]⟩, .int .i64 0, .string ⟨#[]⟩, .int .i64 0, .string ⟨#[]⟩, .int .i64 0] 75)) := by rw [hu9]; exact (Below.heap_setCell _ _ _ _ ne1).trans ((Below.heap_setCell _ _ _ _ ne1).trans HNc9.out)
  have HRBs9 : Hid (RB r w u9) := by rw [hu9]; exact (HRBc9.out.setNew hg3 _ _).setNew hg3 _ _
  have HPs9 := Lib.hid (H.out.of HRBs9.out HPc9.out (by rw [hu9]; exact (Below.heap_setCell _ _ _ _ (Ne.symm ne3)).trans (Below.heap_setCell _ _ _ _ (Ne.symm ne3))))
  rw [← hu9]
  clear hu9
  go_wp2_with fail
  have hc10 := rmust_any kSemi _ HPs9 HK
  obtain ⟨y10, hy10⟩ : ∃ x, x = (stepR (· == kSemi) y9.2) := ⟨_, rfl⟩
  rw [← hy10] at hc10
  have Hc10 := Lib.hid hc10
  have Hy10 := Lib.hid hy10
  clear hc10 hy10
  refine Hc10.out.mono ?_
  rintro e v10 ⟨rfl, hrb, hp⟩
  have HRBc10 := Lib.hid (HRBs9.out.trans hrb)
  have HPc10 := Lib.hid hp
  have HNc10 := Lib.hid (hrb.row ne2 HNs9.out)
  have HXc10 := Lib.hid (hrb.row ne3 HXs9.out)
  have hszc10 := hrb.size
  clear hrb hp
  go_wp2_with fail
  have hc11 := rmust_any kClose _ HPc10 HK
  obtain ⟨y11, hy11⟩ : ∃ x, x = (stepR (· == kClose) y10.2) := ⟨_, rfl⟩
  rw [← hy11] at hc11
  have Hc11 := Lib.hid hc11
  have Hy11 := Lib.hid hy11
  clear hc11 hy11
  refine Hc11.out.mono ?_
  rintro e v11 ⟨rfl, hrb, hp⟩
  have HRBc11 := Lib.hid (HRBc10.out.trans hrb)
  have HPc11 := Lib.hid hp
  have HNc11 := Lib.hid (hrb.row ne2 HNc10.out)
  have HXc11 := Lib.hid (hrb.row ne3 HXc10.out)
  have hszc11 := hrb.size
  clear hrb hp
  clear hf
  obtain ⟨ARR, hARR⟩ : ∃ x : Array Value, x = #[.bool false, .string ⟨y0.1.text.toArray⟩, .int .i64 (y0.1.at_ : Int), .string ⟨y3.1.text.toArray⟩, .int .i64 (y3.1.at_ : Int), .string ⟨y6.1.text.toArray⟩, .int .i64 (y6.1.at_ : Int), .string ⟨y9.1.text.toArray⟩, .int .i64 (y9.1.at_ : Int), .string ⟨#[]⟩, .int .i64 0, .string ⟨#[]⟩, .int .i64 0, .string ⟨#[]⟩, .int .i64 0, .string ⟨#[]⟩, .int .i64 0] := ⟨_, rfl⟩
  have hXr : v11.heap[g3]? = some (.cells ARR 75) := by rw [hARR]; exact HXc11.out
  have hAs : ARR.size = 17 := by rw [hARR]; rfl
  have hinf : (Tryz.prog.info? 75).map (·.size) = some ARR.size := by rw [hAs]; exact info75
  have hold : (#[.bool false, .string ⟨#[]⟩, .int .i64 0, .string ⟨#[]⟩, .int .i64 0, .string ⟨#[]⟩, .int .i64 0, .string ⟨#[]⟩, .int .i64 0, .string ⟨#[]⟩, .int .i64 0, .string ⟨#[]⟩, .int .i64 0, .string ⟨#[]⟩, .int .i64 0, .string ⟨#[]⟩, .int .i64 0] : Array Value).size = ARR.size := by rw [hAs]; rfl
  have hNr := HNc11.out
  have hA1 : ARR.all (·.oneCell') = true := by rw [hARR, ← Array.all_toList]; rfl
  have HARR := Lib.hid hARR
  clear hARR
  go_wp2_with (first | (refine wpList_load_row rfl 75 _ rfl g3 rfl 75 ARR (0, 0) _ hXr Tryz.underlying75 rfl hinf ?_) | (refine wpList_store_row rfl 75 _ _ rfl w.heap.size ARR rfl rfl 75 _ hNr hinf hold hA1 ?_))
  refine bodyPost_ret (res61 _ _ w.heap.size ARR hAs rfl (setRow_heap _ _ _ _ _ _ HNc11.out)) rfl ?_
  have hrb := rb_setRow HRBc11.out (Nat.le_refl _) ARR
  have hz2 : z = (⟨false, y0.1, y3.1, y6.1, y9.1, tok0, tok0, tok0, tok0⟩, y11.2) := by
    rw [HZ.out]
    unfold classR mustR
    dsimp only
    rw [← Hy0.out, ← Hy1.out, ← Hy2.out, ← Hy3.out, ← Hy4.out, ← Hy5.out, ← Hy6.out, ← Hy7.out, ← Hy8.out, ← Hy9.out, ← Hy10.out, ← Hy11.out]
  rw [hz2]
  exact ⟨by rw [HARR.out]; rfl, hrb, H.out.of hrb HPc11.out (setRow_other _ _ _ _ (Ne.symm ne2))⟩
end Go.Proofs.YtimmffncfkcpfaaGreatDoor
namespace Go.Proofs.YtimmffncfkcpfaaGreatDoor
open Go Go.RowKit Go.Walks

def snapR (s : RSt) : Tok × RSt := if ((headR s).text == kSnap) = true then ((stepR numHead (mustR kSnap s)).1, mustR kSemi (stepR numHead (mustR kSnap s)).2) else (tok0, s)
def burstR (s : RSt) : (Tok × Tok) × RSt := if ((headR s).text == kBurst) = true then (((stepR numHead (mustR kBurst s)).1, (stepR numHead (mustR kRank (stepR numHead (mustR kBurst s)).2)).1), mustR kSemi (stepR numHead (mustR kRank (stepR numHead (mustR kBurst s)).2)).2) else ((tok0, tok0), s)
def tenantR (S : RSt) : RItem × RSt :=
  let n := stepR wordB S
  let g := stepR numHead (mustR kGuar (mustR kOpen n.2))
  let sn := snapR (mustR kSemi g.2)
  let br := burstR sn.2
  let o := stepR wordB (mustR kClass br.2)
  (⟨true, n.1, o.1, tok0, tok0, g.1, sn.1, br.1.1, br.1.2⟩, mustR kClose (mustR kSemi o.2))

set_option maxRecDepth 100000 in
theorem res62 (tmps : Array Value) (w : World) (g : Nat) (cs : Array Value) (hs : cs.size = 17) (hp : tmps.getD 2 undef = .pointer (some ⟨g, 0, none⟩)) (hg : w.heap[g]? = some (.cells cs 75)) :
    (results Tryz.f62 tmps).run Tryz.prog w = .ok (.agg cs) w :=
  results_cell_row (p := 2) (ty := 75) rfl tmps w g 75 cs (0, 0) _ hp hg Tryz.underlying75 rfl (by rw [hs]; exact info75)

set_option maxRecDepth 100000 in
set_option maxHeartbeats 16000000 in
theorem rtenant_any {r c stop : Nat} {A : Option Addr} {acc : List Tok} {S : RSt} (w : World) (H : Hid (RP w r A c acc stop S)) (HK : Hid (RK c acc)) :
    Calls Tryz.prog 62 #[.pointer (some ⟨r, 0, none⟩)] w (StepR r A c acc stop (tenantR S).2 (.agg (itemA (tenantR S).1)) w) := by
  obtain ⟨z, hz⟩ : ∃ x, x = tenantR S := ⟨_, rfl⟩
  rw [← hz]
  have HZ := Lib.hid hz
  obtain ⟨W0, hW0⟩ : ∃ W, W = w.alloc (.cells #[.bool false, .string ⟨#[]⟩, .int .i64 0, .string ⟨#[]⟩, .int .i64 0, .string ⟨#[]⟩, .int .i64 0, .string ⟨#[]⟩, .int .i64 0, .string ⟨#[]⟩, .int .i64 0, .string ⟨#[]⟩, .int .i64 0, .string ⟨#[]⟩, .int .i64 0, .string ⟨#[]⟩, .int .i64 0] 75) := ⟨_, rfl⟩
  have hB0 : Below w.heap.size w W0 := by rw [hW0]; exact (Below.refl _ _).alloc (Nat.le_refl _) _
  have hN0 : W0.heap[w.heap.size]? = some (.cells #[.bool false, .string ⟨#[]⟩, .int .i64 0, .string ⟨#[]⟩, .int .i64 0, .string ⟨#[]⟩, .int .i64 0, .string ⟨#[]⟩, .int .i64 0, .string ⟨#[]⟩, .int .i64 0, .string ⟨#[]⟩, .int .i64 0, .string ⟨#[]⟩, .int .i64 0, .string ⟨#[]⟩, .int .i64 0] 75) := by rw [hW0]; exact heap_new _ _
  have HP0 := Lib.hid (H.out.below hB0)
  have HRB0 := Lib.hid (RB.of_below (r := r) hB0)
  have HN0 := Lib.hid hN0
  have hrl := H.out.lt
  have ne2 : w.heap.size ≠ r := by omega
  have hf := fld73
  clear hz hB0 hN0
  go_enter Tryz.func62, Tryz.ntmps62
  go_wp2_with fail
  rw [← hW0]
  clear hW0
  have hc0 := rwordP_any _ HP0 HK
  obtain ⟨y0, hy0⟩ : ∃ x, x = (stepR wordB S) := ⟨_, rfl⟩
  rw [← hy0] at hc0
  have Hc0 := Lib.hid hc0
  have Hy0 := Lib.hid hy0
  clear hc0 hy0
  refine Hc0.out.mono ?_
  rintro e v0 ⟨rfl, hrb, hp⟩
  have HRBc0 := Lib.hid (HRB0.out.trans hrb)
  have HPc0 := Lib.hid hp
  have HNc0 := Lib.hid (hrb.row ne2 HN0.out)
  have hszc0 := hrb.size
  clear hrb hp
  unfold TokV strV
  go_wp2_with fail
  obtain ⟨u0, hu0⟩ : ∃ W, W = v0.alloc (.cells #[.bool true, .string ⟨y0.1.text.toArray⟩, .int .i64 (y0.1.at_ : Int), .string ⟨#[]⟩, .int .i64 0, .string ⟨#[]⟩, .int .i64 0, .string ⟨#[]⟩, .int .i64 0, .string ⟨#[]⟩, .int .i64 0, .string ⟨#[]⟩, .int .i64 0, .string ⟨#[]⟩, .int .i64 0, .string ⟨#[]⟩, .int .i64 0] 75) := ⟨_, rfl⟩
  obtain ⟨g3, hg3e⟩ : ∃ g, g = v0.heap.size := ⟨_, rfl⟩
  have hb0 : Below v0.heap.size v0 u0 := by rw [hu0]; exact (Below.refl _ _).alloc (Nat.le_refl _) _
  have HXs0 : Hid (u0.heap[g3]? = some (.cells #[.bool true, .string ⟨y0.1.text.toArray⟩, .int .i64 (y0.1.at_ : Int), .string ⟨#[]⟩, .int .i64 0, .string ⟨#[]⟩, .int .i64 0, .string ⟨#[]⟩, .int .i64 0, .string ⟨#[]⟩, .int .i64 0, .string ⟨#[]⟩, .int .i64 0, .string ⟨#[]⟩, .int .i64 0, .string ⟨#[]⟩, .int .i64 0] 75)) := by rw [hu0, hg3e]; exact heap_new _ _
  have hwv : w.heap.size < v0.heap.size := (Array.getElem?_eq_some_iff.1 HNc0.out).1
  have hg3 : w.heap.size ≤ g3 := by omega
  have ne1 : w.heap.size ≠ g3 := by omega
  have ne3 : g3 ≠ r := by have := HPc0.out.lt; omega
  have HNs0 := Lib.hid (below_cells HNc0.out hb0)
  have HRBs0 := Lib.hid (HRBc0.out.trans (RB.of_below hb0))
  have HPs0 := Lib.hid (HPc0.out.below hb0)
  rw [← hg3e, ← hu0]
  clear hu0 hb0 hg3e
  go_wp2_with fail
  have hc1 := rmust_any kOpen _ HPs0 HK
  obtain ⟨y1, hy1⟩ : ∃ x, x = (stepR (· == kOpen) y0.2) := ⟨_, rfl⟩
  rw [← hy1] at hc1
  have Hc1 := Lib.hid hc1
  have Hy1 := Lib.hid hy1
  clear hc1 hy1
  refine Hc1.out.mono ?_
  rintro e v1 ⟨rfl, hrb, hp⟩
  have HRBc1 := Lib.hid (HRBs0.out.trans hrb)
  have HPc1 := Lib.hid hp
  have HNc1 := Lib.hid (hrb.row ne2 HNs0.out)
  have HXc1 := Lib.hid (hrb.row ne3 HXs0.out)
  have hszc1 := hrb.size
  clear hrb hp
  go_wp2_with fail
  have hc2 := rmust_any kGuar _ HPc1 HK
  obtain ⟨y2, hy2⟩ : ∃ x, x = (stepR (· == kGuar) y1.2) := ⟨_, rfl⟩
  rw [← hy2] at hc2
  have Hc2 := Lib.hid hc2
  have Hy2 := Lib.hid hy2
  clear hc2 hy2
  refine Hc2.out.mono ?_
  rintro e v2 ⟨rfl, hrb, hp⟩
  have HRBc2 := Lib.hid (HRBc1.out.trans hrb)
  have HPc2 := Lib.hid hp
  have HNc2 := Lib.hid (hrb.row ne2 HNc1.out)
  have HXc2 := Lib.hid (hrb.row ne3 HXc1.out)
  have hszc2 := hrb.size
  clear hrb hp
  go_wp2_with fail
  have hc3 := rnumP_any _ HPc2 HK
  obtain ⟨y3, hy3⟩ : ∃ x, x = (stepR numHead y2.2) := ⟨_, rfl⟩
  rw [← hy3] at hc3
  have Hc3 := Lib.hid hc3
  have Hy3 := Lib.hid hy3
  clear hc3 hy3
  refine Hc3.out.mono ?_
  rintro e v3 ⟨rfl, hrb, hp⟩
  have HRBc3 := Lib.hid (HRBc2.out.trans hrb)
  have HPc3 := Lib.hid hp
  have HNc3 := Lib.hid (hrb.row ne2 HNc2.out)
  have HXc3 := Lib.hid (hrb.row ne3 HXc2.out)
  have hszc3 := hrb.size
  clear hrb hp
  obtain ⟨c3, d3⟩ := cell_at HXc3.out 9 rfl
  obtain ⟨c3b, d3b⟩ := cell_at HXc3.out 10 rfl
  unfold TokV strV
  go_wp2_with fail
  clear c3 c3b d3 d3b
  obtain ⟨u3, hu3⟩ : ∃ W, W = (v3.setCell ⟨g3, 9, none⟩ (.string ⟨y3.1.text.toArray⟩)).setCell ⟨g3, 10, none⟩ (.int .i64 (y3.1.at_ : Int)) := ⟨_, rfl⟩
  have HXs3 : Hid (u3.heap[g3]? = some (.cells #[.bool true, .string ⟨y0.1.text.toArray⟩, .int .i64 (y0.1.at_ : Int), .string ⟨#[]⟩, .int .i64 0, .string ⟨#[]⟩, .int .i64 0, .string ⟨#[]⟩, .int .i64 0, .string ⟨y3.1.text.toArray⟩, .int .i64 (y3.1.at_ : Int), .string ⟨#[]⟩, .int .i64 0, .string ⟨#[]⟩, .int .i64 0, .string ⟨#[]⟩, .int .i64 0] 75)) := by rw [hu3]; exact set_at (set_at HXc3.out 9 _) 10 _
  have HNs3 : Hid (u3.heap[w.heap.size]? = some (.cells #[.bool false, .string ⟨#[]⟩, .int .i64 0, .string ⟨#[]⟩, .int .i64 0, .string ⟨#[]⟩, .int .i64 0, .string ⟨#[]⟩, .int .i64 0, .string ⟨#[]⟩, .int .i64 0, .string ⟨#[]⟩, .int .i64 0, .string ⟨#[]⟩, .int .i64 0, .string ⟨#[]⟩, .int .i64 0] 75)) := by rw [hu3]; exact (Below.heap_setCell _ _ _ _ ne1).trans ((Below.heap_setCell _ _ _ _ ne1).trans HNc3.out)
  have HRBs3 : Hid (RB r w u3) := by rw [hu3]; exact (HRBc3.out.setNew hg3 _ _).setNew hg3 _ _
  have HPs3 := Lib.hid (H.out.of HRBs3.out HPc3.out (by rw [hu3]; exact (Below.heap_setCell _ _ _ _ (Ne.symm ne3)).trans (Below.heap_setCell _ _ _ _ (Ne.symm ne3))))
  rw [← hu3]
  clear hu3
  go_wp2_with fail
  have hc4 := rmust_any kSemi _ HPs3 HK
  obtain ⟨y4, hy4⟩ : ∃ x, x = (stepR (· == kSemi) y3.2) := ⟨_, rfl⟩
  rw [← hy4] at hc4
  have Hc4 := Lib.hid hc4
  have Hy4 := Lib.hid hy4
  clear hc4 hy4
  refine Hc4.out.mono ?_
  rintro e v4 ⟨rfl, hrb, hp⟩
  have HRBc4 := Lib.hid (HRBs3.out.trans hrb)
  have HPc4 := Lib.hid hp
  have HNc4 := Lib.hid (hrb.row ne2 HNs3.out)
  have HXc4 := Lib.hid (hrb.row ne3 HXs3.out)
  have hszc4 := hrb.size
  clear hrb hp
  go_wp2_with fail
  have hn1 := next_any _ HPc4.out HK.out.n HK.out.cap
  obtain ⟨T1, hT1⟩ : ∃ T, T = headR y4.2 := ⟨_, rfl⟩
  rw [← hT1] at hn1
  have HT1 := Lib.hid hT1
  clear hT1
  refine hn1.mono ?_
  unfold TokV strV
  rintro e p1 ⟨rfl, hb⟩
  have HRBp1 := Lib.hid (HRBc4.out.trans (RB.of_below hb))
  have HPp1 := Lib.hid (HPc4.out.below hb)
  have HNp1 := Lib.hid (below_cells HNc4.out hb)
  have HXp1 := Lib.hid (below_cells HXc4.out hb)
  clear hb hn1
  cases hq1 : (T1.text == [115, 110, 97, 112, 115, 104, 111, 116, 115]) with
  | true =>
    have hq1b : ((headR y4.2).text == kSnap) = true := by rw [← HT1.out]; exact hq1
    have HQ1 := Lib.hid hq1b
    clear hq1b
    go_wp2_with fail
    have hc5 := rmust_any kSnap _ HPp1 HK
    obtain ⟨y5, hy5⟩ : ∃ x, x = (stepR (· == kSnap) y4.2) := ⟨_, rfl⟩
    rw [← hy5] at hc5
    have Hc5 := Lib.hid hc5
    have Hy5 := Lib.hid hy5
    clear hc5 hy5
    refine Hc5.out.mono ?_
    rintro e v5 ⟨rfl, hrb, hp⟩
    have HRBc5 := Lib.hid (HRBp1.out.trans hrb)
    have HPc5 := Lib.hid hp
    have HNc5 := Lib.hid (hrb.row ne2 HNp1.out)
    have HXc5 := Lib.hid (hrb.row ne3 HXp1.out)
    have hszc5 := hrb.size
    clear hrb hp
    go_wp2_with fail
    have hc6 := rnumP_any _ HPc5 HK
    obtain ⟨y6, hy6⟩ : ∃ x, x = (stepR numHead y5.2) := ⟨_, rfl⟩
    rw [← hy6] at hc6
    have Hc6 := Lib.hid hc6
    have Hy6 := Lib.hid hy6
    clear hc6 hy6
    refine Hc6.out.mono ?_
    rintro e v6 ⟨rfl, hrb, hp⟩
    have HRBc6 := Lib.hid (HRBc5.out.trans hrb)
    have HPc6 := Lib.hid hp
    have HNc6 := Lib.hid (hrb.row ne2 HNc5.out)
    have HXc6 := Lib.hid (hrb.row ne3 HXc5.out)
    have hszc6 := hrb.size
    clear hrb hp
    obtain ⟨c6, d6⟩ := cell_at HXc6.out 11 rfl
    obtain ⟨c6b, d6b⟩ := cell_at HXc6.out 12 rfl
    unfold TokV strV
    go_wp2_with fail
    clear c6 c6b d6 d6b
    obtain ⟨u6, hu6⟩ : ∃ W, W = (v6.setCell ⟨g3, 11, none⟩ (.string ⟨y6.1.text.toArray⟩)).setCell ⟨g3, 12, none⟩ (.int .i64 (y6.1.at_ : Int)) := ⟨_, rfl⟩
    have HXs6 : Hid (u6.heap[g3]? = some (.cells #[.bool true, .string ⟨y0.1.text.toArray⟩, .int .i64 (y0.1.at_ : Int), .string ⟨#[]⟩, .int .i64 0, .string ⟨#[]⟩, .int .i64 0, .string ⟨#[]⟩, .int .i64 0, .string ⟨y3.1.text.toArray⟩, .int .i64 (y3.1.at_ : Int), .string ⟨y6.1.text.toArray⟩, .int .i64 (y6.1.at_ : Int), .string ⟨#[]⟩, .int .i64 0, .string ⟨#[]⟩, .int .i64 0] 75)) := by rw [hu6]; exact set_at (set_at HXc6.out 11 _) 12 _
    have HNs6 : Hid (u6.heap[w.heap.size]? = some (.cells #[.bool false, .string ⟨#[]⟩, .int .i64 0, .string ⟨#[]⟩, .int .i64 0, .string ⟨#[]⟩, .int .i64 0, .string ⟨#[]⟩, .int .i64 0, .string ⟨#[]⟩, .int .i64 0, .string ⟨#[]⟩, .int .i64 0, .string ⟨#[]⟩, .int .i64 0, .string ⟨#[]⟩, .int .i64 0] 75)) := by rw [hu6]; exact (Below.heap_setCell _ _ _ _ ne1).trans ((Below.heap_setCell _ _ _ _ ne1).trans HNc6.out)
    have HRBs6 : Hid (RB r w u6) := by rw [hu6]; exact (HRBc6.out.setNew hg3 _ _).setNew hg3 _ _
    have HPs6 := Lib.hid (H.out.of HRBs6.out HPc6.out (by rw [hu6]; exact (Below.heap_setCell _ _ _ _ (Ne.symm ne3)).trans (Below.heap_setCell _ _ _ _ (Ne.symm ne3))))
    rw [← hu6]
    clear hu6
    go_wp2_with fail
    have hc7 := rmust_any kSemi _ HPs6 HK
    obtain ⟨y7, hy7⟩ : ∃ x, x = (stepR (· == kSemi) y6.2) := ⟨_, rfl⟩
    rw [← hy7] at hc7
    have Hc7 := Lib.hid hc7
    have Hy7 := Lib.hid hy7
    clear hc7 hy7
    refine Hc7.out.mono ?_
    rintro e v7 ⟨rfl, hrb, hp⟩
    have HRBc7 := Lib.hid (HRBs6.out.trans hrb)
    have HPc7 := Lib.hid hp
    have HNc7 := Lib.hid (hrb.row ne2 HNs6.out)
    have HXc7 := Lib.hid (hrb.row ne3 HXs6.out)
    have hszc7 := hrb.size
    clear hrb hp
    have hsn : snapR y4.2 = (y6.1, y7.2) := by unfold snapR mustR; rw [if_pos HQ1.out, ← Hy5.out, ← Hy6.out, ← Hy7.out]
    have Hsn := Lib.hid hsn
    clear hsn
    go_wp2_with fail
    have hn2 := next_any _ HPc7.out HK.out.n HK.out.cap
    obtain ⟨T2, hT2⟩ : ∃ T, T = headR y7.2 := ⟨_, rfl⟩
    rw [← hT2] at hn2
    have HT2 := Lib.hid hT2
    clear hT2
    refine hn2.mono ?_
    unfold TokV strV
    rintro e p2 ⟨rfl, hb⟩
    have HRBp2 := Lib.hid (HRBc7.out.trans (RB.of_below hb))
    have HPp2 := Lib.hid (HPc7.out.below hb)
    have HNp2 := Lib.hid (below_cells HNc7.out hb)
    have HXp2 := Lib.hid (below_cells HXc7.out hb)
    clear hb hn2
    cases hq2 : (T2.text == [98, 117, 114, 115, 116]) with
    | true =>
      have hq2b : ((headR y7.2).text == kBurst) = true := by rw [← HT2.out]; exact hq2
      have HQ2 := Lib.hid hq2b
      clear hq2b
      go_wp2_with fail
      have hc8 := rmust_any kBurst _ HPp2 HK
      obtain ⟨y8, hy8⟩ : ∃ x, x = (stepR (· == kBurst) y7.2) := ⟨_, rfl⟩
      rw [← hy8] at hc8
      have Hc8 := Lib.hid hc8
      have Hy8 := Lib.hid hy8
      clear hc8 hy8
      refine Hc8.out.mono ?_
      rintro e v8 ⟨rfl, hrb, hp⟩
      have HRBc8 := Lib.hid (HRBp2.out.trans hrb)
      have HPc8 := Lib.hid hp
      have HNc8 := Lib.hid (hrb.row ne2 HNp2.out)
      have HXc8 := Lib.hid (hrb.row ne3 HXp2.out)
      have hszc8 := hrb.size
      clear hrb hp
      go_wp2_with fail
      have hc9 := rnumP_any _ HPc8 HK
      obtain ⟨y9, hy9⟩ : ∃ x, x = (stepR numHead y8.2) := ⟨_, rfl⟩
      rw [← hy9] at hc9
      have Hc9 := Lib.hid hc9
      have Hy9 := Lib.hid hy9
      clear hc9 hy9
      refine Hc9.out.mono ?_
      rintro e v9 ⟨rfl, hrb, hp⟩
      have HRBc9 := Lib.hid (HRBc8.out.trans hrb)
      have HPc9 := Lib.hid hp
      have HNc9 := Lib.hid (hrb.row ne2 HNc8.out)
      have HXc9 := Lib.hid (hrb.row ne3 HXc8.out)
      have hszc9 := hrb.size
      clear hrb hp
      obtain ⟨c9, d9⟩ := cell_at HXc9.out 13 rfl
      obtain ⟨c9b, d9b⟩ := cell_at HXc9.out 14 rfl
      unfold TokV strV
      go_wp2_with fail
      clear c9 c9b d9 d9b
      obtain ⟨u9, hu9⟩ : ∃ W, W = (v9.setCell ⟨g3, 13, none⟩ (.string ⟨y9.1.text.toArray⟩)).setCell ⟨g3, 14, none⟩ (.int .i64 (y9.1.at_ : Int)) := ⟨_, rfl⟩
      have HXs9 : Hid (u9.heap[g3]? = some (.cells #[.bool true, .string ⟨y0.1.text.toArray⟩, .int .i64 (y0.1.at_ : Int), .string ⟨#[]⟩, .int .i64 0, .string ⟨#[]⟩, .int .i64 0, .string ⟨#[]⟩, .int .i64 0, .string ⟨y3.1.text.toArray⟩, .int .i64 (y3.1.at_ : Int), .string ⟨y6.1.text.toArray⟩, .int .i64 (y6.1.at_ : Int), .string ⟨y9.1.text.toArray⟩, .int .i64 (y9.1.at_ : Int), .string ⟨#[]⟩, .int .i64 0] 75)) := by rw [hu9]; exact set_at (set_at HXc9.out 13 _) 14 _
      have HNs9 : Hid (u9.heap[w.heap.size]? = some (.cells #[.bool false, .string ⟨#[]⟩, .int .i64 0, .string ⟨#[]⟩, .int .i64 0, .string ⟨#[]⟩, .int .i64 0, .string ⟨#[]⟩, .int .i64 0, .string ⟨#[]⟩, .int .i64 0, .string ⟨#[]⟩, .int .i64 0, .string ⟨#[]⟩, .int .i64 0, .string ⟨#[]⟩, .int .i64 0] 75)) := by rw [hu9]; exact (Below.heap_setCell _ _ _ _ ne1).trans ((Below.heap_setCell _ _ _ _ ne1).trans HNc9.out)
      have HRBs9 : Hid (RB r w u9) := by rw [hu9]; exact (HRBc9.out.setNew hg3 _ _).setNew hg3 _ _
      have HPs9 := Lib.hid (H.out.of HRBs9.out HPc9.out (by rw [hu9]; exact (Below.heap_setCell _ _ _ _ (Ne.symm ne3)).trans (Below.heap_setCell _ _ _ _ (Ne.symm ne3))))
      rw [← hu9]
      clear hu9
      go_wp2_with fail
      have hc10 := rmust_any kRank _ HPs9 HK
      obtain ⟨y10, hy10⟩ : ∃ x, x = (stepR (· == kRank) y9.2) := ⟨_, rfl⟩
      rw [← hy10] at hc10
      have Hc10 := Lib.hid hc10
      have Hy10 := Lib.hid hy10
      clear hc10 hy10
      refine Hc10.out.mono ?_
      rintro e v10 ⟨rfl, hrb, hp⟩
      have HRBc10 := Lib.hid (HRBs9.out.trans hrb)
      have HPc10 := Lib.hid hp
      have HNc10 := Lib.hid (hrb.row ne2 HNs9.out)
      have HXc10 := Lib.hid (hrb.row ne3 HXs9.out)
      have hszc10 := hrb.size
      clear hrb hp
      go_wp2_with fail
      have hc11 := rnumP_any _ HPc10 HK
      obtain ⟨y11, hy11⟩ : ∃ x, x = (stepR numHead y10.2) := ⟨_, rfl⟩
      rw [← hy11] at hc11
      have Hc11 := Lib.hid hc11
      have Hy11 := Lib.hid hy11
      clear hc11 hy11
      refine Hc11.out.mono ?_
      rintro e v11 ⟨rfl, hrb, hp⟩
      have HRBc11 := Lib.hid (HRBc10.out.trans hrb)
      have HPc11 := Lib.hid hp
      have HNc11 := Lib.hid (hrb.row ne2 HNc10.out)
      have HXc11 := Lib.hid (hrb.row ne3 HXc10.out)
      have hszc11 := hrb.size
      clear hrb hp
      obtain ⟨c11, d11⟩ := cell_at HXc11.out 15 rfl
      obtain ⟨c11b, d11b⟩ := cell_at HXc11.out 16 rfl
      unfold TokV strV
      go_wp2_with fail
      clear c11 c11b d11 d11b
      obtain ⟨u11, hu11⟩ : ∃ W, W = (v11.setCell ⟨g3, 15, none⟩ (.string ⟨y11.1.text.toArray⟩)).setCell ⟨g3, 16, none⟩ (.int .i64 (y11.1.at_ : Int)) := ⟨_, rfl⟩
      have HXs11 : Hid (u11.heap[g3]? = some (.cells #[.bool true, .string ⟨y0.1.text.toArray⟩, .int .i64 (y0.1.at_ : Int), .string ⟨#[]⟩, .int .i64 0, .string ⟨#[]⟩, .int .i64 0, .string ⟨#[]⟩, .int .i64 0, .string ⟨y3.1.text.toArray⟩, .int .i64 (y3.1.at_ : Int), .string ⟨y6.1.text.toArray⟩, .int .i64 (y6.1.at_ : Int), .string ⟨y9.1.text.toArray⟩, .int .i64 (y9.1.at_ : Int), .string ⟨y11.1.text.toArray⟩, .int .i64 (y11.1.at_ : Int)] 75)) := by rw [hu11]; exact set_at (set_at HXc11.out 15 _) 16 _
      have HNs11 : Hid (u11.heap[w.heap.size]? = some (.cells #[.bool false, .string ⟨#[]⟩, .int .i64 0, .string ⟨#[]⟩, .int .i64 0, .string ⟨#[]⟩, .int .i64 0, .string ⟨#[]⟩, .int .i64 0, .string ⟨#[]⟩, .int .i64 0, .string ⟨#[]⟩, .int .i64 0, .string ⟨#[]⟩, .int .i64 0, .string ⟨#[]⟩, .int .i64 0] 75)) := by rw [hu11]; exact (Below.heap_setCell _ _ _ _ ne1).trans ((Below.heap_setCell _ _ _ _ ne1).trans HNc11.out)
      have HRBs11 : Hid (RB r w u11) := by rw [hu11]; exact (HRBc11.out.setNew hg3 _ _).setNew hg3 _ _
      have HPs11 := Lib.hid (H.out.of HRBs11.out HPc11.out (by rw [hu11]; exact (Below.heap_setCell _ _ _ _ (Ne.symm ne3)).trans (Below.heap_setCell _ _ _ _ (Ne.symm ne3))))
      rw [← hu11]
      clear hu11
      go_wp2_with fail
      have hc12 := rmust_any kSemi _ HPs11 HK
      obtain ⟨y12, hy12⟩ : ∃ x, x = (stepR (· == kSemi) y11.2) := ⟨_, rfl⟩
      rw [← hy12] at hc12
      have Hc12 := Lib.hid hc12
      have Hy12 := Lib.hid hy12
      clear hc12 hy12
      refine Hc12.out.mono ?_
      rintro e v12 ⟨rfl, hrb, hp⟩
      have HRBc12 := Lib.hid (HRBs11.out.trans hrb)
      have HPc12 := Lib.hid hp
      have HNc12 := Lib.hid (hrb.row ne2 HNs11.out)
      have HXc12 := Lib.hid (hrb.row ne3 HXs11.out)
      have hszc12 := hrb.size
      clear hrb hp
      have hbr : burstR y7.2 = ((y9.1, y11.1), y12.2) := by unfold burstR mustR; rw [if_pos HQ2.out, ← Hy8.out, ← Hy9.out, ← Hy10.out, ← Hy11.out, ← Hy12.out]
      have Hbr := Lib.hid hbr
      clear hbr
      go_wp2_with fail
      have hc13 := rmust_any kClass _ HPc12 HK
      obtain ⟨y13, hy13⟩ : ∃ x, x = (stepR (· == kClass) y12.2) := ⟨_, rfl⟩
      rw [← hy13] at hc13
      have Hc13 := Lib.hid hc13
      have Hy13 := Lib.hid hy13
      clear hc13 hy13
      refine Hc13.out.mono ?_
      rintro e v13 ⟨rfl, hrb, hp⟩
      have HRBc13 := Lib.hid (HRBc12.out.trans hrb)
      have HPc13 := Lib.hid hp
      have HNc13 := Lib.hid (hrb.row ne2 HNc12.out)
      have HXc13 := Lib.hid (hrb.row ne3 HXc12.out)
      have hszc13 := hrb.size
      clear hrb hp
      go_wp2_with fail
      have hc14 := rwordP_any _ HPc13 HK
      obtain ⟨y14, hy14⟩ : ∃ x, x = (stepR wordB y13.2) := ⟨_, rfl⟩
      rw [← hy14] at hc14
      have Hc14 := Lib.hid hc14
      have Hy14 := Lib.hid hy14
      clear hc14 hy14
      refine Hc14.out.mono ?_
      rintro e v14 ⟨rfl, hrb, hp⟩
      have HRBc14 := Lib.hid (HRBc13.out.trans hrb)
      have HPc14 := Lib.hid hp
      have HNc14 := Lib.hid (hrb.row ne2 HNc13.out)
      have HXc14 := Lib.hid (hrb.row ne3 HXc13.out)
      have hszc14 := hrb.size
      clear hrb hp
      obtain ⟨c14, d14⟩ := cell_at HXc14.out 3 rfl
      obtain ⟨c14b, d14b⟩ := cell_at HXc14.out 4 rfl
      unfold TokV strV
      go_wp2_with fail
      clear c14 c14b d14 d14b
      obtain ⟨u14, hu14⟩ : ∃ W, W = (v14.setCell ⟨g3, 3, none⟩ (.string ⟨y14.1.text.toArray⟩)).setCell ⟨g3, 4, none⟩ (.int .i64 (y14.1.at_ : Int)) := ⟨_, rfl⟩
      have HXs14 : Hid (u14.heap[g3]? = some (.cells #[.bool true, .string ⟨y0.1.text.toArray⟩, .int .i64 (y0.1.at_ : Int), .string ⟨y14.1.text.toArray⟩, .int .i64 (y14.1.at_ : Int), .string ⟨#[]⟩, .int .i64 0, .string ⟨#[]⟩, .int .i64 0, .string ⟨y3.1.text.toArray⟩, .int .i64 (y3.1.at_ : Int), .string ⟨y6.1.text.toArray⟩, .int .i64 (y6.1.at_ : Int), .string ⟨y9.1.text.toArray⟩, .int .i64 (y9.1.at_ : Int), .string ⟨y11.1.text.toArray⟩, .int .i64 (y11.1.at_ : Int)] 75)) := by rw [hu14]; exact set_at (set_at HXc14.out 3 _) 4 _
      have HNs14 : Hid (u14.heap[w.heap.size]? = some (.cells #[.bool false, .string ⟨#[]⟩, .int .i64 0, .string ⟨#[]⟩, .int .i64 0, .string ⟨#[]⟩, .int .i64 0, .string ⟨#[]⟩, .int .i64 0, .string ⟨#[]⟩, .int .i64 0, .string ⟨#[]⟩, .int .i64 0, .string ⟨#[]⟩, .int .i64 0, .string ⟨#[]⟩, .int .i64 0] 75)) := by rw [hu14]; exact (Below.heap_setCell _ _ _ _ ne1).trans ((Below.heap_setCell _ _ _ _ ne1).trans HNc14.out)
      have HRBs14 : Hid (RB r w u14) := by rw [hu14]; exact (HRBc14.out.setNew hg3 _ _).setNew hg3 _ _
      have HPs14 := Lib.hid (H.out.of HRBs14.out HPc14.out (by rw [hu14]; exact (Below.heap_setCell _ _ _ _ (Ne.symm ne3)).trans (Below.heap_setCell _ _ _ _ (Ne.symm ne3))))
      rw [← hu14]
      clear hu14
      go_wp2_with fail
      have hc15 := rmust_any kSemi _ HPs14 HK
      obtain ⟨y15, hy15⟩ : ∃ x, x = (stepR (· == kSemi) y14.2) := ⟨_, rfl⟩
      rw [← hy15] at hc15
      have Hc15 := Lib.hid hc15
      have Hy15 := Lib.hid hy15
      clear hc15 hy15
      refine Hc15.out.mono ?_
      rintro e v15 ⟨rfl, hrb, hp⟩
      have HRBc15 := Lib.hid (HRBs14.out.trans hrb)
      have HPc15 := Lib.hid hp
      have HNc15 := Lib.hid (hrb.row ne2 HNs14.out)
      have HXc15 := Lib.hid (hrb.row ne3 HXs14.out)
      have hszc15 := hrb.size
      clear hrb hp
      go_wp2_with fail
      have hc16 := rmust_any kClose _ HPc15 HK
      obtain ⟨y16, hy16⟩ : ∃ x, x = (stepR (· == kClose) y15.2) := ⟨_, rfl⟩
      rw [← hy16] at hc16
      have Hc16 := Lib.hid hc16
      have Hy16 := Lib.hid hy16
      clear hc16 hy16
      refine Hc16.out.mono ?_
      rintro e v16 ⟨rfl, hrb, hp⟩
      have HRBc16 := Lib.hid (HRBc15.out.trans hrb)
      have HPc16 := Lib.hid hp
      have HNc16 := Lib.hid (hrb.row ne2 HNc15.out)
      have HXc16 := Lib.hid (hrb.row ne3 HXc15.out)
      have hszc16 := hrb.size
      clear hrb hp
      clear hf
      obtain ⟨ARR, hARR⟩ : ∃ x : Array Value, x = #[.bool true, .string ⟨y0.1.text.toArray⟩, .int .i64 (y0.1.at_ : Int), .string ⟨y14.1.text.toArray⟩, .int .i64 (y14.1.at_ : Int), .string ⟨#[]⟩, .int .i64 0, .string ⟨#[]⟩, .int .i64 0, .string ⟨y3.1.text.toArray⟩, .int .i64 (y3.1.at_ : Int), .string ⟨y6.1.text.toArray⟩, .int .i64 (y6.1.at_ : Int), .string ⟨y9.1.text.toArray⟩, .int .i64 (y9.1.at_ : Int), .string ⟨y11.1.text.toArray⟩, .int .i64 (y11.1.at_ : Int)] := ⟨_, rfl⟩
      have hXr : v16.heap[g3]? = some (.cells ARR 75) := by rw [hARR]; exact HXc16.out
      have hAs : ARR.size = 17 := by rw [hARR]; rfl
      have hinf : (Tryz.prog.info? 75).map (·.size) = some ARR.size := by rw [hAs]; exact info75
      have hold : (#[.bool false, .string ⟨#[]⟩, .int .i64 0, .string ⟨#[]⟩, .int .i64 0, .string ⟨#[]⟩, .int .i64 0, .string ⟨#[]⟩, .int .i64 0, .string ⟨#[]⟩, .int .i64 0, .string ⟨#[]⟩, .int .i64 0, .string ⟨#[]⟩, .int .i64 0, .string ⟨#[]⟩, .int .i64 0] : Array Value).size = ARR.size := by rw [hAs]; rfl
      have hNr := HNc16.out
      have hA1 : ARR.all (·.oneCell') = true := by rw [hARR, ← Array.all_toList]; rfl
      have HARR := Lib.hid hARR
      clear hARR
      go_wp2_with (first | (refine wpList_load_row rfl 75 _ rfl g3 rfl 75 ARR (0, 0) _ hXr Tryz.underlying75 rfl hinf ?_) | (refine wpList_store_row rfl 75 _ _ rfl w.heap.size ARR rfl rfl 75 _ hNr hinf hold hA1 ?_))
      refine bodyPost_ret (res62 _ _ w.heap.size ARR hAs rfl (setRow_heap _ _ _ _ _ _ HNc16.out)) rfl ?_
      have hrb := rb_setRow HRBc16.out (Nat.le_refl _) ARR
      have hz2 : z = (⟨true, y0.1, y14.1, tok0, tok0, y3.1, y6.1, y9.1, y11.1⟩, y16.2) := by
        rw [HZ.out]
        unfold tenantR mustR
        dsimp only
        rw [← Hy0.out, ← Hy1.out, ← Hy2.out, ← Hy3.out, ← Hy4.out, Hsn.out, Hbr.out, ← Hy13.out, ← Hy14.out, ← Hy15.out, ← Hy16.out]
      rw [hz2]
      exact ⟨by rw [HARR.out]; rfl, hrb, H.out.of hrb HPc16.out (setRow_other _ _ _ _ (Ne.symm ne2))⟩
    | false =>
      have hq2b : ((headR y7.2).text == kBurst) = false := by rw [← HT2.out]; exact hq2
      have HQ2 := Lib.hid hq2b
      clear hq2b
      have hbr : burstR y7.2 = ((tok0, tok0), y7.2) := by unfold burstR; rw [if_neg (by rw [HQ2.out]; decide)]
      have Hbr := Lib.hid hbr
      clear hbr
      go_wp2_with fail
      have hc8 := rmust_any kClass _ HPp2 HK
      obtain ⟨y8, hy8⟩ : ∃ x, x = (stepR (· == kClass) y7.2) := ⟨_, rfl⟩
      rw [← hy8] at hc8
      have Hc8 := Lib.hid hc8
      have Hy8 := Lib.hid hy8
      clear hc8 hy8
      refine Hc8.out.mono ?_
      rintro e v8 ⟨rfl, hrb, hp⟩
      have HRBc8 := Lib.hid (HRBp2.out.trans hrb)
      have HPc8 := Lib.hid hp
      have HNc8 := Lib.hid (hrb.row ne2 HNp2.out)
      have HXc8 := Lib.hid (hrb.row ne3 HXp2.out)
      have hszc8 := hrb.size
      clear hrb hp
      go_wp2_with fail
      have hc9 := rwordP_any _ HPc8 HK
      obtain ⟨y9, hy9⟩ : ∃ x, x = (stepR wordB y8.2) := ⟨_, rfl⟩
      rw [← hy9] at hc9
      have Hc9 := Lib.hid hc9
      have Hy9 := Lib.hid hy9
      clear hc9 hy9
      refine Hc9.out.mono ?_
      rintro e v9 ⟨rfl, hrb, hp⟩
      have HRBc9 := Lib.hid (HRBc8.out.trans hrb)
      have HPc9 := Lib.hid hp
      have HNc9 := Lib.hid (hrb.row ne2 HNc8.out)
      have HXc9 := Lib.hid (hrb.row ne3 HXc8.out)
      have hszc9 := hrb.size
      clear hrb hp
      obtain ⟨c9, d9⟩ := cell_at HXc9.out 3 rfl
      obtain ⟨c9b, d9b⟩ := cell_at HXc9.out 4 rfl
      unfold TokV strV
      go_wp2_with fail
      clear c9 c9b d9 d9b
      obtain ⟨u9, hu9⟩ : ∃ W, W = (v9.setCell ⟨g3, 3, none⟩ (.string ⟨y9.1.text.toArray⟩)).setCell ⟨g3, 4, none⟩ (.int .i64 (y9.1.at_ : Int)) := ⟨_, rfl⟩
      have HXs9 : Hid (u9.heap[g3]? = some (.cells #[.bool true, .string ⟨y0.1.text.toArray⟩, .int .i64 (y0.1.at_ : Int), .string ⟨y9.1.text.toArray⟩, .int .i64 (y9.1.at_ : Int), .string ⟨#[]⟩, .int .i64 0, .string ⟨#[]⟩, .int .i64 0, .string ⟨y3.1.text.toArray⟩, .int .i64 (y3.1.at_ : Int), .string ⟨y6.1.text.toArray⟩, .int .i64 (y6.1.at_ : Int), .string ⟨#[]⟩, .int .i64 0, .string ⟨#[]⟩, .int .i64 0] 75)) := by rw [hu9]; exact set_at (set_at HXc9.out 3 _) 4 _
      have HNs9 : Hid (u9.heap[w.heap.size]? = some (.cells #[.bool false, .string ⟨#[]⟩, .int .i64 0, .string ⟨#[]⟩, .int .i64 0, .string ⟨#[]⟩, .int .i64 0, .string ⟨#[]⟩, .int .i64 0, .string ⟨#[]⟩, .int .i64 0, .string ⟨#[]⟩, .int .i64 0, .string ⟨#[]⟩, .int .i64 0, .string ⟨#[]⟩, .int .i64 0] 75)) := by rw [hu9]; exact (Below.heap_setCell _ _ _ _ ne1).trans ((Below.heap_setCell _ _ _ _ ne1).trans HNc9.out)
      have HRBs9 : Hid (RB r w u9) := by rw [hu9]; exact (HRBc9.out.setNew hg3 _ _).setNew hg3 _ _
      have HPs9 := Lib.hid (H.out.of HRBs9.out HPc9.out (by rw [hu9]; exact (Below.heap_setCell _ _ _ _ (Ne.symm ne3)).trans (Below.heap_setCell _ _ _ _ (Ne.symm ne3))))
      rw [← hu9]
      clear hu9
      go_wp2_with fail
      have hc10 := rmust_any kSemi _ HPs9 HK
      obtain ⟨y10, hy10⟩ : ∃ x, x = (stepR (· == kSemi) y9.2) := ⟨_, rfl⟩
      rw [← hy10] at hc10
      have Hc10 := Lib.hid hc10
      have Hy10 := Lib.hid hy10
      clear hc10 hy10
      refine Hc10.out.mono ?_
      rintro e v10 ⟨rfl, hrb, hp⟩
      have HRBc10 := Lib.hid (HRBs9.out.trans hrb)
      have HPc10 := Lib.hid hp
      have HNc10 := Lib.hid (hrb.row ne2 HNs9.out)
      have HXc10 := Lib.hid (hrb.row ne3 HXs9.out)
      have hszc10 := hrb.size
      clear hrb hp
      go_wp2_with fail
      have hc11 := rmust_any kClose _ HPc10 HK
      obtain ⟨y11, hy11⟩ : ∃ x, x = (stepR (· == kClose) y10.2) := ⟨_, rfl⟩
      rw [← hy11] at hc11
      have Hc11 := Lib.hid hc11
      have Hy11 := Lib.hid hy11
      clear hc11 hy11
      refine Hc11.out.mono ?_
      rintro e v11 ⟨rfl, hrb, hp⟩
      have HRBc11 := Lib.hid (HRBc10.out.trans hrb)
      have HPc11 := Lib.hid hp
      have HNc11 := Lib.hid (hrb.row ne2 HNc10.out)
      have HXc11 := Lib.hid (hrb.row ne3 HXc10.out)
      have hszc11 := hrb.size
      clear hrb hp
      clear hf
      obtain ⟨ARR, hARR⟩ : ∃ x : Array Value, x = #[.bool true, .string ⟨y0.1.text.toArray⟩, .int .i64 (y0.1.at_ : Int), .string ⟨y9.1.text.toArray⟩, .int .i64 (y9.1.at_ : Int), .string ⟨#[]⟩, .int .i64 0, .string ⟨#[]⟩, .int .i64 0, .string ⟨y3.1.text.toArray⟩, .int .i64 (y3.1.at_ : Int), .string ⟨y6.1.text.toArray⟩, .int .i64 (y6.1.at_ : Int), .string ⟨#[]⟩, .int .i64 0, .string ⟨#[]⟩, .int .i64 0] := ⟨_, rfl⟩
      have hXr : v11.heap[g3]? = some (.cells ARR 75) := by rw [hARR]; exact HXc11.out
      have hAs : ARR.size = 17 := by rw [hARR]; rfl
      have hinf : (Tryz.prog.info? 75).map (·.size) = some ARR.size := by rw [hAs]; exact info75
      have hold : (#[.bool false, .string ⟨#[]⟩, .int .i64 0, .string ⟨#[]⟩, .int .i64 0, .string ⟨#[]⟩, .int .i64 0, .string ⟨#[]⟩, .int .i64 0, .string ⟨#[]⟩, .int .i64 0, .string ⟨#[]⟩, .int .i64 0, .string ⟨#[]⟩, .int .i64 0, .string ⟨#[]⟩, .int .i64 0] : Array Value).size = ARR.size := by rw [hAs]; rfl
      have hNr := HNc11.out
      have hA1 : ARR.all (·.oneCell') = true := by rw [hARR, ← Array.all_toList]; rfl
      have HARR := Lib.hid hARR
      clear hARR
      go_wp2_with (first | (refine wpList_load_row rfl 75 _ rfl g3 rfl 75 ARR (0, 0) _ hXr Tryz.underlying75 rfl hinf ?_) | (refine wpList_store_row rfl 75 _ _ rfl w.heap.size ARR rfl rfl 75 _ hNr hinf hold hA1 ?_))
      refine bodyPost_ret (res62 _ _ w.heap.size ARR hAs rfl (setRow_heap _ _ _ _ _ _ HNc11.out)) rfl ?_
      have hrb := rb_setRow HRBc11.out (Nat.le_refl _) ARR
      have hz2 : z = (⟨true, y0.1, y9.1, tok0, tok0, y3.1, y6.1, tok0, tok0⟩, y11.2) := by
        rw [HZ.out]
        unfold tenantR mustR
        dsimp only
        rw [← Hy0.out, ← Hy1.out, ← Hy2.out, ← Hy3.out, ← Hy4.out, Hsn.out, Hbr.out, ← Hy8.out, ← Hy9.out, ← Hy10.out, ← Hy11.out]
      rw [hz2]
      exact ⟨by rw [HARR.out]; rfl, hrb, H.out.of hrb HPc11.out (setRow_other _ _ _ _ (Ne.symm ne2))⟩
  | false =>
    have hq1b : ((headR y4.2).text == kSnap) = false := by rw [← HT1.out]; exact hq1
    have HQ1 := Lib.hid hq1b
    clear hq1b
    have hsn : snapR y4.2 = (tok0, y4.2) := by unfold snapR; rw [if_neg (by rw [HQ1.out]; decide)]
    have Hsn := Lib.hid hsn
    clear hsn
    go_wp2_with fail
    have hn2 := next_any _ HPp1.out HK.out.n HK.out.cap
    obtain ⟨T2, hT2⟩ : ∃ T, T = headR y4.2 := ⟨_, rfl⟩
    rw [← hT2] at hn2
    have HT2 := Lib.hid hT2
    clear hT2
    refine hn2.mono ?_
    unfold TokV strV
    rintro e p2 ⟨rfl, hb⟩
    have HRBp2 := Lib.hid (HRBp1.out.trans (RB.of_below hb))
    have HPp2 := Lib.hid (HPp1.out.below hb)
    have HNp2 := Lib.hid (below_cells HNp1.out hb)
    have HXp2 := Lib.hid (below_cells HXp1.out hb)
    clear hb hn2
    cases hq2 : (T2.text == [98, 117, 114, 115, 116]) with
    | true =>
      have hq2b : ((headR y4.2).text == kBurst) = true := by rw [← HT2.out]; exact hq2
      have HQ2 := Lib.hid hq2b
      clear hq2b
      go_wp2_with fail
      have hc5 := rmust_any kBurst _ HPp2 HK
      obtain ⟨y5, hy5⟩ : ∃ x, x = (stepR (· == kBurst) y4.2) := ⟨_, rfl⟩
      rw [← hy5] at hc5
      have Hc5 := Lib.hid hc5
      have Hy5 := Lib.hid hy5
      clear hc5 hy5
      refine Hc5.out.mono ?_
      rintro e v5 ⟨rfl, hrb, hp⟩
      have HRBc5 := Lib.hid (HRBp2.out.trans hrb)
      have HPc5 := Lib.hid hp
      have HNc5 := Lib.hid (hrb.row ne2 HNp2.out)
      have HXc5 := Lib.hid (hrb.row ne3 HXp2.out)
      have hszc5 := hrb.size
      clear hrb hp
      go_wp2_with fail
      have hc6 := rnumP_any _ HPc5 HK
      obtain ⟨y6, hy6⟩ : ∃ x, x = (stepR numHead y5.2) := ⟨_, rfl⟩
      rw [← hy6] at hc6
      have Hc6 := Lib.hid hc6
      have Hy6 := Lib.hid hy6
      clear hc6 hy6
      refine Hc6.out.mono ?_
      rintro e v6 ⟨rfl, hrb, hp⟩
      have HRBc6 := Lib.hid (HRBc5.out.trans hrb)
      have HPc6 := Lib.hid hp
      have HNc6 := Lib.hid (hrb.row ne2 HNc5.out)
      have HXc6 := Lib.hid (hrb.row ne3 HXc5.out)
      have hszc6 := hrb.size
      clear hrb hp
      obtain ⟨c6, d6⟩ := cell_at HXc6.out 13 rfl
      obtain ⟨c6b, d6b⟩ := cell_at HXc6.out 14 rfl
      unfold TokV strV
      go_wp2_with fail
      clear c6 c6b d6 d6b
      obtain ⟨u6, hu6⟩ : ∃ W, W = (v6.setCell ⟨g3, 13, none⟩ (.string ⟨y6.1.text.toArray⟩)).setCell ⟨g3, 14, none⟩ (.int .i64 (y6.1.at_ : Int)) := ⟨_, rfl⟩
      have HXs6 : Hid (u6.heap[g3]? = some (.cells #[.bool true, .string ⟨y0.1.text.toArray⟩, .int .i64 (y0.1.at_ : Int), .string ⟨#[]⟩, .int .i64 0, .string ⟨#[]⟩, .int .i64 0, .string ⟨#[]⟩, .int .i64 0, .string ⟨y3.1.text.toArray⟩, .int .i64 (y3.1.at_ : Int), .string ⟨#[]⟩, .int .i64 0, .string ⟨y6.1.text.toArray⟩, .int .i64 (y6.1.at_ : Int), .string ⟨#[]⟩, .int .i64 0] 75)) := by rw [hu6]; exact set_at (set_at HXc6.out 13 _) 14 _
      have HNs6 : Hid (u6.heap[w.heap.size]? = some (.cells #[.bool false, .string ⟨#[]⟩, .int .i64 0, .string ⟨#[]⟩, .int .i64 0, .string ⟨#[]⟩, .int .i64 0, .string ⟨#[]⟩, .int .i64 0, .string ⟨#[]⟩, .int .i64 0, .string ⟨#[]⟩, .int .i64 0, .string ⟨#[]⟩, .int .i64 0, .string ⟨#[]⟩, .int .i64 0] 75)) := by rw [hu6]; exact (Below.heap_setCell _ _ _ _ ne1).trans ((Below.heap_setCell _ _ _ _ ne1).trans HNc6.out)
      have HRBs6 : Hid (RB r w u6) := by rw [hu6]; exact (HRBc6.out.setNew hg3 _ _).setNew hg3 _ _
      have HPs6 := Lib.hid (H.out.of HRBs6.out HPc6.out (by rw [hu6]; exact (Below.heap_setCell _ _ _ _ (Ne.symm ne3)).trans (Below.heap_setCell _ _ _ _ (Ne.symm ne3))))
      rw [← hu6]
      clear hu6
      go_wp2_with fail
      have hc7 := rmust_any kRank _ HPs6 HK
      obtain ⟨y7, hy7⟩ : ∃ x, x = (stepR (· == kRank) y6.2) := ⟨_, rfl⟩
      rw [← hy7] at hc7
      have Hc7 := Lib.hid hc7
      have Hy7 := Lib.hid hy7
      clear hc7 hy7
      refine Hc7.out.mono ?_
      rintro e v7 ⟨rfl, hrb, hp⟩
      have HRBc7 := Lib.hid (HRBs6.out.trans hrb)
      have HPc7 := Lib.hid hp
      have HNc7 := Lib.hid (hrb.row ne2 HNs6.out)
      have HXc7 := Lib.hid (hrb.row ne3 HXs6.out)
      have hszc7 := hrb.size
      clear hrb hp
      go_wp2_with fail
      have hc8 := rnumP_any _ HPc7 HK
      obtain ⟨y8, hy8⟩ : ∃ x, x = (stepR numHead y7.2) := ⟨_, rfl⟩
      rw [← hy8] at hc8
      have Hc8 := Lib.hid hc8
      have Hy8 := Lib.hid hy8
      clear hc8 hy8
      refine Hc8.out.mono ?_
      rintro e v8 ⟨rfl, hrb, hp⟩
      have HRBc8 := Lib.hid (HRBc7.out.trans hrb)
      have HPc8 := Lib.hid hp
      have HNc8 := Lib.hid (hrb.row ne2 HNc7.out)
      have HXc8 := Lib.hid (hrb.row ne3 HXc7.out)
      have hszc8 := hrb.size
      clear hrb hp
      obtain ⟨c8, d8⟩ := cell_at HXc8.out 15 rfl
      obtain ⟨c8b, d8b⟩ := cell_at HXc8.out 16 rfl
      unfold TokV strV
      go_wp2_with fail
      clear c8 c8b d8 d8b
      obtain ⟨u8, hu8⟩ : ∃ W, W = (v8.setCell ⟨g3, 15, none⟩ (.string ⟨y8.1.text.toArray⟩)).setCell ⟨g3, 16, none⟩ (.int .i64 (y8.1.at_ : Int)) := ⟨_, rfl⟩
      have HXs8 : Hid (u8.heap[g3]? = some (.cells #[.bool true, .string ⟨y0.1.text.toArray⟩, .int .i64 (y0.1.at_ : Int), .string ⟨#[]⟩, .int .i64 0, .string ⟨#[]⟩, .int .i64 0, .string ⟨#[]⟩, .int .i64 0, .string ⟨y3.1.text.toArray⟩, .int .i64 (y3.1.at_ : Int), .string ⟨#[]⟩, .int .i64 0, .string ⟨y6.1.text.toArray⟩, .int .i64 (y6.1.at_ : Int), .string ⟨y8.1.text.toArray⟩, .int .i64 (y8.1.at_ : Int)] 75)) := by rw [hu8]; exact set_at (set_at HXc8.out 15 _) 16 _
      have HNs8 : Hid (u8.heap[w.heap.size]? = some (.cells #[.bool false, .string ⟨#[]⟩, .int .i64 0, .string ⟨#[]⟩, .int .i64 0, .string ⟨#[]⟩, .int .i64 0, .string ⟨#[]⟩, .int .i64 0, .string ⟨#[]⟩, .int .i64 0, .string ⟨#[]⟩, .int .i64 0, .string ⟨#[]⟩, .int .i64 0, .string ⟨#[]⟩, .int .i64 0] 75)) := by rw [hu8]; exact (Below.heap_setCell _ _ _ _ ne1).trans ((Below.heap_setCell _ _ _ _ ne1).trans HNc8.out)
      have HRBs8 : Hid (RB r w u8) := by rw [hu8]; exact (HRBc8.out.setNew hg3 _ _).setNew hg3 _ _
      have HPs8 := Lib.hid (H.out.of HRBs8.out HPc8.out (by rw [hu8]; exact (Below.heap_setCell _ _ _ _ (Ne.symm ne3)).trans (Below.heap_setCell _ _ _ _ (Ne.symm ne3))))
      rw [← hu8]
      clear hu8
      go_wp2_with fail
      have hc9 := rmust_any kSemi _ HPs8 HK
      obtain ⟨y9, hy9⟩ : ∃ x, x = (stepR (· == kSemi) y8.2) := ⟨_, rfl⟩
      rw [← hy9] at hc9
      have Hc9 := Lib.hid hc9
      have Hy9 := Lib.hid hy9
      clear hc9 hy9
      refine Hc9.out.mono ?_
      rintro e v9 ⟨rfl, hrb, hp⟩
      have HRBc9 := Lib.hid (HRBs8.out.trans hrb)
      have HPc9 := Lib.hid hp
      have HNc9 := Lib.hid (hrb.row ne2 HNs8.out)
      have HXc9 := Lib.hid (hrb.row ne3 HXs8.out)
      have hszc9 := hrb.size
      clear hrb hp
      have hbr : burstR y4.2 = ((y6.1, y8.1), y9.2) := by unfold burstR mustR; rw [if_pos HQ2.out, ← Hy5.out, ← Hy6.out, ← Hy7.out, ← Hy8.out, ← Hy9.out]
      have Hbr := Lib.hid hbr
      clear hbr
      go_wp2_with fail
      have hc10 := rmust_any kClass _ HPc9 HK
      obtain ⟨y10, hy10⟩ : ∃ x, x = (stepR (· == kClass) y9.2) := ⟨_, rfl⟩
      rw [← hy10] at hc10
      have Hc10 := Lib.hid hc10
      have Hy10 := Lib.hid hy10
      clear hc10 hy10
      refine Hc10.out.mono ?_
      rintro e v10 ⟨rfl, hrb, hp⟩
      have HRBc10 := Lib.hid (HRBc9.out.trans hrb)
      have HPc10 := Lib.hid hp
      have HNc10 := Lib.hid (hrb.row ne2 HNc9.out)
      have HXc10 := Lib.hid (hrb.row ne3 HXc9.out)
      have hszc10 := hrb.size
      clear hrb hp
      go_wp2_with fail
      have hc11 := rwordP_any _ HPc10 HK
      obtain ⟨y11, hy11⟩ : ∃ x, x = (stepR wordB y10.2) := ⟨_, rfl⟩
      rw [← hy11] at hc11
      have Hc11 := Lib.hid hc11
      have Hy11 := Lib.hid hy11
      clear hc11 hy11
      refine Hc11.out.mono ?_
      rintro e v11 ⟨rfl, hrb, hp⟩
      have HRBc11 := Lib.hid (HRBc10.out.trans hrb)
      have HPc11 := Lib.hid hp
      have HNc11 := Lib.hid (hrb.row ne2 HNc10.out)
      have HXc11 := Lib.hid (hrb.row ne3 HXc10.out)
      have hszc11 := hrb.size
      clear hrb hp
      obtain ⟨c11, d11⟩ := cell_at HXc11.out 3 rfl
      obtain ⟨c11b, d11b⟩ := cell_at HXc11.out 4 rfl
      unfold TokV strV
      go_wp2_with fail
      clear c11 c11b d11 d11b
      obtain ⟨u11, hu11⟩ : ∃ W, W = (v11.setCell ⟨g3, 3, none⟩ (.string ⟨y11.1.text.toArray⟩)).setCell ⟨g3, 4, none⟩ (.int .i64 (y11.1.at_ : Int)) := ⟨_, rfl⟩
      have HXs11 : Hid (u11.heap[g3]? = some (.cells #[.bool true, .string ⟨y0.1.text.toArray⟩, .int .i64 (y0.1.at_ : Int), .string ⟨y11.1.text.toArray⟩, .int .i64 (y11.1.at_ : Int), .string ⟨#[]⟩, .int .i64 0, .string ⟨#[]⟩, .int .i64 0, .string ⟨y3.1.text.toArray⟩, .int .i64 (y3.1.at_ : Int), .string ⟨#[]⟩, .int .i64 0, .string ⟨y6.1.text.toArray⟩, .int .i64 (y6.1.at_ : Int), .string ⟨y8.1.text.toArray⟩, .int .i64 (y8.1.at_ : Int)] 75)) := by rw [hu11]; exact set_at (set_at HXc11.out 3 _) 4 _
      have HNs11 : Hid (u11.heap[w.heap.size]? = some (.cells #[.bool false, .string ⟨#[]⟩, .int .i64 0, .string ⟨#[]⟩, .int .i64 0, .string ⟨#[]⟩, .int .i64 0, .string ⟨#[]⟩, .int .i64 0, .string ⟨#[]⟩, .int .i64 0, .string ⟨#[]⟩, .int .i64 0, .string ⟨#[]⟩, .int .i64 0, .string ⟨#[]⟩, .int .i64 0] 75)) := by rw [hu11]; exact (Below.heap_setCell _ _ _ _ ne1).trans ((Below.heap_setCell _ _ _ _ ne1).trans HNc11.out)
      have HRBs11 : Hid (RB r w u11) := by rw [hu11]; exact (HRBc11.out.setNew hg3 _ _).setNew hg3 _ _
      have HPs11 := Lib.hid (H.out.of HRBs11.out HPc11.out (by rw [hu11]; exact (Below.heap_setCell _ _ _ _ (Ne.symm ne3)).trans (Below.heap_setCell _ _ _ _ (Ne.symm ne3))))
      rw [← hu11]
      clear hu11
      go_wp2_with fail
      have hc12 := rmust_any kSemi _ HPs11 HK
      obtain ⟨y12, hy12⟩ : ∃ x, x = (stepR (· == kSemi) y11.2) := ⟨_, rfl⟩
      rw [← hy12] at hc12
      have Hc12 := Lib.hid hc12
      have Hy12 := Lib.hid hy12
      clear hc12 hy12
      refine Hc12.out.mono ?_
      rintro e v12 ⟨rfl, hrb, hp⟩
      have HRBc12 := Lib.hid (HRBs11.out.trans hrb)
      have HPc12 := Lib.hid hp
      have HNc12 := Lib.hid (hrb.row ne2 HNs11.out)
      have HXc12 := Lib.hid (hrb.row ne3 HXs11.out)
      have hszc12 := hrb.size
      clear hrb hp
      go_wp2_with fail
      have hc13 := rmust_any kClose _ HPc12 HK
      obtain ⟨y13, hy13⟩ : ∃ x, x = (stepR (· == kClose) y12.2) := ⟨_, rfl⟩
      rw [← hy13] at hc13
      have Hc13 := Lib.hid hc13
      have Hy13 := Lib.hid hy13
      clear hc13 hy13
      refine Hc13.out.mono ?_
      rintro e v13 ⟨rfl, hrb, hp⟩
      have HRBc13 := Lib.hid (HRBc12.out.trans hrb)
      have HPc13 := Lib.hid hp
      have HNc13 := Lib.hid (hrb.row ne2 HNc12.out)
      have HXc13 := Lib.hid (hrb.row ne3 HXc12.out)
      have hszc13 := hrb.size
      clear hrb hp
      clear hf
      obtain ⟨ARR, hARR⟩ : ∃ x : Array Value, x = #[.bool true, .string ⟨y0.1.text.toArray⟩, .int .i64 (y0.1.at_ : Int), .string ⟨y11.1.text.toArray⟩, .int .i64 (y11.1.at_ : Int), .string ⟨#[]⟩, .int .i64 0, .string ⟨#[]⟩, .int .i64 0, .string ⟨y3.1.text.toArray⟩, .int .i64 (y3.1.at_ : Int), .string ⟨#[]⟩, .int .i64 0, .string ⟨y6.1.text.toArray⟩, .int .i64 (y6.1.at_ : Int), .string ⟨y8.1.text.toArray⟩, .int .i64 (y8.1.at_ : Int)] := ⟨_, rfl⟩
      have hXr : v13.heap[g3]? = some (.cells ARR 75) := by rw [hARR]; exact HXc13.out
      have hAs : ARR.size = 17 := by rw [hARR]; rfl
      have hinf : (Tryz.prog.info? 75).map (·.size) = some ARR.size := by rw [hAs]; exact info75
      have hold : (#[.bool false, .string ⟨#[]⟩, .int .i64 0, .string ⟨#[]⟩, .int .i64 0, .string ⟨#[]⟩, .int .i64 0, .string ⟨#[]⟩, .int .i64 0, .string ⟨#[]⟩, .int .i64 0, .string ⟨#[]⟩, .int .i64 0, .string ⟨#[]⟩, .int .i64 0, .string ⟨#[]⟩, .int .i64 0] : Array Value).size = ARR.size := by rw [hAs]; rfl
      have hNr := HNc13.out
      have hA1 : ARR.all (·.oneCell') = true := by rw [hARR, ← Array.all_toList]; rfl
      have HARR := Lib.hid hARR
      clear hARR
      go_wp2_with (first | (refine wpList_load_row rfl 75 _ rfl g3 rfl 75 ARR (0, 0) _ hXr Tryz.underlying75 rfl hinf ?_) | (refine wpList_store_row rfl 75 _ _ rfl w.heap.size ARR rfl rfl 75 _ hNr hinf hold hA1 ?_))
      refine bodyPost_ret (res62 _ _ w.heap.size ARR hAs rfl (setRow_heap _ _ _ _ _ _ HNc13.out)) rfl ?_
      have hrb := rb_setRow HRBc13.out (Nat.le_refl _) ARR
      have hz2 : z = (⟨true, y0.1, y11.1, tok0, tok0, y3.1, tok0, y6.1, y8.1⟩, y13.2) := by
        rw [HZ.out]
        unfold tenantR mustR
        dsimp only
        rw [← Hy0.out, ← Hy1.out, ← Hy2.out, ← Hy3.out, ← Hy4.out, Hsn.out, Hbr.out, ← Hy10.out, ← Hy11.out, ← Hy12.out, ← Hy13.out]
      rw [hz2]
      exact ⟨by rw [HARR.out]; rfl, hrb, H.out.of hrb HPc13.out (setRow_other _ _ _ _ (Ne.symm ne2))⟩
    | false =>
      have hq2b : ((headR y4.2).text == kBurst) = false := by rw [← HT2.out]; exact hq2
      have HQ2 := Lib.hid hq2b
      clear hq2b
      have hbr : burstR y4.2 = ((tok0, tok0), y4.2) := by unfold burstR; rw [if_neg (by rw [HQ2.out]; decide)]
      have Hbr := Lib.hid hbr
      clear hbr
      go_wp2_with fail
      have hc5 := rmust_any kClass _ HPp2 HK
      obtain ⟨y5, hy5⟩ : ∃ x, x = (stepR (· == kClass) y4.2) := ⟨_, rfl⟩
      rw [← hy5] at hc5
      have Hc5 := Lib.hid hc5
      have Hy5 := Lib.hid hy5
      clear hc5 hy5
      refine Hc5.out.mono ?_
      rintro e v5 ⟨rfl, hrb, hp⟩
      have HRBc5 := Lib.hid (HRBp2.out.trans hrb)
      have HPc5 := Lib.hid hp
      have HNc5 := Lib.hid (hrb.row ne2 HNp2.out)
      have HXc5 := Lib.hid (hrb.row ne3 HXp2.out)
      have hszc5 := hrb.size
      clear hrb hp
      go_wp2_with fail
      have hc6 := rwordP_any _ HPc5 HK
      obtain ⟨y6, hy6⟩ : ∃ x, x = (stepR wordB y5.2) := ⟨_, rfl⟩
      rw [← hy6] at hc6
      have Hc6 := Lib.hid hc6
      have Hy6 := Lib.hid hy6
      clear hc6 hy6
      refine Hc6.out.mono ?_
      rintro e v6 ⟨rfl, hrb, hp⟩
      have HRBc6 := Lib.hid (HRBc5.out.trans hrb)
      have HPc6 := Lib.hid hp
      have HNc6 := Lib.hid (hrb.row ne2 HNc5.out)
      have HXc6 := Lib.hid (hrb.row ne3 HXc5.out)
      have hszc6 := hrb.size
      clear hrb hp
      obtain ⟨c6, d6⟩ := cell_at HXc6.out 3 rfl
      obtain ⟨c6b, d6b⟩ := cell_at HXc6.out 4 rfl
      unfold TokV strV
      go_wp2_with fail
      clear c6 c6b d6 d6b
      obtain ⟨u6, hu6⟩ : ∃ W, W = (v6.setCell ⟨g3, 3, none⟩ (.string ⟨y6.1.text.toArray⟩)).setCell ⟨g3, 4, none⟩ (.int .i64 (y6.1.at_ : Int)) := ⟨_, rfl⟩
      have HXs6 : Hid (u6.heap[g3]? = some (.cells #[.bool true, .string ⟨y0.1.text.toArray⟩, .int .i64 (y0.1.at_ : Int), .string ⟨y6.1.text.toArray⟩, .int .i64 (y6.1.at_ : Int), .string ⟨#[]⟩, .int .i64 0, .string ⟨#[]⟩, .int .i64 0, .string ⟨y3.1.text.toArray⟩, .int .i64 (y3.1.at_ : Int), .string ⟨#[]⟩, .int .i64 0, .string ⟨#[]⟩, .int .i64 0, .string ⟨#[]⟩, .int .i64 0] 75)) := by rw [hu6]; exact set_at (set_at HXc6.out 3 _) 4 _
      have HNs6 : Hid (u6.heap[w.heap.size]? = some (.cells #[.bool false, .string ⟨#[]⟩, .int .i64 0, .string ⟨#[]⟩, .int .i64 0, .string ⟨#[]⟩, .int .i64 0, .string ⟨#[]⟩, .int .i64 0, .string ⟨#[]⟩, .int .i64 0, .string ⟨#[]⟩, .int .i64 0, .string ⟨#[]⟩, .int .i64 0, .string ⟨#[]⟩, .int .i64 0] 75)) := by rw [hu6]; exact (Below.heap_setCell _ _ _ _ ne1).trans ((Below.heap_setCell _ _ _ _ ne1).trans HNc6.out)
      have HRBs6 : Hid (RB r w u6) := by rw [hu6]; exact (HRBc6.out.setNew hg3 _ _).setNew hg3 _ _
      have HPs6 := Lib.hid (H.out.of HRBs6.out HPc6.out (by rw [hu6]; exact (Below.heap_setCell _ _ _ _ (Ne.symm ne3)).trans (Below.heap_setCell _ _ _ _ (Ne.symm ne3))))
      rw [← hu6]
      clear hu6
      go_wp2_with fail
      have hc7 := rmust_any kSemi _ HPs6 HK
      obtain ⟨y7, hy7⟩ : ∃ x, x = (stepR (· == kSemi) y6.2) := ⟨_, rfl⟩
      rw [← hy7] at hc7
      have Hc7 := Lib.hid hc7
      have Hy7 := Lib.hid hy7
      clear hc7 hy7
      refine Hc7.out.mono ?_
      rintro e v7 ⟨rfl, hrb, hp⟩
      have HRBc7 := Lib.hid (HRBs6.out.trans hrb)
      have HPc7 := Lib.hid hp
      have HNc7 := Lib.hid (hrb.row ne2 HNs6.out)
      have HXc7 := Lib.hid (hrb.row ne3 HXs6.out)
      have hszc7 := hrb.size
      clear hrb hp
      go_wp2_with fail
      have hc8 := rmust_any kClose _ HPc7 HK
      obtain ⟨y8, hy8⟩ : ∃ x, x = (stepR (· == kClose) y7.2) := ⟨_, rfl⟩
      rw [← hy8] at hc8
      have Hc8 := Lib.hid hc8
      have Hy8 := Lib.hid hy8
      clear hc8 hy8
      refine Hc8.out.mono ?_
      rintro e v8 ⟨rfl, hrb, hp⟩
      have HRBc8 := Lib.hid (HRBc7.out.trans hrb)
      have HPc8 := Lib.hid hp
      have HNc8 := Lib.hid (hrb.row ne2 HNc7.out)
      have HXc8 := Lib.hid (hrb.row ne3 HXc7.out)
      have hszc8 := hrb.size
      clear hrb hp
      clear hf
      obtain ⟨ARR, hARR⟩ : ∃ x : Array Value, x = #[.bool true, .string ⟨y0.1.text.toArray⟩, .int .i64 (y0.1.at_ : Int), .string ⟨y6.1.text.toArray⟩, .int .i64 (y6.1.at_ : Int), .string ⟨#[]⟩, .int .i64 0, .string ⟨#[]⟩, .int .i64 0, .string ⟨y3.1.text.toArray⟩, .int .i64 (y3.1.at_ : Int), .string ⟨#[]⟩, .int .i64 0, .string ⟨#[]⟩, .int .i64 0, .string ⟨#[]⟩, .int .i64 0] := ⟨_, rfl⟩
      have hXr : v8.heap[g3]? = some (.cells ARR 75) := by rw [hARR]; exact HXc8.out
      have hAs : ARR.size = 17 := by rw [hARR]; rfl
      have hinf : (Tryz.prog.info? 75).map (·.size) = some ARR.size := by rw [hAs]; exact info75
      have hold : (#[.bool false, .string ⟨#[]⟩, .int .i64 0, .string ⟨#[]⟩, .int .i64 0, .string ⟨#[]⟩, .int .i64 0, .string ⟨#[]⟩, .int .i64 0, .string ⟨#[]⟩, .int .i64 0, .string ⟨#[]⟩, .int .i64 0, .string ⟨#[]⟩, .int .i64 0, .string ⟨#[]⟩, .int .i64 0] : Array Value).size = ARR.size := by rw [hAs]; rfl
      have hNr := HNc8.out
      have hA1 : ARR.all (·.oneCell') = true := by rw [hARR, ← Array.all_toList]; rfl
      have HARR := Lib.hid hARR
      clear hARR
      go_wp2_with (first | (refine wpList_load_row rfl 75 _ rfl g3 rfl 75 ARR (0, 0) _ hXr Tryz.underlying75 rfl hinf ?_) | (refine wpList_store_row rfl 75 _ _ rfl w.heap.size ARR rfl rfl 75 _ hNr hinf hold hA1 ?_))
      refine bodyPost_ret (res62 _ _ w.heap.size ARR hAs rfl (setRow_heap _ _ _ _ _ _ HNc8.out)) rfl ?_
      have hrb := rb_setRow HRBc8.out (Nat.le_refl _) ARR
      have hz2 : z = (⟨true, y0.1, y6.1, tok0, tok0, y3.1, tok0, tok0, tok0⟩, y8.2) := by
        rw [HZ.out]
        unfold tenantR mustR
        dsimp only
        rw [← Hy0.out, ← Hy1.out, ← Hy2.out, ← Hy3.out, ← Hy4.out, Hsn.out, Hbr.out, ← Hy5.out, ← Hy6.out, ← Hy7.out, ← Hy8.out]
      rw [hz2]
      exact ⟨by rw [HARR.out]; rfl, hrb, H.out.of hrb HPc8.out (setRow_other _ _ _ _ (Ne.symm ne2))⟩
end Go.Proofs.YtimmffncfkcpfaaGreatDoor
namespace Go.Proofs.YtimmffncfkcpfaaGreatDoor
open Go

/-- Tokens up to the end: the last one has no text. -/
def Sfx (ts : List Tok) : Prop := ∃ init stop, ts = init ++ [(⟨[], stop⟩ : Tok)] ∧ ∀ T ∈ init, numHead T.text = numB T.text
theorem Sfx.cons {T : Tok} {us : List Tok} (h : Sfx (T :: us)) (hT : T.text ≠ []) : Sfx us := by
  obtain ⟨init, stop, e, hn⟩ := h
  cases init with
  | nil => injection e with e1 _; rw [e1] at hT; exact absurd rfl hT
  | cons a r =>
    injection e with e1 e2
    exact ⟨r, stop, e2, fun T h => hn T (by simp [h])⟩
theorem Sfx.num {T : Tok} {us : List Tok} (h : Sfx (T :: us)) : numHead T.text = numB T.text := by
  obtain ⟨init, stop, e, hn⟩ := h
  cases init with
  | nil => injection e with e1 _; rw [e1]; rfl
  | cons a r =>
    injection e with e1 e2
    exact hn T (by simp [e1])
theorem Sfx.ne {ts : List Tok} (h : Sfx ts) : ∃ T us, ts = T :: us := by
  obtain ⟨init, stop, rfl, -⟩ := h
  cases init with
  | nil => exact ⟨_, _, rfl⟩
  | cons a r => exact ⟨_, _, rfl⟩
theorem Sfx.two {T : Tok} {us : List Tok} (h : Sfx (T :: us)) (hT : T.text ≠ []) : 2 ≤ (T :: us).length := by
  obtain ⟨T', us', rfl⟩ := (h.cons hT).ne
  simp
theorem step_bad (ok : Bytes → Bool) (ts : List Tok) (p : Nat) : stepR ok ⟨ts, some p⟩ = (tok0, ⟨ts, some p⟩) := rfl
theorem must_badR (s : Bytes) (ts : List Tok) (p : Nat) : mustR s ⟨ts, some p⟩ = ⟨ts, some p⟩ := rfl
theorem snap_bad (ts : List Tok) (p : Nat) : snapR ⟨ts, some p⟩ = (tok0, ⟨ts, some p⟩) := by unfold snapR; split <;> rfl
theorem burst_bad (ts : List Tok) (p : Nat) : burstR ⟨ts, some p⟩ = ((tok0, tok0), ⟨ts, some p⟩) := by unfold burstR; split <;> rfl
theorem step_cases (ok : Bytes → Bool) (hok : ok [] = false) {ts : List Tok} (h : Sfx ts) :
    (∃ T us, takeT ok ts = .ok T us ∧ stepR ok ⟨ts, none⟩ = (T, ⟨us, none⟩) ∧ Sfx us ∧ us.length < ts.length ∧ ok T.text = true) ∨ (∃ p, takeT ok ts = .bad p ∧ stepR ok ⟨ts, none⟩ = (tok0, ⟨ts, some p⟩)) := by
  obtain ⟨T, us, rfl⟩ := h.ne
  cases hT : ok T.text with
  | true =>
    have hne : T.text ≠ [] := fun e => by rw [e, hok] at hT; cases hT
    refine .inl ⟨T, us, if_pos hT, ?_, h.cons hne, by simp, hT⟩
    show takeR (ok T.text) _ = _
    unfold takeR
    dsimp only
    rw [if_pos ⟨hT, h.two hne⟩]; rfl
  | false =>
    refine .inr ⟨T.at_, if_neg (by rw [hT]; decide), ?_⟩
    show takeR (ok T.text) _ = _
    unfold takeR
    dsimp only
    rw [if_neg (fun h => by have := h.1; rw [hT] at this; cases this)]; rfl
theorem num_cases {ts : List Tok} (h : Sfx ts) :
    (∃ T us, takeT numB ts = .ok T us ∧ stepR numHead ⟨ts, none⟩ = (T, ⟨us, none⟩) ∧ Sfx us ∧ us.length < ts.length ∧ numB T.text = true) ∨ (∃ p, takeT numB ts = .bad p ∧ stepR numHead ⟨ts, none⟩ = (tok0, ⟨ts, some p⟩)) := by
  obtain ⟨T, us, rfl⟩ := id h.ne
  have hn := h.num
  have e : stepR numHead ⟨T :: us, none⟩ = stepR numB ⟨T :: us, none⟩ := by
    show takeR (numHead T.text) _ = takeR (numB T.text) _
    rw [hn]
  rw [e]
  exact step_cases numB rfl h
theorem must_cases (s : Bytes) (hs : s ≠ []) {ts : List Tok} (h : Sfx ts) :
    (∃ T us, mustT s ts = .ok T us ∧ mustR s ⟨ts, none⟩ = ⟨us, none⟩ ∧ Sfx us ∧ us.length < ts.length) ∨ (∃ p, mustT s ts = .bad p ∧ mustR s ⟨ts, none⟩ = ⟨ts, some p⟩) := by
  rcases step_cases (· == s) (by cases s with | nil => exact absurd rfl hs | cons a r => rfl) h with ⟨T, us, h1, h2, h3, h4, -⟩ | ⟨p, h1, h2⟩
  · exact .inl ⟨T, us, h1, by unfold mustR; rw [h2], h3, h4⟩
  · exact .inr ⟨p, h1, by unfold mustR; rw [h2]⟩
theorem ne_close : kOpen ≠ [] ∧ kClose ≠ [] ∧ kSemi ≠ [] ∧ kCode ≠ [] ∧ kLosses ≠ [] ∧ kWhole ≠ [] ∧ kGuar ≠ [] ∧ kSnap ≠ [] ∧ kBurst ≠ [] ∧ kRank ≠ [] ∧ kClass ≠ [] ∧ kTenant ≠ [] := by decide
/-- What the plain parser hands on for an item of the reference. -/
def fieldsOf (x : RItem) : List Field := if x.tenant then [([], x.name), (kGuar, x.guar)] ++ (if x.snap.text = [] then [] else [(kSnap, x.snap)]) ++ (if x.burst.text = [] then [] else [(kBurst, x.burst), (kRank, x.rank)]) ++ [(kClass, x.other)]
  else [([], x.name), (kCode, x.other), (kLosses, x.losses), (kWhole, x.whole)]
def itOf (x : RItem) : Item := ⟨x.tenant, fieldsOf x⟩
structure RGood (x : RItem) : Prop where
  name : wordB x.name.text = true
  other : wordB x.other.text = true
  cls : x.tenant = false → numB x.losses.text = true ∧ numB x.whole.text = true ∧ x.guar = tok0 ∧ x.snap = tok0 ∧ x.burst = tok0 ∧ x.rank = tok0
  ten : x.tenant = true → numB x.guar.text = true ∧ (x.snap = tok0 ∨ numB x.snap.text = true) ∧ ((x.burst = tok0 ∧ x.rank = tok0) ∨ (numB x.burst.text = true ∧ numB x.rank.text = true)) ∧ x.losses = tok0 ∧ x.whole = tok0
theorem num_ne {l : Bytes} (h : numB l = true) : l ≠ [] := fun e => by rw [e] at h; cases h
theorem class_rel {ts : List Tok} (h : Sfx ts) : (∃ x us, classT ts = .ok (fieldsOf x) us ∧ classR ⟨ts, none⟩ = (x, ⟨us, none⟩) ∧ Sfx us ∧ us.length < ts.length ∧ RGood x ∧ x.tenant = false) ∨ (∃ p x ts', classT ts = .bad p ∧ classR ⟨ts, none⟩ = (x, ⟨ts', some p⟩)) := by
  rcases step_cases wordB rfl h with ⟨T0, us0, e0, r0, s0, l0, w0⟩ | ⟨p, e0, r0⟩
  case inr =>
    exact .inr ⟨p, _, ts, by simp only [classT, nameF, numF, closeT, PR.next_bad, e0], by simp only [classR, step_bad, must_badR, r0] <;> rfl⟩
  rcases must_cases kOpen (by decide) s0 with ⟨T1, us1, e1, r1, s1, l1⟩ | ⟨p, e1, r1⟩
  case inr =>
    exact .inr ⟨p, _, us0, by simp only [classT, nameF, numF, closeT, PR.next_ok, PR.next_bad, e0, e1], by simp only [classR, step_bad, must_badR, r0, r1] <;> rfl⟩
  rcases must_cases kCode (by decide) s1 with ⟨T2, us2, e2, r2, s2, l2⟩ | ⟨p, e2, r2⟩
  case inr =>
    exact .inr ⟨p, _, us1, by simp only [classT, nameF, numF, closeT, PR.next_ok, PR.next_bad, e0, e1, e2], by simp only [classR, step_bad, must_badR, r0, r1, r2] <;> rfl⟩
  rcases step_cases wordB rfl s2 with ⟨T3, us3, e3, r3, s3, l3, w3⟩ | ⟨p, e3, r3⟩
  case inr =>
    exact .inr ⟨p, _, us2, by simp only [classT, nameF, numF, closeT, PR.next_ok, PR.next_bad, e0, e1, e2, e3], by simp only [classR, step_bad, must_badR, r0, r1, r2, r3] <;> rfl⟩
  rcases must_cases kSemi (by decide) s3 with ⟨T4, us4, e4, r4, s4, l4⟩ | ⟨p, e4, r4⟩
  case inr =>
    exact .inr ⟨p, _, us3, by simp only [classT, nameF, numF, closeT, PR.next_ok, PR.next_bad, e0, e1, e2, e3, e4], by simp only [classR, step_bad, must_badR, r0, r1, r2, r3, r4] <;> rfl⟩
  rcases must_cases kLosses (by decide) s4 with ⟨T5, us5, e5, r5, s5, l5⟩ | ⟨p, e5, r5⟩
  case inr =>
    exact .inr ⟨p, _, us4, by simp only [classT, nameF, numF, closeT, PR.next_ok, PR.next_bad, e0, e1, e2, e3, e4, e5], by simp only [classR, step_bad, must_badR, r0, r1, r2, r3, r4, r5] <;> rfl⟩
  rcases num_cases s5 with ⟨T6, us6, e6, r6, s6, l6, w6⟩ | ⟨p, e6, r6⟩
  case inr =>
    exact .inr ⟨p, _, us5, by simp only [classT, nameF, numF, closeT, PR.next_ok, PR.next_bad, e0, e1, e2, e3, e4, e5, e6], by simp only [classR, step_bad, must_badR, r0, r1, r2, r3, r4, r5, r6] <;> rfl⟩
  rcases must_cases kSemi (by decide) s6 with ⟨T7, us7, e7, r7, s7, l7⟩ | ⟨p, e7, r7⟩
  case inr =>
    exact .inr ⟨p, _, us6, by simp only [classT, nameF, numF, closeT, PR.next_ok, PR.next_bad, e0, e1, e2, e3, e4, e5, e6, e7], by simp only [classR, step_bad, must_badR, r0, r1, r2, r3, r4, r5, r6, r7] <;> rfl⟩
  rcases must_cases kWhole (by decide) s7 with ⟨T8, us8, e8, r8, s8, l8⟩ | ⟨p, e8, r8⟩
  case inr =>
    exact .inr ⟨p, _, us7, by simp only [classT, nameF, numF, closeT, PR.next_ok, PR.next_bad, e0, e1, e2, e3, e4, e5, e6, e7, e8], by simp only [classR, step_bad, must_badR, r0, r1, r2, r3, r4, r5, r6, r7, r8] <;> rfl⟩
  rcases num_cases s8 with ⟨T9, us9, e9, r9, s9, l9, w9⟩ | ⟨p, e9, r9⟩
  case inr =>
    exact .inr ⟨p, _, us8, by simp only [classT, nameF, numF, closeT, PR.next_ok, PR.next_bad, e0, e1, e2, e3, e4, e5, e6, e7, e8, e9], by simp only [classR, must_badR, r0, r1, r2, r3, r4, r5, r6, r7, r8, r9] <;> rfl⟩
  rcases must_cases kSemi (by decide) s9 with ⟨T10, us10, e10, r10, s10, l10⟩ | ⟨p, e10, r10⟩
  case inr =>
    exact .inr ⟨p, _, us9, by simp only [classT, nameF, numF, closeT, PR.next_ok, PR.next_bad, e0, e1, e2, e3, e4, e5, e6, e7, e8, e9, e10], by simp only [classR, must_badR, r0, r1, r2, r3, r4, r5, r6, r7, r8, r9, r10] <;> rfl⟩
  rcases must_cases kClose (by decide) s10 with ⟨T11, us11, e11, r11, s11, l11⟩ | ⟨p, e11, r11⟩
  case inr =>
    exact .inr ⟨p, _, us10, by simp only [classT, nameF, numF, closeT, PR.next_ok, PR.next_bad, e0, e1, e2, e3, e4, e5, e6, e7, e8, e9, e10, e11], by simp only [classR, r0, r1, r2, r3, r4, r5, r6, r7, r8, r9, r10, r11] <;> rfl⟩
  exact .inl ⟨⟨false, T0, T3, T6, T9, tok0, tok0, tok0, tok0⟩, us11, by simp only [classT, nameF, numF, closeT, PR.next_ok, e0, e1, e2, e3, e4, e5, e6, e7, e8, e9, e10, e11]; rfl, by simp only [classR, r0, r1, r2, r3, r4, r5, r6, r7, r8, r9, r10, r11], s11, by omega, ⟨w0, w3, fun _ => ⟨w6, w9, rfl, rfl, rfl, rfl⟩, fun h => by cases h⟩, rfl⟩
theorem snap_rel {ts : List Tok} (h : Sfx ts) : (∃ T us, optS ts = .ok (if T.text = [] then [] else [(kSnap, T)]) us ∧ snapR ⟨ts, none⟩ = (T, ⟨us, none⟩) ∧ Sfx us ∧ us.length ≤ ts.length ∧ (T = tok0 ∨ numB T.text = true)) ∨ (∃ p T ts', optS ts = .bad p ∧ snapR ⟨ts, none⟩ = (T, ⟨ts', some p⟩)) := by
  obtain ⟨H, us, rfl⟩ := id h.ne
  have hh : headIs kSnap (H :: us) = (H.text == kSnap) := rfl
  have hr : ((headR ⟨H :: us, none⟩).text == kSnap) = (H.text == kSnap) := rfl
  cases hk : (H.text == kSnap) with
  | false =>
    rw [hk] at hh hr
    refine .inl ⟨tok0, H :: us, ?_, ?_, h, Nat.le_refl _, .inl rfl⟩
    · unfold optS; rw [hh]; rfl
    · unfold snapR; rw [hr]; rfl
  | true =>
    rw [hk] at hh hr
    rcases must_cases kSnap (by decide) h with ⟨T0, us0, e0, r0, s0, l0⟩ | ⟨p, e0, r0⟩
    case inr =>
      exact .inr ⟨p, _, (H :: us), by simp only [optS, hh, if_true, numF, PR.next_bad, e0], by simp only [snapR, hr, if_true, step_bad, must_badR, r0] <;> rfl⟩
    rcases num_cases s0 with ⟨T1, us1, e1, r1, s1, l1, w1⟩ | ⟨p, e1, r1⟩
    case inr =>
      exact .inr ⟨p, _, us0, by simp only [optS, hh, if_true, numF, PR.next_ok, PR.next_bad, e0, e1], by simp only [snapR, hr, if_true, must_badR, r0, r1] <;> rfl⟩
    rcases must_cases kSemi (by decide) s1 with ⟨T2, us2, e2, r2, s2, l2⟩ | ⟨p, e2, r2⟩
    case inr =>
      exact .inr ⟨p, _, us1, by simp only [optS, hh, if_true, numF, PR.next_ok, PR.next_bad, e0, e1, e2], by simp only [snapR, hr, if_true, r0, r1, r2] <;> rfl⟩
    exact .inl ⟨T1, us2, by rw [if_neg (num_ne w1)]; simp only [optS, hh, if_true, numF, PR.next_ok, e0, e1, e2], by simp only [snapR, hr, if_true, r0, r1, r2], s2, by omega, .inr w1⟩
theorem burst_rel {ts : List Tok} (h : Sfx ts) : (∃ T R us, optB ts = .ok (if T.text = [] then [] else [(kBurst, T), (kRank, R)]) us ∧ burstR ⟨ts, none⟩ = ((T, R), ⟨us, none⟩) ∧ Sfx us ∧ us.length ≤ ts.length ∧ ((T = tok0 ∧ R = tok0) ∨ (numB T.text = true ∧ numB R.text = true))) ∨ (∃ p T ts', optB ts = .bad p ∧ burstR ⟨ts, none⟩ = (T, ⟨ts', some p⟩)) := by
  obtain ⟨H, us, rfl⟩ := id h.ne
  have hh : headIs kBurst (H :: us) = (H.text == kBurst) := rfl
  have hr : ((headR ⟨H :: us, none⟩).text == kBurst) = (H.text == kBurst) := rfl
  cases hk : (H.text == kBurst) with
  | false =>
    rw [hk] at hh hr
    refine .inl ⟨tok0, tok0, H :: us, ?_, ?_, h, Nat.le_refl _, .inl ⟨rfl, rfl⟩⟩
    · unfold optB; rw [hh]; rfl
    · unfold burstR; rw [hr]; rfl
  | true =>
    rw [hk] at hh hr
    rcases must_cases kBurst (by decide) h with ⟨T0, us0, e0, r0, s0, l0⟩ | ⟨p, e0, r0⟩
    case inr =>
      exact .inr ⟨p, _, (H :: us), by simp only [optB, hh, if_true, numF, PR.next_bad, e0], by simp only [burstR, hr, if_true, step_bad, must_badR, r0] <;> rfl⟩
    rcases num_cases s0 with ⟨T1, us1, e1, r1, s1, l1, w1⟩ | ⟨p, e1, r1⟩
    case inr =>
      exact .inr ⟨p, _, us0, by simp only [optB, hh, if_true, numF, PR.next_ok, PR.next_bad, e0, e1], by simp only [burstR, hr, if_true, step_bad, must_badR, r0, r1] <;> rfl⟩
    rcases must_cases kRank (by decide) s1 with ⟨T2, us2, e2, r2, s2, l2⟩ | ⟨p, e2, r2⟩
    case inr =>
      exact .inr ⟨p, _, us1, by simp only [optB, hh, if_true, numF, PR.next_ok, PR.next_bad, e0, e1, e2], by simp only [burstR, hr, if_true, step_bad, must_badR, r0, r1, r2] <;> rfl⟩
    rcases num_cases s2 with ⟨T3, us3, e3, r3, s3, l3, w3⟩ | ⟨p, e3, r3⟩
    case inr =>
      exact .inr ⟨p, _, us2, by simp only [optB, hh, if_true, numF, PR.next_ok, PR.next_bad, e0, e1, e2, e3], by simp only [burstR, hr, if_true, must_badR, r0, r1, r2, r3] <;> rfl⟩
    rcases must_cases kSemi (by decide) s3 with ⟨T4, us4, e4, r4, s4, l4⟩ | ⟨p, e4, r4⟩
    case inr =>
      exact .inr ⟨p, _, us3, by simp only [optB, hh, if_true, numF, PR.next_ok, PR.next_bad, e0, e1, e2, e3, e4], by simp only [burstR, hr, if_true, r0, r1, r2, r3, r4] <;> rfl⟩
    exact .inl ⟨T1, T3, us4, by rw [if_neg (num_ne w1)]; simp only [optB, hh, if_true, numF, PR.next_ok, e0, e1, e2, e3, e4], by simp only [burstR, hr, if_true, r0, r1, r2, r3, r4], s4, by omega, .inr ⟨w1, w3⟩⟩
theorem tenant_rel {ts : List Tok} (h : Sfx ts) : (∃ x us, tenantT ts = .ok (fieldsOf x) us ∧ tenantR ⟨ts, none⟩ = (x, ⟨us, none⟩) ∧ Sfx us ∧ us.length < ts.length ∧ RGood x ∧ x.tenant = true) ∨ (∃ p x ts', tenantT ts = .bad p ∧ tenantR ⟨ts, none⟩ = (x, ⟨ts', some p⟩)) := by
  rcases step_cases wordB rfl h with ⟨T0, us0, e0, r0, s0, l0, w0⟩ | ⟨p, e0, r0⟩
  case inr =>
    exact .inr ⟨p, _, ts, by simp only [tenantT, nameF, numF, closeT, PR.next_bad, e0], by simp only [tenantR, step_bad, must_badR, snap_bad, burst_bad, r0] <;> rfl⟩
  rcases must_cases kOpen (by decide) s0 with ⟨T1, us1, e1, r1, s1, l1⟩ | ⟨p, e1, r1⟩
  case inr =>
    exact .inr ⟨p, _, us0, by simp only [tenantT, nameF, numF, closeT, PR.next_ok, PR.next_bad, e0, e1], by simp only [tenantR, step_bad, must_badR, snap_bad, burst_bad, r0, r1] <;> rfl⟩
  rcases must_cases kGuar (by decide) s1 with ⟨T2, us2, e2, r2, s2, l2⟩ | ⟨p, e2, r2⟩
  case inr =>
    exact .inr ⟨p, _, us1, by simp only [tenantT, nameF, numF, closeT, PR.next_ok, PR.next_bad, e0, e1, e2], by simp only [tenantR, step_bad, must_badR, snap_bad, burst_bad, r0, r1, r2] <;> rfl⟩
  rcases num_cases s2 with ⟨T3, us3, e3, r3, s3, l3, w3⟩ | ⟨p, e3, r3⟩
  case inr =>
    exact .inr ⟨p, _, us2, by simp only [tenantT, nameF, numF, closeT, PR.next_ok, PR.next_bad, e0, e1, e2, e3], by simp only [tenantR, step_bad, must_badR, snap_bad, burst_bad, r0, r1, r2, r3] <;> rfl⟩
  rcases must_cases kSemi (by decide) s3 with ⟨T4, us4, e4, r4, s4, l4⟩ | ⟨p, e4, r4⟩
  case inr =>
    exact .inr ⟨p, _, us3, by simp only [tenantT, nameF, numF, closeT, PR.next_ok, PR.next_bad, e0, e1, e2, e3, e4], by simp only [tenantR, step_bad, must_badR, snap_bad, burst_bad, r0, r1, r2, r3, r4] <;> rfl⟩
  rcases snap_rel s4 with ⟨TS, usS, eS, rS, sS, lS, gS⟩ | ⟨p, TS, tsS, eS, rS⟩
  case inr =>
    exact .inr ⟨p, _, tsS, by simp only [tenantT, nameF, numF, closeT, PR.next_ok, PR.next_bad, e0, e1, e2, e3, e4, eS], by simp only [tenantR, step_bad, must_badR, burst_bad, r0, r1, r2, r3, r4, rS] <;> rfl⟩
  rcases burst_rel sS with ⟨TB, TR, usB, eB, rB, sB, lB, gB⟩ | ⟨p, TB, tsB, eB, rB⟩
  case inr =>
    exact .inr ⟨p, _, tsB, by simp only [tenantT, nameF, numF, closeT, PR.next_ok, PR.next_bad, e0, e1, e2, e3, e4, eS, eB], by simp only [tenantR, step_bad, must_badR, r0, r1, r2, r3, r4, rS, rB] <;> rfl⟩
  rcases must_cases kClass (by decide) sB with ⟨Tz0, usz0, ez0, rz0, sz0, lz0⟩ | ⟨p, ez0, rz0⟩
  case inr =>
    exact .inr ⟨p, _, usB, by simp only [tenantT, nameF, numF, closeT, PR.next_ok, PR.next_bad, e0, e1, e2, e3, e4, eS, eB, ez0], by simp only [tenantR, step_bad, must_badR, r0, r1, r2, r3, r4, rS, rB, rz0] <;> rfl⟩
  rcases step_cases wordB rfl sz0 with ⟨Tz1, usz1, ez1, rz1, sz1, lz1, wz1⟩ | ⟨p, ez1, rz1⟩
  case inr =>
    exact .inr ⟨p, _, usz0, by simp only [tenantT, nameF, numF, closeT, PR.next_ok, PR.next_bad, e0, e1, e2, e3, e4, eS, eB, ez0, ez1], by simp only [tenantR, must_badR, r0, r1, r2, r3, r4, rS, rB, rz0, rz1] <;> rfl⟩
  rcases must_cases kSemi (by decide) sz1 with ⟨Tz2, usz2, ez2, rz2, sz2, lz2⟩ | ⟨p, ez2, rz2⟩
  case inr =>
    exact .inr ⟨p, _, usz1, by simp only [tenantT, nameF, numF, closeT, PR.next_ok, PR.next_bad, e0, e1, e2, e3, e4, eS, eB, ez0, ez1, ez2], by simp only [tenantR, must_badR, r0, r1, r2, r3, r4, rS, rB, rz0, rz1, rz2] <;> rfl⟩
  rcases must_cases kClose (by decide) sz2 with ⟨Tz3, usz3, ez3, rz3, sz3, lz3⟩ | ⟨p, ez3, rz3⟩
  case inr =>
    exact .inr ⟨p, _, usz2, by simp only [tenantT, nameF, numF, closeT, PR.next_ok, PR.next_bad, e0, e1, e2, e3, e4, eS, eB, ez0, ez1, ez2, ez3], by simp only [tenantR, r0, r1, r2, r3, r4, rS, rB, rz0, rz1, rz2, rz3] <;> rfl⟩
  exact .inl ⟨⟨true, T0, Tz1, tok0, tok0, T3, TS, TB, TR⟩, usz3, by simp only [tenantT, nameF, numF, closeT, PR.next_ok, e0, e1, e2, e3, e4, eS, eB, ez0, ez1, ez2, ez3]; rfl, by simp only [tenantR, r0, r1, r2, r3, r4, rS, rB, rz0, rz1, rz2, rz3], sz3, by omega, ⟨w0, wz1, (fun h => by cases h), fun _ => ⟨w3, gS, gB, rfl, rfl⟩⟩, rfl⟩
end Go.Proofs.YtimmffncfkcpfaaGreatDoor
