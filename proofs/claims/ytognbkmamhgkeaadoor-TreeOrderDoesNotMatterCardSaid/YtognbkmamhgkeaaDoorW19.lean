/-
  The walk of Tree.Len, and of the statements' sanity check: it returns true.
-/
import Derived.Test.YtognbkmamhgkeaaDoorW17
import Derived.Test.YtognbkmamhgkeaaDoorW12
import Derived.Test.YtognbkmamhgkeaaDoorMq
import Derived.Deep.RegionHeld3
namespace Go.Proofs.YtognbkmamhgkeaaDoor
open Go Go.RowKit Go.Walks

set_option maxHeartbeats 400000 in
theorem len_any (T : TV) (n : Int) (w : World) : Calls Tryd.prog 27 #[.agg #[ptrV (T.adr 2 0), .int .i64 n]] w (fun e w' => e = .returned (.int .i64 n) ∧ Below w.heap.size w w') := by
  go_enter Tryd.func27, Tryd.ntmps27
  go_wp2_with fail
  go_ret
  exact ⟨rfl, (Below.refl _ _).alloc (Nat.le_refl _) _⟩

def m1 : Nat → Option Int := putM TV.empty.m 5 70
def m2 : Nat → Option Int := putM m1 300 80

theorem setM_1 : setM TV.empty.m 5 70 = m1 := rfl
theorem setM_2 : setM m1 300 80 = m2 := rfl
theorem cnt_1 : cnt m1 = 1 := by unfold m1; rw [cnt_put_new (by omega) rfl, cnt_empty]
theorem cnt_2 : cnt m2 = 2 := by unfold m2; rw [cnt_put_new (by omega) rfl, cnt_1]

theorem diff_12 : (diffR TV.empty.m m2 0 4096).length = 2 := by decide +kernel

def l2 : List (Int × Int) := [(5, 70), (300, 80)]
theorem srt_l2 : Srt l2 := by
  refine ⟨by simp [l2], fun e he => ?_⟩
  simp [l2] at he
  rcases he with rfl | rfl <;> simp
theorem m2_l2 : m2 = mOf l2 := by
  have h1 : setL [] 5 70 = [(5, 70)] := by decide +kernel
  have h2 : setL [(5, 70)] 300 80 = l2 := by decide +kernel
  have s1 : Srt [((5 : Int), (70 : Int))] := by rw [← h1]; exact srt_setL Srt.nil 5 70
  rw [← h2, mOf_setL s1, ← h1, mOf_setL Srt.nil, mOf_nil]
  rfl

theorem eight {w7 w8 : World} {T2 T3 : TV} {n3 : Int} (hg2 : Good w7 T2 2) (hm2 : T2.m = m2) (hg3 : Good w8 T3 n3) (hm3 : T3.m = setM T2.m 6 1)
    (hsh : (T3 = T2 ∧ setM T2.m 6 1 = T2.m) ∨ ((6 : Int).toNat < 4096 ∧ setM T2.m 6 1 ≠ T2.m ∧ ∃ B, w7.heap.size ≤ B ∧ ∀ l p, T3.adr l p = if l ≤ 2 ∧ p = (6 : Int).toNat / 16 ^ (l + 1) then (if (T3.adr l p).isSome then some (B + (2 - l)) else none) else T2.adr l p)) :
    (gthAll [(T2, 2), (T3, n3)]).length = 8 := by
  have h6 : (T3.m 6).isSome = true := by rw [hm3]; rfl
  rcases hsh with ⟨_, h⟩ | ⟨_, _, B, hB, hadr⟩
  · rw [hm2] at h
    have := congrFun h 6
    cases this
  · rw [gth_path (k := 6) hg2 hg3 (by omega) hB hadr, count_al hg2 (hm2.trans m2_l2) srt_l2]
    have r : (T3.adr 2 0).isSome = true := hg3.sub.iff.2 ⟨6, rfl, h6⟩
    have s1 := hg3.sub.2 0 (by omega)
    have a1 : (T3.adr 1 (6 / 256)).isSome = true := s1.iff.2 ⟨6, rfl, h6⟩
    have a0 : (T3.adr 0 (6 / 16)).isSome = true := (s1.2 0 (by omega)).iff.2 ⟨6, rfl, h6⟩
    unfold one
    rw [r, a1, a0]
    decide +kernel

/-- What sanity holds while it calls: the two boxes. -/
structure St (w4 : World) (Bz Bt : Nat) (T : TV) (w : World) : Prop where
  below : Below w4.heap.size w4 w
  lt : Bt < w4.heap.size
  rz : w4.heap[Bz]? = some (Obj.cells #[Value.pointer none, Value.int IntKind.i64 0] 31)
  rt : w4.heap[Bt]? = some (Obj.cells #[ptrV (T.adr 2 0), Value.int IntKind.i64 2] 31)

theorem St.next {w4 w w' : World} {Bz Bt : Nat} {T : TV} (h : St w4 Bz Bt T w) (hb : Below w.heap.size w w') : St w4 Bz Bt T w' := ⟨h.below.trans (hb.mono h.below.size), h.lt, h.rz, h.rt⟩
theorem St.cells {w4 w : World} {Bz Bt : Nat} {T : TV} (h : St w4 Bz Bt T w) : (w.cell? ⟨Bz, 0, none⟩ = some (.pointer none) ∧ w.cell? ⟨Bz, 1, none⟩ = some (.int .i64 0)) ∧ w.cell? ⟨Bt, 0, none⟩ = some (ptrV (T.adr 2 0)) ∧ w.cell? ⟨Bt, 1, none⟩ = some (.int .i64 2) := by
  have hz : Bz < w4.heap.size := (Array.getElem?_eq_some_iff.1 h.rz).1
  obtain ⟨a, b, _, _⟩ := two_cells ((h.below.block _ hz).trans h.rz)
  obtain ⟨c, d, _, _⟩ := two_cells ((h.below.block _ h.lt).trans h.rt)
  exact ⟨⟨a, b⟩, c, d⟩

set_option maxRecDepth 100000 in
set_option maxHeartbeats 2000000 in
theorem sanity_any (w : World) (Ht : Hid (Tab w)) : Calls Tryd.prog 9 #[] w (fun e w' => e = .returned (.bool true) ∧ Below w.heap.size w w') := by
  go_enter Tryd.func9, Tryd.ntmps9
  go_wp2_with fail
  have hb0 : Below w.heap.size w (w.alloc (.cells #[.pointer none, .int .i64 0] 31)) := (Below.refl _ _).alloc (Nat.le_refl _) _
  refine (tset_any TV.empty 0 5 70 _ (good_empty _)).mono ?_
  rintro e w1 ⟨T1, n1, rfl, hg1, hm1, hb1, -⟩
  rw [setM_1] at hm1
  unfold TreeV
  have Hg1 := Lib.hid hg1
  have Hm1 := Lib.hid hm1
  have r0 : w1.heap[w.heap.size]? = some (.cells #[.pointer none, .int .i64 0] 31) := (hb1.block _ (by simp)).trans (heap_alloc_new _ _)
  have R0 := Lib.hid r0
  have Hb1 := Lib.hid (hb0.trans (hb1.mono (by simp)))
  clear hg1 hm1 hb1 hb0 r0
  go_wp2_with fail
  refine (tset_any T1 n1 300 80 _ Hg1.out).mono ?_
  rintro e w2 ⟨T2, n2, rfl, hg2, hm2, hb2, -⟩
  rw [Hm1.out, setM_2] at hm2
  unfold TreeV
  have hn2 : n2 = 2 := by rw [hg2.num, hm2, cnt_2]; rfl
  subst hn2
  have Hg2 := Lib.hid hg2
  have Hm2 := Lib.hid hm2
  have hlt1 : w.heap.size < w1.heap.size := (Array.getElem?_eq_some_iff.1 R0.out).1
  have r0 : w2.heap[w.heap.size]? = some (.cells #[.pointer none, .int .i64 0] 31) := (hb2.block _ hlt1).trans R0.out
  have R02 := Lib.hid r0
  have Hb2 := Lib.hid (Hb1.out.trans (hb2.mono Hb1.out.size))
  clear hg2 hm2 hb2 r0 R0 Hb1 Hg1 Hm1 hlt1
  obtain ⟨c00, c01, -, -⟩ := two_cells R02.out
  go_wp2_with fail
  have hb3 : Below w2.heap.size w2 (w2.alloc (.cells #[ptrV (T2.adr 2 0), .int .i64 2] 31)) := (Below.refl _ _).alloc (Nat.le_refl _) _
  refine (tget_any T2 2 5 _ (Hg2.out.below hb3)).mono ?_
  rintro e w3 ⟨rfl, hb4⟩
  have ha : atI T2.m 5 = some 70 := by rw [Hm2.out]; rfl
  rw [ha]
  have hlt2 : w.heap.size < w2.heap.size := (Array.getElem?_eq_some_iff.1 R02.out).1
  have hb5 : Below w2.heap.size w2 w3 := hb3.trans (hb4.mono (by simp))
  have rt : w3.heap[w2.heap.size]? = some (.cells #[ptrV (T2.adr 2 0), .int .i64 2] 31) := (hb4.block _ (by simp)).trans (heap_alloc_new _ _)
  have rz : w3.heap[w.heap.size]? = some (.cells #[.pointer none, .int .i64 0] 31) := (hb5.block _ hlt2).trans R02.out
  have Rt := Lib.hid rt
  have Rz := Lib.hid rz
  have Hb5 := Lib.hid hb5
  have hlt3 : w2.heap.size < w3.heap.size := (Array.getElem?_eq_some_iff.1 rt).1
  clear c00 c01 hb3 hb4 hb5 ha rt
  obtain ⟨c00, c01, -, -⟩ := two_cells rz
  clear rz
  go_wp2_with fail
  refine (tget_any TV.empty 0 5 _ (good_empty _)).mono ?_
  rintro e w4 ⟨rfl, hb6⟩
  have ha : atI TV.empty.m 5 = none := rfl
  rw [ha]
  have rt : w4.heap[w2.heap.size]? = some (.cells #[ptrV (T2.adr 2 0), .int .i64 2] 31) := (hb6.block _ hlt3).trans Rt.out
  have rz : w4.heap[w.heap.size]? = some (.cells #[.pointer none, .int .i64 0] 31) := (hb6.block _ (by omega)).trans Rz.out
  have Rt4 := Lib.hid rt
  have Rz4 := Lib.hid rz
  have HB4 := Lib.hid (Hb2.out.trans ((Hb5.out.trans (hb6.mono (by omega))).mono (by omega)))
  have HG4 := Lib.hid (Hg2.out.below (Hb5.out.trans (hb6.mono (by omega))))
  have hlt4 : w2.heap.size < w4.heap.size := (Array.getElem?_eq_some_iff.1 rt).1
  clear c00 c01 hb6 ha Rt Rz Hb5 Hb2 Hg2 R02
  obtain ⟨z0, z1, -, -⟩ := two_cells rz
  obtain ⟨t0, t1, -, -⟩ := two_cells rt
  clear rz rt
  go_wp2_with fail
  have S1 : Hid (St w4 w.heap.size w2.heap.size T2 w4.drew) := ⟨(Below.refl _ _).drew, hlt4, Rz4.out, Rt4.out⟩
  have HT4 : Hid (Tab w4) := Ht.out.below HB4.out Ht.out.1
  have HD : Hid ((diffR TV.empty.m T2.m 0 4096).length = 2) := by rw [Hm2.out]; exact diff_12
  have HE : Hid ((gthAll [(TV.empty, (0 : Int))]).length = 0) := rfl
  have tok1 : True := trivial
  go_region_held3 (fun w' => (w'.cell? ⟨w.heap.size, 0, none⟩ = some (.pointer none) ∧ w'.cell? ⟨w.heap.size, 1, none⟩ = some (.int .i64 0)) ∧ w'.cell? ⟨w2.heap.size, 0, none⟩ = some (ptrV (T2.adr 2 0)) ∧ w'.cell? ⟨w2.heap.size, 1, none⟩ = some (.int .i64 2)) (first | exact hKeep | go_keep)
    (first
      | (go_at_call 27; refine (len_any T2 2 _).mono ?_; rintro e w5 ⟨rfl, hbx⟩; have S2 := Lib.hid (S1.out.next hbx); have hKeep := S2.out.cells; clear hbx)
      | (go_at_call 20; refine (diff_any TV.empty T2 0 2 _ (HT4.out.below S2.out.below HT4.out.1) (sub_empty _ 2 0) (HG4.out.below S2.out.below).sub).mono ?_; rintro e w6 ⟨v, rfl, hown, hbx⟩; obtain ⟨A6, c6, rfl, -⟩ := Sl.of_own hown; rw [HD.out]; have S3 := Lib.hid (S2.out.next hbx); have hKeep := S3.out.cells; clear hbx hown)
      | (go_at_call 12; have _t := tok1; refine (nodes_any [(TV.empty, 0)] _ _ _ (by simp) ((Sl.new _ [.pointer none, .int .i64 0] 31).more (by simp)) (fun x hx => by simp at hx; subst hx; exact sub_empty _ 2 0)).mono ?_; rintro e w7 ⟨rfl, hbx⟩; rw [HE.out]; have S4 := Lib.hid ((S3.out.next ((Below.refl _ _).alloc (Nat.le_refl _) _)).next hbx); have hKeep := S4.out.cells; clear hbx tok1 _t)
      | (go_at_call 14; refine (tset_any T2 2 6 1 _ (HG4.out.below S4.out.below)).mono ?_; rintro e w8 ⟨T3, n3, rfl, hg3, hm3, hbx, hsh⟩; unfold TreeV; have S5 := Lib.hid (S4.out.next hbx); have HG3 := Lib.hid hg3; have Hm3 := Lib.hid hm3; have Hsh := Lib.hid hsh; have hle := S4.out.below.size; have hKeep := S5.out.cells; clear hbx hg3 hm3 hsh)
      | (go_at_call 12; refine (nodes_any [(T2, 2), (T3, n3)] _ _ _ (by simp) ((Sl.new _ [ptrV (T2.adr 2 0), .int .i64 2, ptrV (T3.adr 2 0), .int .i64 n3] 31).more (by simp)) (fun x hx => by simp at hx; rcases hx with rfl | rfl; exact ((HG4.out.below S5.out.below).below ((Below.refl _ _).alloc (Nat.le_refl _) _)).sub; exact (HG3.out.below ((Below.refl _ _).alloc (Nat.le_refl _) _)).sub)).mono ?_; rintro e w9 ⟨rfl, hbx⟩; rw [eight (HG4.out.below S4.out.below) Hm2.out HG3.out Hm3.out Hsh.out]; have S6 := Lib.hid ((S5.out.next ((Below.refl _ _).alloc (Nat.le_refl _) _)).next hbx); have hKeep := S6.out.cells; clear hbx))
  go_wp2_with fail
  go_ret
  exact ⟨rfl, HB4.out.trans (S6.out.below.mono HB4.out.size)⟩
end Go.Proofs.YtognbkmamhgkeaaDoor
