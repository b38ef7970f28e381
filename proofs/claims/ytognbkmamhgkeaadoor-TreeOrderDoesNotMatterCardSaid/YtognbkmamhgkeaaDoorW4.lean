/-
  The walk of Tree.Clear: what it returns and what it leaves in memory, for every tree that lies in memory and every block.
-/
import Derived.Test.YtognbkmamhgkeaaDoorW3
import Derived.Deep.RegionHeld3
namespace Go.Proofs.YtognbkmamhgkeaaDoor
open Go Go.RowKit

set_option maxHeartbeats 400000 in
theorem clear_same (T : TV) (n b : Int) (w : World) (Hs : Hid (Sub w T 2 0)) (Hm : Hid (atI T.m b = none)) :
    Calls Tryd.prog 15 #[.agg #[ptrV (T.adr 2 0), .int .i64 n], .int .i64 b] w (fun e w' => e = .returned (TreeV T n) ∧ Below w.heap.size w w') := by
  go_enter Tryd.func15, Tryd.ntmps15
  go_wp2_with fail
  refine (get_any T n b _ (Hs.out.below (((Below.refl _ _).alloc (Nat.le_refl _) _).alloc (by simp) _))).mono ?_
  rintro e w1 ⟨rfl, hb⟩
  rw [Hm.out]
  obtain ⟨r0, r1⟩ := two_rows hb
  have Hb := Lib.hid hb
  have R1 := Lib.hid r1
  clear hb
  obtain ⟨c00, c01, f00, f01⟩ := two_cells r0
  obtain ⟨c10, c11, f10, f11⟩ := two_cells r1
  clear r0 r1
  go_wp2_with fail
  refine bodyPost_ret (v := TreeV T n) (res15 _ _ _ _ _ rfl (set_two1 (set_two0 R1.out _) _)) rfl ⟨rfl, ?_⟩
  exact ((two_below Hb.out).setCell (p := ⟨w.heap.size + 1, 0, none⟩) (by simp) _).setCell (p := ⟨w.heap.size + 1, 1, none⟩) (by simp) _

def ClrNew (w : World) (T : TV) (k : Nat) (n' : Int) (e : Ending) (w' : World) : Prop :=
  ∃ B, w.heap.size ≤ B ∧ e = .returned (TreeV (T.clr B 2 k) n') ∧ Below w.heap.size w w' ∧ Sub w' (T.clr B 2 k) 2 0

set_option maxHeartbeats 400000 in
theorem clear_new (T : TV) (n : Int) (k : Nat) (w : World) (hk : k < 4096) (h0 : 1 ≤ n) (hn : n ≤ 4096) (Hs : Hid (Sub w T 2 0)) (o : Int) (Hm : Hid (T.m k = some o)) :
    Calls Tryd.prog 15 #[.agg #[ptrV (T.adr 2 0), .int .i64 n], .int .i64 k] w (ClrNew w T k (n - 1)) := by
  have hat : atI T.m (k : Int) = some o := by simp only [atI]; rw [if_pos (by omega)]; exact Hm.out
  have Hat := Lib.hid hat
  clear hat
  go_enter Tryd.func15, Tryd.ntmps15
  go_wp2_with fail
  refine (get_any T n k _ (Hs.out.below (((Below.refl _ _).alloc (Nat.le_refl _) _).alloc (by simp) _))).mono ?_
  rintro e w1 ⟨rfl, hb⟩
  rw [Hat.out]
  obtain ⟨r0, r1⟩ := two_rows hb
  have Hb := Lib.hid hb
  have R0 := Lib.hid r0
  have R1 := Lib.hid r1
  clear hb
  obtain ⟨c00, c01, f00, f01⟩ := two_cells r0
  clear r0 r1
  go_wp2_with fail
  have hs1 : w.heap.size + 1 + 1 ≤ w1.heap.size := by have := Hb.out.size; simpa using this
  have hwr : IntKind.i64.wrap (n - 1) = n - 1 := IntWalk.i64_in _ (by omega)
  go_region_held3 (fun w' => w'.cell? ⟨w.heap.size, 0, none⟩ = some (ptrV (T.adr 2 0)) ∧ w'.cell? ⟨w.heap.size, 1, none⟩ = some (.int .i64 n)) (first | go_keep | exact ⟨(hb2.cell (p := ⟨w.heap.size, 0, none⟩) (by simp; omega)).trans c00, (hb2.cell (p := ⟨w.heap.size, 1, none⟩) (by simp; omega)).trans c01⟩)
    (first | (go_at_call 34; refine (clr_any 2 T 0 k _ (by omega) hk (Nat.div_eq_of_lt hk) (Hs.out.below (two_below Hb.out).drew) (by rw [Hm.out]; rfl)).mono ?_; rintro e w' ⟨rfl, hb2, hz2, hs2⟩; have Hs2 := Lib.hid hs2; have q1 : w'.heap[w.heap.size + 1]? = some (.cells #[.pointer none, .int .i64 0] 31) := (hb2.block _ (by simp; omega)).trans R1.out; have Q1 := Lib.hid q1; obtain ⟨c10, c11, f10, f11⟩ := two_cells q1; clear hz2 hs2 q1))
  go_wp2_with fail
  refine bodyPost_ret (v := TreeV (T.clr w1.heap.size 2 k) (n - 1)) (res15 _ _ _ _ _ rfl (set_two1 (set_two0 Q1.out _) _)) rfl ⟨w1.heap.size, by omega, rfl, ?_, ?_⟩
  · exact ((((two_below Hb.out).drew.trans (hb2.mono (by simp; omega)))).setCell (p := ⟨w.heap.size + 1, 0, none⟩) (by simp) _).setCell (p := ⟨w.heap.size + 1, 1, none⟩) (by simp) _
  · exact Sub.move (S := fun x => x < w.heap.size ∨ w1.heap.size ≤ x) (fun x hx => (Below.heap_setCell _ _ _ _ (by simp; omega)).trans (Below.heap_setCell _ _ _ _ (by simp; omega))) Hs2.out (clr_within Hs.out.within)

end Go.Proofs.YtognbkmamhgkeaaDoor
