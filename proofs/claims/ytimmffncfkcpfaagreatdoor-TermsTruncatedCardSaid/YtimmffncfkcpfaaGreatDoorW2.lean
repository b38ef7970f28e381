/-
  The walk of permitted.
-/
import Derived.Test.YtimmffncfkcpfaaGreatDoorW1
import Derived.Test.YtimmffncfkcpfaaGreatDoorV2
namespace Go.Proofs.YtimmffncfkcpfaaGreatDoor
open Go Go.RowKit Go.Walks

theorem perm_go (l : Bytes) (n lo hi : Int) (h : permB l n = decide (lo ≤ n ∧ n ≤ hi)) : permB l n = (decide (lo ≤ n) && decide (n ≤ hi)) := by
  rw [h, Bool.eq_iff_iff]; simp
def limWord (k : Nat) : Bytes := match k with
  | 0 => kLosses
  | 1 => kWhole
  | 2 => kGuar
  | 3 => kSnap
  | 4 => kBurst
  | _ => kRank
theorem lim_at0 (w : World) : (Instr.index 127 (.agg limCells.toArray) (.int .i64 0)).run Tryz.prog w = .ok (.agg #[.string ⟨kLosses.toArray⟩, .int .i64 0, .int .i64 4]) w := by kernel_rfl
theorem lim_at1 (w : World) : (Instr.index 127 (.agg limCells.toArray) (.int .i64 1)).run Tryz.prog w = .ok (.agg #[.string ⟨kWhole.toArray⟩, .int .i64 1, .int .i64 1048576]) w := by kernel_rfl
theorem lim_at2 (w : World) : (Instr.index 127 (.agg limCells.toArray) (.int .i64 2)).run Tryz.prog w = .ok (.agg #[.string ⟨kGuar.toArray⟩, .int .i64 0, .int .i64 1048576]) w := by kernel_rfl
theorem lim_at3 (w : World) : (Instr.index 127 (.agg limCells.toArray) (.int .i64 3)).run Tryz.prog w = .ok (.agg #[.string ⟨kSnap.toArray⟩, .int .i64 0, .int .i64 1048576]) w := by kernel_rfl
theorem lim_at4 (w : World) : (Instr.index 127 (.agg limCells.toArray) (.int .i64 4)).run Tryz.prog w = .ok (.agg #[.string ⟨kBurst.toArray⟩, .int .i64 0, .int .i64 1048576]) w := by kernel_rfl
theorem lim_at5 (w : World) : (Instr.index 127 (.agg limCells.toArray) (.int .i64 5)).run Tryz.prog w = .ok (.agg #[.string ⟨kRank.toArray⟩, .int .i64 0, .int .i64 9]) w := by kernel_rfl
theorem info88 : (Tryz.prog.info? 127).map (·.size) = some limCells.toArray.size := by kernel_rfl
set_option maxRecDepth 100000 in
set_option maxHeartbeats 2000000 in
theorem permitted_any (l : Bytes) (n : Int) (w : World) (Hg : Hid (Gl w)) : Calls Tryz.prog 34 #[.string ⟨l.toArray⟩, .int .i64 n] w (BoolR (permB l n) w) := by
  obtain ⟨t, fz, hl⟩ := Hg.out.lim
  have Hl := Lib.hid hl
  clear hl
  go_enter Tryz.func34, Tryz.ntmps34
  go_wp2_with (refine wpList_load_row rfl 127 _ rfl 0 rfl t limCells.toArray fz _ Hl.out Tryz.underlying127 rfl info88 ?_)
  go_loopg [8] 6 (fun g s8 wr => ∃ k : Nat, s8 = .int .i64 (k : Int) ∧ g = 6 - k ∧ k ≤ 6 ∧ Hid (Below w.heap.size w wr) ∧ Hid (∀ j, j < k → limWord j ≠ l))
  case atStart => exact ⟨0, rfl, rfl, by omega, Below.refl _ _, fun j h => absurd h (by omega)⟩
  case round =>
    obtain ⟨k, rfl, hg, hk, HB, HN⟩ := hrel
    have Hg := Lib.hid hg
    clear hg
    rcases (show k = 0 ∨ k = 1 ∨ k = 2 ∨ k = 3 ∨ k = 4 ∨ k = 5 ∨ k = 6 by omega) with rfl | rfl | rfl | rfl | rfl | rfl | rfl
    · have hat := lim_at0
      cases he : (kLosses == l) with
      | true =>
        have Hp : Hid (permB l n = (decide (0 ≤ n) && decide (n ≤ 4))) := by
          show _ = _
          rw [← eq_of_beq he, Bool.eq_iff_iff, perm_losses]; simp
        go_wp2_with fail
        all_goals
          go_ret
          refine ⟨?_, HB.out.alloc HB.out.size _⟩
          rw [Hp.out]
          first | (simp; omega) | (simp_all)
      | false =>
        have Hn : Hid (∀ j, j < 1 → limWord j ≠ l) := fun j hj => by
          rcases Nat.lt_or_ge j 0 with h | h
          · exact HN.out j h
          · obtain rfl : j = 0 := by omega
            exact fun e => by rw [show limWord 0 = kLosses from rfl] at e; rw [e] at he; simp at he
        go_wp2_with fail
        go_roundg 5
        case measure => rw [Hg.out]; omega
        case rel => exact ⟨1, by go_num, rfl, by omega, HB.out.alloc HB.out.size _, Hn⟩
    · have hat := lim_at1
      cases he : (kWhole == l) with
      | true =>
        have Hp : Hid (permB l n = (decide (1 ≤ n) && decide (n ≤ 1048576))) := by
          show _ = _
          rw [← eq_of_beq he, Bool.eq_iff_iff, perm_whole]; simp
        go_wp2_with fail
        all_goals
          go_ret
          refine ⟨?_, HB.out.alloc HB.out.size _⟩
          rw [Hp.out]
          first | (simp; omega) | (simp_all)
      | false =>
        have Hn : Hid (∀ j, j < 2 → limWord j ≠ l) := fun j hj => by
          rcases Nat.lt_or_ge j 1 with h | h
          · exact HN.out j h
          · obtain rfl : j = 1 := by omega
            exact fun e => by rw [show limWord 1 = kWhole from rfl] at e; rw [e] at he; simp at he
        go_wp2_with fail
        go_roundg 4
        case measure => rw [Hg.out]; omega
        case rel => exact ⟨2, by go_num, rfl, by omega, HB.out.alloc HB.out.size _, Hn⟩
    · have hat := lim_at2
      cases he : (kGuar == l) with
      | true =>
        have Hp : Hid (permB l n = (decide (0 ≤ n) && decide (n ≤ 1048576))) := by
          show _ = _
          rw [← eq_of_beq he, Bool.eq_iff_iff, perm_guar]; simp
        go_wp2_with fail
        all_goals
          go_ret
          refine ⟨?_, HB.out.alloc HB.out.size _⟩
          rw [Hp.out]
          first | (simp; omega) | (simp_all)
      | false =>
        have Hn : Hid (∀ j, j < 3 → limWord j ≠ l) := fun j hj => by
          rcases Nat.lt_or_ge j 2 with h | h
          · exact HN.out j h
          · obtain rfl : j = 2 := by omega
            exact fun e => by rw [show limWord 2 = kGuar from rfl] at e; rw [e] at he; simp at he
        go_wp2_with fail
        go_roundg 3
        case measure => rw [Hg.out]; omega
        case rel => exact ⟨3, by go_num, rfl, by omega, HB.out.alloc HB.out.size _, Hn⟩
    · have hat := lim_at3
      cases he : (kSnap == l) with
      | true =>
        have Hp : Hid (permB l n = (decide (0 ≤ n) && decide (n ≤ 1048576))) := by
          show _ = _
          rw [← eq_of_beq he, Bool.eq_iff_iff, perm_snap]; simp
        go_wp2_with fail
        all_goals
          go_ret
          refine ⟨?_, HB.out.alloc HB.out.size _⟩
          rw [Hp.out]
          first | (simp; omega) | (simp_all)
      | false =>
        have Hn : Hid (∀ j, j < 4 → limWord j ≠ l) := fun j hj => by
          rcases Nat.lt_or_ge j 3 with h | h
          · exact HN.out j h
          · obtain rfl : j = 3 := by omega
            exact fun e => by rw [show limWord 3 = kSnap from rfl] at e; rw [e] at he; simp at he
        go_wp2_with fail
        go_roundg 2
        case measure => rw [Hg.out]; omega
        case rel => exact ⟨4, by go_num, rfl, by omega, HB.out.alloc HB.out.size _, Hn⟩
    · have hat := lim_at4
      cases he : (kBurst == l) with
      | true =>
        have Hp : Hid (permB l n = (decide (0 ≤ n) && decide (n ≤ 1048576))) := by
          show _ = _
          rw [← eq_of_beq he, Bool.eq_iff_iff, perm_burst]; simp
        go_wp2_with fail
        all_goals
          go_ret
          refine ⟨?_, HB.out.alloc HB.out.size _⟩
          rw [Hp.out]
          first | (simp; omega) | (simp_all)
      | false =>
        have Hn : Hid (∀ j, j < 5 → limWord j ≠ l) := fun j hj => by
          rcases Nat.lt_or_ge j 4 with h | h
          · exact HN.out j h
          · obtain rfl : j = 4 := by omega
            exact fun e => by rw [show limWord 4 = kBurst from rfl] at e; rw [e] at he; simp at he
        go_wp2_with fail
        go_roundg 1
        case measure => rw [Hg.out]; omega
        case rel => exact ⟨5, by go_num, rfl, by omega, HB.out.alloc HB.out.size _, Hn⟩
    · have hat := lim_at5
      cases he : (kRank == l) with
      | true =>
        have Hp : Hid (permB l n = (decide (0 ≤ n) && decide (n ≤ 9))) := by
          show _ = _
          rw [← eq_of_beq he, Bool.eq_iff_iff, perm_rank]; simp
        go_wp2_with fail
        all_goals
          go_ret
          refine ⟨?_, HB.out.alloc HB.out.size _⟩
          rw [Hp.out]
          first | (simp; omega) | (simp_all)
      | false =>
        have Hn : Hid (∀ j, j < 6 → limWord j ≠ l) := fun j hj => by
          rcases Nat.lt_or_ge j 5 with h | h
          · exact HN.out j h
          · obtain rfl : j = 5 := by omega
            exact fun e => by rw [show limWord 5 = kRank from rfl] at e; rw [e] at he; simp at he
        go_wp2_with fail
        go_roundg 0
        case measure => rw [Hg.out]; omega
        case rel => exact ⟨6, by go_num, rfl, by omega, HB.out.alloc HB.out.size _, Hn⟩
    · have Hp : Hid (permB l n = false) := by
        have h := HN.out
        have h0 : ¬ l = kLosses := fun e => h 0 (by omega) e.symm
        have h1 : ¬ l = kWhole := fun e => h 1 (by omega) e.symm
        have h2 : ¬ l = kGuar := fun e => h 2 (by omega) e.symm
        have h3 : ¬ l = kSnap := fun e => h 3 (by omega) e.symm
        have h4 : ¬ l = kBurst := fun e => h 4 (by omega) e.symm
        have h5 : ¬ l = kRank := fun e => h 5 (by omega) e.symm
        show _ = _
        rw [permB, if_neg h0, if_neg h1, if_neg h2, if_neg h3, if_neg h4, if_neg h5]
      go_wp2_with fail
      go_ret
      exact ⟨by rw [Hp.out] <;> rfl, HB.out⟩
end Go.Proofs.YtimmffncfkcpfaaGreatDoor
