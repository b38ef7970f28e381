/-
  The walk of the reader's count.
-/
import Derived.Test.YtdfhbnfhkckkbaaGreatDoorW13
namespace Go.Proofs.YtdfhbnfhkckkbaaGreatDoor
open Go Go.RowKit Go.Walks

/-- What count hands back, what is left, and the error. -/
def cntSt (top : Int) (l : Bytes) (e0 : Nat) : Int × Bytes × Nat :=
  if e0 ≠ 0 then (0, l, e0) else match getIntB l with
    | .error er => (0, l, er)
    | .ok (n, k) => if 0 ≤ n ∧ n ≤ top then (n, l.drop k, 0) else (0, l.drop k, 6)
def CntP (r : Nat) (x : Int × Bytes × Nat) (w : World) (e : Ending) (w' : World) : Prop := e = .returned (.int .i64 x.1) ∧ RB r w w' ∧ RdM r x.2.1 x.2.2 w'
theorem RdM.e {r e : Nat} {l : Bytes} {W : World} (h : RdM r l e W) : W.cell? ⟨r, 1, none⟩ = some (.int .i64 (e : Int)) := by obtain ⟨A, c, h, -⟩ := h; exact (two_cells h).2.1
set_option maxRecDepth 100000 in
set_option maxHeartbeats 400000 in
theorem cnt_any (r e0 : Nat) (top : Int) (l : Bytes) (w : World) (ht : 0 ≤ top) (he0 : e0 ≤ 100) (Hr : Hid (RdM r l e0 w)) : Calls Tryz.prog 68 #[.pointer (some ⟨r, 0, none⟩), .int .i64 top] w (CntP r (cntSt top l e0) w) := by
  have Hdem : Hid (∀ l e p W, e ≤ 100 → RdM r l e W → Calls Tryz.prog 66 #[.pointer (some ⟨r, 0, none⟩), .bool p] W fun en w' => en = .returned (.tuple #[]) ∧ RB r W w' ∧ RdM r l (if e = 0 ∧ p = false then 6 else e) w') := fun l e p W he h => demand_any r e l p W he h
  by_cases h0 : e0 = 0
  · subst h0
    cases hx : getIntB l with
    | error er =>
      have her := getInt_err hx
      have HT := Lib.hid (takeI_bad r er l w hx Hr)
      have HX : Hid (cntSt top l 0 = (0, l, er)) := by show _ = _; unfold cntSt; rw [if_neg (by simp), hx]
      have q1 : ((er : Int) != 0) = true := by rw [bne_iff_ne]; omega
      have her0 : ¬ (er = 0 ∧ true = false) := by simp
      have he100 : er ≤ 100 := by omega
      clear hx her
      go_enter Tryz.func68, Tryz.ntmps68
      go_wp2_with fail
      refine HT.out.mono ?_
      rintro e w1 ⟨rfl, hb1, hr1⟩
      have HB1 := Lib.hid hb1
      have HR1 := Lib.hid hr1
      clear hb1 hr1
      go_wp2_with fail
      refine (Hdem.out _ _ _ _ he100 HR1.out).mono ?_
      rw [if_neg her0]
      rintro e w2 ⟨rfl, hb2, hr2⟩
      have HB2 := Lib.hid (HB1.out.trans hb2)
      have HR2 := Lib.hid hr2
      clear hb2 hr2
      have z1 := HR2.out.e
      go_wp2_with fail
      go_ret
      rw [HX.out]
      exact ⟨rfl, HB2.out, HR2.out⟩
    | ok nk =>
      obtain ⟨n, k⟩ := nk
      have HT := Lib.hid (takeI_ok r l n k w hx Hr)
      by_cases hn : 0 ≤ n ∧ n ≤ top
      · have HX : Hid (cntSt top l 0 = (n, l.drop k, 0)) := by show _ = _; unfold cntSt; rw [if_neg (by simp), hx]; dsimp only; rw [if_pos hn]
        obtain ⟨hn1, hn2⟩ := hn
        clear hx
        go_enter Tryz.func68, Tryz.ntmps68
        go_wp2_with fail
        refine HT.out.mono ?_
        rintro e w1 ⟨hb1, hr1, rfl⟩
        have HB1 := Lib.hid hb1
        have HR1 := Lib.hid hr1
        clear hb1 hr1
        go_wp2_with fail
        refine (Hdem.out _ _ _ _ (by omega) HR1.out).mono ?_
        rw [if_neg (by simp)]
        rintro e w2 ⟨rfl, hb2, hr2⟩
        have HB2 := Lib.hid (HB1.out.trans hb2)
        have HR2 := Lib.hid hr2
        clear hb2 hr2
        have z1 : w2.cell? ⟨r, 1, none⟩ = some (.int .i64 0) := HR2.out.e
        go_wp2_with fail
        go_ret
        rw [HX.out]
        exact ⟨rfl, HB2.out, HR2.out⟩
      · have HX : Hid (cntSt top l 0 = (0, l.drop k, 6)) := by show _ = _; unfold cntSt; rw [if_neg (by simp), hx]; dsimp only; rw [if_neg hn]
        clear hx
        by_cases hn1 : 0 ≤ n
        · have hn2 : ¬ n ≤ top := fun h => hn ⟨hn1, h⟩
          clear hn
          go_enter Tryz.func68, Tryz.ntmps68
          go_wp2_with fail
          refine HT.out.mono ?_
          rintro e w1 ⟨hb1, hr1, rfl⟩
          have HB1 := Lib.hid hb1
          have HR1 := Lib.hid hr1
          clear hb1 hr1
          go_wp2_with fail
          refine (Hdem.out _ _ _ _ (by omega) HR1.out).mono ?_
          rw [if_pos (by first | (simp; done) | (simp; omega))]
          rintro e w2 ⟨rfl, hb2, hr2⟩
          have HB2 := Lib.hid (HB1.out.trans hb2)
          have HR2 := Lib.hid hr2
          clear hb2 hr2
          have z1 : w2.cell? ⟨r, 1, none⟩ = some (.int .i64 6) := HR2.out.e
          go_wp2_with fail
          go_ret
          rw [HX.out]
          exact ⟨rfl, HB2.out, HR2.out⟩
        · clear hn
          go_enter Tryz.func68, Tryz.ntmps68
          go_wp2_with fail
          refine HT.out.mono ?_
          rintro e w1 ⟨hb1, hr1, rfl⟩
          have HB1 := Lib.hid hb1
          have HR1 := Lib.hid hr1
          clear hb1 hr1
          go_wp2_with fail
          refine (Hdem.out _ _ _ _ (by omega) HR1.out).mono ?_
          rw [if_pos (by first | (simp; done) | (simp; omega))]
          rintro e w2 ⟨rfl, hb2, hr2⟩
          have HB2 := Lib.hid (HB1.out.trans hb2)
          have HR2 := Lib.hid hr2
          clear hb2 hr2
          have z1 : w2.cell? ⟨r, 1, none⟩ = some (.int .i64 6) := HR2.out.e
          go_wp2_with fail
          go_ret
          rw [HX.out]
          exact ⟨rfl, HB2.out, HR2.out⟩
  · have HT := Lib.hid (takeI_skip r e0 l w h0 Hr)
    have HX : Hid (cntSt top l e0 = (0, l, e0)) := by show _ = _; unfold cntSt; rw [if_pos h0]
    have q1 : ((e0 : Int) != 0) = true := by rw [bne_iff_ne]; omega
    have H0 := Lib.hid h0
    clear h0
    go_enter Tryz.func68, Tryz.ntmps68
    go_wp2_with fail
    refine HT.out.mono ?_
    rintro e w1 ⟨rfl, hw⟩
    obtain rfl := hw.symm
    go_wp2_with fail
    refine (Hdem.out _ _ _ _ he0 Hr.out).mono ?_
    rw [if_neg (fun h => H0.out h.1)]
    rintro e w2 ⟨rfl, hb2, hr2⟩
    have HB2 := Lib.hid hb2
    have HR2 := Lib.hid hr2
    clear hb2 hr2
    have z1 := HR2.out.e
    go_wp2_with fail
    go_ret
    rw [HX.out]
    exact ⟨rfl, HB2.out, HR2.out⟩
end Go.Proofs.YtdfhbnfhkckkbaaGreatDoor
