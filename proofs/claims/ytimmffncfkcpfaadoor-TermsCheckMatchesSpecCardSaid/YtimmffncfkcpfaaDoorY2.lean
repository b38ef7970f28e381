/-
  The walks of the reference's classNumbers, contractNumbers, hasClass and hasTenant (printed by gen_has.py).
-/
import Derived.Test.YtimmffncfkcpfaaDoorY1
import Derived.Test.YtimmffncfkcpfaaDoorX8
namespace Go.Proofs.YtimmffncfkcpfaaDoor
open Go Go.RowKit Go.Walks

theorem has_yes {α : Type} {l : List α} {f : α → Bytes} {n k : Nat} {x : α} {nm : Bytes} (hk : k < n) (hx : l[k]? = some x) (he : f x = nm) : decide (nm ∈ (l.take n).map f) = true := by
  rw [decide_eq_true_eq, List.mem_map]
  refine ⟨x, ?_, he⟩
  rw [List.mem_iff_getElem?]
  exact ⟨k, by rw [List.getElem?_take, if_pos hk]; exact hx⟩
theorem has_no {α : Type} {l : List α} {f : α → Bytes} {n : Nat} {nm : Bytes} (h : ∀ (j : Nat) (x : α), j < n → l[j]? = some x → f x ≠ nm) : decide (nm ∈ (l.take n).map f) = false := by
  rw [decide_eq_false_iff_not, List.mem_map]
  rintro ⟨x, hx, he⟩
  obtain ⟨j, hj⟩ := List.mem_iff_getElem?.1 hx
  rw [List.getElem?_take] at hj
  split at hj
  · exact h j x (by assumption) hj he
  · cases hj

def clsNum (ls wh : Int) : Bool := decide (0 ≤ ls ∧ ls ≤ 4) && decide (1 ≤ wh ∧ wh ≤ 1048576)
def ctrNum (gu sn bu rk : Int) : Bool := (decide (0 ≤ gu ∧ gu ≤ 1048576) && decide (0 ≤ sn ∧ sn ≤ 1048576) && decide (0 ≤ bu ∧ bu ≤ 1048576)) && decide (0 ≤ rk ∧ rk ≤ 9) && (decide (0 < bu) || decide (rk = 0))
set_option maxRecDepth 100000 in
set_option maxHeartbeats 4000000 in
theorem clsNums_any (nm cd : Bytes) (ls wh : Int) (w : World) : Calls Tryd.prog 26 #[.agg #[.string ⟨nm.toArray⟩, .string ⟨cd.toArray⟩, .int .i64 ls, .int .i64 wh]] w (BoolR (clsNum ls wh) w) := by
  obtain ⟨W1, hW1⟩ : ∃ W, W = w.alloc (.cells #[.string ⟨nm.toArray⟩, .string ⟨cd.toArray⟩, .int .i64 ls, .int .i64 wh] 45) := ⟨_, rfl⟩
  have HB : Hid (Below w.heap.size w W1) := by rw [hW1]; exact (Below.refl _ _).alloc (Nat.le_refl _) _
  have hr : W1.heap[w.heap.size]? = some (.cells #[.string ⟨nm.toArray⟩, .string ⟨cd.toArray⟩, .int .i64 ls, .int .i64 wh] 45) := by rw [hW1]; exact heap_new _ _
  obtain ⟨x2, -⟩ := cell_at hr 2 rfl
  obtain ⟨x3, -⟩ := cell_at hr 3 rfl
  have H46 := Lib.hid within_any
  unfold clsNum
  clear hr
  cases p1 : decide (0 ≤ ls ∧ ls ≤ 4) with
  | false =>
    have P1 := Lib.hid p1
    clear p1
    go_enter Tryd.func26, Tryd.ntmps26
    go_wp2_with (go_at_call 46; rw [← hW1]; refine (H46.out _ _ _ _).mono ?_; rintro e w' ⟨rfl, hw'⟩; subst hw'; rw [P1.out])
    go_ret
    exact ⟨rfl, (Below.refl _ _).alloc (Nat.le_refl _) _⟩
  | true =>
    have P1 := Lib.hid p1
    clear p1
    cases p2 : decide (1 ≤ wh ∧ wh ≤ 1048576) with
    | false =>
      have P2 := Lib.hid p2
      clear p2
      go_enter Tryd.func26, Tryd.ntmps26
      go_wp2_with (go_at_call 46; first | rw [← hW1] | skip; refine (H46.out _ _ _ _).mono ?_; rintro e w' ⟨rfl, hw'⟩; subst hw'; first | rw [P1.out] | rw [P2.out])
      go_ret
      exact ⟨rfl, (Below.refl _ _).alloc (Nat.le_refl _) _⟩
    | true =>
      have P2 := Lib.hid p2
      clear p2
      go_enter Tryd.func26, Tryd.ntmps26
      go_wp2_with (go_at_call 46; first | rw [← hW1] | skip; refine (H46.out _ _ _ _).mono ?_; rintro e w' ⟨rfl, hw'⟩; subst hw'; first | rw [P1.out] | rw [P2.out])
      go_ret
      exact ⟨rfl, (Below.refl _ _).alloc (Nat.le_refl _) _⟩

set_option maxRecDepth 100000 in
set_option maxHeartbeats 4000000 in
theorem ctrNums_any (tn : Bytes) (gu sn bu rk : Int) (cl : Bytes) (w : World) : Calls Tryd.prog 28 #[.agg #[.string ⟨tn.toArray⟩, .int .i64 gu, .int .i64 sn, .int .i64 bu, .int .i64 rk, .string ⟨cl.toArray⟩]] w (BoolR (ctrNum gu sn bu rk) w) := by
  obtain ⟨W1, hW1⟩ : ∃ W, W = w.alloc (.cells #[.string ⟨tn.toArray⟩, .int .i64 gu, .int .i64 sn, .int .i64 bu, .int .i64 rk, .string ⟨cl.toArray⟩] 43) := ⟨_, rfl⟩
  have HB : Hid (Below w.heap.size w W1) := by rw [hW1]; exact (Below.refl _ _).alloc (Nat.le_refl _) _
  have hr : W1.heap[w.heap.size]? = some (.cells #[.string ⟨tn.toArray⟩, .int .i64 gu, .int .i64 sn, .int .i64 bu, .int .i64 rk, .string ⟨cl.toArray⟩] 43) := by rw [hW1]; exact heap_new _ _
  obtain ⟨x0, x1, x2, x3, x4, x5, -⟩ := six_cells hr
  have H46 := Lib.hid within_any
  unfold ctrNum
  clear hr x0 x5
  cases p1 : decide (0 ≤ gu ∧ gu ≤ 1048576) with
  | false =>
    have P1 := Lib.hid p1
    clear p1
    go_enter Tryd.func28, Tryd.ntmps28
    go_wp2_with (go_at_call 46; first | rw [← hW1] | skip; refine (H46.out _ _ _ _).mono ?_; rintro e w' ⟨rfl, hw'⟩; subst hw'; first | rw [P1.out])
    go_ret
    exact ⟨rfl, (Below.refl _ _).alloc (Nat.le_refl _) _⟩
  | true =>
    have P1 := Lib.hid p1
    clear p1
    cases p2 : decide (0 ≤ sn ∧ sn ≤ 1048576) with
    | false =>
      have P2 := Lib.hid p2
      clear p2
      go_enter Tryd.func28, Tryd.ntmps28
      go_wp2_with (go_at_call 46; first | rw [← hW1] | skip; refine (H46.out _ _ _ _).mono ?_; rintro e w' ⟨rfl, hw'⟩; subst hw'; first | rw [P1.out] | rw [P2.out])
      go_ret
      exact ⟨rfl, (Below.refl _ _).alloc (Nat.le_refl _) _⟩
    | true =>
      have P2 := Lib.hid p2
      clear p2
      cases p3 : decide (0 ≤ bu ∧ bu ≤ 1048576) with
      | false =>
        have P3 := Lib.hid p3
        clear p3
        go_enter Tryd.func28, Tryd.ntmps28
        go_wp2_with (go_at_call 46; first | rw [← hW1] | skip; refine (H46.out _ _ _ _).mono ?_; rintro e w' ⟨rfl, hw'⟩; subst hw'; first | rw [P1.out] | rw [P2.out] | rw [P3.out])
        go_ret
        exact ⟨rfl, (Below.refl _ _).alloc (Nat.le_refl _) _⟩
      | true =>
        have P3 := Lib.hid p3
        clear p3
        cases p4 : decide (0 ≤ rk ∧ rk ≤ 9) with
        | false =>
          have P4 := Lib.hid p4
          clear p4
          go_enter Tryd.func28, Tryd.ntmps28
          go_wp2_with (go_at_call 46; first | rw [← hW1] | skip; refine (H46.out _ _ _ _).mono ?_; rintro e w' ⟨rfl, hw'⟩; subst hw'; first | rw [P1.out] | rw [P2.out] | rw [P3.out] | rw [P4.out])
          go_ret
          exact ⟨rfl, (Below.refl _ _).alloc (Nat.le_refl _) _⟩
        | true =>
          have P4 := Lib.hid p4
          clear p4
          by_cases hb0 : 0 < bu
          · have p5 : decide (0 < bu) = true := decide_eq_true hb0
            rw [p5]
            clear p5
            go_enter Tryd.func28, Tryd.ntmps28
            go_wp2_with (go_at_call 46; first | rw [← hW1] | skip; refine (H46.out _ _ _ _).mono ?_; rintro e w' ⟨rfl, hw'⟩; subst hw'; first | rw [P1.out] | rw [P2.out] | rw [P3.out] | rw [P4.out])
            go_ret
            exact ⟨rfl, (Below.refl _ _).alloc (Nat.le_refl _) _⟩
          · have p5 : decide (0 < bu) = false := decide_eq_false hb0
            rw [p5]
            clear p5
            by_cases hr0 : rk = 0
            · have p6 : decide (rk = 0) = true := decide_eq_true hr0
              have p7 : (rk == 0) = true := by rw [beq_iff_eq]; exact hr0
              rw [p6]
              clear p6 hr0
              go_enter Tryd.func28, Tryd.ntmps28
              go_wp2_with (go_at_call 46; first | rw [← hW1] | skip; refine (H46.out _ _ _ _).mono ?_; rintro e w' ⟨rfl, hw'⟩; subst hw'; first | rw [P1.out] | rw [P2.out] | rw [P3.out] | rw [P4.out])
              go_ret
              exact ⟨rfl, (Below.refl _ _).alloc (Nat.le_refl _) _⟩
            · have p6 : decide (rk = 0) = false := decide_eq_false hr0
              have p7 : (rk == 0) = false := by rw [beq_eq_false_iff_ne]; exact hr0
              rw [p6]
              clear p6 hr0
              go_enter Tryd.func28, Tryd.ntmps28
              go_wp2_with (go_at_call 46; first | rw [← hW1] | skip; refine (H46.out _ _ _ _).mono ?_; rintro e w' ⟨rfl, hw'⟩; subst hw'; first | rw [P1.out] | rw [P2.out] | rw [P3.out] | rw [P4.out])
              go_ret
              exact ⟨by show _ = Ending.returned (.bool false); rw [← decide_eq_false (show ¬ 0 < bu by omega)] <;> rfl, (Below.refl _ _).alloc (Nat.le_refl _) _⟩

set_option maxRecDepth 100000 in
set_option maxHeartbeats 4000000 in
theorem has25_any (T : TermsD) (v : Value) (nm : Bytes) (n : Nat) (w : World) (Hv : Hid (TermsV w T v)) (hn : n ≤ T.classes.length) : Calls Tryd.prog 25 #[v, .int .i64 (n : Int), .string ⟨nm.toArray⟩] w (BoolR (decide (nm ∈ (T.classes.take n).map ClassD.name)) w) := by
  obtain ⟨A, c, A', d, rfl, hs1, hs2, hc1, hc2, hc3, hc4⟩ := Hv.out
  obtain ⟨p, hp⟩ : ∃ p, p = T.classes.length := ⟨_, rfl⟩
  obtain ⟨q, hq⟩ : ∃ q, q = T.contracts.length := ⟨_, rfl⟩
  rw [← hp] at hc1 ⊢
  rw [← hq] at hc2 ⊢
  have Hn := Lib.hid hn
  rw [← hp] at hn
  have Hp := Lib.hid hp
  have Hs := Lib.hid hs1
  have S0 := Lib.hid (RW.start w #[.slice A p c, .slice A' q d])
  unfold maxLen at hc3 hc4
  clear hs1 hs2 Hv hp hq
  obtain ⟨bR, hbR⟩ : ∃ b, b = decide (nm ∈ (T.classes.take n).map ClassD.name) := ⟨_, rfl⟩
  have HBR := Lib.hid hbR
  rw [← hbR]
  clear hbR
  go_enter Tryd.func25, Tryd.ntmps25
  go_wp2_with fail
  go_loopg [7] n (fun g s wr => ∃ k : Nat, s = .int .i64 (k : Int) ∧ g = n - k ∧ k ≤ n ∧ Hid (RW w #[.slice A p c, .slice A' q d] wr) ∧ Hid (∀ (j : Nat) (x : ClassD), j < k → T.classes[j]? = some x → ClassD.name x ≠ nm))
  case atStart => exact ⟨0, rfl, rfl, Nat.zero_le _, S0.out, fun j x h => absurd h (by omega)⟩
  case round =>
    obtain ⟨k, rfl, hg, hkk, HSk, HQk⟩ := hrel
    have Hgk := Lib.hid hg
    clear hg
    obtain ⟨x0, x1, -⟩ := two_cells HSk.out.x1
    by_cases hlt : k < n
    · have hI0 : (k : Int) < (n : Int) := by omega
      have hI1 : (0 : Int) ≤ (k : Int) := by omega
      have hI2 : (k : Int) < (p : Int) := by omega
      obtain ⟨C, hC⟩ : ∃ x, T.classes[k]? = some x := ⟨_, List.getElem?_eq_getElem (by have := Hn.out; omega)⟩
      obtain ⟨bb, o, hA, hb, hcells⟩ := sl_at cls_len Hs.out hC (by omega)
      subst hA
      have k0 := (HSk.out.below.cell (p := ⟨bb, o + (k * 4 + 0), none⟩) hb).trans (hcells 0 _ rfl)
      rw [Nat.add_zero] at k0
      have HC := Lib.hid hC
      obtain ⟨x0_, x1, x2, x3⟩ := C
      dsimp only at k0
      clear hC hcells
      cases hbe : (x0_ == nm) with
      | true =>
        have Hyes : Hid (bR = true) := HBR.out.trans (has_yes hlt HC.out (by simpa using hbe))
        go_wp2_with fail
        go_ret
        exact ⟨by rw [Hyes.out] <;> rfl, HSk.out.below⟩
      | false =>
        have HQ2 : Hid (∀ (j : Nat) (x : ClassD), j < k + 1 → T.classes[j]? = some x → ClassD.name x ≠ nm) := fun j x hj hx => by
          rcases Nat.lt_or_ge j k with h | h
          · exact HQk.out j x h hx
          · obtain rfl : j = k := by omega
            rw [HC.out] at hx
            injection hx with hx
            subst hx
            simpa using hbe
        go_wp2_with fail
        go_roundg (n - (k + 1))
        case measure => rw [Hgk.out]; omega
        case rel => exact ⟨k + 1, by go_num, rfl, by omega, HSk.out, HQ2.out⟩
    · have hke : ¬ (k : Int) < (n : Int) := by omega
      have hkn : k = n := by omega
      subst hkn
      have Hno : Hid (bR = false) := HBR.out.trans (has_no HQk.out)
      go_wp2_with fail
      go_ret
      exact ⟨by rw [Hno.out] <;> rfl, HSk.out.below⟩

set_option maxRecDepth 100000 in
set_option maxHeartbeats 4000000 in
theorem has27_any (T : TermsD) (v : Value) (nm : Bytes) (n : Nat) (w : World) (Hv : Hid (TermsV w T v)) (hn : n ≤ T.contracts.length) : Calls Tryd.prog 27 #[v, .int .i64 (n : Int), .string ⟨nm.toArray⟩] w (BoolR (decide (nm ∈ (T.contracts.take n).map ContrD.tenant)) w) := by
  obtain ⟨A, c, A', d, rfl, hs1, hs2, hc1, hc2, hc3, hc4⟩ := Hv.out
  obtain ⟨p, hp⟩ : ∃ p, p = T.classes.length := ⟨_, rfl⟩
  obtain ⟨q, hq⟩ : ∃ q, q = T.contracts.length := ⟨_, rfl⟩
  rw [← hp] at hc1 ⊢
  rw [← hq] at hc2 ⊢
  have Hn := Lib.hid hn
  rw [← hq] at hn
  have Hp := Lib.hid hq
  have Hs := Lib.hid hs2
  have S0 := Lib.hid (RW.start w #[.slice A p c, .slice A' q d])
  unfold maxLen at hc3 hc4
  clear hs1 hs2 Hv hp hq
  obtain ⟨bR, hbR⟩ : ∃ b, b = decide (nm ∈ (T.contracts.take n).map ContrD.tenant) := ⟨_, rfl⟩
  have HBR := Lib.hid hbR
  rw [← hbR]
  clear hbR
  go_enter Tryd.func27, Tryd.ntmps27
  go_wp2_with fail
  go_loopg [7] n (fun g s wr => ∃ k : Nat, s = .int .i64 (k : Int) ∧ g = n - k ∧ k ≤ n ∧ Hid (RW w #[.slice A p c, .slice A' q d] wr) ∧ Hid (∀ (j : Nat) (x : ContrD), j < k → T.contracts[j]? = some x → ContrD.tenant x ≠ nm))
  case atStart => exact ⟨0, rfl, rfl, Nat.zero_le _, S0.out, fun j x h => absurd h (by omega)⟩
  case round =>
    obtain ⟨k, rfl, hg, hkk, HSk, HQk⟩ := hrel
    have Hgk := Lib.hid hg
    clear hg
    obtain ⟨x0, x1, -⟩ := two_cells HSk.out.x1
    by_cases hlt : k < n
    · have hI0 : (k : Int) < (n : Int) := by omega
      have hI1 : (0 : Int) ≤ (k : Int) := by omega
      have hI2 : (k : Int) < (q : Int) := by omega
      obtain ⟨C, hC⟩ : ∃ x, T.contracts[k]? = some x := ⟨_, List.getElem?_eq_getElem (by have := Hn.out; omega)⟩
      obtain ⟨bb, o, hA, hb, hcells⟩ := sl_at ctr_len Hs.out hC (by omega)
      subst hA
      have k0 := (HSk.out.below.cell (p := ⟨bb, o + (k * 6 + 0), none⟩) hb).trans (hcells 0 _ rfl)
      rw [Nat.add_zero] at k0
      have HC := Lib.hid hC
      obtain ⟨x0_, x1, x2, x3, x4, x5⟩ := C
      dsimp only at k0
      clear hC hcells
      cases hbe : (x0_ == nm) with
      | true =>
        have Hyes : Hid (bR = true) := HBR.out.trans (has_yes hlt HC.out (by simpa using hbe))
        go_wp2_with fail
        go_ret
        exact ⟨by rw [Hyes.out] <;> rfl, HSk.out.below⟩
      | false =>
        have HQ2 : Hid (∀ (j : Nat) (x : ContrD), j < k + 1 → T.contracts[j]? = some x → ContrD.tenant x ≠ nm) := fun j x hj hx => by
          rcases Nat.lt_or_ge j k with h | h
          · exact HQk.out j x h hx
          · obtain rfl : j = k := by omega
            rw [HC.out] at hx
            injection hx with hx
            subst hx
            simpa using hbe
        go_wp2_with fail
        go_roundg (n - (k + 1))
        case measure => rw [Hgk.out]; omega
        case rel => exact ⟨k + 1, by go_num, rfl, by omega, HSk.out, HQ2.out⟩
    · have hke : ¬ (k : Int) < (n : Int) := by omega
      have hkn : k = n := by omega
      subst hkn
      have Hno : Hid (bR = false) := HBR.out.trans (has_no HQk.out)
      go_wp2_with fail
      go_ret
      exact ⟨by rw [Hno.out] <;> rfl, HSk.out.below⟩

end Go.Proofs.YtimmffncfkcpfaaDoor
