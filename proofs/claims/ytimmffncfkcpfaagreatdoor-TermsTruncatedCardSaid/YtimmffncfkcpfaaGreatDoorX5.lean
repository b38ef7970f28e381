/-
  The walk of the program's Same (printed by gen_same.py).
-/
import Derived.Test.YtimmffncfkcpfaaGreatDoorX0
import Derived.BigQuiet
namespace Go.Proofs.YtimmffncfkcpfaaGreatDoor
open Go Go.RowKit Go.Walks

deriving instance DecidableEq for ClassD
deriving instance DecidableEq for ContrD
deriving instance DecidableEq for TermsD
theorem neq45 (x y : ClassD) (w : World) : (binOp .neq 38 (.agg (clsCs x).toArray) (.agg (clsCs y).toArray)).run Tryz.prog w = Result.ok (.bool (!decide (x = y))) w := by
  obtain ⟨a, b, c, d⟩ := x
  obtain ⟨a', b', c', d'⟩ := y
  unfold clsCs
  simp [go_sem]
  by_cases h1 : a = a' <;> by_cases h2 : b = b' <;> by_cases h3 : c = c' <;> by_cases h4 : d = d' <;> simp [h1, h2, h3, h4]
theorem neq43 (x y : ContrD) (w : World) : (binOp .neq 46 (.agg (ctrCs x).toArray) (.agg (ctrCs y).toArray)).run Tryz.prog w = Result.ok (.bool (!decide (x = y))) w := by
  obtain ⟨a, b, c, d, e, f⟩ := x
  obtain ⟨a', b', c', d', e', f'⟩ := y
  unfold ctrCs
  simp [go_sem]
  by_cases h1 : a = a' <;> by_cases h2 : b = b' <;> by_cases h3 : c = c' <;> by_cases h4 : d = d' <;> by_cases h5 : e = e' <;> by_cases h6 : f = f' <;> simp [h1, h2, h3, h4, h5, h6]

set_option maxRecDepth 100000 in
set_option maxHeartbeats 4000000 in
theorem equal_34 (as_ bs_ : List ClassD) (A B : Option Addr) (c d : Nat) (w : World) (Ha : Hid (Sl w w.heap.size A (as_.flatMap clsCs))) (Hb : Hid (Sl w w.heap.size B (bs_.flatMap clsCs))) (hla : as_.length ≤ maxLen) :
    Calls Tryz.prog 38 #[.slice A as_.length c, .slice B bs_.length d] w (BoolR (decide (as_ = bs_)) w) := by
  unfold maxLen at hla
  by_cases hlen : as_.length = bs_.length
  · have g1 : ((as_.length : Int) != (bs_.length : Int)) = false := by rw [bne_eq_false_iff_eq]; omega
    have Hlen := Lib.hid hlen
    clear hlen
    go_enter Tryz.func38, Tryz.ntmps38
    go_wp2_with fail
    clear g1
    go_loopg [13] as_.length (fun g s13 wr => ∃ k : Nat, s13 = .int .i64 (k : Int) ∧ g = as_.length - k ∧ k ≤ as_.length ∧ Hid (Below w.heap.size w wr) ∧ Hid (∀ j, j < k → as_[j]? = bs_[j]?))
    case atStart => exact ⟨0, rfl, rfl, by omega, Below.refl _ _, fun j h => absurd h (by omega)⟩
    case round =>
      obtain ⟨k, rfl, hg, hk, HB, HQ⟩ := hrel
      have Hg := Lib.hid hg
      clear hg
      by_cases hlt : k < as_.length
      · obtain ⟨x, hx⟩ : ∃ x, as_[k]? = some x := ⟨_, List.getElem?_eq_getElem hlt⟩
        obtain ⟨y, hy⟩ : ∃ y, bs_[k]? = some y := ⟨_, List.getElem?_eq_getElem (by rw [← Hlen.out]; exact hlt)⟩
        obtain ⟨b1, o1, hA, hb1, ck⟩ := sl_at cls_len Ha.out hx (by omega)
        obtain ⟨b2, o2, hB, hb2, cm⟩ := sl_at cls_len Hb.out hy (by omega)
        subst hA; subst hB
        have Hx := Lib.hid hx
        have Hy := Lib.hid hy
        have hI1 : (0 : Int) ≤ (k : Int) := by omega
        have hI2 : (k : Int) < (as_.length : Int) := by omega
        have hI3 : (k : Int) < (bs_.length : Int) := by have := Hlen.out; omega
        have hneq := fun W => neq45 x y W
        clear hx hy
        have k0 := (HB.out.cell (p := ⟨b1, o1 + (k * 4 + 0), none⟩) hb1).trans (ck 0 _ rfl)
        have k1 := (HB.out.cell (p := ⟨b1, o1 + (k * 4 + 1), none⟩) hb1).trans (ck 1 _ rfl)
        have k2 := (HB.out.cell (p := ⟨b1, o1 + (k * 4 + 2), none⟩) hb1).trans (ck 2 _ rfl)
        have k3 := (HB.out.cell (p := ⟨b1, o1 + (k * 4 + 3), none⟩) hb1).trans (ck 3 _ rfl)
        rw [Nat.add_zero] at k0
        rw [← Nat.add_assoc] at k1 k2 k3
        have m0 := (HB.out.cell (p := ⟨b2, o2 + (k * 4 + 0), none⟩) hb2).trans (cm 0 _ rfl)
        have m1 := (HB.out.cell (p := ⟨b2, o2 + (k * 4 + 1), none⟩) hb2).trans (cm 1 _ rfl)
        have m2 := (HB.out.cell (p := ⟨b2, o2 + (k * 4 + 2), none⟩) hb2).trans (cm 2 _ rfl)
        have m3 := (HB.out.cell (p := ⟨b2, o2 + (k * 4 + 3), none⟩) hb2).trans (cm 3 _ rfl)
        rw [Nat.add_zero] at m0
        rw [← Nat.add_assoc] at m1 m2 m3
        obtain ⟨x0, x1, x2, x3⟩ := x
        obtain ⟨y0, y1, y2, y3⟩ := y
        unfold clsCs at hneq
        dsimp only at k0 k1 k2 k3 m0 m1 m2 m3 hneq
        clear ck cm
        by_cases hxy : (⟨x0, x1, x2, x3⟩ : ClassD) = ⟨y0, y1, y2, y3⟩
        · have HQ3 : Hid (∀ j, j < k + 1 → as_[j]? = bs_[j]?) := by
            intro j hj
            rcases Nat.lt_or_ge j k with h | h
            · exact HQ.out j h
            · have : j = k := by omega
              subst this
              rw [Hx.out, Hy.out, hxy]
          rw [decide_eq_true hxy] at hneq
          clear hxy
          go_upto_region 6 with fail
          go_quiet (fail)
          go_wp2_with fail
          go_roundg (as_.length - (k + 1))
          case measure => rw [Hg.out]; omega
          case rel => exact ⟨k + 1, by go_num, rfl, by omega, below_drewN HB.out _, HQ3.out⟩
        · have Hno : Hid (decide (as_ = bs_) = false) := decide_eq_false fun h => by
            have h1 := Hx.out
            rw [h, Hy.out] at h1
            injection h1 with h1
            exact hxy h1.symm
          rw [decide_eq_false hxy] at hneq
          clear hxy
          go_upto_region 6 with fail
          go_quiet (fail)
          go_wp2_with fail
          go_ret
          exact ⟨by rw [Hno.out] <;> rfl, below_drewN HB.out _⟩
      · have Hyes : Hid (decide (as_ = bs_) = true) := decide_eq_true (by
          apply List.ext_getElem?
          intro j
          rcases Nat.lt_or_ge j as_.length with h | h
          · exact HQ.out j (by omega)
          · rw [List.getElem?_eq_none h, List.getElem?_eq_none (by rw [← Hlen.out]; exact h)])
        go_wp2_with fail
        go_ret
        exact ⟨by rw [Hyes.out] <;> rfl, HB.out⟩
  · have g1 : ((as_.length : Int) != (bs_.length : Int)) = true := by rw [bne_iff_ne]; omega
    have Hno : Hid (decide (as_ = bs_) = false) := decide_eq_false fun h => hlen (congrArg List.length h)
    clear hlen
    go_enter Tryz.func38, Tryz.ntmps38
    go_wp2_with fail
    go_ret
    exact ⟨by rw [Hno.out] <;> rfl, Below.refl _ _⟩

set_option maxRecDepth 100000 in
set_option maxHeartbeats 4000000 in
theorem equal_35 (as_ bs_ : List ContrD) (A B : Option Addr) (c d : Nat) (w : World) (Ha : Hid (Sl w w.heap.size A (as_.flatMap ctrCs))) (Hb : Hid (Sl w w.heap.size B (bs_.flatMap ctrCs))) (hla : as_.length ≤ maxLen) :
    Calls Tryz.prog 39 #[.slice A as_.length c, .slice B bs_.length d] w (BoolR (decide (as_ = bs_)) w) := by
  unfold maxLen at hla
  by_cases hlen : as_.length = bs_.length
  · have g1 : ((as_.length : Int) != (bs_.length : Int)) = false := by rw [bne_eq_false_iff_eq]; omega
    have Hlen := Lib.hid hlen
    clear hlen
    go_enter Tryz.func39, Tryz.ntmps39
    go_wp2_with fail
    clear g1
    go_loopg [13] as_.length (fun g s13 wr => ∃ k : Nat, s13 = .int .i64 (k : Int) ∧ g = as_.length - k ∧ k ≤ as_.length ∧ Hid (Below w.heap.size w wr) ∧ Hid (∀ j, j < k → as_[j]? = bs_[j]?))
    case atStart => exact ⟨0, rfl, rfl, by omega, Below.refl _ _, fun j h => absurd h (by omega)⟩
    case round =>
      obtain ⟨k, rfl, hg, hk, HB, HQ⟩ := hrel
      have Hg := Lib.hid hg
      clear hg
      by_cases hlt : k < as_.length
      · obtain ⟨x, hx⟩ : ∃ x, as_[k]? = some x := ⟨_, List.getElem?_eq_getElem hlt⟩
        obtain ⟨y, hy⟩ : ∃ y, bs_[k]? = some y := ⟨_, List.getElem?_eq_getElem (by rw [← Hlen.out]; exact hlt)⟩
        obtain ⟨b1, o1, hA, hb1, ck⟩ := sl_at ctr_len Ha.out hx (by omega)
        obtain ⟨b2, o2, hB, hb2, cm⟩ := sl_at ctr_len Hb.out hy (by omega)
        subst hA; subst hB
        have Hx := Lib.hid hx
        have Hy := Lib.hid hy
        have hI1 : (0 : Int) ≤ (k : Int) := by omega
        have hI2 : (k : Int) < (as_.length : Int) := by omega
        have hI3 : (k : Int) < (bs_.length : Int) := by have := Hlen.out; omega
        have hneq := fun W => neq43 x y W
        clear hx hy
        have k0 := (HB.out.cell (p := ⟨b1, o1 + (k * 6 + 0), none⟩) hb1).trans (ck 0 _ rfl)
        have k1 := (HB.out.cell (p := ⟨b1, o1 + (k * 6 + 1), none⟩) hb1).trans (ck 1 _ rfl)
        have k2 := (HB.out.cell (p := ⟨b1, o1 + (k * 6 + 2), none⟩) hb1).trans (ck 2 _ rfl)
        have k3 := (HB.out.cell (p := ⟨b1, o1 + (k * 6 + 3), none⟩) hb1).trans (ck 3 _ rfl)
        have k4 := (HB.out.cell (p := ⟨b1, o1 + (k * 6 + 4), none⟩) hb1).trans (ck 4 _ rfl)
        have k5 := (HB.out.cell (p := ⟨b1, o1 + (k * 6 + 5), none⟩) hb1).trans (ck 5 _ rfl)
        rw [Nat.add_zero] at k0
        rw [← Nat.add_assoc] at k1 k2 k3 k4 k5
        have m0 := (HB.out.cell (p := ⟨b2, o2 + (k * 6 + 0), none⟩) hb2).trans (cm 0 _ rfl)
        have m1 := (HB.out.cell (p := ⟨b2, o2 + (k * 6 + 1), none⟩) hb2).trans (cm 1 _ rfl)
        have m2 := (HB.out.cell (p := ⟨b2, o2 + (k * 6 + 2), none⟩) hb2).trans (cm 2 _ rfl)
        have m3 := (HB.out.cell (p := ⟨b2, o2 + (k * 6 + 3), none⟩) hb2).trans (cm 3 _ rfl)
        have m4 := (HB.out.cell (p := ⟨b2, o2 + (k * 6 + 4), none⟩) hb2).trans (cm 4 _ rfl)
        have m5 := (HB.out.cell (p := ⟨b2, o2 + (k * 6 + 5), none⟩) hb2).trans (cm 5 _ rfl)
        rw [Nat.add_zero] at m0
        rw [← Nat.add_assoc] at m1 m2 m3 m4 m5
        obtain ⟨x0, x1, x2, x3, x4, x5⟩ := x
        obtain ⟨y0, y1, y2, y3, y4, y5⟩ := y
        unfold ctrCs at hneq
        dsimp only at k0 k1 k2 k3 k4 k5 m0 m1 m2 m3 m4 m5 hneq
        clear ck cm
        by_cases hxy : (⟨x0, x1, x2, x3, x4, x5⟩ : ContrD) = ⟨y0, y1, y2, y3, y4, y5⟩
        · have HQ3 : Hid (∀ j, j < k + 1 → as_[j]? = bs_[j]?) := by
            intro j hj
            rcases Nat.lt_or_ge j k with h | h
            · exact HQ.out j h
            · have : j = k := by omega
              subst this
              rw [Hx.out, Hy.out, hxy]
          rw [decide_eq_true hxy] at hneq
          clear hxy
          go_upto_region 6 with fail
          go_quiet (fail)
          go_wp2_with fail
          go_roundg (as_.length - (k + 1))
          case measure => rw [Hg.out]; omega
          case rel => exact ⟨k + 1, by go_num, rfl, by omega, below_drewN HB.out _, HQ3.out⟩
        · have Hno : Hid (decide (as_ = bs_) = false) := decide_eq_false fun h => by
            have h1 := Hx.out
            rw [h, Hy.out] at h1
            injection h1 with h1
            exact hxy h1.symm
          rw [decide_eq_false hxy] at hneq
          clear hxy
          go_upto_region 6 with fail
          go_quiet (fail)
          go_wp2_with fail
          go_ret
          exact ⟨by rw [Hno.out] <;> rfl, below_drewN HB.out _⟩
      · have Hyes : Hid (decide (as_ = bs_) = true) := decide_eq_true (by
          apply List.ext_getElem?
          intro j
          rcases Nat.lt_or_ge j as_.length with h | h
          · exact HQ.out j (by omega)
          · rw [List.getElem?_eq_none h, List.getElem?_eq_none (by rw [← Hlen.out]; exact h)])
        go_wp2_with fail
        go_ret
        exact ⟨by rw [Hyes.out] <;> rfl, HB.out⟩
  · have g1 : ((as_.length : Int) != (bs_.length : Int)) = true := by rw [bne_iff_ne]; omega
    have Hno : Hid (decide (as_ = bs_) = false) := decide_eq_false fun h => hlen (congrArg List.length h)
    clear hlen
    go_enter Tryz.func39, Tryz.ntmps39
    go_wp2_with fail
    go_ret
    exact ⟨by rw [Hno.out] <;> rfl, Below.refl _ _⟩

/-- Two blocks of terms. -/
structure S2W (w : World) (u v : Array Value) (W : World) : Prop where
  below : Below w.heap.size w W
  x : W.heap[w.heap.size]? = some (.cells u 26)
  y : W.heap[w.heap.size + 1]? = some (.cells v 26)
theorem S2W.start (w : World) (u v : Array Value) : S2W w u v ((w.alloc (.cells u 26)).alloc (.cells v 26)) := by
  have h := heap_new (w.alloc (.cells u 26)) (.cells v 26)
  rw [World.size_alloc] at h
  exact ⟨((Below.refl _ _).alloc (Nat.le_refl _) _).alloc (by simp) _, (Below.heap_alloc _ _ _ (by simp)).trans (heap_new _ _), h⟩
theorem S2W.call {w W W' : World} {u v : Array Value} (h : S2W w u v W) (hb : Below W.heap.size W W') : S2W w u v W' := ⟨h.below.trans (hb.mono h.below.size), below_cells h.x hb, below_cells h.y hb⟩
theorem same_split (T U : TermsD) : decide (T = U) = (decide (T.classes = U.classes) && decide (T.contracts = U.contracts)) := by
  obtain ⟨a, b⟩ := T
  obtain ⟨c, d⟩ := U
  rw [Bool.eq_iff_iff]; simp

set_option maxRecDepth 100000 in
set_option maxHeartbeats 4000000 in
theorem same_any (T U : TermsD) (v u : Value) (w : World) (Hv : Hid (TermsV w T v)) (Hu : Hid (TermsV w U u)) : Calls Tryz.prog 12 #[v, u] w (BoolR (decide (T = U)) w) := by
  obtain ⟨A, c, A', d, rfl, hs1, hs2, hc1, hc2, hc3, hc4⟩ := Hv.out
  obtain ⟨B, c', B', d', rfl, ht1, ht2, hd1, hd2, hd3, hd4⟩ := Hu.out
  have S0 := Lib.hid (S2W.start w #[.slice A T.classes.length c, .slice A' T.contracts.length d] #[.slice B U.classes.length c', .slice B' U.contracts.length d'])
  have H34 : Hid (∀ W, Below w.heap.size w W → Calls Tryz.prog 38 #[.slice A T.classes.length c, .slice B U.classes.length c'] W (BoolR (decide (T.classes = U.classes)) W)) := fun W hW => equal_34 _ _ _ _ _ _ W ((hs1.below hW).more hW.size) ((ht1.below hW).more hW.size) (by omega)
  have H35 : Hid (∀ W, Below w.heap.size w W → Calls Tryz.prog 39 #[.slice A' T.contracts.length d, .slice B' U.contracts.length d'] W (BoolR (decide (T.contracts = U.contracts)) W)) := fun W hW => equal_35 _ _ _ _ _ _ W ((hs2.below hW).more hW.size) ((ht2.below hW).more hW.size) (by omega)
  have Hsp := Lib.hid (same_split T U)
  clear hs1 hs2 ht1 ht2 hc1 hc2 hc3 hc4 hd1 hd2 hd3 hd4 Hv Hu
  obtain ⟨x0, x1, -⟩ := two_cells S0.out.x
  obtain ⟨y0, y1, -⟩ := two_cells S0.out.y
  cases hb1 : decide (T.classes = U.classes) with
  | false =>
    rw [hb1] at H34
    have Hno : Hid (decide (T = U) = false) := by show _ = _; rw [Hsp.out, hb1]; rfl
    clear hb1
    go_enter Tryz.func12, Tryz.ntmps12
    go_wp2_with (go_at_call 38; refine (H34.out _ S0.out.below).mono ?_; rintro e w1 ⟨rfl, hb1⟩; have S1 := Lib.hid (S0.out.call hb1); clear hb1)
    go_ret
    exact ⟨by rw [Hno.out] <;> rfl, S1.out.below⟩
  | true =>
    rw [hb1] at H34
    have Hyes : Hid (decide (T = U) = decide (T.contracts = U.contracts)) := by show _ = _; rw [Hsp.out, hb1]; rfl
    clear hb1
    go_enter Tryz.func12, Tryz.ntmps12
    go_wp2_with (first | (go_at_call 38; refine (H34.out _ S0.out.below).mono ?_; rintro e w1 ⟨rfl, hb1⟩; have S1 := Lib.hid (S0.out.call hb1); obtain ⟨-, z1, -⟩ := two_cells S1.out.x; obtain ⟨-, q1, -⟩ := two_cells S1.out.y; clear hb1) | (go_at_call 39; refine (H35.out _ S1.out.below).mono ?_; rintro e w2 ⟨rfl, hb2⟩; have S2 := Lib.hid (S1.out.call hb2); clear hb2))
    go_ret
    exact ⟨by rw [Hyes.out] <;> rfl, S2.out.below⟩
end Go.Proofs.YtimmffncfkcpfaaGreatDoor
