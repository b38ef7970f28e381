/-
  The walk of the program's Same.
-/
import Derived.Test.YtafgmbchdcfkcaaDoorS5
namespace Go.Proofs.YtafgmbchdcfkcaaDoor
open Go Go.RowKit Go.Walks

/-- slices.Equal at two rows. -/
theorem rowsEq_any {xs ys : List Int} {A B : Option Addr} {c d : Nat} {w : World} (h1 : Sl w w.heap.size A (xs.map intC)) (h2 : Sl w w.heap.size B (ys.map intC)) (hx : xs.length ≤ maxLen) (hy : ys.length ≤ maxLen) :
    Calls Tryd.prog 41 #[.slice A xs.length c, .slice B ys.length d] w fun e w' => e = .returned (.bool (decide (xs = ys))) ∧ ∃ q, w' = w.drewN q := by
  unfold maxLen at hx hy
  by_cases hl : xs.length = ys.length
  · cases hxs : xs with
    | nil =>
      have hys : ys = [] := List.eq_nil_of_length_eq_zero (by rw [← hl, hxs]; rfl)
      subst hxs; subst hys
      refine (Tryd.slices_Equal_int_empty A B c 0 d w (by omega)).mono ?_
      rintro e w' ⟨rfl, rfl⟩
      exact ⟨rfl, 0, rfl⟩
    | cons x r =>
      rw [← hxs]
      have hx0 : xs[0]? = some x := by rw [hxs]; rfl
      obtain ⟨y, hy0⟩ : ∃ y, ys[0]? = some y := ⟨_, List.getElem?_eq_getElem (by rw [← hl, hxs]; simp)⟩
      rcases h1 with he | ⟨b1, o1, rfl, -, k1⟩
      · rw [hxs] at he; cases he
      rcases h2 with he | ⟨b2, o2, rfl, -, k2⟩
      · rw [List.map_eq_nil_iff] at he; rw [he] at hy0; cases hy0
      have g : ∀ (zs : List Int) (j : Nat), j < zs.length → (zs.map intC)[j]? = some (.int .i64 (zs.getD j 0)) := by
        intro zs j hj
        rw [List.getElem?_map, List.getElem?_eq_getElem hj]
        simp [List.getD, List.getElem?_eq_getElem hj]
      refine (Tryd.slices_Equal_int b1 o1 xs.length c b2 o2 ys.length d xs ys w (Nat.le_refl _) (Nat.le_refl _) (by omega) (by omega) (fun j hj => k1 j _ (g xs j hj)) (fun j hj => k2 j _ (g ys j hj))).mono ?_
      rintro e w' ⟨rfl, hq⟩
      refine ⟨?_, hq⟩
      rw [List.take_length, List.take_length]
      congr 2
      rw [Bool.eq_iff_iff]; simp
  · refine (Tryd.slices_Equal_int_lens A B xs.length c ys.length d w hl).mono ?_
    rintro e w' ⟨rfl, rfl⟩
    exact ⟨by rw [decide_eq_false fun h => hl (by rw [h])], 0, rfl⟩
set_option maxRecDepth 100000 in
set_option maxHeartbeats 1000000 in
theorem same1_any {xs ys : List Int} {A B : Option Addr} {c d : Nat} {w : World} (h1 : Sl w w.heap.size A (xs.map intC)) (h2 : Sl w w.heap.size B (ys.map intC)) (hx : xs.length ≤ maxLen) (hy : ys.length ≤ maxLen) :
    Calls Tryd.prog 40 #[.slice A xs.length c, .slice B ys.length d] w fun e w' => e = .returned (.bool (decide (xs = ys))) ∧ ∃ q, w' = w.drewN q := by
  have H := Lib.hid (rowsEq_any (c := c) (d := d) h1 h2 hx hy)
  clear h1 h2 hx hy
  generalize decide (xs = ys) = b at *
  go_enter Tryd.func40, Tryd.ntmps40
  go_wp2_with (go_at_call 41; refine H.out.mono ?_; rintro e w1 ⟨rfl, q, hw1⟩; subst hw1)
  go_ret
  exact ⟨rfl, q, rfl⟩

set_option maxRecDepth 100000 in
set_option maxHeartbeats 4000000 in
theorem eqFunc_any (as_ bs_ : List (List Int)) (A B : Option Addr) (c d : Nat) (ma mb : List Value) (w : World) (Ha : Hid (Sl w w.heap.size A ma)) (Hb : Hid (Sl w w.heap.size B mb)) (Hma : Hid (MatS w as_ ma)) (Hmb : Hid (MatS w bs_ mb)) (hla : as_.length ≤ maxLen) (La : Hid (∀ r ∈ as_, r.length ≤ maxLen)) (Lb : Hid (∀ r ∈ bs_, r.length ≤ maxLen)) :
    Calls Tryd.prog 39 #[.slice A as_.length c, .slice B bs_.length d, .func (.func 40) #[] #[]] w fun e w' => e = .returned (.bool (decide (as_ = bs_))) ∧ Below w.heap.size w w' := by
  unfold maxLen at hla
  by_cases hlen : as_.length = bs_.length
  · have g1 : ((as_.length : Int) != (bs_.length : Int)) = false := by rw [bne_eq_false_iff_eq]; omega
    have Hlen := Lib.hid hlen
    clear hlen
    go_enter Tryd.func39, Tryd.ntmps39
    go_wp2_with fail
    clear g1
    go_loopg [17] as_.length (fun g s17 wr => ∃ k : Nat, s17 = .int .i64 (k : Int) ∧ g = as_.length - k ∧ k ≤ as_.length ∧ Hid (Below w.heap.size w wr) ∧ Hid (∀ j, j < k → as_[j]? = bs_[j]?))
    case atStart => exact ⟨0, rfl, rfl, by omega, Below.refl _ _, fun j h => absurd h (by omega)⟩
    case round =>
      obtain ⟨k, rfl, hg, hk, HB, HQ⟩ := hrel
      have Hg := Lib.hid hg
      clear hg
      by_cases hlt : k < as_.length
      · obtain ⟨x, hx⟩ : ∃ x, as_[k]? = some x := ⟨_, List.getElem?_eq_getElem hlt⟩
        obtain ⟨y, hy⟩ : ∃ y, bs_[k]? = some y := ⟨_, List.getElem?_eq_getElem (by rw [← Hlen.out]; exact hlt)⟩
        obtain ⟨b1, o1, A1, q1, hA, m1, t1⟩ := rowS Ha.out Hma.out HB.out hx
        obtain ⟨b2, o2, A2, q2, hB, m2, t2⟩ := rowS Hb.out Hmb.out HB.out hy
        subst hA; subst hB
        have hcall := same1_any (c := q1) (d := q2) t1 t2 (La.out x (List.mem_of_getElem? hx)) (Lb.out y (List.mem_of_getElem? hy))
        have Hx := Lib.hid hx
        have Hy := Lib.hid hy
        have hI1 : (0 : Int) ≤ (k : Int) := by omega
        have hI2 : (k : Int) < (as_.length : Int) := by omega
        have hI3 : (k : Int) < (bs_.length : Int) := by have := Hlen.out; omega
        clear hx hy t1 t2
        by_cases hxy : x = y
        · rw [decide_eq_true hxy] at hcall
          have Hcall := Lib.hid hcall
          have HQ3 : Hid (∀ j, j < k + 1 → as_[j]? = bs_[j]?) := by
            intro j hj
            rcases Nat.lt_or_ge j k with h | h
            · exact HQ.out j h
            · have : j = k := by omega
              subst this
              rw [Hx.out, Hy.out, hxy]
          clear hcall hxy
          go_wp2_with (go_at_call 40; refine Hcall.out.mono ?_; rintro e w1 ⟨rfl, q, hw1⟩; subst hw1)
          go_roundg (as_.length - (k + 1))
          case measure => rw [Hg.out]; omega
          case rel => exact ⟨k + 1, by go_num, rfl, by omega, below_drewN HB.out _, HQ3.out⟩
        · rw [decide_eq_false hxy] at hcall
          have Hcall := Lib.hid hcall
          have Hno : Hid (decide (as_ = bs_) = false) := decide_eq_false fun h => by
            have h1 := Hx.out
            rw [h, Hy.out] at h1
            injection h1 with h1
            exact hxy h1.symm
          clear hcall hxy
          go_wp2_with (go_at_call 40; refine Hcall.out.mono ?_; rintro e w1 ⟨rfl, q, hw1⟩; subst hw1)
          go_ret
          exact ⟨by rw [Hno.out] <;> rfl, below_drewN HB.out _⟩
      · have Hyes : Hid (decide (as_ = bs_) = true) := decide_eq_true (by
          apply List.ext_getElem?
          intro j
          rcases Nat.lt_or_ge j as_.length with h | h
          · exact HQ.out j (by omega)
          · rw [List.getElem?_eq_none h, List.getElem?_eq_none (by rw [← Hlen.out]; exact h)])
        go_wp2_with fail
        go_ret
        exact ⟨by rw [Hyes.out] <;> rfl, HB.out⟩
  · have g1 : ((as_.length : Int) != (bs_.length : Int)) = true := by rw [bne_iff_ne]; omega
    have Hno : Hid (decide (as_ = bs_) = false) := decide_eq_false fun h => hlen (congrArg List.length h)
    clear hlen
    go_enter Tryd.func39, Tryd.ntmps39
    go_wp2_with fail
    go_ret
    exact ⟨by rw [Hno.out] <;> rfl, Below.refl _ _⟩

set_option maxRecDepth 100000 in
set_option maxHeartbeats 8000000 in
theorem same_any (a b : Code) (ca cb : List Value) (w : World) (Ha : Hid (CodeS w a ca)) (Hb : Hid (CodeS w b cb)) (La : Hid (CodeL a)) (Lb : Hid (CodeL b)) : Calls Tryd.prog 16 #[.agg ca.toArray, .agg cb.toArray] w (BoolR (sameB a b) w) := by
  obtain ⟨A, c, mc, rfl, h1, h2⟩ := Ha.out
  obtain ⟨B, d, md, rfl, k1, k2⟩ := Hb.out
  have S0 := Lib.hid (S2W.start w (codeV a A c) (codeV b B d))
  have hb0 : Below w.heap.size w ((w.alloc (.cells (codeV a A c) 24)).alloc (.cells (codeV b B d) 24)) := S0.out.below
  have Hcall := Lib.hid (eqFunc_any a.par b.par A B c d mc md _ ((h1.below hb0).more hb0.size) ((k1.below hb0).more hb0.size) (h2.below hb0) (k2.below hb0) La.out.par (fun r hr => La.out.row r hr) (fun r hr => Lb.out.row r hr))
  obtain ⟨an, af, ad, ap, ao⟩ := a
  obtain ⟨bn, bf, bd, bp, bo⟩ := b
  unfold intC
  dsimp only at S0 Hcall ⊢
  obtain ⟨x3, -⟩ := cell_at S0.out.x 3 rfl
  obtain ⟨y3, -⟩ := cell_at S0.out.y 3 rfl
  clear h1 h2 k1 k2 Ha Hb hb0
  by_cases e4 : ap = bp
  · have Hc : Hid (Calls Tryd.prog 39 #[.slice A ap.length c, .slice B bp.length d, .func (.func 40) #[] #[]] ((w.alloc (.cells (codeV ⟨an, af, ad, ap, ao⟩ A c) 24)).alloc (.cells (codeV ⟨bn, bf, bd, bp, bo⟩ B d) 24)) fun e w' => e = .returned (.bool true) ∧ Below ((w.alloc (.cells (codeV ⟨an, af, ad, ap, ao⟩ A c) 24)).alloc (.cells (codeV ⟨bn, bf, bd, bp, bo⟩ B d) 24)).heap.size ((w.alloc (.cells (codeV ⟨an, af, ad, ap, ao⟩ A c) 24)).alloc (.cells (codeV ⟨bn, bf, bd, bp, bo⟩ B d) 24)) w') := by
      have := Hcall.out
      rw [decide_eq_true e4] at this
      exact this
    have He : Hid (sameB ⟨an, af, ad, ap, ao⟩ ⟨bn, bf, bd, bp, bo⟩ = (decide (an = bn) && decide (af = bf) && decide (ad = bd) && decide (ao = bo))) := by show _ = _; unfold sameB; simp [e4]
    clear Hcall e4
    go_enter Tryd.func16, Tryd.ntmps16
    go_wp2_with fail
    refine Hc.out.mono ?_
    rintro e w1 ⟨rfl, hb1⟩
    have S1 : Hid (S2W w (codeV ⟨an, af, ad, ap, ao⟩ A c) (codeV ⟨bn, bf, bd, bp, bo⟩ B d) w1) := ⟨S0.out.below.trans (hb1.mono S0.out.below.size), below_cells S0.out.x hb1, below_cells S0.out.y hb1⟩
    clear hb1 x3 y3 Hc
    obtain ⟨x0, -⟩ := cell_at S1.out.x 0 rfl
    obtain ⟨x1, -⟩ := cell_at S1.out.x 1 rfl
    obtain ⟨x2, -⟩ := cell_at S1.out.x 2 rfl
    obtain ⟨x4, -⟩ := cell_at S1.out.x 4 rfl
    obtain ⟨y0, -⟩ := cell_at S1.out.y 0 rfl
    obtain ⟨y1, -⟩ := cell_at S1.out.y 1 rfl
    obtain ⟨y2, -⟩ := cell_at S1.out.y 2 rfl
    obtain ⟨y4, -⟩ := cell_at S1.out.y 4 rfl
    by_cases e0 : an = bn
    · subst e0
      by_cases e1 : af = bf
      · subst e1
        by_cases e2 : ad = bd
        · subst e2
          by_cases e3 : ao = bo
          · subst e3
            have Hy : Hid (sameB ⟨an, af, ad, ap, ao⟩ ⟨an, af, ad, bp, ao⟩ = true) := by show _ = _; rw [He.out]; simp
            go_wp2_with fail
            go_ret
            exact ⟨by rw [Hy.out] <;> rfl, S1.out.below⟩
          · have f3 : (ao == bo) = false := by rw [beq_eq_false_iff_ne]; exact e3
            have Hy : Hid (sameB ⟨an, af, ad, ap, ao⟩ ⟨an, af, ad, bp, bo⟩ = false) := by show _ = _; rw [He.out]; simp [e3]
            clear e3
            go_wp2_with fail
            go_ret
            exact ⟨by rw [Hy.out] <;> rfl, S1.out.below⟩
        · have f2 : (ad == bd) = false := by rw [beq_eq_false_iff_ne]; exact e2
          have Hy : Hid (sameB ⟨an, af, ad, ap, ao⟩ ⟨an, af, bd, bp, bo⟩ = false) := by show _ = _; rw [He.out]; simp [e2]
          clear e2
          go_wp2_with fail
          go_ret
          exact ⟨by rw [Hy.out] <;> rfl, S1.out.below⟩
      · have f1 : (af == bf) = false := by rw [beq_eq_false_iff_ne]; exact e1
        have Hy : Hid (sameB ⟨an, af, ad, ap, ao⟩ ⟨an, bf, bd, bp, bo⟩ = false) := by show _ = _; rw [He.out]; simp [e1]
        clear e1
        go_wp2_with fail
        go_ret
        exact ⟨by rw [Hy.out] <;> rfl, S1.out.below⟩
    · have f0 : (an == bn) = false := by simpa using e0
      have Hy : Hid (sameB ⟨an, af, ad, ap, ao⟩ ⟨bn, bf, bd, bp, bo⟩ = false) := by show _ = _; rw [He.out]; simp [e0]
      clear e0
      go_wp2_with fail
      go_ret
      exact ⟨by rw [Hy.out] <;> rfl, S1.out.below⟩
  · have Hc : Hid (Calls Tryd.prog 39 #[.slice A ap.length c, .slice B bp.length d, .func (.func 40) #[] #[]] ((w.alloc (.cells (codeV ⟨an, af, ad, ap, ao⟩ A c) 24)).alloc (.cells (codeV ⟨bn, bf, bd, bp, bo⟩ B d) 24)) fun e w' => e = .returned (.bool false) ∧ Below ((w.alloc (.cells (codeV ⟨an, af, ad, ap, ao⟩ A c) 24)).alloc (.cells (codeV ⟨bn, bf, bd, bp, bo⟩ B d) 24)).heap.size ((w.alloc (.cells (codeV ⟨an, af, ad, ap, ao⟩ A c) 24)).alloc (.cells (codeV ⟨bn, bf, bd, bp, bo⟩ B d) 24)) w') := by
      have := Hcall.out
      rw [decide_eq_false e4] at this
      exact this
    have He : Hid (sameB ⟨an, af, ad, ap, ao⟩ ⟨bn, bf, bd, bp, bo⟩ = false) := by show _ = _; unfold sameB; simp [e4]
    clear Hcall e4
    go_enter Tryd.func16, Tryd.ntmps16
    go_wp2_with fail
    refine Hc.out.mono ?_
    rintro e w1 ⟨rfl, hb1⟩
    have S1 : Hid (S2W w (codeV ⟨an, af, ad, ap, ao⟩ A c) (codeV ⟨bn, bf, bd, bp, bo⟩ B d) w1) := ⟨S0.out.below.trans (hb1.mono S0.out.below.size), below_cells S0.out.x hb1, below_cells S0.out.y hb1⟩
    clear hb1 x3 y3 Hc
    go_wp2_with fail
    go_ret
    exact ⟨by rw [He.out] <;> rfl, S1.out.below⟩
end Go.Proofs.YtafgmbchdcfkcaaDoor
