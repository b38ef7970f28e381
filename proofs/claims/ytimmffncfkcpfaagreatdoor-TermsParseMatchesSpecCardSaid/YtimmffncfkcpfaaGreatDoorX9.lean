/-
  The walk of the reference's Same (printed by gen_sameR.py).
-/
import Derived.Test.YtimmffncfkcpfaaGreatDoorX5
namespace Go.Proofs.YtimmffncfkcpfaaGreatDoor
open Go Go.RowKit Go.Walks

theorem S2W.drewQ {w W : World} {u v : Array Value} (h : S2W w u v W) (q : Nat) : S2W w u v (W.drewN q) := ⟨below_drewN h.below q, h.x, h.y⟩

set_option maxRecDepth 100000 in
set_option maxHeartbeats 8000000 in
theorem sameR_any (T U : TermsD) (v u : Value) (w : World) (Hv : Hid (TermsV w T v)) (Hu : Hid (TermsV w U u)) : Calls Tryz.prog 8 #[v, u] w (BoolR (decide (T = U)) w) := by
  obtain ⟨A, c, A', d, rfl, hs1, hs2, hc1, hc2, hc3, hc4⟩ := Hv.out
  obtain ⟨B, c', B', d', rfl, ht1, ht2, hd1, hd2, hd3, hd4⟩ := Hu.out
  obtain ⟨n, hn⟩ : ∃ n, n = T.classes.length := ⟨_, rfl⟩
  obtain ⟨m, hm⟩ : ∃ m, m = T.contracts.length := ⟨_, rfl⟩
  obtain ⟨n', hn'⟩ : ∃ n, n = U.classes.length := ⟨_, rfl⟩
  obtain ⟨m', hm'⟩ : ∃ m, m = U.contracts.length := ⟨_, rfl⟩
  rw [← hn, ← hm, ← hn', ← hm']
  rw [← hn] at hc1
  rw [← hm] at hc2
  have Hn := Lib.hid hn
  have Hm := Lib.hid hm
  have Hn' := Lib.hid hn'
  have Hm' := Lib.hid hm'
  have Hs1 := Lib.hid hs1
  have Hs2 := Lib.hid hs2
  have Ht1 := Lib.hid ht1
  have Ht2 := Lib.hid ht2
  have S0 := Lib.hid (S2W.start w #[.slice A n c, .slice A' m d] #[.slice B n' c', .slice B' m' d'])
  unfold maxLen at hc3 hc4
  clear hs1 hs2 ht1 ht2 hd1 hd2 hd3 hd4 Hv Hu hn hm hn' hm'
  obtain ⟨x0, x1, -⟩ := two_cells S0.out.x
  obtain ⟨y0, y1, -⟩ := two_cells S0.out.y
  by_cases hnn : n = n'
  case neg =>
    have hi : ((n : Int) != (n' : Int)) = true := by rw [bne_iff_ne]; omega
    have Hno : Hid (decide (T = U) = false) := decide_eq_false fun h => hnn (by have := Hn.out; have := Hn'.out; rw [h] at *; omega)
    clear hnn
    go_enter Tryz.func8, Tryz.ntmps8
    go_wp2_with fail
    go_ret
    exact ⟨by rw [Hno.out] <;> rfl, S0.out.below⟩
  subst hnn
  by_cases hmm : m = m'
  case neg =>
    have hi : ((m : Int) != (m' : Int)) = true := by rw [bne_iff_ne]; omega
    have Hno : Hid (decide (T = U) = false) := decide_eq_false fun h => hmm (by have := Hm.out; have := Hm'.out; rw [h] at *; omega)
    clear hmm
    go_enter Tryz.func8, Tryz.ntmps8
    go_wp2_with fail
    go_ret
    exact ⟨by rw [Hno.out] <;> rfl, S0.out.below⟩
  subst hmm
  go_enter Tryz.func8, Tryz.ntmps8
  go_wp2_with fail
  clear x0 x1 y0 y1
  go_loopg [5] n (fun g s wr => ∃ k : Nat, s = .int .i64 (k : Int) ∧ g = n - k ∧ k ≤ n ∧ Hid (S2W w #[.slice A n c, .slice A' m d] #[.slice B n c', .slice B' m d'] wr) ∧ Hid (∀ j, j < k → T.classes[j]? = U.classes[j]?))
  case atStart => exact ⟨0, rfl, rfl, Nat.zero_le _, S0.out, fun j h => absurd h (by omega)⟩
  case round =>
    obtain ⟨k, rfl, hg, hkk, HSk, HQk⟩ := hrel
    have Hgk := Lib.hid hg
    clear hg
    obtain ⟨p0, p1, -⟩ := two_cells HSk.out.x
    obtain ⟨q0, q1, -⟩ := two_cells HSk.out.y
    by_cases hlt : k < n
    · have hI1 : (0 : Int) ≤ (k : Int) := by omega
      have hI2 : (k : Int) < (n : Int) := by omega
      obtain ⟨x, hx⟩ : ∃ x, T.classes[k]? = some x := ⟨_, List.getElem?_eq_getElem (by have := Hn.out; omega)⟩
      obtain ⟨y, hy⟩ : ∃ y, U.classes[k]? = some y := ⟨_, List.getElem?_eq_getElem (by have := Hn'.out; omega)⟩
      obtain ⟨b1, o1, hA, hb1, ck⟩ := sl_at cls_len Hs1.out hx (by omega)
      obtain ⟨b2, o2, hB, hb2, cm⟩ := sl_at cls_len Ht1.out hy (by omega)
      subst hA; subst hB
      have k0 := (HSk.out.below.cell (p := ⟨b1, o1 + (k * 4 + 0), none⟩) hb1).trans (ck 0 _ rfl)
      have k1 := (HSk.out.below.cell (p := ⟨b1, o1 + (k * 4 + 1), none⟩) hb1).trans (ck 1 _ rfl)
      have k2 := (HSk.out.below.cell (p := ⟨b1, o1 + (k * 4 + 2), none⟩) hb1).trans (ck 2 _ rfl)
      have k3 := (HSk.out.below.cell (p := ⟨b1, o1 + (k * 4 + 3), none⟩) hb1).trans (ck 3 _ rfl)
      rw [Nat.add_zero] at k0
      rw [← Nat.add_assoc] at k1 k2 k3
      have m0 := (HSk.out.below.cell (p := ⟨b2, o2 + (k * 4 + 0), none⟩) hb2).trans (cm 0 _ rfl)
      have m1 := (HSk.out.below.cell (p := ⟨b2, o2 + (k * 4 + 1), none⟩) hb2).trans (cm 1 _ rfl)
      have m2 := (HSk.out.below.cell (p := ⟨b2, o2 + (k * 4 + 2), none⟩) hb2).trans (cm 2 _ rfl)
      have m3 := (HSk.out.below.cell (p := ⟨b2, o2 + (k * 4 + 3), none⟩) hb2).trans (cm 3 _ rfl)
      rw [Nat.add_zero] at m0
      rw [← Nat.add_assoc] at m1 m2 m3
      have Hx := Lib.hid hx
      have Hy := Lib.hid hy
      have hneq := fun W => neq45 x y W
      clear hx hy
      obtain ⟨x0, x1, x2, x3⟩ := x
      obtain ⟨y0, y1, y2, y3⟩ := y
      unfold clsCs at hneq
      dsimp only at k0 k1 k2 k3 m0 m1 m2 m3 hneq
      clear ck cm
      by_cases hxy : (⟨x0, x1, x2, x3⟩ : ClassD) = ⟨y0, y1, y2, y3⟩
      · have HQ3 : Hid (∀ j, j < k + 1 → T.classes[j]? = U.classes[j]?) := by
          intro j hj
          rcases Nat.lt_or_ge j k with h | h
          · exact HQk.out j h
          · have : j = k := by omega
            subst this
            rw [Hx.out, Hy.out, hxy]
        rw [decide_eq_true hxy] at hneq
        clear hxy
        go_upto_region 6 with fail
        go_quiet (fail)
        go_wp2_with fail
        go_roundg (n - (k + 1))
        case measure => rw [Hgk.out]; omega
        case rel => exact ⟨k + 1, by go_num, rfl, by omega, HSk.out.drewQ _, HQ3.out⟩
      · have Hno : Hid (decide (T = U) = false) := decide_eq_false fun h => by
          have h1 := Hx.out
          rw [h, Hy.out] at h1
          injection h1 with h1
          exact hxy h1.symm
        rw [decide_eq_false hxy] at hneq
        clear hxy
        go_upto_region 6 with fail
        go_quiet (fail)
        go_wp2_with fail
        go_ret
        exact ⟨by rw [Hno.out] <;> rfl, (HSk.out.drewQ _).below⟩
    · have hke : ¬ (k : Int) < (n : Int) := by omega
      have HEk : Hid (T.classes = U.classes) := by
        apply List.ext_getElem?
        intro j
        have e1 := Hn.out
        have e2 := Hn'.out
        rcases Nat.lt_or_ge j n with h | h
        · exact HQk.out j (by omega)
        · rw [List.getElem?_eq_none (by omega), List.getElem?_eq_none (by omega)]
      go_wp2_with fail
      clear p0 p1 q0 q1
      go_loopg [6] m (fun g s wr => ∃ i : Nat, s = .int .i64 (i : Int) ∧ g = m - i ∧ i ≤ m ∧ Hid (S2W w #[.slice A n c, .slice A' m d] #[.slice B n c', .slice B' m d'] wr) ∧ Hid (∀ j, j < i → T.contracts[j]? = U.contracts[j]?))
      case atStart => exact ⟨0, rfl, rfl, Nat.zero_le _, HSk.out, fun j h => absurd h (by omega)⟩
      case round =>
        obtain ⟨i, rfl, hg, hki, HSi, HQi⟩ := hrel
        have Hgi := Lib.hid hg
        clear hg
        obtain ⟨p0, p1, -⟩ := two_cells HSi.out.x
        obtain ⟨q0, q1, -⟩ := two_cells HSi.out.y
        by_cases hlt : i < m
        · have hI1 : (0 : Int) ≤ (i : Int) := by omega
          have hI2 : (i : Int) < (m : Int) := by omega
          obtain ⟨x, hx⟩ : ∃ x, T.contracts[i]? = some x := ⟨_, List.getElem?_eq_getElem (by have := Hm.out; omega)⟩
          obtain ⟨y, hy⟩ : ∃ y, U.contracts[i]? = some y := ⟨_, List.getElem?_eq_getElem (by have := Hm'.out; omega)⟩
          obtain ⟨b1, o1, hA, hb1, ck⟩ := sl_at ctr_len Hs2.out hx (by omega)
          obtain ⟨b2, o2, hB, hb2, cm⟩ := sl_at ctr_len Ht2.out hy (by omega)
          subst hA; subst hB
          have k0 := (HSi.out.below.cell (p := ⟨b1, o1 + (i * 6 + 0), none⟩) hb1).trans (ck 0 _ rfl)
          have k1 := (HSi.out.below.cell (p := ⟨b1, o1 + (i * 6 + 1), none⟩) hb1).trans (ck 1 _ rfl)
          have k2 := (HSi.out.below.cell (p := ⟨b1, o1 + (i * 6 + 2), none⟩) hb1).trans (ck 2 _ rfl)
          have k3 := (HSi.out.below.cell (p := ⟨b1, o1 + (i * 6 + 3), none⟩) hb1).trans (ck 3 _ rfl)
          have k4 := (HSi.out.below.cell (p := ⟨b1, o1 + (i * 6 + 4), none⟩) hb1).trans (ck 4 _ rfl)
          have k5 := (HSi.out.below.cell (p := ⟨b1, o1 + (i * 6 + 5), none⟩) hb1).trans (ck 5 _ rfl)
          rw [Nat.add_zero] at k0
          rw [← Nat.add_assoc] at k1 k2 k3 k4 k5
          have m0 := (HSi.out.below.cell (p := ⟨b2, o2 + (i * 6 + 0), none⟩) hb2).trans (cm 0 _ rfl)
          have m1 := (HSi.out.below.cell (p := ⟨b2, o2 + (i * 6 + 1), none⟩) hb2).trans (cm 1 _ rfl)
          have m2 := (HSi.out.below.cell (p := ⟨b2, o2 + (i * 6 + 2), none⟩) hb2).trans (cm 2 _ rfl)
          have m3 := (HSi.out.below.cell (p := ⟨b2, o2 + (i * 6 + 3), none⟩) hb2).trans (cm 3 _ rfl)
          have m4 := (HSi.out.below.cell (p := ⟨b2, o2 + (i * 6 + 4), none⟩) hb2).trans (cm 4 _ rfl)
          have m5 := (HSi.out.below.cell (p := ⟨b2, o2 + (i * 6 + 5), none⟩) hb2).trans (cm 5 _ rfl)
          rw [Nat.add_zero] at m0
          rw [← Nat.add_assoc] at m1 m2 m3 m4 m5
          have Hx := Lib.hid hx
          have Hy := Lib.hid hy
          have hneq := fun W => neq43 x y W
          clear hx hy
          obtain ⟨x0, x1, x2, x3, x4, x5⟩ := x
          obtain ⟨y0, y1, y2, y3, y4, y5⟩ := y
          unfold ctrCs at hneq
          dsimp only at k0 k1 k2 k3 k4 k5 m0 m1 m2 m3 m4 m5 hneq
          clear ck cm
          by_cases hxy : (⟨x0, x1, x2, x3, x4, x5⟩ : ContrD) = ⟨y0, y1, y2, y3, y4, y5⟩
          · have HQ3 : Hid (∀ j, j < i + 1 → T.contracts[j]? = U.contracts[j]?) := by
              intro j hj
              rcases Nat.lt_or_ge j i with h | h
              · exact HQi.out j h
              · have : j = i := by omega
                subst this
                rw [Hx.out, Hy.out, hxy]
            rw [decide_eq_true hxy] at hneq
            clear hxy
            go_upto_region 11 with fail
            go_quiet (fail)
            go_wp2_with fail
            go_roundg (m - (i + 1))
            case measure => rw [Hgi.out]; omega
            case rel => exact ⟨i + 1, by go_num, rfl, by omega, HSi.out.drewQ _, HQ3.out⟩
          · have Hno : Hid (decide (T = U) = false) := decide_eq_false fun h => by
              have h1 := Hx.out
              rw [h, Hy.out] at h1
              injection h1 with h1
              exact hxy h1.symm
            rw [decide_eq_false hxy] at hneq
            clear hxy
            go_upto_region 11 with fail
            go_quiet (fail)
            go_wp2_with fail
            go_ret
            exact ⟨by rw [Hno.out] <;> rfl, (HSi.out.drewQ _).below⟩
        · have hke : ¬ (i : Int) < (m : Int) := by omega
          have HEi : Hid (T.contracts = U.contracts) := by
            apply List.ext_getElem?
            intro j
            have e1 := Hm.out
            have e2 := Hm'.out
            rcases Nat.lt_or_ge j m with h | h
            · exact HQi.out j (by omega)
            · rw [List.getElem?_eq_none (by omega), List.getElem?_eq_none (by omega)]
          go_wp2_with fail
          have Hyes : Hid (decide (T = U) = true) := decide_eq_true (by
            have h1 := HEk.out
            have h2 := HEi.out
            cases T; cases U
            dsimp only at h1 h2
            rw [h1, h2])
          go_ret
          exact ⟨by rw [Hyes.out] <;> rfl, HSi.out.below⟩
end Go.Proofs.YtimmffncfkcpfaaGreatDoor
