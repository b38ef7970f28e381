/-
  The walk of the reference's Check (printed by gen_checkR.py).
-/
import Derived.Test.YtimmffncfkcpfaaDoorY2
import Derived.Test.YtimmffncfkcpfaaDoorV2
namespace Go.Proofs.YtimmffncfkcpfaaDoor
open Go Go.RowKit Go.Walks

theorem clsNum_no {ls wh : Int} : clsNum ls wh = false ↔ permB kLosses ls = false ∨ permB kWhole wh = false := by
  have e1 : permB kLosses ls = decide (0 ≤ ls ∧ ls ≤ 4) := by rw [Bool.eq_iff_iff, perm_losses, decide_eq_true_eq]
  have e2 : permB kWhole wh = decide (1 ≤ wh ∧ wh ≤ 1048576) := by rw [Bool.eq_iff_iff, perm_whole, decide_eq_true_eq]
  unfold clsNum
  rw [← e1, ← e2, Bool.and_eq_false_iff]
theorem ctrNum_no {gu sn bu rk : Int} : ctrNum gu sn bu rk = false ↔ permB kGuar gu = false ∨ permB kSnap sn = false ∨ permB kBurst bu = false ∨ permB kRank rk = false ∨ (bu = 0 ∧ rk ≠ 0) := by
  have e1 : permB kGuar gu = decide (0 ≤ gu ∧ gu ≤ 1048576) := by rw [Bool.eq_iff_iff, perm_guar, decide_eq_true_eq]
  have e2 : permB kSnap sn = decide (0 ≤ sn ∧ sn ≤ 1048576) := by rw [Bool.eq_iff_iff, perm_snap, decide_eq_true_eq]
  have e3 : permB kBurst bu = decide (0 ≤ bu ∧ bu ≤ 1048576) := by rw [Bool.eq_iff_iff, perm_burst, decide_eq_true_eq]
  have e4 : permB kRank rk = decide (0 ≤ rk ∧ rk ≤ 9) := by rw [Bool.eq_iff_iff, perm_rank, decide_eq_true_eq]
  unfold ctrNum
  rw [← e1, ← e2, ← e3, ← e4]
  simp only [Bool.and_eq_false_iff, Bool.or_eq_false_iff, decide_eq_false_iff_not, or_assoc]
  constructor
  · rintro (h | h | h | h | h)
    · exact .inl h
    · exact .inr (.inl h)
    · exact .inr (.inr (.inl h))
    · exact .inr (.inr (.inr (.inl h)))
    · cases hb : permB kBurst bu with
      | false => exact .inr (.inr (.inl rfl))
      | true =>
        have := perm_burst.1 hb
        exact .inr (.inr (.inr (.inr ⟨by omega, h.2⟩)))
  · rintro (h | h | h | h | h)
    · exact .inl h
    · exact .inr (.inl h)
    · exact .inr (.inr (.inl h))
    · exact .inr (.inr (.inr (.inl h)))
    · exact .inr (.inr (.inr (.inr ⟨by omega, h.2⟩)))

set_option maxRecDepth 100000 in
set_option maxHeartbeats 16000000 in
theorem checkR_any (T : TermsD) (v : Value) (w : World) (Hv : Hid (TermsV w T v)) (Hf : Hid (Fits T)) : Calls Tryd.prog 10 #[v] w (CheckR (checkB T) w) := by
  obtain ⟨A, c, A', d, hve, hs1, hs2, hc1, hc2, hc3, hc4⟩ := Hv.out
  subst hve
  obtain ⟨n, hn⟩ : ∃ n, n = T.classes.length := ⟨_, rfl⟩
  obtain ⟨m, hm⟩ : ∃ m, m = T.contracts.length := ⟨_, rfl⟩
  rw [← hn] at hc1 Hv ⊢
  rw [← hm] at hc2 Hv ⊢
  have Hn := Lib.hid hn
  have Hm := Lib.hid hm
  have Hs1 := Lib.hid hs1
  have Hs2 := Lib.hid hs2
  have HB0 : Hid (Below w.heap.size w (w.alloc (.cells #[.slice A n c, .slice A' m d] 25))) := (Below.refl _ _).alloc (Nat.le_refl _) _
  have HX0 := Lib.hid (heap_new w (.cells #[.slice A n c, .slice A' m d] 25))
  obtain ⟨x0, -⟩ := cell_at HX0.out 0 (u := .slice A n c) rfl
  unfold maxLen at hc3 hc4
  clear hs1 hs2 hn hm
  go_enter Tryd.func10, Tryd.ntmps10
  go_wp2_with fail
  go_loopg [4] n (fun g s4 wr => ∃ k : Nat, s4 = .int .i64 (k : Int) ∧ g = n - k ∧ k ≤ n ∧ Hid (Below w.heap.size w wr) ∧ Hid (wr.heap[w.heap.size]? = some (.cells #[.slice A n c, .slice A' m d] 25)) ∧ Hid (∀ (j : Nat) (C : ClassD), j < k → T.classes[j]? = some C → clsErr T.classes j C = 0))
  case atStart => exact ⟨0, rfl, rfl, Nat.zero_le _, HB0.out, HX0.out, fun j C h => absurd h (by omega)⟩
  case round =>
    obtain ⟨k, rfl, hg, hk, HB, HX, HQ⟩ := hrel
    have Hgg := Lib.hid hg
    clear hg x0 HB0 HX0
    obtain ⟨x0, x1, -⟩ := two_cells HX.out
    by_cases hlt : k < n
    · have hI1 : (0 : Int) ≤ (k : Int) := by omega
      have hI2 : (k : Int) < (n : Int) := by omega
      obtain ⟨C, hC⟩ : ∃ x, T.classes[k]? = some x := ⟨_, List.getElem?_eq_getElem (by have := Hn.out; omega)⟩
      obtain ⟨b, o, hA, hb, hcells⟩ := sl_at cls_len Hs1.out hC (by omega)
      subst hA
      have k0 := (HB.out.cell (p := ⟨b, o + (k * 4 + 0), none⟩) hb).trans (hcells 0 _ rfl)
      have k1 := (HB.out.cell (p := ⟨b, o + (k * 4 + 1), none⟩) hb).trans (hcells 1 _ rfl)
      have k2 := (HB.out.cell (p := ⟨b, o + (k * 4 + 2), none⟩) hb).trans (hcells 2 _ rfl)
      have k3 := (HB.out.cell (p := ⟨b, o + (k * 4 + 3), none⟩) hb).trans (hcells 3 _ rfl)
      rw [Nat.add_zero] at k0
      rw [← Nat.add_assoc] at k1 k2 k3
      have HS : Hid (CK w #[.slice (some ⟨b, o, none⟩) n c, .slice A' m d] wr.heap.size (clsCs C) 45 (wr.alloc (.cells (clsCs C).toArray 45))) := ⟨HB.out.alloc HB.out.size _, below_cells HX.out ((Below.refl _ _).alloc (Nat.le_refl _) _), heap_new _ _⟩
      have HC := Lib.hid hC
      have Hfit := Lib.hid (Hf.out.cls C (List.mem_of_getElem? hC))
      clear hcells hC
      obtain ⟨nm, cd, ls, wh⟩ := C
      unfold clsCs at HS
      dsimp only at HS Hfit k0 k1 k2 k3
      by_cases h8 : 8 ≤ k
      · have hI3 : (8 : Int) ≤ (k : Int) := by omega
        have HE : Hid (checkB T = (k, 2)) := by
          have hne : clsErr T.classes (0 + k) ⟨nm, cd, ls, wh⟩ = 2 := by unfold clsErr; rw [Nat.zero_add, if_pos h8]
          show _ = _
          unfold checkB
          rw [badFrom_skip (k := k) (fun j y hj hy => by rw [Nat.zero_add]; exact HQ.out j y hj hy) HC.out (by rw [hne]; decide), hne, Nat.zero_add]
        go_wp2_with fail
        go_ret2
        exact ⟨by rw [HE.out] <;> rfl, HS.out.below⟩
      · have hI3 : ¬ (8 : Int) ≤ (k : Int) := by omega
        have HNA : Hid (∀ (l : Bytes) W, l.length ≤ 140737488355328 → Calls Tryd.prog 24 #[.string ⟨l.toArray⟩] W (BoolR (nameB l) W)) := fun l W h => (rname_any l W (by unfold maxLen; omega)).mono fun e w' h => ⟨h.1, by rw [h.2]; exact Below.refl _ _⟩
        have HCN : Hid (∀ W, Calls Tryd.prog 26 #[.agg #[.string ⟨nm.toArray⟩, .string ⟨cd.toArray⟩, .int .i64 ls, .int .i64 wh]] W (BoolR (clsNum ls wh) W)) := fun W => clsNums_any nm cd ls wh W
        have HDU : Hid (∀ W, CK w #[.slice (some ⟨b, o, none⟩) n c, .slice A' m d] wr.heap.size [.string ⟨nm.toArray⟩, .string ⟨cd.toArray⟩, .int .i64 ls, .int .i64 wh] 45 W → Calls Tryd.prog 25 #[.agg #[.slice (some ⟨b, o, none⟩) n c, .slice A' m d], .int .i64 (k : Int), .string ⟨nm.toArray⟩] W (BoolR (decide (nm ∈ (T.classes.take k).map ClassD.name)) W)) := fun W hW => has25_any T _ nm k W (Hv.out.below hW.below) (by have := Hn.out; omega)
        obtain ⟨y0, y1, y2, y3, -⟩ := four_cells HS.out.x5; obtain ⟨z0, z1, -⟩ := two_cells HS.out.x1
        have HBAD : Hid (∀ e : Nat, clsErr T.classes k ⟨nm, cd, ls, wh⟩ = e → e ≠ 0 → checkB T = (k, e)) := fun e he hne => by
          unfold checkB
          rw [badFrom_skip (k := k) (fun j y hj hy => by rw [Nat.zero_add]; exact HQ.out j y hj hy) HC.out (by rw [Nat.zero_add, he]; exact hne), Nat.zero_add, he]
        cases hc1 : nameB nm with
        | false =>
          have HE : Hid (checkB T = (k, 4)) := HBAD.out 4 (by unfold clsErr; rw [if_neg h8, if_pos (.inl hc1)]) (by decide)
          have HV1 := Lib.hid hc1
          clear hc1
          go_wp2_with (first | (go_at_call 24; refine (HNA.out _ _ (by first | exact Hfit.out.1 | exact Hfit.out.2)).mono ?_; rw [HV1.out]; rintro e w1 ⟨rfl, hb1⟩; have S1 := Lib.hid (HS.out.call hb1); obtain ⟨y10, y11, y12, y13, -⟩ := four_cells S1.out.x5; obtain ⟨z10, z11, -⟩ := two_cells S1.out.x1; clear hb1))
          go_ret2
          exact ⟨by rw [HE.out] <;> rfl, S1.out.below⟩
        | true =>
          have HV1 := Lib.hid hc1
          clear hc1
          cases hc2 : nameB cd with
          | false =>
            have HE : Hid (checkB T = (k, 4)) := HBAD.out 4 (by unfold clsErr; rw [if_neg h8, if_pos (.inr (.inl hc2))]) (by decide)
            have HV2 := Lib.hid hc2
            clear hc2
            go_wp2_with (first | (go_at_call 24; refine (HNA.out _ _ (by first | exact Hfit.out.1 | exact Hfit.out.2)).mono ?_; rw [HV1.out]; rintro e w1 ⟨rfl, hb1⟩; have S1 := Lib.hid (HS.out.call hb1); obtain ⟨y10, y11, y12, y13, -⟩ := four_cells S1.out.x5; obtain ⟨z10, z11, -⟩ := two_cells S1.out.x1; clear hb1) | (go_at_call 24; refine (HNA.out _ _ (by first | exact Hfit.out.1 | exact Hfit.out.2)).mono ?_; rw [HV2.out]; rintro e w2 ⟨rfl, hb2⟩; have S2 := Lib.hid (S1.out.call hb2); obtain ⟨y20, y21, y22, y23, -⟩ := four_cells S2.out.x5; obtain ⟨z20, z21, -⟩ := two_cells S2.out.x1; clear hb2))
            go_ret2
            exact ⟨by rw [HE.out] <;> rfl, S2.out.below⟩
          | true =>
            have HV2 := Lib.hid hc2
            clear hc2
            cases hc3 : decide (nm ∈ (T.classes.take k).map ClassD.name) with
            | true =>
              have HE : Hid (checkB T = (k, 4)) := HBAD.out 4 (by unfold clsErr; rw [if_neg h8, if_pos (.inr (.inr (of_decide_eq_true hc3)))]) (by decide)
              have HV3 := Lib.hid hc3
              clear hc3
              go_wp2_with (first | (go_at_call 24; refine (HNA.out _ _ (by first | exact Hfit.out.1 | exact Hfit.out.2)).mono ?_; rw [HV1.out]; rintro e w1 ⟨rfl, hb1⟩; have S1 := Lib.hid (HS.out.call hb1); obtain ⟨y10, y11, y12, y13, -⟩ := four_cells S1.out.x5; obtain ⟨z10, z11, -⟩ := two_cells S1.out.x1; clear hb1) | (go_at_call 24; refine (HNA.out _ _ (by first | exact Hfit.out.1 | exact Hfit.out.2)).mono ?_; rw [HV2.out]; rintro e w2 ⟨rfl, hb2⟩; have S2 := Lib.hid (S1.out.call hb2); obtain ⟨y20, y21, y22, y23, -⟩ := four_cells S2.out.x5; obtain ⟨z20, z21, -⟩ := two_cells S2.out.x1; clear hb2) | (go_at_call 25; refine (HDU.out _ S2.out).mono ?_; rw [HV3.out]; rintro e w3 ⟨rfl, hb3⟩; have S3 := Lib.hid (S2.out.call hb3); obtain ⟨y30, y31, y32, y33, -⟩ := four_cells S3.out.x5; obtain ⟨z30, z31, -⟩ := two_cells S3.out.x1; clear hb3))
              go_ret2
              exact ⟨by rw [HE.out] <;> rfl, S3.out.below⟩
            | false =>
              have HV3 := Lib.hid hc3
              clear hc3
              cases hc4 : clsNum ls wh with
              | false =>
                have HE : Hid (checkB T = (k, 1)) := HBAD.out 1 (by unfold clsErr; rw [if_neg h8, if_neg (by rintro (h | h | h); rw [HV1.out] at h; cases h; rw [HV2.out] at h; cases h; exact of_decide_eq_false HV3.out h), if_pos (clsNum_no.1 hc4)]) (by decide)
                have HV4 := Lib.hid hc4
                clear hc4
                go_wp2_with (first | (go_at_call 24; refine (HNA.out _ _ (by first | exact Hfit.out.1 | exact Hfit.out.2)).mono ?_; rw [HV1.out]; rintro e w1 ⟨rfl, hb1⟩; have S1 := Lib.hid (HS.out.call hb1); obtain ⟨y10, y11, y12, y13, -⟩ := four_cells S1.out.x5; obtain ⟨z10, z11, -⟩ := two_cells S1.out.x1; clear hb1) | (go_at_call 24; refine (HNA.out _ _ (by first | exact Hfit.out.1 | exact Hfit.out.2)).mono ?_; rw [HV2.out]; rintro e w2 ⟨rfl, hb2⟩; have S2 := Lib.hid (S1.out.call hb2); obtain ⟨y20, y21, y22, y23, -⟩ := four_cells S2.out.x5; obtain ⟨z20, z21, -⟩ := two_cells S2.out.x1; clear hb2) | (go_at_call 25; refine (HDU.out _ S2.out).mono ?_; rw [HV3.out]; rintro e w3 ⟨rfl, hb3⟩; have S3 := Lib.hid (S2.out.call hb3); obtain ⟨y30, y31, y32, y33, -⟩ := four_cells S3.out.x5; obtain ⟨z30, z31, -⟩ := two_cells S3.out.x1; clear hb3) | (go_at_call 26; refine (HCN.out _).mono ?_; rw [HV4.out]; rintro e w4 ⟨rfl, hb4⟩; have S4 := Lib.hid (S3.out.call hb4); obtain ⟨y40, y41, y42, y43, -⟩ := four_cells S4.out.x5; obtain ⟨z40, z41, -⟩ := two_cells S4.out.x1; clear hb4))
                go_ret2
                exact ⟨by rw [HE.out] <;> rfl, S4.out.below⟩
              | true =>
                have HV4 := Lib.hid hc4
                clear hc4
                have HQ2 : Hid (∀ (j : Nat) (C : ClassD), j < k + 1 → T.classes[j]? = some C → clsErr T.classes j C = 0) := fun j C hj hC => by
                  rcases Nat.lt_or_ge j k with h | h
                  · exact HQ.out j C h hC
                  · obtain rfl : j = k := by omega
                    rw [HC.out] at hC
                    injection hC with hC
                    subst hC
                    unfold clsErr
                    rw [if_neg h8, if_neg (by rintro (h | h | h); rw [HV1.out] at h; cases h; rw [HV2.out] at h; cases h; exact of_decide_eq_false HV3.out h), if_neg (fun h => absurd (HV4.out.symm.trans (clsNum_no.2 h)) (by decide))]
                go_wp2_with (first | (go_at_call 24; refine (HNA.out _ _ (by first | exact Hfit.out.1 | exact Hfit.out.2)).mono ?_; rw [HV1.out]; rintro e w1 ⟨rfl, hb1⟩; have S1 := Lib.hid (HS.out.call hb1); obtain ⟨y10, y11, y12, y13, -⟩ := four_cells S1.out.x5; obtain ⟨z10, z11, -⟩ := two_cells S1.out.x1; clear hb1) | (go_at_call 24; refine (HNA.out _ _ (by first | exact Hfit.out.1 | exact Hfit.out.2)).mono ?_; rw [HV2.out]; rintro e w2 ⟨rfl, hb2⟩; have S2 := Lib.hid (S1.out.call hb2); obtain ⟨y20, y21, y22, y23, -⟩ := four_cells S2.out.x5; obtain ⟨z20, z21, -⟩ := two_cells S2.out.x1; clear hb2) | (go_at_call 25; refine (HDU.out _ S2.out).mono ?_; rw [HV3.out]; rintro e w3 ⟨rfl, hb3⟩; have S3 := Lib.hid (S2.out.call hb3); obtain ⟨y30, y31, y32, y33, -⟩ := four_cells S3.out.x5; obtain ⟨z30, z31, -⟩ := two_cells S3.out.x1; clear hb3) | (go_at_call 26; refine (HCN.out _).mono ?_; rw [HV4.out]; rintro e w4 ⟨rfl, hb4⟩; have S4 := Lib.hid (S3.out.call hb4); obtain ⟨y40, y41, y42, y43, -⟩ := four_cells S4.out.x5; obtain ⟨z40, z41, -⟩ := two_cells S4.out.x1; clear hb4))
                go_roundg (n - (k + 1))
                case measure => rw [Hgg.out]; omega
                case rel => exact ⟨k + 1, by go_num, rfl, by omega, S4.out.below, S4.out.x1, HQ2.out⟩
    · have hkn : k = n := by omega
      subst hkn
      have hI3 : ¬ (k : Int) < (k : Int) := by omega
      have HC1 : Hid (badFrom (clsErr T.classes) 0 T.classes = none) := badFrom_none.2 fun j C hj => by
        rw [Nat.zero_add]
        exact HQ.out j C (by have := (List.getElem?_eq_some_iff.1 hj).1; have := Hn.out; omega) hj
      have HCB : Hid (checkB T = ctrB T) := by show _ = _; unfold checkB; rw [HC1.out]
      have hk8 : k ≤ 8 := by
        rcases Nat.lt_or_ge 8 k with h | h
        · have hl : 8 < T.classes.length := by have := Hn.out; omega
          have h1 := HQ.out 8 T.classes[8] (by omega) (List.getElem?_eq_getElem (by have := Hn.out; omega))
          unfold clsErr at h1
          rw [if_pos (by omega)] at h1
          cases h1
        · exact h
      clear HQ
      go_wp2_with fail
      clear x0 x1
      go_loopg [7] m (fun g s7 wr => ∃ j : Nat, s7 = .int .i64 (j : Int) ∧ g = m - j ∧ j ≤ m ∧ Hid (Below w.heap.size w wr) ∧ Hid (wr.heap[w.heap.size]? = some (.cells #[.slice A k c, .slice A' m d] 25)) ∧ Hid (∀ (i : Nat) (D : ContrD), i < j → T.contracts[i]? = some D → ctrErr T.classes T.contracts i D = 0))
      case atStart => exact ⟨0, rfl, rfl, Nat.zero_le _, HB.out, HX.out, fun i D h => absurd h (by omega)⟩
      case round =>
        obtain ⟨j, rfl, hg2, hj, HB2, HX2, HQ⟩ := hrel
        have Hg2 := Lib.hid hg2
        clear hg2
        obtain ⟨x0, x1, -⟩ := two_cells HX2.out
        by_cases hlt2 : j < m
        · have hJ1 : (0 : Int) ≤ (j : Int) := by omega
          have hJ2 : (j : Int) < (m : Int) := by omega
          obtain ⟨D, hD⟩ : ∃ x, T.contracts[j]? = some x := ⟨_, List.getElem?_eq_getElem (by have := Hm.out; omega)⟩
          obtain ⟨b, o, hA, hb, hcells⟩ := sl_at ctr_len Hs2.out hD (by omega)
          subst hA
          have k0 := (HB2.out.cell (p := ⟨b, o + (j * 6 + 0), none⟩) hb).trans (hcells 0 _ rfl)
          have k1 := (HB2.out.cell (p := ⟨b, o + (j * 6 + 1), none⟩) hb).trans (hcells 1 _ rfl)
          have k2 := (HB2.out.cell (p := ⟨b, o + (j * 6 + 2), none⟩) hb).trans (hcells 2 _ rfl)
          have k3 := (HB2.out.cell (p := ⟨b, o + (j * 6 + 3), none⟩) hb).trans (hcells 3 _ rfl)
          have k4 := (HB2.out.cell (p := ⟨b, o + (j * 6 + 4), none⟩) hb).trans (hcells 4 _ rfl)
          have k5 := (HB2.out.cell (p := ⟨b, o + (j * 6 + 5), none⟩) hb).trans (hcells 5 _ rfl)
          rw [Nat.add_zero] at k0
          rw [← Nat.add_assoc] at k1 k2 k3 k4 k5
          have HS : Hid (CK w #[.slice A k c, .slice (some ⟨b, o, none⟩) m d] wr.heap.size (ctrCs D) 43 (wr.alloc (.cells (ctrCs D).toArray 43))) := ⟨HB2.out.alloc HB2.out.size _, below_cells HX2.out ((Below.refl _ _).alloc (Nat.le_refl _) _), heap_new _ _⟩
          have HD := Lib.hid hD
          have Hfit := Lib.hid (Hf.out.ctr D (List.mem_of_getElem? hD))
          clear hcells hD
          obtain ⟨tn, gu, sn, bu, rk, cl⟩ := D
          unfold ctrCs at HS
          dsimp only at HS Hfit k0 k1 k2 k3 k4 k5
          have hj16 : j ≤ 16 := by
            rcases Nat.lt_or_ge 16 j with h | h
            · have hl : 16 < T.contracts.length := by have := Hm.out; omega
              have h1 := HQ.out 16 T.contracts[16] (by omega) (List.getElem?_eq_getElem (by have := Hm.out; omega))
              unfold ctrErr at h1
              rw [if_pos (by omega)] at h1
              cases h1
            · exact h
          have hwr : wrap64 ((k : Int) + (j : Int)) = ((k + j : Nat) : Int) := by rw [Int.natCast_add, IntWalk.wrap64_in _ (by omega)]
          have HBAD : Hid (∀ e : Nat, ctrErr T.classes T.contracts j ⟨tn, gu, sn, bu, rk, cl⟩ = e → e ≠ 0 → checkB T = (k + j, e)) := fun e he hne => by
            rw [HCB.out]
            unfold ctrB
            rw [badFrom_skip (k := j) (fun i y hi hy => by rw [Nat.zero_add]; exact HQ.out i y hi hy) HD.out (by rw [Nat.zero_add, he]; exact hne), Nat.zero_add, he, ← Hn.out]
          by_cases h16 : 16 ≤ j
          · have hJ3 : (16 : Int) ≤ (j : Int) := by omega
            have HE : Hid (checkB T = (k + j, 2)) := HBAD.out 2 (by unfold ctrErr; rw [if_pos h16]) (by decide)
            go_wp2_with fail
            go_ret2
            exact ⟨by rw [HE.out] <;> rfl, HS.out.below⟩
          · have hJ3 : ¬ (16 : Int) ≤ (j : Int) := by omega
            have HNA : Hid (∀ (l : Bytes) W, l.length ≤ 140737488355328 → Calls Tryd.prog 24 #[.string ⟨l.toArray⟩] W (BoolR (nameB l) W)) := fun l W h => (rname_any l W (by unfold maxLen; omega)).mono fun e w' h => ⟨h.1, by rw [h.2]; exact Below.refl _ _⟩
            have HCN : Hid (∀ W, Calls Tryd.prog 28 #[.agg #[.string ⟨tn.toArray⟩, .int .i64 gu, .int .i64 sn, .int .i64 bu, .int .i64 rk, .string ⟨cl.toArray⟩]] W (BoolR (ctrNum gu sn bu rk) W)) := fun W => ctrNums_any tn gu sn bu rk cl W
            have HDU : Hid (∀ W, CK w #[.slice A k c, .slice (some ⟨b, o, none⟩) m d] wr.heap.size [.string ⟨tn.toArray⟩, .int .i64 gu, .int .i64 sn, .int .i64 bu, .int .i64 rk, .string ⟨cl.toArray⟩] 43 W → Calls Tryd.prog 27 #[.agg #[.slice A k c, .slice (some ⟨b, o, none⟩) m d], .int .i64 (j : Int), .string ⟨tn.toArray⟩] W (BoolR (decide (tn ∈ (T.contracts.take j).map ContrD.tenant)) W)) := fun W hW => has27_any T _ tn j W (Hv.out.below hW.below) (by have := Hm.out; omega)
            have HCL : Hid (∀ W, CK w #[.slice A k c, .slice (some ⟨b, o, none⟩) m d] wr.heap.size [.string ⟨tn.toArray⟩, .int .i64 gu, .int .i64 sn, .int .i64 bu, .int .i64 rk, .string ⟨cl.toArray⟩] 43 W → Calls Tryd.prog 25 #[.agg #[.slice A k c, .slice (some ⟨b, o, none⟩) m d], .int .i64 (k : Int), .string ⟨cl.toArray⟩] W (BoolR (decide (cl ∈ T.classes.map ClassD.name)) W)) := fun W hW => by
              have := has25_any T _ cl k W (Hv.out.below hW.below) (by have := Hn.out; omega)
              rw [show T.classes.take k = T.classes by rw [Hn.out]; exact List.take_length] at this
              exact this
            obtain ⟨y0, y1, y2, y3, y4, y5, -⟩ := six_cells HS.out.x5; obtain ⟨z0, z1, -⟩ := two_cells HS.out.x1
            cases hc1 : nameB tn with
            | false =>
              have HE : Hid (checkB T = (k + j, 4)) := HBAD.out 4 (by unfold ctrErr; rw [if_neg h16, if_pos (.inl hc1)]) (by decide)
              have HV1 := Lib.hid hc1
              clear hc1
              go_wp2_with (first | (go_at_call 24; refine (HNA.out _ _ (by first | exact Hfit.out.1 | exact Hfit.out.2)).mono ?_; rw [HV1.out]; rintro e w1 ⟨rfl, hb1⟩; have S1 := Lib.hid (HS.out.call hb1); obtain ⟨y10, y11, y12, y13, y14, y15, -⟩ := six_cells S1.out.x5; obtain ⟨z10, z11, -⟩ := two_cells S1.out.x1; clear hb1))
              go_ret2
              exact ⟨by rw [HE.out] <;> rfl, S1.out.below⟩
            | true =>
              have HV1 := Lib.hid hc1
              clear hc1
              cases hc2 : nameB cl with
              | false =>
                have HE : Hid (checkB T = (k + j, 4)) := HBAD.out 4 (by unfold ctrErr; rw [if_neg h16, if_pos (.inr (.inl hc2))]) (by decide)
                have HV2 := Lib.hid hc2
                clear hc2
                go_wp2_with (first | (go_at_call 24; refine (HNA.out _ _ (by first | exact Hfit.out.1 | exact Hfit.out.2)).mono ?_; rw [HV1.out]; rintro e w1 ⟨rfl, hb1⟩; have S1 := Lib.hid (HS.out.call hb1); obtain ⟨y10, y11, y12, y13, y14, y15, -⟩ := six_cells S1.out.x5; obtain ⟨z10, z11, -⟩ := two_cells S1.out.x1; clear hb1) | (go_at_call 24; refine (HNA.out _ _ (by first | exact Hfit.out.1 | exact Hfit.out.2)).mono ?_; rw [HV2.out]; rintro e w2 ⟨rfl, hb2⟩; have S2 := Lib.hid (S1.out.call hb2); obtain ⟨y20, y21, y22, y23, y24, y25, -⟩ := six_cells S2.out.x5; obtain ⟨z20, z21, -⟩ := two_cells S2.out.x1; clear hb2))
                go_ret2
                exact ⟨by rw [HE.out] <;> rfl, S2.out.below⟩
              | true =>
                have HV2 := Lib.hid hc2
                clear hc2
                cases hc3 : decide (tn ∈ (T.contracts.take j).map ContrD.tenant) with
                | true =>
                  have HE : Hid (checkB T = (k + j, 4)) := HBAD.out 4 (by unfold ctrErr; rw [if_neg h16, if_pos (.inr (.inr (.inl (of_decide_eq_true hc3))))]) (by decide)
                  have HV3 := Lib.hid hc3
                  clear hc3
                  go_wp2_with (first | (go_at_call 24; refine (HNA.out _ _ (by first | exact Hfit.out.1 | exact Hfit.out.2)).mono ?_; rw [HV1.out]; rintro e w1 ⟨rfl, hb1⟩; have S1 := Lib.hid (HS.out.call hb1); obtain ⟨y10, y11, y12, y13, y14, y15, -⟩ := six_cells S1.out.x5; obtain ⟨z10, z11, -⟩ := two_cells S1.out.x1; clear hb1) | (go_at_call 24; refine (HNA.out _ _ (by first | exact Hfit.out.1 | exact Hfit.out.2)).mono ?_; rw [HV2.out]; rintro e w2 ⟨rfl, hb2⟩; have S2 := Lib.hid (S1.out.call hb2); obtain ⟨y20, y21, y22, y23, y24, y25, -⟩ := six_cells S2.out.x5; obtain ⟨z20, z21, -⟩ := two_cells S2.out.x1; clear hb2) | (go_at_call 27; refine (HDU.out _ S2.out).mono ?_; rw [HV3.out]; rintro e w3 ⟨rfl, hb3⟩; have S3 := Lib.hid (S2.out.call hb3); obtain ⟨y30, y31, y32, y33, y34, y35, -⟩ := six_cells S3.out.x5; obtain ⟨z30, z31, -⟩ := two_cells S3.out.x1; clear hb3))
                  go_ret2
                  exact ⟨by rw [HE.out] <;> rfl, S3.out.below⟩
                | false =>
                  have HV3 := Lib.hid hc3
                  clear hc3
                  cases hc4 : decide (cl ∈ T.classes.map ClassD.name) with
                  | false =>
                    have HE : Hid (checkB T = (k + j, 4)) := HBAD.out 4 (by unfold ctrErr; rw [if_neg h16, if_pos (.inr (.inr (.inr (of_decide_eq_false hc4))))]) (by decide)
                    have HV4 := Lib.hid hc4
                    clear hc4
                    go_wp2_with (first | (go_at_call 24; refine (HNA.out _ _ (by first | exact Hfit.out.1 | exact Hfit.out.2)).mono ?_; rw [HV1.out]; rintro e w1 ⟨rfl, hb1⟩; have S1 := Lib.hid (HS.out.call hb1); obtain ⟨y10, y11, y12, y13, y14, y15, -⟩ := six_cells S1.out.x5; obtain ⟨z10, z11, -⟩ := two_cells S1.out.x1; clear hb1) | (go_at_call 24; refine (HNA.out _ _ (by first | exact Hfit.out.1 | exact Hfit.out.2)).mono ?_; rw [HV2.out]; rintro e w2 ⟨rfl, hb2⟩; have S2 := Lib.hid (S1.out.call hb2); obtain ⟨y20, y21, y22, y23, y24, y25, -⟩ := six_cells S2.out.x5; obtain ⟨z20, z21, -⟩ := two_cells S2.out.x1; clear hb2) | (go_at_call 27; refine (HDU.out _ S2.out).mono ?_; rw [HV3.out]; rintro e w3 ⟨rfl, hb3⟩; have S3 := Lib.hid (S2.out.call hb3); obtain ⟨y30, y31, y32, y33, y34, y35, -⟩ := six_cells S3.out.x5; obtain ⟨z30, z31, -⟩ := two_cells S3.out.x1; clear hb3) | (go_at_call 25; refine (HCL.out _ S3.out).mono ?_; rw [HV4.out]; rintro e w4 ⟨rfl, hb4⟩; have S4 := Lib.hid (S3.out.call hb4); obtain ⟨y40, y41, y42, y43, y44, y45, -⟩ := six_cells S4.out.x5; obtain ⟨z40, z41, -⟩ := two_cells S4.out.x1; clear hb4))
                    go_ret2
                    exact ⟨by rw [HE.out] <;> rfl, S4.out.below⟩
                  | true =>
                    have HV4 := Lib.hid hc4
                    clear hc4
                    cases hc5 : ctrNum gu sn bu rk with
                    | false =>
                      have HE : Hid (checkB T = (k + j, 1)) := HBAD.out 1 (by unfold ctrErr; rw [if_neg h16, if_neg (by rintro (h | h | h | h); rw [HV1.out] at h; cases h; rw [HV2.out] at h; cases h; exact of_decide_eq_false HV3.out h; exact h (of_decide_eq_true HV4.out)), if_pos (ctrNum_no.1 hc5)]) (by decide)
                      have HV5 := Lib.hid hc5
                      clear hc5
                      go_wp2_with (first | (go_at_call 24; refine (HNA.out _ _ (by first | exact Hfit.out.1 | exact Hfit.out.2)).mono ?_; rw [HV1.out]; rintro e w1 ⟨rfl, hb1⟩; have S1 := Lib.hid (HS.out.call hb1); obtain ⟨y10, y11, y12, y13, y14, y15, -⟩ := six_cells S1.out.x5; obtain ⟨z10, z11, -⟩ := two_cells S1.out.x1; clear hb1) | (go_at_call 24; refine (HNA.out _ _ (by first | exact Hfit.out.1 | exact Hfit.out.2)).mono ?_; rw [HV2.out]; rintro e w2 ⟨rfl, hb2⟩; have S2 := Lib.hid (S1.out.call hb2); obtain ⟨y20, y21, y22, y23, y24, y25, -⟩ := six_cells S2.out.x5; obtain ⟨z20, z21, -⟩ := two_cells S2.out.x1; clear hb2) | (go_at_call 27; refine (HDU.out _ S2.out).mono ?_; rw [HV3.out]; rintro e w3 ⟨rfl, hb3⟩; have S3 := Lib.hid (S2.out.call hb3); obtain ⟨y30, y31, y32, y33, y34, y35, -⟩ := six_cells S3.out.x5; obtain ⟨z30, z31, -⟩ := two_cells S3.out.x1; clear hb3) | (go_at_call 25; refine (HCL.out _ S3.out).mono ?_; rw [HV4.out]; rintro e w4 ⟨rfl, hb4⟩; have S4 := Lib.hid (S3.out.call hb4); obtain ⟨y40, y41, y42, y43, y44, y45, -⟩ := six_cells S4.out.x5; obtain ⟨z40, z41, -⟩ := two_cells S4.out.x1; clear hb4) | (go_at_call 28; refine (HCN.out _).mono ?_; rw [HV5.out]; rintro e w5 ⟨rfl, hb5⟩; have S5 := Lib.hid (S4.out.call hb5); obtain ⟨y50, y51, y52, y53, y54, y55, -⟩ := six_cells S5.out.x5; obtain ⟨z50, z51, -⟩ := two_cells S5.out.x1; clear hb5))
                      go_ret2
                      exact ⟨by rw [HE.out] <;> rfl, S5.out.below⟩
                    | true =>
                      have HV5 := Lib.hid hc5
                      clear hc5
                      have HQ2 : Hid (∀ (i : Nat) (D : ContrD), i < j + 1 → T.contracts[i]? = some D → ctrErr T.classes T.contracts i D = 0) := fun i D hi hD => by
                        rcases Nat.lt_or_ge i j with h | h
                        · exact HQ.out i D h hD
                        · obtain rfl : i = j := by omega
                          rw [HD.out] at hD
                          injection hD with hD
                          subst hD
                          unfold ctrErr
                          rw [if_neg h16, if_neg (by rintro (h | h | h | h); rw [HV1.out] at h; cases h; rw [HV2.out] at h; cases h; exact of_decide_eq_false HV3.out h; exact h (of_decide_eq_true HV4.out)), if_neg (fun h => absurd (HV5.out.symm.trans (ctrNum_no.2 h)) (by decide))]
                      go_wp2_with (first | (go_at_call 24; refine (HNA.out _ _ (by first | exact Hfit.out.1 | exact Hfit.out.2)).mono ?_; rw [HV1.out]; rintro e w1 ⟨rfl, hb1⟩; have S1 := Lib.hid (HS.out.call hb1); obtain ⟨y10, y11, y12, y13, y14, y15, -⟩ := six_cells S1.out.x5; obtain ⟨z10, z11, -⟩ := two_cells S1.out.x1; clear hb1) | (go_at_call 24; refine (HNA.out _ _ (by first | exact Hfit.out.1 | exact Hfit.out.2)).mono ?_; rw [HV2.out]; rintro e w2 ⟨rfl, hb2⟩; have S2 := Lib.hid (S1.out.call hb2); obtain ⟨y20, y21, y22, y23, y24, y25, -⟩ := six_cells S2.out.x5; obtain ⟨z20, z21, -⟩ := two_cells S2.out.x1; clear hb2) | (go_at_call 27; refine (HDU.out _ S2.out).mono ?_; rw [HV3.out]; rintro e w3 ⟨rfl, hb3⟩; have S3 := Lib.hid (S2.out.call hb3); obtain ⟨y30, y31, y32, y33, y34, y35, -⟩ := six_cells S3.out.x5; obtain ⟨z30, z31, -⟩ := two_cells S3.out.x1; clear hb3) | (go_at_call 25; refine (HCL.out _ S3.out).mono ?_; rw [HV4.out]; rintro e w4 ⟨rfl, hb4⟩; have S4 := Lib.hid (S3.out.call hb4); obtain ⟨y40, y41, y42, y43, y44, y45, -⟩ := six_cells S4.out.x5; obtain ⟨z40, z41, -⟩ := two_cells S4.out.x1; clear hb4) | (go_at_call 28; refine (HCN.out _).mono ?_; rw [HV5.out]; rintro e w5 ⟨rfl, hb5⟩; have S5 := Lib.hid (S4.out.call hb5); obtain ⟨y50, y51, y52, y53, y54, y55, -⟩ := six_cells S5.out.x5; obtain ⟨z50, z51, -⟩ := two_cells S5.out.x1; clear hb5))
                      go_roundg (m - (j + 1))
                      case measure => rw [Hg2.out]; omega
                      case rel => exact ⟨j + 1, by go_num, rfl, by omega, S5.out.below, S5.out.x1, HQ2.out⟩
        · have hjm : j = m := by omega
          have hJ4 : ¬ (j : Int) < (m : Int) := by omega
          have HE : Hid (checkB T = (0, 0)) := by
            have h2 : badFrom (ctrErr T.classes T.contracts) 0 T.contracts = none := badFrom_none.2 fun i D hi => by
              rw [Nat.zero_add]
              exact HQ.out i D (by have := (List.getElem?_eq_some_iff.1 hi).1; have := Hm.out; omega) hi
            show _ = _
            rw [HCB.out]
            unfold ctrB
            rw [h2]
          go_wp2_with fail
          go_ret2
          exact ⟨by rw [HE.out] <;> rfl, HB2.out⟩
end Go.Proofs.YtimmffncfkcpfaaDoor
