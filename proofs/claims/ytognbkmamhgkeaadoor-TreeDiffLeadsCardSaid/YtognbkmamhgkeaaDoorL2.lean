/-
  The walk of the statement TreeDiffMatchesSpec: it returns true for every script, where the library's table lies as it is laid.
-/
import Derived.Test.YtognbkmamhgkeaaDoorL1a
import Derived.Test.YtognbkmamhgkeaaDoorW23
import Derived.Deep.RegionHeld3
namespace Go.Proofs.YtognbkmamhgkeaaDoor
open Go Go.RowKit Go.Walks

theorem natInts_eq (D : List Nat) : natInts D = intCells (D.map fun x : Nat => (x : Int)) := by simp [natInts, intCells]

theorem m_eq_of_nil {w w' : World} {T1 T2 : TV} {n1 n2 : Int} (h1 : Good w T1 n1) (h2 : Good w' T2 n2) (h : (diffR T1.m T2.m 0 4096).isEmpty = true) : T1.m = T2.m := by
  funext x
  by_cases hx : x < 4096
  · refine Classical.byContradiction fun hne => ?_
    have : x ∈ diffR T1.m T2.m 0 4096 := mem_diffR.2 ⟨by omega, by omega, hne⟩
    rw [List.isEmpty_iff.1 h] at this
    cases this
  · rw [h1.out x (by omega), h2.out x (by omega)]

theorem eqB_eq {w w' : World} {T1 T2 : TV} {n1 n2 : Int} (h1 : Good w T1 n1) (h2 : Good w' T2 n2) : EqB T1 T2 n1 n2 = (diffR T1.m T2.m 0 4096).isEmpty := by
  unfold EqB
  cases h : (diffR T1.m T2.m 0 4096).isEmpty with
  | false => simp
  | true =>
    have hm := m_eq_of_nil h1 h2 h
    have : n1 = n2 := by rw [h1.num, h2.num, hm]
    simp [this]

set_option maxHeartbeats 400000 in
theorem diffMatches_long (n c : Nat) (A : Option Addr) (w : World) (Ht : Hid (Tab w)) (hn : 60 < n) (hm : n ≤ maxLen) :
    Calls Tryd.prog 5 #[.slice A n c] w (TrueP w) := by
  unfold maxLen at hm
  go_enter Tryd.func5, Tryd.ntmps5
  go_wp2_with (go_at_call 9; refine (sanity_any _ Ht).mono ?_; rintro e w1 ⟨rfl, hb1⟩; have Hb1 := Lib.hid hb1; clear hb1)
  go_ret
  exact ⟨rfl, Hb1.out⟩

set_option maxRecDepth 100000 in
set_option maxHeartbeats 4000000 in
theorem diffMatches_short (ops : List OpN) (c : Nat) (A : Option Addr) (w : World) (Ht : Hid (Tab w)) (hn : ops.length ≤ 60) (Hsl : Hid (Sl w w.heap.size A (opCells ops))) :
    Calls Tryd.prog 5 #[.slice A ops.length c] w (TrueP w) := by
  have hn' : decide ((60 : Int) < (ops.length : Int)) = false := by simp; omega
  go_enter Tryd.func5, Tryd.ntmps5
  go_wp2_with (first
    | (go_at_call 9; refine (sanity_any _ Ht).mono ?_; rintro e w1 ⟨rfl, hb1⟩; have Hb1 := Lib.hid hb1; have Hs1 := Lib.hid ((Hsl.out.below hb1).more hb1.size); clear hb1)
    | (go_at_call 10; refine (play_any ops A c _ (by omega) Hs1).mono ?_; rintro e w2 ⟨v, Ts, rfl, htv⟩; obtain ⟨A2, c2, rfl, htr⟩ := htv.read; have Hb2 := Lib.hid (Hb1.out.trans (htv.below.mono Hb1.out.size)); have Htr := Lib.hid htr; have Hs2 := Lib.hid ((Hs1.out.below htv.below).more htv.below.size); clear htv htr)
    | (go_at_call 11; refine (rplay_any ops A c _ (by omega) Hs2).mono ?_; rintro e w3 ⟨v, rfl, hv⟩; obtain ⟨A3, c3, rfl, hvr⟩ := hv.read; have Hb3 := Lib.hid (Hb2.out.trans (hv.below.mono Hb2.out.size)); have Htr3 := Lib.hid (Htr.out.below hv.below); have Hvr := Lib.hid hvr; clear hv hvr Htr))
  have hpl := playL_len ops
  have HL : Hid ((playL ops).length = ops.length + 1) := hpl
  have hlen : (playL ops).length ≤ 61 := by omega
  clear hpl
  go_loopw [6] (fun ix wr => ∃ k : Nat, k ≤ (playL ops).length ∧ ix = .int .i64 k ∧ Hid (Below w3.heap.size w3 wr)) (fun ix _ => (playL ops).length - (intOf ix).toNat)
  case atStart => exact ⟨0, by omega, rfl, Below.refl _ _⟩
  case round =>
    obtain ⟨i, hi, rfl, HB0⟩ := hrel
    by_cases hlti : i < (playL ops).length
    · obtain ⟨wo, rfl⟩ : ∃ wo : World, wo = wr := ⟨_, rfl⟩
      have hI1 : (0 : Int) ≤ (i : Int) := by omega
      have hI2 : (i : Int) < ((playL ops).length : Int) := by omega
      go_wp2_with fail
      go_loopw [7] (fun ix wr => ∃ k : Nat, k ≤ (playL ops).length ∧ ix = .int .i64 k ∧ Hid (Below w3.heap.size w3 wr)) (fun ix _ => (playL ops).length - (intOf ix).toNat)
      case atStart => exact ⟨0, by omega, rfl, HB0⟩
      case round =>
        obtain ⟨k, hk, rfl, HB⟩ := hrel
        by_cases hlt : k < (playL ops).length
        · obtain ⟨gT, oT, T1, n1, l1, rfl, hgT, hTs, hLs1, hc0, hc1, hgood1, hm1⟩ := (Htr3.out.below HB.out).at_ hlti
          obtain ⟨gT', oT', T2, n2, l2, e1, _, hTs2, hLs2, hd0, hd1, hgood2, hm2⟩ := (Htr3.out.below HB.out).at_ hlt
          injection e1 with e1; injection e1 with e1 e2; subst e1; subst e2
          obtain ⟨gR, oR, A1, c1, l1', rfl, hgR, hLs1', hr0, hsl1, hlc1, hcm1⟩ := (Hvr.out.below HB.out).at_ hlti
          obtain ⟨gR', oR', A4, c4, l2', e1, _, hLs2', hr1, hsl2, hlc2, hcm2⟩ := (Hvr.out.below HB.out).at_ hlt
          injection e1 with e1; injection e1 with e1 e2; subst e1; subst e2
          obtain rfl : l1' = l1 := by rw [hLs1] at hLs1'; injection hLs1' with h; exact h.symm
          obtain rfl : l2' = l2 := by rw [hLs2] at hLs2'; injection hLs2' with h; exact h.symm
          have hsrt1 := srt_play ops l1' (List.mem_of_getElem? hLs1)
          have hsrt2 := srt_play ops l2' (List.mem_of_getElem? hLs2)
          have hsm1 := playL_small ops l1' (List.mem_of_getElem? hLs1)
          have hsm2 := playL_small ops l2' (List.mem_of_getElem? hLs2)
          have hD := diffL_eq hsrt1 hsrt2
          rw [← hm1, ← hm2] at hD
          have hdl := diff_len T1.m T2.m 0 4096
          have HE : Hid (EqB T1 T2 n1 n2 = (diffL l1' l2').isEmpty) := by
            show EqB T1 T2 n1 n2 = _
            rw [eqB_eq hgood1 hgood2, hD]; cases diffR T1.m T2.m 0 4096 <;> rfl
          have hDl : (diffL l1' l2').length ≤ 4096 := by rw [hD]; simpa using hdl
          have hDl2 : (diffR T1.m T2.m 0 4096).length = (diffL l1' l2').length := by rw [hD]; simp
          have HDl := Lib.hid hDl2
          have HD := Lib.hid hD
          have Hg1 := Lib.hid hgood1
          have Hg2 := Lib.hid hgood2
          have Hsl1 := Lib.hid hsl1.sl
          have Hsl2 := Lib.hid hsl2.sl
          have hK1 : (0 : Int) ≤ (k : Int) := by omega
          have hK2 : (k : Int) < ((playL ops).length : Int) := by omega
          clear hTs hTs2 hLs1 hLs2 hLs1' hLs2' hgood1 hgood2 hm1 hm2 hsrt1 hsrt2 hsl1 hsl2 hdl hD hDl2
          have keepS : ∀ w' : World, Below wr.heap.size wr w' → (((w'.cell? ⟨gT, oT + i * 2, none⟩ = some (ptrV (T1.adr 2 0)) ∧ w'.cell? ⟨gT, oT + i * 2 + 1, none⟩ = some (.int .i64 n1)) ∧ (w'.cell? ⟨gT, oT + k * 2, none⟩ = some (ptrV (T2.adr 2 0)) ∧ w'.cell? ⟨gT, oT + k * 2 + 1, none⟩ = some (.int .i64 n2))) ∧ w'.cell? ⟨gR, oR + i, none⟩ = some (.slice A1 l1'.length c1)) ∧ w'.cell? ⟨gR, oR + k, none⟩ = some (.slice A4 l2'.length c4) :=
            fun w' hb => ⟨⟨⟨⟨(hb.cell (p := ⟨gT, oT + i * 2, none⟩) hgT).trans hc0, (hb.cell (p := ⟨gT, oT + i * 2 + 1, none⟩) hgT).trans hc1⟩, (hb.cell (p := ⟨gT, oT + k * 2, none⟩) hgT).trans hd0, (hb.cell (p := ⟨gT, oT + k * 2 + 1, none⟩) hgT).trans hd1⟩, (hb.cell (p := ⟨gR, oR + i, none⟩) hgR).trans hr0⟩, (hb.cell (p := ⟨gR, oR + k, none⟩) hgR).trans hr1⟩
          have KS := Lib.hid keepS
          clear keepS
          have B0 : Hid (Below wr.heap.size wr wr.drew) := (Below.refl _ _).drew
          have HT : Hid (Tab wr) := Ht.out.below (Hb3.out.trans (HB.out.mono Hb3.out.size)) Ht.out.1
          have h0 : 0 < wr.heap.size := HT.out.1
          go_wp2_with fail
          go_region_held3 (fun w' => (((w'.cell? ⟨gT, oT + i * 2, none⟩ = some (ptrV (T1.adr 2 0)) ∧ w'.cell? ⟨gT, oT + i * 2 + 1, none⟩ = some (.int .i64 n1)) ∧ (w'.cell? ⟨gT, oT + k * 2, none⟩ = some (ptrV (T2.adr 2 0)) ∧ w'.cell? ⟨gT, oT + k * 2 + 1, none⟩ = some (.int .i64 n2))) ∧ w'.cell? ⟨gR, oR + i, none⟩ = some (.slice A1 l1'.length c1)) ∧ w'.cell? ⟨gR, oR + k, none⟩ = some (.slice A4 l2'.length c4)) (first | exact hKeep | go_keep)
            (first
              | (go_at_call 20; refine (diff_any T1 T2 n1 n2 _ (HT.out.below B0.out h0) (Hg1.out.below B0.out).sub (Hg2.out.below B0.out).sub).mono ?_; rintro e w5 ⟨v5, rfl, hown, hbx⟩; obtain ⟨A5, c5, rfl, hs5, -⟩ := Sl.of_own hown; rw [HDl.out]; have HS5 := Lib.hid hs5; have B1 := Lib.hid (B0.out.trans (hbx.mono B0.out.size)); have hKeep := KS.out _ B1.out; clear hbx hown hs5)
              | (go_at_call 21; refine (rdiff_any l1' l2' A1 A4 c1 c4 _ (by omega) (by omega) ((Hsl1.out.below B1.out).more B1.out.size) ((Hsl2.out.below B1.out).more B1.out.size)).mono ?_; rintro e w6 ⟨v6, rfl, hown, hbx⟩; obtain ⟨A6, c6, rfl, hs6, -⟩ := Sl.of_own hown; have HS6 := Lib.hid hs6; have HS5' := Lib.hid (slB HS5.out hbx); have B2 := Lib.hid (B1.out.trans (hbx.mono B1.out.size)); have hKeep := KS.out _ B2.out; clear hbx hown hs6)
              | (go_at_call 19; refine (same_any (diffL l1' l2') (diffL l1' l2') _ _ _ _ _ (by omega) (by omega) (by have h := HS5'.out; rw [natInts_eq, ← HD.out] at h; exact h) HS6).mono ?_; rintro e w7 ⟨rfl, hbx⟩; rw [decide_eq_true rfl]; have B3 := Lib.hid (B2.out.trans (hbx.mono B2.out.size)); have hKeep := KS.out _ B3.out; clear hbx))
          have B4 : Hid (Below wr.heap.size wr w7.drew) := B3.out.drew
          have hKeep3 := KS.out _ B3.out
          have hKeep4 := KS.out _ B4.out
          cases hE : (diffL l1' l2').isEmpty
          all_goals
            have HE' := Lib.hid hE
            clear hE
            go_wp2_with fail
            go_region_held3 (fun w' => (((w'.cell? ⟨gT, oT + i * 2, none⟩ = some (ptrV (T1.adr 2 0)) ∧ w'.cell? ⟨gT, oT + i * 2 + 1, none⟩ = some (.int .i64 n1)) ∧ (w'.cell? ⟨gT, oT + k * 2, none⟩ = some (ptrV (T2.adr 2 0)) ∧ w'.cell? ⟨gT, oT + k * 2 + 1, none⟩ = some (.int .i64 n2))) ∧ w'.cell? ⟨gR, oR + i, none⟩ = some (.slice A1 l1'.length c1)) ∧ w'.cell? ⟨gR, oR + k, none⟩ = some (.slice A4 l2'.length c4)) (first | exact hKeep | go_keep)
              (first
                | (go_at_call 22; refine (equal_any T1 T2 n1 n2 _ (HT.out.below B4.out h0) (Hg1.out.below B4.out).sub (Hg2.out.below B4.out).sub).mono ?_; rintro e w8 ⟨rfl, hbx⟩; rw [HE.out, HE'.out]; have B5 := Lib.hid (B4.out.trans (hbx.mono B4.out.size)); have hKeep := KS.out _ B5.out; clear hbx)
                | (go_at_call 17; refine (requal_any l1' l2' A1 A4 c1 c4 _ (by omega) (by omega) ((Hsl1.out.below B5.out).more B5.out.size) ((Hsl2.out.below B5.out).more B5.out.size)).mono ?_; rintro e w9 ⟨rfl, hbx⟩; rw [HE'.out]; have B6 := Lib.hid (B5.out.trans (hbx.mono B5.out.size)); have hKeep := KS.out _ B6.out; clear hbx))
            go_wp2_with fail
            exact ⟨⟨k + 1, by omega, by go_num, HB.out.trans (B6.out.mono HB.out.size)⟩, by simp [intOf]; omega⟩
        · go_wp2_with fail
          exact ⟨⟨i + 1, by omega, by go_num, HB⟩, by simp [intOf]; omega⟩
    · go_wp2_with fail
      go_ret
      exact ⟨rfl, Hb3.out.trans (HB0.out.mono Hb3.out.size)⟩

theorem diffMatches_any (ops : List OpN) (c : Nat) (A : Option Addr) (w : World) (Ht : Tab w) (hm : ops.length ≤ maxLen) (Hsl : Sl w w.heap.size A (opCells ops)) :
    Calls Tryd.prog 5 #[.slice A ops.length c] w (TrueP w) := by
  by_cases h : ops.length ≤ 60
  · exact diffMatches_short ops c A w Ht h Hsl
  · exact diffMatches_long _ c A w Ht (by omega) hm
end Go.Proofs.YtognbkmamhgkeaaDoor
