/-
  The walk of a source's build: a code as it is written becomes a code, or an error at an offset.
-/
import Derived.Test.YtafgmbchdcfkcaaDoorKs
import Derived.Deep.RegionLaw
import Derived.Deep.RegionHeld3
import Derived.Deep.RegionHeldLaw
import Derived.Deep.QuietTactic
import Derived.BigQuiet
namespace Go.Proofs.YtafgmbchdcfkcaaDoor
open Go Go.RowKit Go.Walks

def SrcP (x : BR Code) (w : World) (e : Ending) (w' : World) : Prop := match x with
  | .ok c => (∃ cs : List Value, e = .returned (.agg cs.toArray) ∧ CodeT w' c cs) ∧ Below w.heap.size w w'
  | .bad p en => e = wrongE p en ∧ Below w.heap.size w w'
/-- The bounds that the parser gives. -/
structure SrcOk (S : Src) : Prop where
  rows : S.rows.length ≤ 2001
  row : ∀ R ∈ S.rows, R.idx.length ≤ 2001 ∧ R.coefs.length ≤ 2001
  name : S.name.text.length ≤ 2001
abbrev oC (dm : Option Tok) : Tok := match dm with | some d => d | none => ⟨0, 0, [], 0⟩

set_option maxRecDepth 100000 in
set_option maxHeartbeats 16000000 in
theorem src_any (S : Src) (A : Option Addr) (c : Nat) (rc : List Value) (w : World) (Hs : Hid (SlT w w.heap.size 117 A rc)) (Hrs : Hid (RowsCs w S.rows rc)) (Hok : Hid (SrcOk S)) (Hdt : Hid (∀ d, S.dom = some d → d.text ≠ [])) :
    Calls Tryd.prog 61 #[.agg (sCs S.name S.field S.data (.slice A S.rows.length c) S.dom)] w (SrcP (buildS S) w) := by
  obtain ⟨nm, fl, dt, rows, dm⟩ := S
  have hnl : nm.text.length ≤ 2001 := Hok.out.name
  have hX0' : ((w.alloc (.cells (sCs nm fl dt (.slice A rows.length c) dm) 95)).alloc (.cells z5 24)).heap[w.heap.size]? = some (.cells (sCs nm fl dt (.slice A rows.length c) dm) 95) := (Below.heap_alloc _ _ _ (by simp)).trans (heap_new _ _)
  have b0 := (cell_at hX0' 0 (u := .int .i64 (nm.at_ : Int)) rfl).1
  have b2 := (cell_at hX0' 2 (u := strV nm.text) rfl).1
  have HX0' := Lib.hid hX0'
  clear hX0'
  by_cases h1 : nm.text.length ≤ 12
  rotate_left
  · have hn1 : ¬ (nm.text.length : Int) ≤ 12 := by omega
    have Hbad : Hid (buildS ⟨nm, fl, dt, rows, dm⟩ = .bad nm.at_ 2) := by show _ = _; unfold buildS; rw [if_neg h1]
    clear h1
    go_enter Tryd.func61, Tryd.ntmps61
    go_wp2_with (go_at_call 60; refine (demand_no _ _ _).mono ?_; rintro e w' ⟨rfl, rfl⟩; unfold wrongE)
    exact ⟨rfl, by show SrcP (buildS _) w _ _; rw [Hbad.out]; exact ⟨rfl, ((Below.refl _ _).alloc (Nat.le_refl _) _).alloc (by simp) _⟩⟩
  have hn1 : (nm.text.length : Int) ≤ 12 := by omega
  have H1 := Lib.hid h1
  clear h1
  go_enter Tryd.func61, Tryd.ntmps61
  go_wp2_with (go_at_call 60; refine (demand_ok _ _ _).mono ?_; rintro e w' ⟨rfl, hw⟩; rw [hw]; clear hw)
  clear hn1 b0 b2
  obtain ⟨W0, hW0⟩ : ∃ W0, W0 = (w.alloc (.cells (sCs nm fl dt (.slice A rows.length c) dm) 95)).alloc (.cells z5 24) := ⟨_, rfl⟩
  rw [← hW0]
  have hB0 : Below w.heap.size w W0 := by rw [hW0]; exact ((Below.refl _ _).alloc (Nat.le_refl _) _).alloc (by simp) _
  have hX0 : W0.heap[w.heap.size]? = some (.cells (sCs nm fl dt (.slice A rows.length c) dm) 95) := by rw [hW0]; exact HX0'.out
  have hZ0 : W0.heap[w.heap.size + 1]? = some (.cells z5 24) := by rw [hW0]; have := heap_new (w.alloc (.cells (sCs nm fl dt (.slice A rows.length c) dm) 95)) (.cells z5 24); rwa [World.size_alloc] at this
  have hsz : W0.heap.size = w.heap.size + 2 := by rw [hW0]; simp
  clear hW0 HX0'
  have B0 := Lib.hid hB0
  have X0 := Lib.hid hX0
  have Z0 := Lib.hid hZ0
  clear hB0 hX0 hZ0
  have a2 := (cell_at X0.out 2 (u := strV nm.text) rfl).1
  have a3 := (cell_at X0.out 3 (u := .int .i64 (fl.at_ : Int)) rfl).1
  have a4 := (cell_at X0.out 4 (u := .int .i64 (fl.n : Int)) rfl).1
  have a6 := (cell_at X0.out 6 (u := .int .i64 (dt.at_ : Int)) rfl).1
  have a7 := (cell_at X0.out 7 (u := .int .i64 (dt.n : Int)) rfl).1
  have a9 := (cell_at X0.out 9 (u := .slice A rows.length c) rfl).1
  by_cases h2 : fl.n = 8 ∨ fl.n = 16
  rotate_left
  · have hf := isField_any fl.n
    rw [decide_eq_false h2] at hf
    have Hbad : Hid (buildS ⟨nm, fl, dt, rows, dm⟩ = .bad fl.at_ 1) := by show _ = _; unfold buildS; rw [if_pos H1.out, if_neg h2]
    have Hf := Lib.hid hf
    clear hf h2
    refine wp_region_held_drew (S := fun w' => w'.cell? ⟨w.heap.size, 3, none⟩ = some (.int .i64 (fl.at_ : Int)) ∧ w'.cell? ⟨w.heap.size, 4, none⟩ = some (.int .i64 (fl.n : Int))) (by kernel_rfl) ⟨a3, a4⟩ (fun hHeld => ?_)
    refine wpAnyH_take (i := 0) (v := ?_) rfl (by kernel_rfl) (by kernel_rfl) (by kernel_rfl) (fun _ _ _ h => h) (Or.inl ⟨by rfl, ?_⟩) hHeld ?_
    rotate_left
    · intro w hSw; (try dsimp only at hSw); go_simp
      with_reducible rfl
    refine wpAnyH_take (i := 1) (v := ?_) rfl (by kernel_rfl) (by kernel_rfl) (by kernel_rfl) (fun _ _ _ h => h) (Or.inl ⟨by rfl, ?_⟩) hHeld ?_
    rotate_left
    · intro w hSw; (try dsimp only at hSw); go_simp
      with_reducible rfl
    refine wpAnyH_take (i := 2) (v := ?_) rfl (by kernel_rfl) (by kernel_rfl) (by kernel_rfl) (fun _ _ _ h => h) (Or.inl ⟨by rfl, ?_⟩) hHeld ?_
    rotate_left
    · intro w hSw; (try dsimp only at hSw); go_simp
      with_reducible rfl
    refine wpAnyH_take (i := 4) (v := ?_) rfl (by kernel_rfl) (by kernel_rfl) (by kernel_rfl) (fun _ _ _ h => h) (Or.inl ⟨by rfl, ?_⟩) hHeld ?_
    rotate_left
    · intro w hSw; (try dsimp only at hSw); go_simp
      with_reducible rfl
    refine wpAnyH_take (i := 5) (v := ?_) rfl (by kernel_rfl) (by kernel_rfl) (by kernel_rfl) (fun _ _ _ h => h) (Or.inl ⟨by rfl, ?_⟩) hHeld ?_
    rotate_left
    · intro w hSw; (try dsimp only at hSw); go_simp
      with_reducible rfl
    refine wpAnyH_take (i := 6) (v := ?_) rfl (by kernel_rfl) (by kernel_rfl) (by kernel_rfl) (fun _ _ _ h => h) (Or.inl ⟨by rfl, ?_⟩) hHeld ?_
    rotate_left
    · intro w hSw; (try dsimp only at hSw); go_simp
      with_reducible rfl
    refine wpAnyH_ready (rs := [3]) (by kernel_rfl) (by simp) ?_
    refine AllReadyH.cons rfl (fun K hK => ?_) AllReadyH.nil
    go_simp
    go_wp2_with (go_at_call 34; refine (Hf.out _).mono ?_; rintro e w' ⟨rfl, hw⟩; rw [hw]; clear hw)
    refine hK.out _ _ hHeld (fun hHeld => ?_)
    refine wpAnyH_ready (rs := [7]) (by kernel_rfl) (by simp) ?_
    refine AllReadyH.cons rfl (fun K hK => ?_) AllReadyH.nil
    go_simp
    go_wp2_with (go_at_call 60; refine (demand_no _ _ _).mono ?_; rintro e w' ⟨rfl, hw⟩; rw [hw]; clear hw; unfold wrongE)
    exact ⟨rfl, by show SrcP (buildS _) w _ _; rw [Hbad.out]; exact ⟨rfl, B0.out.drew⟩⟩
  have hf := isField_any fl.n
  rw [decide_eq_true h2] at hf
  have Hf := Lib.hid hf
  have H2 := Lib.hid h2
  clear hf h2
  go_quiet (first | (go_at_call 34; refine Calls.quiet_of_same (Hf.out _)) | (go_at_call 60; refine Calls.quiet_of_same (demand_ok _ _ _)))
  by_cases h3 : 1 ≤ dt.n ∧ dt.n ≤ 31
  rotate_left
  · have Hbad : Hid (buildS ⟨nm, fl, dt, rows, dm⟩ = .bad dt.at_ 1) := by show _ = _; unfold buildS; rw [if_pos H1.out, if_pos H2.out, if_neg h3]
    by_cases h3a : 1 ≤ dt.n
    · have hn3 : (1 : Int) ≤ (dt.n : Int) := by omega
      have hn4 : ¬ (dt.n : Int) ≤ 31 := by omega
      clear h3
      go_wp2_with (go_at_call 60; refine (demand_no _ _ _).mono ?_; rintro e w' ⟨rfl, hw⟩; rw [hw]; clear hw; unfold wrongE)
      exact ⟨rfl, by show SrcP (buildS _) w _ _; rw [Hbad.out]; exact ⟨rfl, below_drewN B0.out _⟩⟩
    · have hn3 : ¬ (1 : Int) ≤ (dt.n : Int) := by omega
      clear h3
      go_wp2_with (go_at_call 60; refine (demand_no _ _ _).mono ?_; rintro e w' ⟨rfl, hw⟩; rw [hw]; clear hw; unfold wrongE)
      exact ⟨rfl, by show SrcP (buildS _) w _ _; rw [Hbad.out]; exact ⟨rfl, below_drewN B0.out _⟩⟩
  obtain ⟨h3a, h3b⟩ := h3
  have hn3 : (1 : Int) ≤ (dt.n : Int) := by omega
  have hn4 : (dt.n : Int) ≤ 31 := by omega
  go_wp2_with (go_at_call 60; refine (demand_ok _ _ _).mono ?_; rintro e w' ⟨rfl, rfl⟩)
  have S0 := Lib.hid (SB.start B0.out X0.out Z0.out hsz nq nm.text fl.n dt.n)
  have H3 := Lib.hid (And.intro h3a h3b)
  have hHn : Hid (buildS ⟨nm, fl, dt, rows, dm⟩ = (buildRows dt.n (topN fl.n) [] rows).next (buildDom ⟨nm, fl, dt, rows, dm⟩)) := by show _ = _; unfold buildS; rw [if_pos H1.out, if_pos H2.out, if_pos H3.out]
  clear a2 a3 a4 a6 a7 a9 hn3 hn4 h3a
  go_loopg [50] rows.length (fun g s50 wr => ∃ (k : Nat) (A' : Option Addr) (n c' : Nat) (mc : List Value) (acc : List (List Int)), g = rows.length - k ∧ s50 = .int .i64 (k : Int) ∧ k ≤ rows.length ∧ n ≤ 31 ∧ Hid (SB w (sCs nm fl dt (.slice A rows.length c) dm) nm.text fl.n dt.n A' n c' mc acc wr) ∧ Hid (buildRows dt.n (topN fl.n) [] rows = buildRows dt.n (topN fl.n) acc (rows.drop k)))
  case atStart => exact ⟨0, none, 0, 0, [], [], rfl, rfl, by omega, by omega, S0.out, rfl⟩
  case round =>
    obtain ⟨k, A', n, c', mc, acc, hgk, rfl, hk, hn31, HS, HB⟩ := hrel
    have Hgk := Lib.hid hgk
    clear hgk
    have hrl := Hok.out.rows
    obtain ⟨⟨d0, d1, d2, d3, d4⟩, e3, e4⟩ := HS.out.cells
    by_cases hlt : k < rows.length
    · obtain ⟨R, hR⟩ : ∃ R, rows[k]? = some R := ⟨_, List.getElem?_eq_getElem hlt⟩
      obtain ⟨b, o, A1, q1, A2, q2, hA, ⟨m0, m1, m2, m3⟩, hs1, hs2⟩ := row_cells Hs.out Hrs.out HS.out.below hR
      subst hA
      have Hs1 := Lib.hid hs1
      have Hs2 := Lib.hid hs2
      have HR := Lib.hid hR
      clear hs1 hs2 hR
      have hI1 : (0 : Int) ≤ (k : Int) := by omega
      have hI2 : (k : Int) < (rows.length : Int) := by omega
      have d1a := cell_alloc d1
      have d2a := cell_alloc d2
      have d3a := cell_alloc d3
      by_cases h4 : dt.n + n < 32
      rotate_left
      · have hn5 : ¬ (dt.n : Int) + (n : Int) < 32 := by omega
        have Hbad : Hid (buildS ⟨nm, fl, dt, rows, dm⟩ = .bad R.at_ 2) := by show _ = _; rw [hHn.out, HB.out, buildRows_step HR.out, ← HS.out.len, if_neg h4]; rfl
        clear h4
        go_wp2_with (go_at_call 60; refine (demand_no _ _ _).mono ?_; rintro e w' ⟨rfl, hw⟩; rw [hw]; clear hw; unfold wrongE)
        exact ⟨rfl, by show SrcP (buildS _) w _ _; rw [Hbad.out]; exact ⟨rfl, (HS.out.alloc _).below⟩⟩
      have hn5 : (dt.n : Int) + (n : Int) < 32 := by omega
      go_upto_region 9 with (go_at_call 60; refine (demand_ok _ _ _).mono ?_; rintro e w' ⟨rfl, hw⟩; rw [hw]; clear hw)
      clear d1a d2a d3a d0 d1 d2 d3 d4 e3 e4
      obtain ⟨Wa, hWa⟩ : ∃ Wa, Wa = wr.alloc (.cells #[.int .i64 (R.at_ : Int), .bool R.loc, .slice A1 R.idx.length q1, .slice A2 R.coefs.length q2] 117) := ⟨_, rfl⟩
      rw [← hWa]
      have hg5 : Wa.heap[wr.heap.size]? = some (.cells #[.int .i64 (R.at_ : Int), .bool R.loc, .slice A1 R.idx.length q1, .slice A2 R.coefs.length q2] 117) := by rw [hWa]; exact heap_new _ _
      have hSa : SB w (sCs nm fl dt (.slice (some ⟨b, o, none⟩) rows.length c) dm) nm.text fl.n dt.n A' n c' mc acc Wa := by rw [hWa]; exact HS.out.alloc _
      have hBa : Below wr.heap.size wr Wa := by rw [hWa]; exact (Below.refl _ _).alloc (Nat.le_refl _) _
      clear hWa m0 m1 m2 m3
      have HSa := Lib.hid hSa.drew
      have H5 := Lib.hid (show Wa.drew.heap[wr.heap.size]? = _ from hg5)
      have hKeep0 := HSa.out.held H5.out
      have Ht1 := Lib.hid (show SlT Wa.drew Wa.drew.heap.size 92 A1 (markCells R.idx) from Hs1.out.below hBa.drew hBa.size)
      have Ht2 := Lib.hid (show SlT Wa.drew Wa.drew.heap.size 92 A2 (markCells R.coefs) from Hs2.out.below hBa.drew hBa.size)
      clear hSa hBa hg5
      obtain ⟨⟨-, d1, d2, d3, -⟩, -, -⟩ := HSa.out.cells
      have hfl : fl.n ≤ 16 := by have := H2.out; omega
      have htop : topN fl.n ≤ 65535 := by unfold topN; split <;> omega
      have hlR := Hok.out.row R (List.mem_of_getElem? HR.out)
      have hlR1 := hlR.1
      have hlR2 := hlR.2
      clear hlR
      have hb1 : n + 1 ≤ maxLen := by unfold maxLen; omega
      have hb2 : (n + 1) * 24 ≤ 140737488355328 := by omega
      have hd31 : dt.n ≤ 31 := H3.out.2
      have hL := line_any R.at_ R.loc R.idx R.coefs dt.n (topN fl.n) A1 A2 q1 q2 Wa.drew hd31 htop hlR1 hlR2 Ht1 Ht2
      have htw : IntKind.i64.wrap (IntKind.i64.wrap ((topN fl.n : Int) + 1) - 1) = (topN fl.n : Int) := by rcases H2.out with h | h <;> rw [h] <;> rfl
      have hshl : (2 : Int) ^ fl.n = (topN fl.n : Int) + 1 := by rcases H2.out with h | h <;> rw [h] <;> rfl
      cases hbr : buildRow R dt.n (topN fl.n) with
      | bad p en =>
        rw [show buildRow ⟨R.at_, R.loc, R.idx, R.coefs⟩ dt.n (topN fl.n) = .bad p en from hbr] at hL
        have HL := Lib.hid hL
        clear hL
        have Hbad : Hid (buildS ⟨nm, fl, dt, rows, dm⟩ = .bad p en) := by show _ = _; rw [hHn.out, HB.out, buildRows_step HR.out, ← HS.out.len, if_pos h4, hbr]; rfl
        refine wp_region_held_drew (S := fun w' => (((w'.cell? ⟨wr.heap.size, 0, none⟩ = some (.int .i64 (R.at_ : Int)) ∧ w'.cell? ⟨wr.heap.size, 1, none⟩ = some (.bool R.loc)) ∧ w'.cell? ⟨wr.heap.size, 2, none⟩ = some (.slice A1 R.idx.length q1) ∧ w'.cell? ⟨wr.heap.size, 3, none⟩ = some (.slice A2 R.coefs.length q2)) ∧ w'.cell? ⟨w.heap.size + 2, 1, none⟩ = some (.int .i64 (fl.n : Int)) ∧ w'.cell? ⟨w.heap.size + 2, 2, none⟩ = some (.int .i64 (dt.n : Int))) ∧ w'.cell? ⟨w.heap.size + 2, 3, none⟩ = some (.slice A' n c')) (by kernel_rfl) ⟨hKeep0, d3⟩ (fun hHeld => ?_)
        refine wpAnyH_take (i := 0) (v := ?_) rfl (by kernel_rfl) (by kernel_rfl) (by kernel_rfl) (fun _ _ _ h => h) (Or.inl ⟨by rfl, ?_⟩) hHeld ?_
        rotate_left
        · intro w hSw; (try dsimp only at hSw); go_simp
          with_reducible rfl
        refine wpAnyH_take (i := 1) (v := ?_) rfl (by kernel_rfl) (by kernel_rfl) (by kernel_rfl) (fun _ _ _ h => h) (Or.inl ⟨by rfl, ?_⟩) hHeld ?_
        rotate_left
        · intro w hSw; (try dsimp only at hSw); go_simp
          with_reducible rfl
        refine wpAnyH_take (i := 2) (v := ?_) rfl (by kernel_rfl) (by kernel_rfl) (by kernel_rfl) (fun _ _ _ h => h) (Or.inl ⟨by rfl, ?_⟩) hHeld ?_
        rotate_left
        · intro w hSw; (try dsimp only at hSw); go_simp
          with_reducible rfl
        refine wpAnyH_take (i := 3) (v := ?_) rfl (by kernel_rfl) (by kernel_rfl) (by kernel_rfl) (fun _ _ _ h => h) (Or.inl ⟨by rfl, ?_⟩) hHeld ?_
        rotate_left
        · intro w hSw; (try dsimp only at hSw); go_simp
          with_reducible rfl
        refine wpAnyH_take (i := 4) (v := ?_) rfl (by kernel_rfl) (by kernel_rfl) (by kernel_rfl) (fun _ _ _ h => h) (Or.inl ⟨by rfl, ?_⟩) hHeld ?_
        rotate_left
        · intro w hSw; (try dsimp only at hSw); go_simp
          with_reducible rfl
        refine wpAnyH_take (i := 5) (v := ?_) rfl (by kernel_rfl) (by kernel_rfl) (by kernel_rfl) (fun _ _ _ h => h) (Or.inl ⟨by rfl, ?_⟩) hHeld ?_
        rotate_left
        · intro w hSw; (try dsimp only at hSw); go_simp
          with_reducible rfl
        refine wpAnyH_take (i := 6) (v := ?_) rfl (by kernel_rfl) (by kernel_rfl) (by kernel_rfl) (fun _ _ _ h => h) (Or.inl ⟨by rfl, ?_⟩) hHeld ?_
        rotate_left
        · intro w hSw; (try dsimp only at hSw); go_simp
          with_reducible rfl
        refine wpAnyH_take (i := 7) (v := ?_) rfl (by kernel_rfl) (by kernel_rfl) (by kernel_rfl) (fun _ _ _ h => h) (Or.inl ⟨by rfl, ?_⟩) hHeld ?_
        rotate_left
        · intro w hSw; (try dsimp only at hSw); go_simp
          with_reducible rfl
        refine wpAnyH_take (i := 8) (v := ?_) rfl (by kernel_rfl) (by kernel_rfl) (by kernel_rfl) (fun _ _ _ h => h) (Or.inl ⟨by rfl, ?_⟩) hHeld ?_
        rotate_left
        · intro w hSw; (try dsimp only at hSw); go_simp
          with_reducible rfl
        refine wpAnyH_ready (rs := [9]) (by kernel_rfl) (by simp) ?_
        refine AllReadyH.cons rfl (fun K hK => ?_) AllReadyH.nil
        go_simp
        go_wp2_with (go_at_call 80; refine HL.out.mono ?_; rintro e w6 ⟨rfl, hb6⟩; have HB6 := Lib.hid (HSa.out.call hb6).below; clear hb6; unfold wrongE)
        exact ⟨rfl, by show SrcP (buildS _) w _ _; rw [Hbad.out]; exact ⟨rfl, HB6.out⟩⟩
      | ok row =>
        rw [show buildRow ⟨R.at_, R.loc, R.idx, R.coefs⟩ dt.n (topN fl.n) = .ok row from hbr] at hL
        have HL := Lib.hid hL
        clear hL
        have Hnx : Hid (buildRows dt.n (topN fl.n) [] rows = buildRows dt.n (topN fl.n) (acc ++ [row]) (rows.drop (k + 1))) := by show _ = _; rw [HB.out, buildRows_step HR.out, ← HS.out.len, if_pos h4, hbr]; rfl
        refine wp_region_held_drew (S := fun w' => ((w'.cell? ⟨wr.heap.size, 0, none⟩ = some (.int .i64 (R.at_ : Int)) ∧ w'.cell? ⟨wr.heap.size, 1, none⟩ = some (.bool R.loc)) ∧ w'.cell? ⟨wr.heap.size, 2, none⟩ = some (.slice A1 R.idx.length q1) ∧ w'.cell? ⟨wr.heap.size, 3, none⟩ = some (.slice A2 R.coefs.length q2)) ∧ w'.cell? ⟨w.heap.size + 2, 1, none⟩ = some (.int .i64 (fl.n : Int)) ∧ w'.cell? ⟨w.heap.size + 2, 2, none⟩ = some (.int .i64 (dt.n : Int))) (by kernel_rfl) hKeep0 (fun hHeld => ?_)
        refine wpAnyH_take (i := 0) (v := ?_) rfl (by kernel_rfl) (by kernel_rfl) (by kernel_rfl) (fun _ _ _ h => h) (Or.inl ⟨by rfl, ?_⟩) hHeld ?_
        rotate_left
        · intro w hSw; (try dsimp only at hSw); go_simp
          with_reducible rfl
        refine wpAnyH_take (i := 2) (v := ?_) rfl (by kernel_rfl) (by kernel_rfl) (by kernel_rfl) (fun _ _ _ h => h) (Or.inl ⟨by rfl, ?_⟩) hHeld ?_
        rotate_left
        · intro w hSw; (try dsimp only at hSw); go_simp
          with_reducible rfl
        refine wpAnyH_take (i := 3) (v := ?_) rfl (by kernel_rfl) (by kernel_rfl) (by kernel_rfl) (fun _ _ _ h => h) (Or.inl ⟨by rfl, ?_⟩) hHeld ?_
        rotate_left
        · intro w hSw; (try dsimp only at hSw); go_simp
          with_reducible rfl
        refine wpAnyH_take (i := 4) (v := ?_) rfl (by kernel_rfl) (by kernel_rfl) (by kernel_rfl) (fun _ _ _ h => h) (Or.inl ⟨by rfl, ?_⟩) hHeld ?_
        rotate_left
        · intro w hSw; (try dsimp only at hSw); go_simp
          with_reducible rfl
        refine wpAnyH_take (i := 5) (v := ?_) rfl (by kernel_rfl) (by kernel_rfl) (by kernel_rfl) (fun _ _ _ h => h) (Or.inl ⟨by rfl, ?_⟩) hHeld ?_
        rotate_left
        · intro w hSw; (try dsimp only at hSw); go_simp
          with_reducible rfl
        refine wpAnyH_take (i := 6) (v := ?_) rfl (by kernel_rfl) (by kernel_rfl) (by kernel_rfl) (fun _ _ _ h => h) (Or.inl ⟨by rfl, ?_⟩) hHeld ?_
        rotate_left
        · intro w hSw; (try dsimp only at hSw); go_simp
          with_reducible rfl
        refine wpAnyH_take (i := 7) (v := ?_) rfl (by kernel_rfl) (by kernel_rfl) (by kernel_rfl) (fun _ _ _ h => h) (Or.inl ⟨by rfl, ?_⟩) hHeld ?_
        rotate_left
        · intro w hSw; (try dsimp only at hSw); go_simp
          with_reducible rfl
        refine wpAnyH_take (i := 8) (v := ?_) rfl (by kernel_rfl) (by kernel_rfl) (by kernel_rfl) (fun _ _ _ h => h) (Or.inl ⟨by rfl, ?_⟩) hHeld ?_
        rotate_left
        · intro w hSw; (try dsimp only at hSw); go_simp
          with_reducible rfl
        refine wpAnyH_ready (rs := [1, 9]) (by kernel_rfl) (by simp) ?_
        refine AllReadyH.cons rfl (fun K hK => ?_) ?_
        · go_simp
          refine hK.out _ _ hHeld (fun hHeld => ?_)
          clear hK K
          refine wpAnyH_ready (rs := [9]) (by kernel_rfl) (by simp) ?_
          refine AllReadyH.cons rfl (fun K hK => ?_) AllReadyH.nil
          go_simp
          go_wp2_with (go_at_call 80; refine HL.out.mono ?_; rintro e w6 ⟨⟨Ar, cr, rfl, hrl, hsr⟩, hb6⟩; have HSr := Lib.hid hsr; have Hrl := Lib.hid hrl.symm; have HS6 := Lib.hid (HSa.out.call hb6); have H56 := Lib.hid ((hb6.block _ (Array.getElem?_eq_some_iff.1 H5.out).1).trans H5.out); have hKeep6 := HS6.out.held H56.out; have hKeep6a := fun o => (HS6.out.alloc o).held ((Below.heap_alloc _ o _ (Array.getElem?_eq_some_iff.1 H56.out).1).trans H56.out); obtain ⟨⟨-, -, -, t3, -⟩, -, -⟩ := HS6.out.cells; have t3a := cell_alloc t3; clear hsr hb6 hrl)
          refine hK.out _ _ hKeep6 (fun hHeld => ?_)
          clear hK K
          refine wpAnyH_ready (rs := [10]) (by kernel_rfl) (by simp) ?_
          refine AllReadyH.cons rfl (fun K hK => ?_) AllReadyH.nil
          go_simp
          refine hK.out _ _ (hKeep6a _) (fun hHeld => ?_)
          clear hK K
          refine wpAnyH_ready (rs := [11]) (by kernel_rfl) (by simp) ?_
          refine AllReadyH.cons rfl (fun K hK => ?_) AllReadyH.nil
          refine step_append_sl rfl _ _ 22 rfl rfl rfl so22 (HS6.out.own.alloc _) (m := 1) (news := [_]) rfl (Sl.new _ _ _) (fun u hu => by rw [List.mem_singleton] at hu; rw [hu]; rfl) hb1 hb2 (Nat.le_trans HS6.out.below.size (by simp)) ?_
          intro A5 c5 w7 ho5 hg5
          have HO5 := Lib.hid ho5
          have HG5 := Lib.hid hg5
          have hKeep7 := (HS6.out.held7 H56.out hg5 (.slice A5 (n + 1) c5)).1
          have hKeep8 := (HS6.out.held7 H56.out hg5 (.slice A5 (n + 1) c5)).2
          obtain ⟨e9, h9⟩ := HS6.out.cell2 hg5
          clear ho5 hg5
          (try go_simp)
          refine hK.out _ _ hKeep7 (fun hHeld => ?_)
          refine wpAnyH_take (i := 12) (v := ?_) rfl (by kernel_rfl) (by kernel_rfl) (by kernel_rfl) (fun _ _ _ h => h) (Or.inl ⟨by rfl, ?_⟩) hHeld ?_
          rotate_left
          · intro w hSw; (try dsimp only at hSw); go_simp
            with_reducible rfl
          clear hK K
          refine wpAnyH_ready (rs := [13]) (by kernel_rfl) (by simp) ?_
          refine AllReadyH.cons rfl (fun K hK => ?_) AllReadyH.nil
          go_simp
          refine hK.out _ _ hKeep8 (fun hHeld => ?_)
          clear hK K
          refine wpAnyH_done (by kernel_rfl) ?_ _
          go_wp2_with fail
          go_roundg (rows.length - (k + 1))
          case measure => rw [Hgk.out]; omega
          case rel => exact ⟨k + 1, A5, n + 1, c5, _, acc ++ [row], rfl, by go_num, by omega, by have := H3.out.1; omega, HS6.out.step Hrl.out HSr.out HO5.out HG5.out, Hnx.out⟩
        refine AllReadyH.cons rfl (fun K hK => ?_) AllReadyH.nil
        go_simp
        go_wp2_with (go_at_call 80; refine HL.out.mono ?_; rintro e w6 ⟨⟨Ar, cr, rfl, hrl, hsr⟩, hb6⟩; have HSr := Lib.hid hsr; have Hrl := Lib.hid hrl.symm; have HS6 := Lib.hid (HSa.out.call hb6); have H56 := Lib.hid ((hb6.block _ (Array.getElem?_eq_some_iff.1 H5.out).1).trans H5.out); have hKeep6 := HS6.out.held H56.out; have hKeep6a := fun o => (HS6.out.alloc o).held ((Below.heap_alloc _ o _ (Array.getElem?_eq_some_iff.1 H56.out).1).trans H56.out); obtain ⟨⟨-, -, -, t3, -⟩, -, -⟩ := HS6.out.cells; have t3a := cell_alloc t3; clear hsr hb6 hrl)
        refine hK.out _ _ hKeep6 (fun hHeld => ?_)
        clear hK K
        refine wpAnyH_ready (rs := [1, 10]) (by kernel_rfl) (by simp) ?_
        refine AllReadyH.cons rfl (fun K hK => ?_) ?_
        · go_simp
          refine hK.out _ _ hHeld (fun hHeld => ?_)
          clear hK K
          refine wpAnyH_ready (rs := [10]) (by kernel_rfl) (by simp) ?_
          refine AllReadyH.cons rfl (fun K hK => ?_) AllReadyH.nil
          go_simp
          refine hK.out _ _ (hKeep6a _) (fun hHeld => ?_)
          clear hK K
          refine wpAnyH_ready (rs := [11]) (by kernel_rfl) (by simp) ?_
          refine AllReadyH.cons rfl (fun K hK => ?_) AllReadyH.nil
          refine step_append_sl rfl _ _ 22 rfl rfl rfl so22 (HS6.out.own.alloc _) (m := 1) (news := [_]) rfl (Sl.new _ _ _) (fun u hu => by rw [List.mem_singleton] at hu; rw [hu]; rfl) hb1 hb2 (Nat.le_trans HS6.out.below.size (by simp)) ?_
          intro A5 c5 w7 ho5 hg5
          have HO5 := Lib.hid ho5
          have HG5 := Lib.hid hg5
          have hKeep7 := (HS6.out.held7 H56.out hg5 (.slice A5 (n + 1) c5)).1
          have hKeep8 := (HS6.out.held7 H56.out hg5 (.slice A5 (n + 1) c5)).2
          obtain ⟨e9, h9⟩ := HS6.out.cell2 hg5
          clear ho5 hg5
          (try go_simp)
          refine hK.out _ _ hKeep7 (fun hHeld => ?_)
          refine wpAnyH_take (i := 12) (v := ?_) rfl (by kernel_rfl) (by kernel_rfl) (by kernel_rfl) (fun _ _ _ h => h) (Or.inl ⟨by rfl, ?_⟩) hHeld ?_
          rotate_left
          · intro w hSw; (try dsimp only at hSw); go_simp
            with_reducible rfl
          clear hK K
          refine wpAnyH_ready (rs := [13]) (by kernel_rfl) (by simp) ?_
          refine AllReadyH.cons rfl (fun K hK => ?_) AllReadyH.nil
          go_simp
          refine hK.out _ _ hKeep8 (fun hHeld => ?_)
          clear hK K
          refine wpAnyH_done (by kernel_rfl) ?_ _
          go_wp2_with fail
          go_roundg (rows.length - (k + 1))
          case measure => rw [Hgk.out]; omega
          case rel => exact ⟨k + 1, A5, n + 1, c5, _, acc ++ [row], rfl, by go_num, by omega, by have := H3.out.1; omega, HS6.out.step Hrl.out HSr.out HO5.out HG5.out, Hnx.out⟩
        refine AllReadyH.cons rfl (fun K hK => ?_) AllReadyH.nil
        go_simp
        refine hK.out _ _ (hKeep6a _) (fun hHeld => ?_)
        clear hK K
        refine wpAnyH_ready (rs := [1]) (by kernel_rfl) (by simp) ?_
        refine AllReadyH.cons rfl (fun K hK => ?_) AllReadyH.nil
        go_simp
        refine hK.out _ _ hHeld (fun hHeld => ?_)
        clear hK K
        refine wpAnyH_ready (rs := [11]) (by kernel_rfl) (by simp) ?_
        refine AllReadyH.cons rfl (fun K hK => ?_) AllReadyH.nil
        refine step_append_sl rfl _ _ 22 rfl rfl rfl so22 (HS6.out.own.alloc _) (m := 1) (news := [_]) rfl (Sl.new _ _ _) (fun u hu => by rw [List.mem_singleton] at hu; rw [hu]; rfl) hb1 hb2 (Nat.le_trans HS6.out.below.size (by simp)) ?_
        intro A5 c5 w7 ho5 hg5
        have HO5 := Lib.hid ho5
        have HG5 := Lib.hid hg5
        have hKeep7 := (HS6.out.held7 H56.out hg5 (.slice A5 (n + 1) c5)).1
        have hKeep8 := (HS6.out.held7 H56.out hg5 (.slice A5 (n + 1) c5)).2
        obtain ⟨e9, h9⟩ := HS6.out.cell2 hg5
        clear ho5 hg5
        (try go_simp)
        refine hK.out _ _ hKeep7 (fun hHeld => ?_)
        refine wpAnyH_take (i := 12) (v := ?_) rfl (by kernel_rfl) (by kernel_rfl) (by kernel_rfl) (fun _ _ _ h => h) (Or.inl ⟨by rfl, ?_⟩) hHeld ?_
        rotate_left
        · intro w hSw; (try dsimp only at hSw); go_simp
          with_reducible rfl
        clear hK K
        refine wpAnyH_ready (rs := [13]) (by kernel_rfl) (by simp) ?_
        refine AllReadyH.cons rfl (fun K hK => ?_) AllReadyH.nil
        go_simp
        refine hK.out _ _ hKeep8 (fun hHeld => ?_)
        clear hK K
        refine wpAnyH_done (by kernel_rfl) ?_ _
        go_wp2_with fail
        go_roundg (rows.length - (k + 1))
        case measure => rw [Hgk.out]; omega
        case rel => exact ⟨k + 1, A5, n + 1, c5, _, acc ++ [row], rfl, by go_num, by omega, by have := H3.out.1; omega, HS6.out.step Hrl.out HSr.out HO5.out HG5.out, Hnx.out⟩
    · have hke : k = rows.length := by omega
      subst hke
      have Hrows : Hid (buildS ⟨nm, fl, dt, rows, dm⟩ = buildDom ⟨nm, fl, dt, rows, dm⟩ acc) := by show _ = _; rw [hHn.out, HB.out, List.drop_length]; rfl
      have hlen := HS.out.len
      subst hlen
      have So := Lib.hid (HS.out.o.set ((dt.n : Int) + (acc.length : Int)))
      clear hlt Hgk HB
      cases dm with
      | none =>
        have a12 := (cell_at HS.out.x 12 (u := strV []) rfl).1
        have HOK : Hid (buildS ⟨nm, fl, dt, rows, none⟩ = .ok ⟨nm.text, fl.n, dt.n, acc, (dt.n : Int) + (acc.length : Int)⟩) := by show _ = _; rw [Hrows.out]; unfold buildDom; simp only [Int.natCast_add]
        go_upto_region 15 with fail
        go_wp2_with (first | (refine wpList_load_row rfl 24 _ rfl (w.heap.size + 2) rfl 24 _ (0, 0) _ So.out.gc Tryd.underlying24 rfl info24 ?_) | (refine wpList_store_mid rfl 24 _ _ rfl (w.heap.size + 1) 0 #[strV nm.text, .int .i64 (fl.n : Int), .int .i64 (dt.n : Int), .slice A' acc.length c', .int .i64 ((dt.n : Int) + (acc.length : Int))] rfl rfl (there_of_row So.out.z 0 5 (Nat.le_refl _)) info24 (code_one _ _ _ _ _ _ _) ?_))
        obtain ⟨o1, o2, o3⟩ := So.out.out
        refine bodyPost_ret (results_cell_row (p := 2) (ty := 24) rfl _ _ (w.heap.size + 1) 24 _ (0, 0) _ rfl o2 Tryd.underlying24 rfl info24) rfl ?_
        show SrcP (buildS _) w _ _
        rw [HOK.out]
        exact ⟨⟨_, rfl, o1⟩, o3⟩
      | some d =>
        obtain ⟨ch, ct, htx⟩ : ∃ ch ct, d.text = ch :: ct := by
          cases h : d.text with
          | nil => exact absurd h (Hdt.out d rfl)
          | cons ch ct => exact ⟨ch, ct, rfl⟩
        have a10 := (cell_at HS.out.x 10 (u := .int .i64 (d.at_ : Int)) rfl).1
        have a11 := (cell_at HS.out.x 11 (u := .int .i64 (d.n : Int)) rfl).1
        have a12 := (cell_at HS.out.x 12 (u := strV (ch :: ct)) (by rw [← htx]; rfl)).1
        clear htx
        by_cases h5 : 1 ≤ d.n ∧ d.n ≤ dt.n + acc.length
        · have HOK : Hid (buildS ⟨nm, fl, dt, rows, some d⟩ = .ok ⟨nm.text, fl.n, dt.n, acc, (d.n : Int)⟩) := by show _ = _; rw [Hrows.out]; unfold buildDom; simp only [if_pos h5]
          have hn6 : (1 : Int) ≤ (d.n : Int) := by omega
          have hn7 : (d.n : Int) ≤ (dt.n : Int) + (acc.length : Int) := by omega
          have Sp := Lib.hid (So.out.set (d.n : Int))
          clear h5
          go_upto_region 15 with (go_at_call 60; refine (demand_ok _ _ _).mono ?_; rintro e w' ⟨rfl, hw⟩; rw [hw]; clear hw)
          go_wp2_with (first | (refine wpList_load_row rfl 24 _ rfl (w.heap.size + 2) rfl 24 _ (0, 0) _ Sp.out.gc Tryd.underlying24 rfl info24 ?_) | (refine wpList_store_mid rfl 24 _ _ rfl (w.heap.size + 1) 0 #[strV nm.text, .int .i64 (fl.n : Int), .int .i64 (dt.n : Int), .slice A' acc.length c', .int .i64 (d.n : Int)] rfl rfl (there_of_row Sp.out.z 0 5 (Nat.le_refl _)) info24 (code_one _ _ _ _ _ _ _) ?_))
          obtain ⟨o1, o2, o3⟩ := Sp.out.out
          refine bodyPost_ret (results_cell_row (p := 2) (ty := 24) rfl _ _ (w.heap.size + 1) 24 _ (0, 0) _ rfl o2 Tryd.underlying24 rfl info24) rfl ?_
          show SrcP (buildS _) w _ _
          rw [HOK.out]
          exact ⟨⟨_, rfl, o1⟩, o3⟩
        · have Hbad : Hid (buildS ⟨nm, fl, dt, rows, some d⟩ = .bad d.at_ 1) := by show _ = _; rw [Hrows.out]; unfold buildDom; simp only [if_neg h5]
          by_cases h6 : 1 ≤ d.n
          · have hn6 : (1 : Int) ≤ (d.n : Int) := by omega
            have hn7 : ¬ (d.n : Int) ≤ (dt.n : Int) + (acc.length : Int) := by omega
            clear h5 h6
            go_wp2_with (go_at_call 60; refine (demand_no _ _ _).mono ?_; rintro e w' ⟨rfl, hw⟩; rw [hw]; clear hw; unfold wrongE)
            exact ⟨rfl, by show SrcP (buildS _) w _ _; rw [Hbad.out]; exact ⟨rfl, So.out.below⟩⟩
          · have hn6 : ¬ (1 : Int) ≤ (d.n : Int) := by omega
            clear h5 h6
            go_wp2_with (go_at_call 60; refine (demand_no _ _ _).mono ?_; rintro e w' ⟨rfl, hw⟩; rw [hw]; clear hw; unfold wrongE)
            exact ⟨rfl, by show SrcP (buildS _) w _ _; rw [Hbad.out]; exact ⟨rfl, So.out.below⟩⟩
end Go.Proofs.YtafgmbchdcfkcaaDoor
