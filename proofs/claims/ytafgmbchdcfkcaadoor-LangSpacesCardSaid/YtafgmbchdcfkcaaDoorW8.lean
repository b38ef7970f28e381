/-
  The walk of the reader's code, by tokens.
-/
import Derived.Test.YtafgmbchdcfkcaaDoorKq
import Derived.Deep.RegionLaw
import Derived.Deep.RegionHeld3
import Derived.Deep.DeepCutAuto
namespace Go.Proofs.YtafgmbchdcfkcaaDoor
open Go Go.RowKit Go.Walks

set_option maxRecDepth 100000 in
set_option maxHeartbeats 8000000 in
theorem code_T (t : ByteArray) (r : Nat) (w : World) (ts : List Tok) (ht : t.size ≤ 2000) (hl : ts.length ≤ 2001) (hr7 : 7 ≤ r) (Hg : Hid (Gl w)) (Hp : Hid (PAt w r t ts)) :
    Calls Tryd.prog 59 #[.pointer (some ⟨r, 0, none⟩)] w (PRes t r (codeT ts) SrcIs w) := by
  have hrw := Hp.out.lt
  have Htx := Lib.hid Hp.out.text
  have S0 := Lib.hid ((StN.start Hp.out).new z13 95)
  go_enter Tryd.func59, Tryd.ntmps59
  go_wp2_with fail
  refine PRes.step (must_T kCode ht (by decide) (by decide) S0.out.at_) ?_ ?_
  rotate_left
  · intro p hx wb hb
    have Hnt : Hid (codeT ts = .bad p) := by show _ = _; rw [codeT_eq, hx]; rfl
    have HB := Lib.hid (S0.out.rb.trans hb)
    clear hx hb
    unfold wrongE
    go_wp2_with fail
    exact ⟨rfl, by show PRes t r (codeT ts) SrcIs w _ _; rw [Hnt.out]; exact ⟨rfl, HB.out⟩⟩
  intro p1 a1 hx e w1 hv hp1 hb1
  subst hv
  have hl1 := mustT_len hx
  obtain ⟨T1, hT1⟩ := mustT_mem hx
  have HT1 := Lib.hid hT1
  have Hn1 : Hid (codeT ts = (kindT 1 a1).next fun nm b => (mustT kOpen b).next fun _ c => (oneT kField c).next fun fl d => (oneT kData d).next fun dt e => (rowT e).next fun R f => (rowsT f.length f).next (codeK nm fl dt [R])) := by show _ = _; rw [codeT_eq, hx]; rfl
  have S1 := Lib.hid (S0.out.call hb1 hp1)
  clear hx hb1 hp1 hT1
  go_wp2_with fail
  refine PRes.step (read1_T ht hr7 (S1.out.gl Hg.out hr7) S1.out.at_) ?_ ?_
  rotate_left
  · intro p hx wb hb
    have Hnt : Hid (codeT ts = .bad p) := by show _ = _; rw [Hn1.out, hx]; rfl
    have HB := Lib.hid (S1.out.rb.trans hb)
    clear hx hb
    unfold wrongE
    go_wp2_with fail
    exact ⟨rfl, by show PRes t r (codeT ts) SrcIs w _ _; rw [Hnt.out]; exact ⟨rfl, HB.out⟩⟩
  intro nm a2 hx e w2 hv hp2 hb2
  unfold MarkIs at hv
  subst hv
  obtain ⟨q2, hq2, hk2, hq2'⟩ := kindT_mem hx
  have Hnm : Hid (nm.text ≠ []) := Htx.out nm (by rw [HT1.out, hq2]; simp) (by omega)
  have hl2 := kindT_len hx
  have Hn2 : Hid (codeT ts = (mustT kOpen a2).next fun _ c => (oneT kField c).next fun fl d => (oneT kData d).next fun dt e => (rowT e).next fun R f => (rowsT f.length f).next (codeK nm fl dt [R])) := by show _ = _; rw [Hn1.out, hx]; rfl
  have S2 := Lib.hid (S1.out.call hb2 hp2)
  clear hx hb2 hp2 Hn1 hq2 hq2' hk2
  go_wp2_with fail
  have hg1 : w.heap.size < w2.heap.size := (Array.getElem?_eq_some_iff.1 S2.out.head).1
  have S2' := Lib.hid (S2.out.new #[.int .i64 (nm.at_ : Int), .int .i64 (nm.n : Int), strV nm.text, .int .i64 0, .int .i64 0, .string ⟨#[]⟩, .int .i64 0, .int .i64 0, .string ⟨#[]⟩, .slice none 0 0, .int .i64 0, .int .i64 0, .string ⟨#[]⟩] 95)
  have hdis : ∀ x ∈ [(w.heap.size, z13, (95 : TypeId))], x.1 ≠ w2.heap.size := by intro x hx; simp at hx; subst hx; show w.heap.size ≠ _; omega
  have Hdis := Lib.hid hdis
  clear hdis
  refine PRes.step (must_T kOpen ht (by decide) (by decide) S2'.out.at_) ?_ ?_
  rotate_left
  · intro p hx wb hb
    have Hnt : Hid (codeT ts = .bad p) := by show _ = _; rw [Hn2.out, hx]; rfl
    have HB := Lib.hid (S2'.out.rb.trans hb)
    clear hx hb
    unfold wrongE
    go_wp2_with fail
    exact ⟨rfl, by show PRes t r (codeT ts) SrcIs w _ _; rw [Hnt.out]; exact ⟨rfl, HB.out⟩⟩
  intro p3 a3 hx e w3 hv hp3 hb3
  subst hv
  have hl3 := mustT_len hx
  have Hn3 : Hid (codeT ts = (oneT kField a3).next fun fl d => (oneT kData d).next fun dt e => (rowT e).next fun R f => (rowsT f.length f).next (codeK nm fl dt [R])) := by show _ = _; rw [Hn2.out, hx]; rfl
  have S3 := Lib.hid (S2'.out.call hb3 hp3)
  clear hx hb3 hp3 Hn2
  go_wp2_with fail
  refine PRes.step (one_T t r _ a3 kField (by decide) (by decide) ht hr7 (S3.out.gl Hg.out hr7) S3.out.at_) ?_ ?_
  rotate_left
  · intro p hx wb hb
    have Hnt : Hid (codeT ts = .bad p) := by show _ = _; rw [Hn3.out, hx]; rfl
    have HB := Lib.hid (S3.out.rb.trans hb)
    clear hx hb
    unfold wrongE
    go_wp2_with fail
    exact ⟨rfl, by show PRes t r (codeT ts) SrcIs w _ _; rw [Hnt.out]; exact ⟨rfl, HB.out⟩⟩
  intro fl a4 hx e w4 hv hp4 hb4
  unfold MarkIs at hv
  subst hv
  have hl4 := (oneT_text S3.out.at_.text hx).2
  have Hn4 : Hid (codeT ts = (oneT kData a4).next fun dt e => (rowT e).next fun R f => (rowsT f.length f).next (codeK nm fl dt [R])) := by show _ = _; rw [Hn3.out, hx]; rfl
  have S4 := Lib.hid (S3.out.call hb4 hp4)
  clear hx hb4 hp4 Hn3
  go_wp2_with fail
  refine PRes.step (one_T t r _ a4 kData (by decide) (by decide) ht hr7 (S4.out.gl Hg.out hr7) S4.out.at_) ?_ ?_
  rotate_left
  · intro p hx wb hb
    have Hnt : Hid (codeT ts = .bad p) := by show _ = _; rw [Hn4.out, hx]; rfl
    have HB := Lib.hid (S4.out.rb.trans hb)
    clear hx hb
    unfold wrongE
    go_wp2_with fail
    exact ⟨rfl, by show PRes t r (codeT ts) SrcIs w _ _; rw [Hnt.out]; exact ⟨rfl, HB.out⟩⟩
  intro dt a5 hx e w5 hv hp5 hb5
  unfold MarkIs at hv
  subst hv
  have hl5 := (oneT_text S4.out.at_.text hx).2
  have Hn5 : Hid (codeT ts = (rowT a5).next fun R f => (rowsT f.length f).next (codeK nm fl dt [R])) := by show _ = _; rw [Hn4.out, hx]; rfl
  have S5 := Lib.hid (S4.out.call hb5 hp5)
  clear hx hb5 hp5 Hn4
  obtain ⟨c3, f3⟩ := cell_at S5.out.head 3 rfl
  obtain ⟨c4, f4⟩ := cell_at S5.out.head 4 rfl
  obtain ⟨c5, f5⟩ := cell_at S5.out.head 5 rfl
  obtain ⟨c6, f6⟩ := cell_at S5.out.head 6 rfl
  obtain ⟨c7, f7⟩ := cell_at S5.out.head 7 rfl
  obtain ⟨c8, f8⟩ := cell_at S5.out.head 8 rfl
  go_upto_region 5 with fail
  have S6 := Lib.hid ((((((S5.out.set Hdis.out 3 (.int .i64 (fl.at_ : Int)) rfl).set Hdis.out 4 (.int .i64 (fl.n : Int)) rfl).set Hdis.out 5 (strV fl.text) rfl).set Hdis.out 6 (.int .i64 (dt.at_ : Int)) rfl).set Hdis.out 7 (.int .i64 (dt.n : Int)) rfl).set Hdis.out 8 (strV dt.text) rfl)
  clear c3 c4 c5 c6 c7 c8 f3 f4 f5 f6 f7 f8
  obtain ⟨W6, hW6⟩ : ∃ W6, W6 = (((((w5.setCell ⟨w2.heap.size, 3, none⟩ (.int .i64 (fl.at_ : Int))).setCell ⟨w2.heap.size, 4, none⟩ (.int .i64 (fl.n : Int))).setCell ⟨w2.heap.size, 5, none⟩ (strV fl.text)).setCell ⟨w2.heap.size, 6, none⟩ (.int .i64 (dt.at_ : Int))).setCell ⟨w2.heap.size, 7, none⟩ (.int .i64 (dt.n : Int))).setCell ⟨w2.heap.size, 8, none⟩ (strV dt.text) := ⟨_, rfl⟩
  rw [← hW6] at S6
  rw [← hW6]
  clear hW6
  have hC6 : CodeSt w r t w.heap.size w2.heap.size nm fl dt [] a5 W6 := ⟨none, 0, 0, [], rfl, S6.out, own_nil _ _ _ _, rfl⟩
  have C6 := Lib.hid hC6
  clear hC6
  have hl5' : a5.length ≤ 2001 := by omega
  go_cut [] (fun wx => Hid (∃ R f, rowT a5 = .ok R f ∧ CodeSt w r t w.heap.size w2.heap.size nm fl dt [R] f wx))
  case first =>
    obtain ⟨A, c, rc, hp⟩ := C6.out.pc
    have HP := Lib.hid hp.drew
    have HR6 := Lib.hid hp.s.drew.rb
    clear hp
    obtain ⟨c9, f9⟩ := HP.out.cell
    cases hrow : rowT a5 with
    | bad p =>
      have Hnt : Hid (codeT ts = .bad p) := by show _ = _; rw [Hn5.out, hrow]; rfl
      refine wp_region_held_drew (S := fun w' => w'.cell? ⟨w2.heap.size, 9, none⟩ = some (.slice A 0 c)) (by kernel_rfl) c9 (fun hHeld => ?_)
      refine wpAnyH_take (i := 0) (v := ?_) rfl (by kernel_rfl) (by kernel_rfl) (by kernel_rfl) (fun _ _ _ h => h) (Or.inl ⟨by rfl, ?_⟩) hHeld ?_
      rotate_left
      · intro w hSw; (try dsimp only at hSw); go_simp
        with_reducible rfl
      refine wpAnyH_take (i := 2) (v := ?_) rfl (by kernel_rfl) (by kernel_rfl) (by kernel_rfl) (fun _ _ _ h => h) (Or.inl ⟨by rfl, ?_⟩) hHeld ?_
      rotate_left
      · intro w hSw; (try dsimp only at hSw); go_simp
        with_reducible rfl
      refine wpAnyH_take (i := 1) (v := ?_) rfl (by kernel_rfl) (by kernel_rfl) (by kernel_rfl) (fun _ _ _ h => h) (Or.inl ⟨by rfl, ?_⟩) hHeld ?_
      rotate_left
      · intro w hSw; (try dsimp only at hSw); go_simp
        with_reducible rfl
      refine wpAnyH_ready (rs := [3]) (by kernel_rfl) (by simp) ?_
      refine AllReadyH.cons rfl (fun K hK => ?_) AllReadyH.nil
      go_simp
      go_wp2_with (go_at_call 78; refine (row_bad hrow ht hl5' hr7 (HP.out.s.gl Hg.out hr7) HP.out.s.at_).mono ?_; rintro e w6 ⟨rfl, hb6⟩; have HB6 := Lib.hid (HR6.out.trans hb6); clear hb6; unfold wrongE)
      exact ⟨rfl, by show PRes t r (codeT ts) SrcIs w _ _; rw [Hnt.out]; exact ⟨rfl, HB6.out⟩⟩
    | ok R f =>
      have hb1 : ([] : List Row).length + 1 ≤ maxLen := by decide
      have hb2 : (([] : List Row).length + 1) * 64 ≤ 140737488355328 := by decide
      go_region_law (first | (go_simp; go_at_call 78; refine (row_ok hrow ht hl5' hr7 (HP.out.s.gl Hg.out hr7) HP.out.s.at_).mono ?_; rintro e w6 ⟨⟨cs, rfl, hRc⟩, hp6, hb6⟩; obtain ⟨A1, q1, A2, q2, rfl, hs1, hs2⟩ := id hRc; have HRc := Lib.hid hRc; have HP7 := Lib.hid (HP.out.call hb6 hp6); obtain ⟨d9, g9⟩ := HP7.out.cell; have a9 := HP7.out.cella; clear hRc hs1 hs2 hp6 hb6) | (refine step_append_sl rfl _ _ 93 rfl rfl rfl so93 (HP7.out.own _) (m := 1) (news := [_, _, _, _]) rfl (Sl.new _ _ _) ?_ ?_ ?_ ?_ ?_; (exact HRc.out.one); (exact hb1); (exact hb2); (exact Nat.le_trans HP7.out.le (by simp)); intro A5 c5 w7 ho5 hg5; have HO5 := Lib.hid ho5; have HG5 := Lib.hid hg5; obtain ⟨e9, h9⟩ := HP7.out.cell2 hg5; clear ho5 hg5) | (go_simp; go_at_call 78; refine (row_ok hrow ht hl5' hr7 (HP.out.s.gl Hg.out hr7) HP.out.s.at_).mono ?_; rintro e w6 ⟨⟨cs, rfl, hRc⟩, hp6, hb6⟩; obtain ⟨A1, q1, A2, q2, rfl, hs1, hs2⟩ := id hRc; have HRc := Lib.hid hRc; have HP7 := Lib.hid (HP.out.call hb6 hp6); obtain ⟨d9, g9⟩ := HP7.out.cell; have a9 := HP7.out.cella; clear hRc hs1 hs2 hp6 hb6))
      all_goals
        go_wp2_with fail
        go_meet
        exact ⟨R, f, hrow, HP7.out.step (by omega) rfl HRc.out HO5.out HG5.out⟩
  case rest =>
    obtain ⟨R0, f0, hrow, hC⟩ := hcut.out
    have HC0 := Lib.hid hC
    have Hn6 : Hid (codeT ts = (rowsT f0.length f0).next (codeK nm fl dt [R0])) := by show _ = _; rw [Hn5.out, hrow]; rfl
    have hl6 := rowT_len hrow
    clear hcut hC hrow C6
    have hne0 : w.heap.size ≠ w2.heap.size := by omega
    go_wp2_with fail
    go_loopg [] f0.length (fun g wr => ∃ (Rs : List Row) (rest : List Tok), g = rest.length ∧ Hid (Rs.length + rest.length ≤ 2001) ∧ Hid (CodeSt w r t w.heap.size w2.heap.size nm fl dt Rs rest wr) ∧ Hid (codeT ts = (rowsT rest.length rest).next (codeK nm fl dt Rs)))
    case atStart => exact ⟨[R0], f0, rfl, (show _ ≤ _ by simp; omega), HC0.out, Hn6.out⟩
    case round =>
      obtain ⟨Rs, rest, hgk, HL, HC, HN⟩ := hrel
      have Hgk := Lib.hid hgk
      clear hgk
      have hlen := HL.out
      go_upto_region 6 with fail
      go_cut [31] (fun s31 wx => s31 = .bool (moreR rest) ∧ Hid (CodeSt w r t w.heap.size w2.heap.size nm fl dt Rs rest wx))
      case first =>
        go_wp2_with fail
        refine (token_T ht HC.out.at_).mono ?_
        rintro e wa ⟨rfl, hpa, hba⟩
        have HCa := Lib.hid (HC.out.call hba hpa.at)
        clear hpa hba
        cases hpar : headIs kParity rest with
        | true =>
          have hst : (headTx rest == [112, 97, 114, 105, 116, 121]) = true := by rw [← hpar, headIs_tx _ (by decide)]; rfl
          have Hm : Hid (moreR rest = true) := by show _ = _; unfold moreR; rw [hpar]; rfl
          clear hpar
          go_wp2_with fail
          go_meet
          exact ⟨by rw [Hm.out], HCa.out⟩
        | false =>
          have hst : (headTx rest == [112, 97, 114, 105, 116, 121]) = false := by rw [← hpar, headIs_tx _ (by decide)]; rfl
          have Hm : Hid (moreR rest = headIs kLocal rest) := by show _ = _; unfold moreR; rw [hpar]; rfl
          have hst2 : (headTx rest == [108, 111, 99, 97, 108]) = headIs kLocal rest := by rw [headIs_tx _ (by decide)]; rfl
          clear hpar
          generalize headIs kLocal rest = b at *
          go_wp2_with fail
          refine (token_T ht HCa.out.at_).mono ?_
          rintro e wb ⟨rfl, hpb, hbb⟩
          have HCb := Lib.hid (HCa.out.call hbb hpb.at)
          clear hpb hbb
          go_wp2_with fail
          go_meet
          exact ⟨by rw [Hm.out], HCb.out⟩
      case rest =>
        obtain ⟨rfl, hCc⟩ := hcut
        cases hm : moreR rest with
        | true =>
          go_upto_region 7 with fail
          obtain ⟨A, c, rc, hp⟩ := hCc.out.pc
          have HP := Lib.hid hp.drew
          have HR6 := Lib.hid hp.s.drew.rb
          clear hp hCc HC
          obtain ⟨c9, f9⟩ := HP.out.cell
          have hlr : rest.length ≤ 2001 := by omega
          cases hrow : rowT rest with
          | bad p =>
            have Hnt : Hid (codeT ts = .bad p) := by show _ = _; rw [HN.out, codeK_bad _ _ _ _ hm hrow]
            clear hm
            refine wp_region_held_drew (S := fun w' => w'.cell? ⟨w2.heap.size, 9, none⟩ = some (.slice A Rs.length c)) (by kernel_rfl) c9 (fun hHeld => ?_)
            refine wpAnyH_take (i := 0) (v := ?_) rfl (by kernel_rfl) (by kernel_rfl) (by kernel_rfl) (fun _ _ _ h => h) (Or.inl ⟨by rfl, ?_⟩) hHeld ?_
            rotate_left
            · intro w hSw; (try dsimp only at hSw); go_simp
              with_reducible rfl
            refine wpAnyH_take (i := 2) (v := ?_) rfl (by kernel_rfl) (by kernel_rfl) (by kernel_rfl) (fun _ _ _ h => h) (Or.inl ⟨by rfl, ?_⟩) hHeld ?_
            rotate_left
            · intro w hSw; (try dsimp only at hSw); go_simp
              with_reducible rfl
            refine wpAnyH_take (i := 1) (v := ?_) rfl (by kernel_rfl) (by kernel_rfl) (by kernel_rfl) (fun _ _ _ h => h) (Or.inl ⟨by rfl, ?_⟩) hHeld ?_
            rotate_left
            · intro w hSw; (try dsimp only at hSw); go_simp
              with_reducible rfl
            refine wpAnyH_ready (rs := [3]) (by kernel_rfl) (by simp) ?_
            refine AllReadyH.cons rfl (fun K hK => ?_) AllReadyH.nil
            go_simp
            go_wp2_with (go_at_call 78; refine (row_bad hrow ht hlr hr7 (HP.out.s.gl Hg.out hr7) HP.out.s.at_).mono ?_; rintro e w6 ⟨rfl, hb6⟩; have HB6 := Lib.hid (HR6.out.trans hb6); clear hb6; unfold wrongE)
            exact ⟨rfl, by show PRes t r (codeT ts) SrcIs w _ _; rw [Hnt.out]; exact ⟨rfl, HB6.out⟩⟩
          | ok R f =>
            have HN' : Hid (codeT ts = (rowsT f.length f).next (codeK nm fl dt (Rs ++ [R]))) := by show _ = _; rw [HN.out, codeK_step _ _ _ _ hm hrow]
            have hlf := rowT_len hrow
            clear hm
            have hb1 : Rs.length + 1 ≤ maxLen := by unfold maxLen; omega
            have hb2 : (Rs.length + 1) * 64 ≤ 140737488355328 := by omega
            go_region_law (first | (go_simp; go_at_call 78; refine (row_ok hrow ht hlr hr7 (HP.out.s.gl Hg.out hr7) HP.out.s.at_).mono ?_; rintro e w6 ⟨⟨cs, rfl, hRc⟩, hp6, hb6⟩; obtain ⟨A1, q1, A2, q2, rfl, hs1, hs2⟩ := id hRc; have HRc := Lib.hid hRc; have HP7 := Lib.hid (HP.out.call hb6 hp6); obtain ⟨d9, g9⟩ := HP7.out.cell; have a9 := HP7.out.cella; clear hRc hs1 hs2 hp6 hb6) | (refine step_append_sl rfl _ _ 93 rfl rfl rfl so93 (HP7.out.own _) (m := 1) (news := [_, _, _, _]) rfl (Sl.new _ _ _) ?_ ?_ ?_ ?_ ?_; (exact HRc.out.one); (exact hb1); (exact hb2); (exact Nat.le_trans HP7.out.le (by simp)); intro A5 c5 w7 ho5 hg5; have HO5 := Lib.hid ho5; have HG5 := Lib.hid hg5; obtain ⟨e9, h9⟩ := HP7.out.cell2 hg5; clear ho5 hg5))
            all_goals
              go_wp2_with fail
              go_roundg f.length
              case measure => rw [Hgk.out]; omega
              case rel => exact ⟨Rs ++ [R], f, rfl, (show _ ≤ _ by simp; omega), HP7.out.step hne0 rfl HRc.out HO5.out HG5.out, HN'.out⟩
        | false =>
          have HN' : Hid (codeT ts = codeK nm fl dt Rs [] rest) := by show _ = _; rw [HN.out, codeK_end _ _ _ _ hm]
          clear hm
          have HCc := Lib.hid hCc.out
          clear hCc HC
          have hst : (headTx rest == [100, 111, 109, 97, 105, 110]) = headIs kDomain rest := by rw [headIs_tx _ (by decide)]; rfl
          generalize hb : headIs kDomain rest = b at hst
          have Hb := Lib.hid hb
          clear hb
          go_upto_if 41 with (go_at_call 79; refine (token_T ht HCc.out.at_).mono ?_; rintro e wa ⟨rfl, hpa, hba⟩; have HCa := Lib.hid (HCc.out.call hba hpa.at); clear hpa hba)
          go_cut [] (fun wx => Hid (∃ A c rc dm g, codeT ts = ((mustT kClose g).next fun _ i => .ok ⟨nm, fl, dt, Rs, dm⟩ i) ∧ (∀ d, dm = some d → d.text ≠ []) ∧ CodeFin w r t w.heap.size w2.heap.size nm fl dt A c rc Rs dm g wx))
          case first =>
            obtain ⟨A, c, rc, hF⟩ := HCa.out.fin
            have HF := Lib.hid hF
            clear hF
            cases b with
            | false =>
              go_wp2_with fail
              go_meet
              exact ⟨A, c, rc, none, rest, by rw [HN'.out, codeK, domT, Hb.out, List.append_nil]; rfl, (fun d hd => by cases hd), HF.out⟩
            | true =>
              go_wp2_with fail
              refine PRes.step (one_T t r _ rest kDomain (by decide) (by decide) ht hr7 (HF.out.s.gl Hg.out hr7) HF.out.s.at_) ?_ ?_
              · intro dm g hx e w8 hv hp8 hb8
                unfold MarkIs at hv
                subst hv
                have Hdt := Lib.hid (oneT_text HF.out.s.at_.text hx).1
                have Hn8 : Hid (codeT ts = ((mustT kClose g).next fun _ i => .ok ⟨nm, fl, dt, Rs, some dm⟩ i)) := by show _ = _; rw [HN'.out, codeK, domT, Hb.out, if_pos rfl, hx, List.append_nil]; rfl
                have HF8 := Lib.hid (HF.out.call hb8 hp8)
                obtain ⟨⟨c10, f10⟩, ⟨c11, f11⟩, ⟨c12, f12⟩⟩ := HF8.out.cell
                clear hx hb8 hp8
                go_wp2_with fail
                go_meet
                exact ⟨A, c, rc, some dm, g, Hn8.out, (fun d hd => by injection hd with hd; subst hd; exact Hdt.out), HF8.out.dom hne0 dm⟩
              · intro p hx wb hb
                have Hnt : Hid (codeT ts = .bad p) := by show _ = _; rw [HN'.out, codeK, domT, Hb.out, if_pos rfl, hx]; rfl
                have HB := Lib.hid (HF.out.s.rb.trans hb)
                clear hx hb
                unfold wrongE
                go_wp2_with fail
                exact ⟨rfl, by show PRes t r (codeT ts) SrcIs w _ _; rw [Hnt.out]; exact ⟨rfl, HB.out⟩⟩
          case rest =>
            obtain ⟨A, c, rc, dm, g, hn, hdm, hF⟩ := hcut.out
            have HF := Lib.hid hF
            have Hn9 := Lib.hid hn
            have Hdm := Lib.hid hdm
            clear hcut hF hn hdm HN' HCa HCc
            go_wp2_with fail
            refine PRes.step (must_T kClose ht (by decide) (by decide) HF.out.s.at_) ?_ ?_
            · intro p9 i hx e w9 hv hp9 hb9
              subst hv
              have Hn10 : Hid (codeT ts = .ok ⟨nm, fl, dt, Rs, dm⟩ i) := by show _ = _; rw [Hn9.out, hx]; rfl
              have HF9 := Lib.hid (HF.out.call hb9 hp9)
              clear hx hb9 hp9
              have hsz : (Tryd.prog.info? 95).map (·.size) = some (sCs nm fl dt (.slice A Rs.length c) dm).size := by rw [sCs_size]; exact info95
              have hth : w9.there w.heap.size 0 (sCs nm fl dt (.slice A Rs.length c) dm).size := there_of_row HF9.out.s.swap.head 0 _ (by rw [sCs_size]; decide)
              have h1c := sCs_one nm fl dt A Rs.length c dm
              go_wp2_with (first | (refine wpList_load_row rfl 95 _ rfl w2.heap.size rfl 95 (sCs nm fl dt (.slice A Rs.length c) dm) (0, 0) _ HF9.out.s.head Tryd.underlying95 rfl hsz ?_) | (refine wpList_store_mid rfl 95 _ _ rfl w.heap.size 0 (sCs nm fl dt (.slice A Rs.length c) dm) rfl rfl hth hsz h1c ?_))
              obtain ⟨o1, o2, o3, o4⟩ := HF9.out.out hne0 Hnm.out Hdm.out
              refine bodyPost_ret (results_cell_row (p := 2) (ty := 95) rfl _ _ w.heap.size 95 _ (0, 0) _ rfl o1 Tryd.underlying95 rfl hsz) rfl ?_
              show PRes t r (codeT ts) SrcIs w _ _
              rw [Hn10.out]
              exact ⟨⟨_, rfl, o2⟩, o3, o4⟩
            · intro p hx wb hb
              have Hnt : Hid (codeT ts = .bad p) := by show _ = _; rw [Hn9.out, hx]; rfl
              have HB := Lib.hid (HF.out.s.rb.trans hb)
              clear hx hb
              unfold wrongE
              go_wp2_with fail
              exact ⟨rfl, by show PRes t r (codeT ts) SrcIs w _ _; rw [Hnt.out]; exact ⟨rfl, HB.out⟩⟩
end Go.Proofs.YtafgmbchdcfkcaaDoor
