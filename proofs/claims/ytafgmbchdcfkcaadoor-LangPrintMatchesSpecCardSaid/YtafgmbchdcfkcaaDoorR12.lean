/-
  The walk of the reference's code.
-/
import Derived.Test.YtafgmbchdcfkcaaDoorR8
import Derived.Deep.RegionLaw
import Derived.Deep.DeepCutAuto
namespace Go.Proofs.YtafgmbchdcfkcaaDoor
open Go Go.RowKit Go.Walks

set_option maxRecDepth 100000 in
set_option maxHeartbeats 8000000 in
theorem code_R {l : List Tok} (hw : WFl l) (hl : l.length ≤ 2001) {x : PR Unit} (gp : Nat) (At : Option Addr) (ct : Nat) (w : World) (Hx : Hid (RAt w gp l At ct x)) :
    Calls Tryd.prog 43 #[.pointer (some ⟨gp, 0, none⟩)] w (SrcR gp l At ct x w) := by
  have hlt := Hx.out.lt
  have S1 := Lib.hid ((StR.start Hx.out).new z5r 77)
  go_enter Tryd.func43, Tryd.ntmps43
  go_wp2_with fail
  refine (must_R hw hl kCode rfl rfl S1.out.at_).mono ?_
  rintro e w1 ⟨K0, rfl, -, hr1, hb1⟩
  have S2 := Lib.hid (S1.out.call hb1 hr1)
  clear hr1 hb1
  go_wp2_with fail
  refine (kind_R hw hl 1 (by omega) S2.out.at_).mono ?_
  rintro e w2 ⟨N, rfl, hN, hr2, hb2⟩
  have S3 := Lib.hid (S2.out.call hb2 hr2)
  have HN := Lib.hid hN
  have hg1 : w.heap.size < w2.heap.size := (Array.getElem?_eq_some_iff.1 S3.out.head).1
  have S4 := Lib.hid (S3.out.new (srcR N (.slice none 0 0)) 77)
  clear hr2 hb2 hN
  unfold tokR
  go_wp2_with fail
  refine (must_R hw hl kOpen rfl rfl S4.out.at_).mono ?_
  rintro e w3 ⟨K1, rfl, -, hr3, hb3⟩
  have C0 := Lib.hid (CdY.start (S4.out.call hb3 hr3) (by omega) hl)
  clear hr3 hb3
  unfold tokR
  go_upto_region 4 with fail
  go_cut [] (fun wx => Hid (CdY w gp l At ct w.heap.size w2.heap.size N 2003 (addOne kField (startY (mustU kOpen (kindU 1 (mustU kCode x))))) wx))
  case first =>
    obtain ⟨A, c, cs, Ls, hS, hM, hB⟩ := C0.out
    have HP := Lib.hid hS.drew
    have HM := Lib.hid hM
    have HB := Lib.hid hB
    have hb1 : Ls.length + 1 ≤ maxLen := by unfold maxLen; omega
    have hb2 : (Ls.length + 1) * 88 ≤ 140737488355328 := by omega
    obtain ⟨c9, f9⟩ := HP.out.cell
    clear hS hM hB
    go_region_law (first | (go_simp; go_at_call 63; refine (one_V hw hl gp At ct kField rfl rfl _ HP.out.s.at_).mono ?_; rintro e w6 ⟨K, M, A1, q, rfl, hL6, hv6, hr6, hb6⟩; have HL6 := Lib.hid hL6; have HV6 := Lib.hid hv6; have HP6 := Lib.hid (HP.out.call hb6 hr6); obtain ⟨d9, g9⟩ := HP6.out.cell; have a9 := HP6.out.cella; clear hL6 hv6 hr6 hb6) | (refine step_append_sl rfl _ _ 75 rfl rfl rfl so75 (HP6.out.own _) (m := 1) (news := [_, _, _, _, _, _]) rfl (Sl.new _ _ _) ?_ ?_ ?_ ?_ ?_; (exact HL6.out.one); (exact hb1); (exact hb2); (exact Nat.le_trans HP6.out.le (by simp)); intro A5 c5 w7 ho5 hg5; have HO5 := Lib.hid ho5; have HG5 := Lib.hid hg5; obtain ⟨e9, h9⟩ := HP6.out.cell2 hg5; clear ho5 hg5) | (go_simp; go_at_call 63; refine (one_V hw hl gp At ct kField rfl rfl _ HP.out.s.at_).mono ?_; rintro e w6 ⟨K, M, A1, q, rfl, hL6, hv6, hr6, hb6⟩; have HL6 := Lib.hid hL6; have HV6 := Lib.hid hv6; have HP6 := Lib.hid (HP.out.call hb6 hr6); obtain ⟨d9, g9⟩ := HP6.out.cell; have a9 := HP6.out.cella; clear hL6 hv6 hr6 hb6))
    all_goals
      go_wp2_with fail
      go_meet
      exact cdy_one (HP6.out.step HL6.out HO5.out HG5.out) HM.out HV6.out HB.out
  case rest =>
  have C1 := Lib.hid hcut.out
  clear hcut C0
  go_upto_region 5 with fail
  go_cut [] (fun wx => Hid (CdY w gp l At ct w.heap.size w2.heap.size N 2004 (addOne kData (addOne kField (startY (mustU kOpen (kindU 1 (mustU kCode x)))))) wx))
  case first =>
    obtain ⟨A, c, cs, Ls, hS, hM, hB⟩ := C1.out
    have HP := Lib.hid hS.drew
    have HM := Lib.hid hM
    have HB := Lib.hid hB
    have hb1 : Ls.length + 1 ≤ maxLen := by unfold maxLen; omega
    have hb2 : (Ls.length + 1) * 88 ≤ 140737488355328 := by omega
    obtain ⟨c9, f9⟩ := HP.out.cell
    clear hS hM hB
    go_region_law (first | (go_simp; go_at_call 63; refine (one_V hw hl gp At ct kData rfl rfl _ HP.out.s.at_).mono ?_; rintro e w6 ⟨K, M, A1, q, rfl, hL6, hv6, hr6, hb6⟩; have HL6 := Lib.hid hL6; have HV6 := Lib.hid hv6; have HP6 := Lib.hid (HP.out.call hb6 hr6); obtain ⟨d9, g9⟩ := HP6.out.cell; have a9 := HP6.out.cella; clear hL6 hv6 hr6 hb6) | (refine step_append_sl rfl _ _ 75 rfl rfl rfl so75 (HP6.out.own _) (m := 1) (news := [_, _, _, _, _, _]) rfl (Sl.new _ _ _) ?_ ?_ ?_ ?_ ?_; (exact HL6.out.one); (exact hb1); (exact hb2); (exact Nat.le_trans HP6.out.le (by simp)); intro A5 c5 w7 ho5 hg5; have HO5 := Lib.hid ho5; have HG5 := Lib.hid hg5; obtain ⟨e9, h9⟩ := HP6.out.cell2 hg5; clear ho5 hg5) | (go_simp; go_at_call 63; refine (one_V hw hl gp At ct kData rfl rfl _ HP.out.s.at_).mono ?_; rintro e w6 ⟨K, M, A1, q, rfl, hL6, hv6, hr6, hb6⟩; have HL6 := Lib.hid hL6; have HV6 := Lib.hid hv6; have HP6 := Lib.hid (HP.out.call hb6 hr6); obtain ⟨d9, g9⟩ := HP6.out.cell; have a9 := HP6.out.cella; clear hL6 hv6 hr6 hb6))
    all_goals
      go_wp2_with fail
      go_meet
      exact cdy_one (HP6.out.step HL6.out HO5.out HG5.out) HM.out HV6.out HB.out
  case rest =>
  have C2 := Lib.hid hcut.out
  clear hcut C1
  have C3 : Hid (CdY w gp l At ct w.heap.size w2.heap.size N 2004 (bodyY x) wc) := C2.out
  clear C2
  have hleft : leftU (bodyY x).forget ≤ 2002 := by have := C3.out.at_.left; omega
  go_wp2_with fail
  go_loopg [4] (leftU (bodyY x).forget) (fun g s4 wr => ∃ (k : Nat) (y : PR (List PL)), s4 = .int .i64 (k : Int) ∧ g = leftU y.forget ∧ k + leftU y.forget ≤ 2010 ∧ Hid (CdY w gp l At ct w.heap.size w2.heap.size N 2004 y wr) ∧ Hid (LoopY x k y))
  case atStart => exact ⟨0, bodyY x, rfl, rfl, by omega, C3.out, ⟨fun _ => rfl, fun h => absurd h (by omega)⟩⟩
  case round =>
    obtain ⟨k, y, rfl, hg, hky, HC, HY⟩ := hrel
    have Hg := Lib.hid hg
    clear hg C3 hleft
    go_upto_region 7 with fail
    go_cut [47] (fun s47 wx => s47 = .bool (condY k y) ∧ Hid (CdY w gp l At ct w.heap.size w2.heap.size N 2004 y wx))
    case first =>
      cases y with
      | bad p =>
        obtain ⟨i, hp, hi⟩ := HC.out.at_
        obtain ⟨-, -, c2, -, -, -⟩ := hp.cells
        have q1 : decide ((p : Int) < 0) = false := decide_eq_false (by omega)
        clear hp
        go_wp2_with fail
        go_meet
        exact ⟨rfl, HC.out⟩
      | ok acc ts =>
        obtain ⟨i, hp, hi, -⟩ := HC.out.at_
        obtain ⟨-, -, c2, -, -, -⟩ := hp.cells
        clear hp
        by_cases hk0 : k = 0
        · have q0 : ((k : Int) == 0) = true := by rw [hk0]; rfl
          have Hc : Hid (condY k (.ok acc ts) = true) := by show _ = _; unfold condY; rw [hk0]; rfl
          clear hk0
          go_wp2_with fail
          go_meet
          exact ⟨by rw [Hc.out], HC.out⟩
        · have q0 : ((k : Int) == 0) = false := by rw [beq_eq_false_iff_ne]; omega
          have Hc : Hid (condY k (.ok acc ts) = (headIs kParity ts || headIs kLocal ts)) := by show (decide (k = 0) || _) = _; rw [decide_eq_false hk0]; rfl
          clear hk0
          have hA : RAt wr gp l At ct (.ok () ts) := HC.out.at_
          have hcall := is_R hw kParity rfl rfl hA
          cases hpar : headIs kParity ts with
          | true =>
            rw [show isU kParity (.ok () ts) = true from hpar] at hcall
            have Hcall := Lib.hid hcall
            have Hc2 : Hid (condY k (.ok acc ts) = true) := by show _ = _; rw [Hc.out, hpar]; rfl
            clear hcall hpar hA Hc
            go_wp2_with fail
            refine Hcall.out.mono ?_
            rintro e wa ⟨rfl, hba⟩
            have HCa := Lib.hid (HC.out.below hba)
            clear hba
            go_wp2_with fail
            go_meet
            exact ⟨by rw [Hc2.out], HCa.out⟩
          | false =>
            rw [show isU kParity (.ok () ts) = false from hpar] at hcall
            have Hcall := Lib.hid hcall
            have Hc2 : Hid (condY k (.ok acc ts) = headIs kLocal ts) := by show _ = _; rw [Hc.out, hpar]; rfl
            clear hcall hpar hA Hc
            go_wp2_with fail
            refine Hcall.out.mono ?_
            rintro e wa ⟨rfl, hba⟩
            have HCa := Lib.hid (HC.out.below hba)
            clear hba
            have hA : RAt wa gp l At ct (.ok () ts) := HCa.out.at_
            have Hcall2 : Hid (Calls Tryd.prog 64 #[.pointer (some ⟨gp, 0, none⟩), strV kLocal] wa fun e w' => e = .returned (.bool (headIs kLocal ts)) ∧ Below wa.heap.size wa w') := is_R hw kLocal rfl rfl hA
            clear hA
            generalize headIs kLocal ts = b at *
            go_wp2_with fail
            refine Hcall2.out.mono ?_
            rintro e wb ⟨rfl, hbb⟩
            have HCb := Lib.hid (HCa.out.below hbb)
            clear hbb
            go_wp2_with fail
            go_meet
            exact ⟨by rw [Hc2.out], HCb.out⟩
    case rest =>
    obtain ⟨rfl, hCc⟩ := hcut
    have HCc := Lib.hid hCc.out
    clear hCc HC
    cases hcond : condY k y with
    | true =>
      have HY2 := Lib.hid (HY.out.next hcond)
      cases y with
      | bad p => cases hcond
      | ok acc ts =>
      clear hcond HY
      obtain ⟨A, c, cs, Ls, hS, hM, hB⟩ := HCc.out
      have hS' : CdS w gp l At ct w.heap.size w2.heap.size N A Ls.length c cs Ls (.ok () ts) wc := hS
      have HS := Lib.hid hS'
      have HM := Lib.hid hM
      have HB := Lib.hid hB
      have hlB : Ls.length + (ts.length + 1) ≤ 2004 := hB
      have hgts : leftU (PR.forget (.ok acc ts : PR (List PL))) = ts.length + 1 := rfl
      rw [hgts] at hky
      clear hS hS' hM hB HCc hgts
      have hb1 : Ls.length + 1 ≤ maxLen := by unfold maxLen; omega
      have hb2 : (Ls.length + 1) * 88 ≤ 140737488355328 := by omega
      have hk1 : (k : Int) ≤ 2010 := by omega
      have hk2 : (0 : Int) ≤ (k : Int) := by omega
      have hcall := is_R hw kLocal rfl rfl HS.out.s.at_
      cases hloc : headIs kLocal ts with
      | true =>
        rw [show isU kLocal (.ok () ts) = true from hloc] at hcall
        have Hcall := Lib.hid hcall
        have Hloc := Lib.hid hloc
        clear hcall hloc
        go_wp2_with fail
        refine Hcall.out.mono ?_
        rintro e wa ⟨rfl, hba⟩
        have HSa := Lib.hid (HS.out.below hba)
        clear hba
        go_wp2_with fail
        refine (must_R hw hl kLocal rfl rfl HSa.out.s.at_).mono ?_
        rintro e wb ⟨K, rfl, hK, hrb, hbb⟩
        have HSb := Lib.hid ((HSa.out.call hbb hrb).below ((Below.refl _ _).alloc (Nat.le_refl _) (.cells (tokR K) 46)))
        have HK := Lib.hid hK
        have hgb : gp < wb.heap.size := hrb.lt
        have hr5 := Lib.hid (heap_new wb (.cells (tokR K) 46))
        clear hK hrb hbb
        unfold tokR
        go_wp2_with fail
        refine (nums_R hw hl gp At ct _ HSb.out.s.at_).mono ?_
        rintro e wd ⟨ns, A1, c1, rfl, -, hs1, hv1, hrd, hbd⟩
        have HSd := Lib.hid (HSb.out.call hbd hrd)
        have HV1 := Lib.hid hv1
        have HT1 := Lib.hid hs1
        have hr6 := Lib.hid (hbd.row (by omega) hr5.out)
        clear hs1 hv1 hrd hbd hr5
        go_wp2_with fail
        refine (must_R hw hl kColon rfl rfl HSd.out.s.at_).mono ?_
        rintro e we ⟨K2, rfl, -, hre, hbe⟩
        have HSe := Lib.hid (HSd.out.call hbe hre)
        obtain ⟨cr, hcr⟩ := HSd.out.s.at_.row
        have HT2 := Lib.hid (HT1.out.keepT (KeepT.rb hbe hcr (by decide)) hbe.size)
        have hr7 := Lib.hid (hbe.row (by omega) hr6.out)
        clear hre hbe hr6 HT1 hcr
        go_wp2_with fail
        refine (nums_R hw hl gp At ct _ HSe.out.s.at_).mono ?_
        rintro e wf ⟨ms, A2, c2, rfl, -, hs2, hv2, hrf, hbf⟩
        have HSf := Lib.hid (HSe.out.call hbf hrf)
        have HV2 := Lib.hid hv2
        obtain ⟨cr, hcr⟩ := HSe.out.s.at_.row
        have HL := Lib.hid (show LnCs wf ⟨K, ns, ms⟩ (lineV K A1 ns.length c1 A2 ms.length c2) from ⟨A1, c1, A2, c2, rfl, HT2.out.keepT (KeepT.rb hbf hcr (by decide)) hbf.size, hs2⟩)
        have hr8 := Lib.hid (hbf.row (by omega) hr7.out)
        clear hs2 hv2 hrf hbf hr7 HT2 hcr
        obtain ⟨c9, f9⟩ := HSf.out.cell
        have a9 := HSf.out.cella
        go_wp2_with (first | (refine wpList_load_row rfl 46 _ rfl wb.heap.size rfl 46 (tokR K) (0, 0) _ hr8.out Tryd.underlying46 rfl (info46b _ rfl) ?_; unfold tokR) | (at_builtin; refine wpList_append_sl rfl _ _ 75 rfl rfl rfl so75 (HSf.out.own _) (m := 1) (news := lineV K A1 ns.length c1 A2 ms.length c2) rfl (Sl.new _ _ _) HL.out.one hb1 hb2 (Nat.le_trans HSf.out.le (by simp)) ?_; intro A5 c5 w7 ho5 hg5; have HO5 := Lib.hid ho5; have HG5 := Lib.hid hg5; obtain ⟨e9, h9⟩ := HSf.out.cell2 hg5; clear ho5 hg5))
        have HS8 := Lib.hid (HSf.out.step HL.out HO5.out HG5.out)
        refine (must_R hw hl kSemi rfl rfl HS8.out.s.at_).mono ?_
        rintro e w9 ⟨K3, rfl, -, hr9, hb9⟩
        have HS9 := Lib.hid (HS8.out.call hb9 hr9)
        obtain ⟨o1, o2⟩ := row_local HM.out Hloc.out HK.out HV1.out HV2.out
        have HC9 := Lib.hid (cdy_row HS9.out o1 o2 hlB)
        have hlr := left_row acc ts
        clear hr9 hb9 o1 o2
        unfold tokR
        go_wp2_with fail
        go_roundg (leftU (addRow (.ok acc ts)).forget)
        case measure => rw [Hg.out]; exact hlr
        case rel => exact ⟨k + 1, addRow (.ok acc ts), by go_num, rfl, by omega, HC9.out, HY2.out⟩
      | false =>
        rw [show isU kLocal (.ok () ts) = false from hloc] at hcall
        have Hcall := Lib.hid hcall
        have Hloc := Lib.hid hloc
        clear hcall hloc
        go_wp2_with fail
        refine Hcall.out.mono ?_
        rintro e wa ⟨rfl, hba⟩
        have HSa := Lib.hid (HS.out.below hba)
        clear hba
        go_wp2_with fail
        refine (must_R hw hl kParity rfl rfl HSa.out.s.at_).mono ?_
        rintro e wb ⟨K, rfl, hK, hrb, hbb⟩
        have HSb := Lib.hid ((HSa.out.call hbb hrb).below ((Below.refl _ _).alloc (Nat.le_refl _) (.cells (tokR K) 46)))
        have HK := Lib.hid hK
        have hgb : gp < wb.heap.size := hrb.lt
        have hr5 := Lib.hid (heap_new wb (.cells (tokR K) 46))
        clear hK hrb hbb
        unfold tokR
        go_wp2_with fail
        refine (nums_R hw hl gp At ct _ HSb.out.s.at_).mono ?_
        rintro e wf ⟨ns, A1, c1, rfl, -, hs1, hv1, hrd, hbd⟩
        have HSf := Lib.hid (HSb.out.call hbd hrd)
        have HV1 := Lib.hid hv1
        have HL := Lib.hid (show LnCs wf ⟨K, ns, []⟩ (lineV K A1 ns.length c1 none 0 0) from ⟨A1, c1, none, 0, rfl, hs1, .inl rfl⟩)
        have hr8 := Lib.hid (hbd.row (by omega) hr5.out)
        clear hs1 hv1 hrd hbd hr5
        obtain ⟨c9, f9⟩ := HSf.out.cell
        have a9 := HSf.out.cella
        go_wp2_with (first | (refine wpList_load_row rfl 46 _ rfl wb.heap.size rfl 46 (tokR K) (0, 0) _ hr8.out Tryd.underlying46 rfl (info46b _ rfl) ?_; unfold tokR) | (at_builtin; refine wpList_append_sl rfl _ _ 75 rfl rfl rfl so75 (HSf.out.own _) (m := 1) (news := lineV K A1 ns.length c1 none 0 0) rfl (Sl.new _ _ _) HL.out.one hb1 hb2 (Nat.le_trans HSf.out.le (by simp)) ?_; intro A5 c5 w7 ho5 hg5; have HO5 := Lib.hid ho5; have HG5 := Lib.hid hg5; obtain ⟨e9, h9⟩ := HSf.out.cell2 hg5; clear ho5 hg5))
        have HS8 := Lib.hid (HSf.out.step HL.out HO5.out HG5.out)
        refine (must_R hw hl kSemi rfl rfl HS8.out.s.at_).mono ?_
        rintro e w9 ⟨K3, rfl, -, hr9, hb9⟩
        have HS9 := Lib.hid (HS8.out.call hb9 hr9)
        obtain ⟨o1, o2⟩ := row_parity HM.out Hloc.out HK.out HV1.out
        have HC9 := Lib.hid (cdy_row HS9.out o1 o2 hlB)
        have hlr := left_row acc ts
        clear hr9 hb9 o1 o2
        unfold tokR
        go_wp2_with fail
        go_roundg (leftU (addRow (.ok acc ts)).forget)
        case measure => rw [Hg.out]; exact hlr
        case rel => exact ⟨k + 1, addRow (.ok acc ts), by go_num, rfl, by omega, HC9.out, HY2.out⟩
    | false =>
      have HE := Lib.hid (HY.out.stop hcond)
      clear hcond HY
      go_wp2_with fail
      have hcall := is_R hw kDomain rfl rfl HCc.out.at_
      cases hd : isU kDomain y.forget with
      | true =>
        rw [hd] at hcall
        have Hcall := Lib.hid hcall
        have HD : Hid (addOne kDomain y = endY (addRow (bodyY x))) := by show _ = _; rw [← HE.out, addDom_yes hd]
        clear hcall hd HE
        refine Hcall.out.mono ?_
        rintro e wa ⟨rfl, hba⟩
        have HCa := Lib.hid (HCc.out.below hba)
        clear hba HCc
        go_upto_region 20 with fail
        go_cut [] (fun wx => Hid (CdY w gp l At ct w.heap.size w2.heap.size N 2005 (addOne kDomain y) wx))
        case first =>
          obtain ⟨A, c, cs, Ls, hS, hM, hB⟩ := HCa.out
          have HP := Lib.hid hS.drew
          have HM := Lib.hid hM
          have HB := Lib.hid hB
          have hb1 : Ls.length + 1 ≤ maxLen := by unfold maxLen; omega
          have hb2 : (Ls.length + 1) * 88 ≤ 140737488355328 := by omega
          obtain ⟨c9, f9⟩ := HP.out.cell
          clear hS hM hB
          go_region_law (first | (go_simp; go_at_call 63; refine (one_V hw hl gp At ct kDomain rfl rfl _ HP.out.s.at_).mono ?_; rintro e w6 ⟨K, M, A1, q, rfl, hL6, hv6, hr6, hb6⟩; have HL6 := Lib.hid hL6; have HV6 := Lib.hid hv6; have HP6 := Lib.hid (HP.out.call hb6 hr6); obtain ⟨d9, g9⟩ := HP6.out.cell; have a9 := HP6.out.cella; clear hL6 hv6 hr6 hb6) | (refine step_append_sl rfl _ _ 75 rfl rfl rfl so75 (HP6.out.own _) (m := 1) (news := [_, _, _, _, _, _]) rfl (Sl.new _ _ _) ?_ ?_ ?_ ?_ ?_; (exact HL6.out.one); (exact hb1); (exact hb2); (exact Nat.le_trans HP6.out.le (by simp)); intro A5 c5 w7 ho5 hg5; have HO5 := Lib.hid ho5; have HG5 := Lib.hid hg5; obtain ⟨e9, h9⟩ := HP6.out.cell2 hg5; clear ho5 hg5) | (go_simp; go_at_call 63; refine (one_V hw hl gp At ct kDomain rfl rfl _ HP.out.s.at_).mono ?_; rintro e w6 ⟨K, M, A1, q, rfl, hL6, hv6, hr6, hb6⟩; have HL6 := Lib.hid hL6; have HV6 := Lib.hid hv6; have HP6 := Lib.hid (HP.out.call hb6 hr6); obtain ⟨d9, g9⟩ := HP6.out.cell; have a9 := HP6.out.cella; clear hL6 hv6 hr6 hb6))
          all_goals
            go_wp2_with fail
            go_meet
            exact cdy_one (HP6.out.step HL6.out HO5.out HG5.out) HM.out HV6.out HB.out
        case rest =>
        have HCb := Lib.hid hcut.out
        clear hcut HCa
        go_wp2_with fail
        obtain ⟨A, c, cs, Ls, hS, hM, hB⟩ := HCb.out
        rw [HD.out] at hM
        have hcu := hS.s.at_
        refine (must_R hw hl kClose rfl rfl hcu).mono ?_
        rintro e wz ⟨Kz, rfl, -, hrz, hbz⟩
        have HF := Lib.hid (hS.call hbz hrz)
        have Hcu : Hid (mustU kClose (PR.forget (addOne kDomain y)) = codeU x) := by show _ = _; rw [codeU_eq, ← HD.out]
        have HVL := Lib.hid (src_val HN.out rfl hM)
        have hlb : Ls.length ≤ 2010 := by omega
        clear hS hM hB hrz hbz hcu
        go_wp2_with (first | (refine wpList_load_row rfl 77 _ rfl w2.heap.size rfl 77 (srcR N (.slice A Ls.length c)) (0, 0) _ HF.out.s.head Tryd.underlying77 rfl (info77 _ rfl) ?_) | (refine wpList_store_mid rfl 77 _ _ rfl w.heap.size 0 (srcR N (.slice A Ls.length c)) rfl rfl (there_of_row HF.out.s.swap.head 0 5 (Nat.le_refl _)) (info77 _ rfl) (srcR_one _ _ _ _) ?_))
        obtain ⟨o1, o2, o3, o4, o5⟩ := HF.out.out
        rw [Hcu.out] at o4
        exact bodyPost_ret (results_cell_row (p := 2) (ty := 77) rfl _ _ w.heap.size 77 _ (0, 0) _ rfl o1 Tryd.underlying77 rfl (info77 _ rfl)) rfl ⟨N, Ls, A, c, cs, rfl, o2, o3, hlb, HVL.out, o4, o5⟩
      | false =>
        rw [hd] at hcall
        have Hcall := Lib.hid hcall
        have HD : Hid (y = endY (addRow (bodyY x))) := by show _ = _; rw [← HE.out, addDom_no hd]
        clear hcall hd HE
        refine Hcall.out.mono ?_
        rintro e wa ⟨rfl, hba⟩
        have HCa := Lib.hid (HCc.out.below hba)
        clear hba HCc
        go_wp2_with fail
        obtain ⟨A, c, cs, Ls, hS, hM, hB⟩ := HCa.out
        rw [HD.out] at hM
        have hcu := hS.s.at_
        refine (must_R hw hl kClose rfl rfl hcu).mono ?_
        rintro e wz ⟨Kz, rfl, -, hrz, hbz⟩
        have HF := Lib.hid (hS.call hbz hrz)
        have Hcu : Hid (mustU kClose (PR.forget y) = codeU x) := by show _ = _; rw [codeU_eq, ← HD.out]
        have HVL := Lib.hid (src_val HN.out rfl hM)
        have hlb : Ls.length ≤ 2010 := by omega
        clear hS hM hB hrz hbz hcu
        go_wp2_with (first | (refine wpList_load_row rfl 77 _ rfl w2.heap.size rfl 77 (srcR N (.slice A Ls.length c)) (0, 0) _ HF.out.s.head Tryd.underlying77 rfl (info77 _ rfl) ?_) | (refine wpList_store_mid rfl 77 _ _ rfl w.heap.size 0 (srcR N (.slice A Ls.length c)) rfl rfl (there_of_row HF.out.s.swap.head 0 5 (Nat.le_refl _)) (info77 _ rfl) (srcR_one _ _ _ _) ?_))
        obtain ⟨o1, o2, o3, o4, o5⟩ := HF.out.out
        rw [Hcu.out] at o4
        exact bodyPost_ret (results_cell_row (p := 2) (ty := 77) rfl _ _ w.heap.size 77 _ (0, 0) _ rfl o1 Tryd.underlying77 rfl (info77 _ rfl)) rfl ⟨N, Ls, A, c, cs, rfl, o2, o3, hlb, HVL.out, o4, o5⟩
end Go.Proofs.YtafgmbchdcfkcaaDoor
