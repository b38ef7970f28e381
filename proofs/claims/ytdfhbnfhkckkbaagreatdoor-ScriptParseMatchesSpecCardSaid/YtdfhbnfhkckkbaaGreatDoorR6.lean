/-
  The reference's Encode.
  The reference's decimal, words, quoted.
-/
import Derived.Test.YtdfhbnfhkckkbaaGreatDoorR4
import Derived.Deep.QuietTactic
import Derived.BigQuiet
namespace Go.Proofs.YtdfhbnfhkckkbaaGreatDoor
open Go Go.RowKit Go.Walks

set_option maxRecDepth 100000 in
set_option maxHeartbeats 8000000 in
theorem rencode_any (S : ScriptD) (v : Value) (w : World) (Hv : Hid (ScriptS w S v)) (HL : Hid (ScriptL S)) : Calls Tryz.prog 16 #[v] w (EncR (encodeB S) w) := by
  obtain ⟨p0, p1, p2, p3, p4, p5, T, tc, U, uc, rfl, hp⟩ := Hv.out
  have h6 : S.cfg.length = 6 := by rw [hp.cfg]; rfl
  obtain ⟨nt, hnt⟩ : ∃ n, n = S.texts.length := ⟨_, rfl⟩
  obtain ⟨ns, hns⟩ : ∃ n, n = S.steps.length := ⟨_, rfl⟩
  obtain ⟨ms, hms, hst⟩ := hp.stp
  have Hms := Lib.hid hms
  have Hst := Lib.hid hst
  have Htx := Lib.hid hp.txt
  obtain ⟨ck, hck⟩ : ∃ x, x = (checkB S).1 := ⟨_, rfl⟩
  obtain ⟨ce, hce⟩ : ∃ x, x = (checkB S).2 := ⟨_, rfl⟩
  have HCk : Hid (∀ v W, ScriptS W S v → Calls Tryz.prog 14 #[v] W fun e w' => e = .returned (.tuple #[.int .i64 ck, .int .i64 (ce : Int)]) ∧ Below W.heap.size W w') := Lib.hid fun v W h => by
    have := rcheck_any S v W (Lib.hid h) HL
    unfold CheckR at this
    rw [← hck, ← hce] at this
    exact this
  have HOk : Hid (ce = 0 → OkS S) := Lib.hid fun h => check_ok.1 (by rw [← hce, h])
  have HEb : Hid (encodeB S = if ce ≠ 0 then ([], ce) else (encT S, 0)) := by show _ = _; rw [hce]; rfl
  have Hnum : Hid (∀ W, Calls Tryz.prog 44 #[.agg #[.int .i64 p0, .int .i64 p1, .int .i64 p2, .int .i64 p3, .int .i64 p4, .int .i64 p5]] W fun en w' => ∃ A, en = .returned (.slice A 6 6) ∧ OS W 3 1 A 6 6 (S.cfg.map intC) w') := Lib.hid fun W => by
    rw [hp.cfg]; exact rnumbers_any p0 p1 p2 p3 p4 p5 W
  have Hints : Hid (ce = 0 → ∀ A W, Sl W W.heap.size A (S.cfg.map intC) → Calls Tryz.prog 49 #[.slice A 6 6] W (BytesR (intsB S.cfg) W)) := Lib.hid fun h0 A W h => by
    have := rints_any S.cfg A 6 W (by omega) (Lib.hid fun n hn => by have := (HOk.out h0).cfg n hn; exact ⟨by omega, by omega⟩) (Lib.hid h)
    rw [h6] at this
    exact this
  have Hl1 : Hid (ce = 0 → (intsB S.cfg).length ≤ 63) := Lib.hid fun h0 => by
    have := ints_le (m := 6) (l := S.cfg) (by omega) (by omega) fun n hn => by have := (HOk.out h0).cfg n hn; exact ⟨by omega, by omega⟩
    omega
  obtain ⟨x, hx⟩ : ∃ x, x = encodeB S := ⟨_, rfl⟩
  rw [← hx] at HEb ⊢
  rw [← hnt, ← hns] at Hv ⊢
  have Hnt := Lib.hid hnt
  have Hns := Lib.hid hns
  clear hnt hns hms hst hp hck hce hx h6
  obtain ⟨g, hg⟩ : ∃ g, g = w.heap.size := ⟨_, rfl⟩
  obtain ⟨W0, hW⟩ : ∃ W, W = w.alloc (.cells (scrCs p0 p1 p2 p3 p4 p5 T nt tc U ns uc) 27) := ⟨_, rfl⟩
  have HS0 : Hid (SNt 27 S g (scrCs p0 p1 p2 p3 p4 p5 T nt tc U ns uc) W0) := by rw [hW, hg]; exact SNt.start Hv.out
  have HB0 : Hid (Below w.heap.size w W0) := by rw [hW]; exact (Below.refl _ _).alloc (Nat.le_refl _) _
  clear Hv
  unfold scrCs at hW
  unfold scrCs
  go_enter Tryz.func16, Tryz.ntmps16
  go_upto_region 1 with fail
  rw [← hW, ← hg]
  clear hW hg
  have crow := HS0.out.1
  have c0 := (cell_at (u := .int .i64 p0) crow 0 rfl).1
  have c1 := (cell_at (u := .int .i64 p1) crow 1 rfl).1
  have c2 := (cell_at (u := .int .i64 p2) crow 2 rfl).1
  have c3 := (cell_at (u := .int .i64 p3) crow 3 rfl).1
  have c4 := (cell_at (u := .int .i64 p4) crow 4 rfl).1
  have c5 := (cell_at (u := .int .i64 p5) crow 5 rfl).1
  have c6 := (cell_at (u := .slice T nt tc) crow 6 rfl).1
  have c7 := (cell_at (u := .slice U ns uc) crow 7 rfl).1
  clear crow
  go_wp2_with fail
  clear c0 c1 c2 c3 c4 c5 c6 c7
  refine (HCk.out (.agg (scrCs p0 p1 p2 p3 p4 p5 T nt tc U ns uc)) _ HS0.out.2).mono ?_
  rintro en w1 ⟨rfl, hb1⟩
  have HS1 := Lib.hid (HS0.out.call hb1)
  have HB1 := Lib.hid (HB0.out.trans (hb1.mono HB0.out.size))
  clear hb1 HS0 HB0
  by_cases hce : ce = 0
  rotate_left
  · have q1 : ¬ (ce : Int) = 0 := by omega
    have hx : x = ([], ce) := by rw [HEb.out, if_pos hce]
    subst hx
    go_wp2_with fail
    go_ret2
    exact ⟨none, 0, rfl, HB1.out, own_nil _ _ _ _⟩
  · have hx : x = (encT S, 0) := by rw [HEb.out, if_neg (fun h => h hce)]
    subst hx
    have HO := Lib.hid (HOk.out hce)
    have Hints0 := Lib.hid (Hints.out hce)
    have hl1 := Hl1.out hce
    subst hce
    clear HOk HEb Hints Hl1
    have crow := HS1.out.1
    have c0 := (cell_at (u := .int .i64 p0) crow 0 rfl).1
    have c1 := (cell_at (u := .int .i64 p1) crow 1 rfl).1
    have c2 := (cell_at (u := .int .i64 p2) crow 2 rfl).1
    have c3 := (cell_at (u := .int .i64 p3) crow 3 rfl).1
    have c4 := (cell_at (u := .int .i64 p4) crow 4 rfl).1
    have c5 := (cell_at (u := .int .i64 p5) crow 5 rfl).1
    clear crow
    go_wp2_with fail
    clear c0 c1 c2 c3 c4 c5
    refine (Hnum.out _).mono ?_
    rintro en w2 ⟨A2, rfl, hO⟩
    have HS2 := Lib.hid (HS1.out.call hO.below)
    have HB2 := Lib.hid (HB1.out.trans (hO.below.mono HB1.out.size))
    have HA2 := Lib.hid (own_sl hO.o)
    clear hO HS1 HB1
    go_wp2_with fail
    refine (Hints0.out _ _ HA2.out).mono ?_
    rintro en w3 ⟨A3, c3, rfl, hO⟩
    have HE3 := Lib.hid hO
    clear hO HA2
    have hntb : nt ≤ 16 := by rw [Hnt.out]; exact HO.out.nt
    have hnsb : ns ≤ 1000 := by rw [Hns.out]; exact HO.out.ns
    have c6 := (cell_at (u := .slice T nt tc) (HS2.out.call HE3.out.below).1 6 rfl).1
    go_wp2_with fail
    clear c6
    refine (rint_any (nt : Int) _ (Lib.hid (nat_I64 (by omega)))).mono ?_
    rintro en w4 ⟨A4, c4, rfl, hO⟩
    have HI4 := Lib.hid hO
    have HE4 := Lib.hid (HE3.out.call hO.below)
    have hl2 : (intB (nt : Int)).length ≤ 9 := intB_le _ (nat_I64 (by omega))
    obtain ⟨N0, hN0⟩ : ∃ n, n = (intsB S.cfg).length := ⟨_, rfl⟩
    rw [← hN0] at HE4 hl1 ⊢
    have hb1 : N0 + (intB (nt : Int)).length ≤ maxLen := by unfold maxLen; omega
    have hb2 : (N0 + (intB (nt : Int)).length) * 1 ≤ 140737488355328 := by omega
    have HN0 := Lib.hid hN0
    clear hO HE3 hN0
    go_wp2_with (at_builtin; refine wpList_append_sl rfl _ _ 38 rfl rfl rfl so38 HE4.out.o (m := (intB (nt : Int)).length) (news := Lib.byteCells (intB (nt : Int))) (by rw [byteCells_length, Nat.mul_one]) (own_sl HI4.out.o) (byteCells_one _) hb1 hb2 HE4.out.below.size ?_; intro A5 c5 w5 ho5 hg5; have HS5 := Lib.hid (HE4.out.grow ho5 hg5); clear ho5 hg5)
    clear HI4 HE4
    obtain ⟨N1, hN1⟩ : ∃ n, n = N0 + (intB (nt : Int)).length := ⟨_, rfl⟩
    have hN1b : N1 ≤ 72 := by omega
    rw [← hN1] at HS5 ⊢
    clear hN1 hb1 hb2 hl1 hl2 HN0
    go_loopg [7, 6] nt (fun gh s7 s6 wr => ∃ (k nn : Nat) (A' : Option Addr) (c' : Nat), s7 = .int .i64 (k : Int) ∧ s6 = .slice A' nn c' ∧ gh = nt - k ∧ k ≤ nt ∧ nn ≤ 72 + 2010 * k ∧ Hid (OS w2 5 1 A' nn c' (Lib.byteCells ((intsB S.cfg ++ intB (nt : Int)) ++ (S.texts.take k).flatMap bytesB)) wr))
    case atStart => exact ⟨0, N1, A5, c5, rfl, rfl, rfl, Nat.zero_le _, by omega, by rw [List.take_zero, List.flatMap_nil, List.append_nil, byteCells_append]; exact HS5.out⟩
    case round =>
      obtain ⟨k, nn, A', c', rfl, rfl, hgh, hk, hnn, HE⟩ := hrel
      clear HS5
      have crow := (HS2.out.call HE.out.below).1
      by_cases hlt : k < nt
      · have hI1 : (0 : Int) ≤ (k : Int) := by omega
        have hI2 : (k : Int) < (nt : Int) := by omega
        obtain ⟨t, ht⟩ : ∃ y, S.texts[k]? = some y := ⟨_, List.getElem?_eq_getElem (by rw [← Hnt.out]; exact hlt)⟩
        obtain ⟨b, o, hA, hbl, hc0⟩ := str_at Htx.out ht
        subst hA
        have c6 := (cell_at (u := .slice (some ⟨b, o, none⟩) nt tc) crow 6 rfl).1
        have hc := ((HB2.out.trans (HE.out.below.mono HB2.out.size)).cell (p := ⟨b, o + k, none⟩) hbl).trans hc0
        have hts := HO.out.txt t (List.mem_of_getElem? ht)
        have Hstep : Hid ((S.texts.take (k + 1)).flatMap bytesB = (S.texts.take k).flatMap bytesB ++ bytesB t) := by show _ = _; rw [List.take_add_one, ht]; simp
        clear ht hc0 crow
        go_wp2_with fail
        clear c6 hc
        refine (rbytes_any t _ (by omega)).mono ?_
        rintro en w7 ⟨A7, c7, rfl, hO⟩
        have HI7 := Lib.hid hO
        have HE7 := Lib.hid (HE.out.call hO.below)
        have hl7 : (bytesB t).length ≤ 2010 := by
          unfold bytesB
          rw [List.length_append]
          have := intB_le (t.length : Int) (nat_I64 (by omega))
          omega
        have hb1 : nn + (bytesB t).length ≤ maxLen := by unfold maxLen; omega
        have hb2 : (nn + (bytesB t).length) * 1 ≤ 140737488355328 := by omega
        clear hO HE
        go_wp2_with (at_builtin; refine wpList_append_sl rfl _ _ 38 rfl rfl rfl so38 HE7.out.o (m := (bytesB t).length) (news := Lib.byteCells (bytesB t)) (by rw [byteCells_length, Nat.mul_one]) (own_sl HI7.out.o) (byteCells_one _) hb1 hb2 HE7.out.below.size ?_; intro A8 c8 w8 ho8 hg8; have HS8 := Lib.hid (HE7.out.grow ho8 hg8); clear ho8 hg8)
        go_roundg (nt - (k + 1))
        case measure => omega
        case rel => exact ⟨k + 1, _, A8, c8, by go_num, rfl, rfl, by omega, by omega, by rw [Hstep.out, ← List.append_assoc, byteCells_append]; exact HS8.out⟩
      · have hke : k = nt := by omega
        have hI3 : ¬ (k : Int) < (nt : Int) := by omega
        have HE2 : Hid (OS w2 5 1 A' nn c' (Lib.byteCells ((intsB S.cfg ++ intB (nt : Int)) ++ S.texts.flatMap bytesB)) wr) := by
          have := HE.out
          rw [hke, List.take_of_length_le (by rw [← Hnt.out]; exact Nat.le_refl _)] at this
          exact this
        have hnn2 : nn ≤ 40000 := by omega
        have c6 := (cell_at (u := .slice T nt tc) crow 6 rfl).1
        have c7 := (cell_at (u := .slice U ns uc) crow 7 rfl).1
        clear crow hke hlt HE hnn hk hgh
        go_wp2_with fail
        clear c6 c7
        refine (rint_any (ns : Int) _ (Lib.hid (nat_I64 (by omega)))).mono ?_
        rintro en w7 ⟨A7, c7, rfl, hO⟩
        have HI7 := Lib.hid hO
        have HE7 := Lib.hid (HE2.out.call hO.below)
        have hl7 : (intB (ns : Int)).length ≤ 9 := intB_le _ (nat_I64 (by omega))
        have hb1 : nn + (intB (ns : Int)).length ≤ maxLen := by unfold maxLen; omega
        have hb2 : (nn + (intB (ns : Int)).length) * 1 ≤ 140737488355328 := by omega
        clear hO HE2
        go_wp2_with (at_builtin; refine wpList_append_sl rfl _ _ 38 rfl rfl rfl so38 HE7.out.o (m := (intB (ns : Int)).length) (news := Lib.byteCells (intB (ns : Int))) (by rw [byteCells_length, Nat.mul_one]) (own_sl HI7.out.o) (byteCells_one _) hb1 hb2 HE7.out.below.size ?_; intro A8 c8 w8 ho8 hg8; have HS8 := Lib.hid (HE7.out.grow ho8 hg8); clear ho8 hg8)
        clear HI7 HE7
        obtain ⟨N2, hN2⟩ : ∃ n, n = nn + (intB (ns : Int)).length := ⟨_, rfl⟩
        have hN2b : N2 ≤ 41000 := by omega
        rw [← hN2] at HS8 ⊢
        clear hN2 hb1 hb2 hl7 hnn2
        obtain ⟨out3, ho3⟩ : ∃ o, o = ((intsB S.cfg ++ intB (nt : Int)) ++ S.texts.flatMap bytesB) ++ intB (ns : Int) := ⟨_, rfl⟩
        rw [← byteCells_append, ← ho3] at HS8
        have HO3 := Lib.hid ho3
        clear ho3
        go_loopg [8, 6] ns (fun gh s8 s6 wr => ∃ (k nn : Nat) (A' : Option Addr) (c' : Nat), s8 = .int .i64 (k : Int) ∧ s6 = .slice A' nn c' ∧ gh = ns - k ∧ k ≤ ns ∧ nn ≤ 41000 + 1000 * k ∧ Hid (OS w2 5 1 A' nn c' (Lib.byteCells (out3 ++ (S.steps.take k).flatMap encStep)) wr))
        case atStart => exact ⟨0, N2, A8, c8, rfl, rfl, rfl, Nat.zero_le _, by omega, by rw [List.take_zero, List.flatMap_nil, List.append_nil]; exact HS8.out⟩
        case round =>
          obtain ⟨k, nn, A', c', rfl, rfl, hgh, hk, hnn, HE⟩ := hrel
          clear HS8
          have crow := (HS2.out.call HE.out.below).1
          by_cases hlt : k < ns
          · have hI1 : (0 : Int) ≤ (k : Int) := by omega
            have hI2 : (k : Int) < (ns : Int) := by omega
            obtain ⟨y, hy⟩ : ∃ y, S.steps[k]? = some y := ⟨_, List.getElem?_eq_getElem (by rw [← Hns.out]; exact hlt)⟩
            obtain ⟨b, o, A, cc, hU, hbw, hck0, hcs0, hsl, hcc⟩ := step_at Hms.out Hst.out (Below.refl _ _) hy
            subst hU
            have Hcs : Hid (∀ W, Below w.heap.size w W → W.cell? ⟨b, o + k * 2 + 1, none⟩ = some (.slice A y.args.length cc)) := Lib.hid fun W hb => (hb.cell (p := ⟨b, o + k * 2 + 1, none⟩) hbw).trans hcs0
            have hck := ((HB2.out.trans (HE.out.below.mono HB2.out.size)).cell (p := ⟨b, o + k * 2, none⟩) hbw).trans hck0
            have c7 := (cell_at (u := .slice (some ⟨b, o, none⟩) ns uc) crow 7 rfl).1
            obtain ⟨s1, s2, s3, s4⟩ := step_bounds HO.out.nt (HO.out.stp y (List.mem_of_getElem? hy))
            have Hstep : Hid (out3 ++ (S.steps.take (k + 1)).flatMap encStep = ((out3 ++ (S.steps.take k).flatMap encStep) ++ intB y.kind) ++ intsB y.args) := by show _ = _; rw [List.take_add_one, hy]; simp [encStep]
            obtain ⟨kd, hkd⟩ : ∃ kd, kd = y.kind := ⟨_, rfl⟩
            obtain ⟨q, hq⟩ : ∃ q, q = y.args.length := ⟨_, rfl⟩
            have hkl : (intB kd).length ≤ 9 := by rw [hkd]; exact intB_le _ ⟨by omega, by omega⟩
            have hal : (intsB y.args).length ≤ 9 + 9 * 64 := by
              unfold intsB
              rw [List.length_append]
              have h1 := intB_le (y.args.length : Int) ⟨by omega, by omega⟩
              have h2 := flat_intB_le y.args fun n hn => by have := s4 n hn; exact ⟨by omega, by omega⟩
              omega
            have HintK : Hid (∀ W, Calls Tryz.prog 50 #[.int .i64 kd] W (BytesR (intB kd) W)) := fun W => rint_any _ _ (Lib.hid (by rw [hkd]; exact ⟨by omega, by omega⟩))
            have HintsA : Hid (∀ W, Below w.heap.size w W → Calls Tryz.prog 49 #[.slice A q cc] W (BytesR (intsB y.args) W)) := fun W hb => by
              rw [hq]
              exact rints_any y.args A cc W (by omega) (Lib.hid fun n hn => by have := s4 n hn; exact ⟨by omega, by omega⟩) (Lib.hid ((hsl.below hb).more hb.size))
            rw [← hq] at Hcs
            rw [← hkd] at hck Hstep
            have hc1 : nn + (intB kd).length ≤ maxLen := by unfold maxLen; omega
            have hc2 : (nn + (intB kd).length) * 1 ≤ 140737488355328 := by omega
            have hd1 : nn + (intB kd).length + (intsB y.args).length ≤ maxLen := by unfold maxLen; omega
            have hd2 : (nn + (intB kd).length + (intsB y.args).length) * 1 ≤ 140737488355328 := by omega
            clear hy hkd hq hcs0 hck0 hsl hcc hbw s1 s2 s3 s4 crow
            go_wp2_with fail
            clear c7 hck
            refine (HintK.out _).mono ?_
            rintro en w7 ⟨A7, c7, rfl, hO⟩
            have HI7 := Lib.hid hO
            have HE7 := Lib.hid (HE.out.call hO.below)
            clear hO HE
            go_wp2_with (at_builtin; refine wpList_append_sl rfl _ _ 38 rfl rfl rfl so38 HE7.out.o (m := (intB kd).length) (news := Lib.byteCells (intB kd)) (by rw [byteCells_length, Nat.mul_one]) (own_sl HI7.out.o) (byteCells_one _) hc1 hc2 HE7.out.below.size ?_; intro A8 c8 w8 ho8 hg8; have HS8 := Lib.hid (HE7.out.grow ho8 hg8); clear ho8 hg8; have hcs8 := Hcs.out _ (HB2.out.trans (HS8.out.below.mono HB2.out.size)); have c78 := (cell_at (u := .slice (some ⟨b, o, none⟩) ns uc) (HS2.out.call HS8.out.below).1 7 rfl).1)
            clear c78 hcs8 HI7 HE7
            refine (HintsA.out _ (HB2.out.trans (HS8.out.below.mono HB2.out.size))).mono ?_
            rintro en w9 ⟨A9, c9, rfl, hO⟩
            have HI9 := Lib.hid hO
            have HE9 := Lib.hid (HS8.out.call hO.below)
            clear hO HS8
            go_wp2_with (at_builtin; refine wpList_append_sl rfl _ _ 38 rfl rfl rfl so38 HE9.out.o (m := (intsB y.args).length) (news := Lib.byteCells (intsB y.args)) (by rw [byteCells_length, Nat.mul_one]) (own_sl HI9.out.o) (byteCells_one _) hd1 hd2 HE9.out.below.size ?_; intro A10 c10 w10 ho10 hg10; have HS10 := Lib.hid (HE9.out.grow ho10 hg10); clear ho10 hg10)
            go_roundg (ns - (k + 1))
            case measure => omega
            case rel => exact ⟨k + 1, _, A10, c10, by go_num, rfl, rfl, by omega, by omega, by rw [Hstep.out, byteCells_append, byteCells_append]; exact HS10.out⟩
          · have hke : k = ns := by omega
            have hI3 : ¬ (k : Int) < (ns : Int) := by omega
            have hF : Hid (out3 ++ (S.steps.take k).flatMap encStep = encT S) := by
              show _ = _
              rw [hke, List.take_of_length_le (by rw [← Hns.out]; exact Nat.le_refl _), HO3.out]
              unfold encT
              rw [← Hnt.out, ← Hns.out]
              simp only [List.append_assoc]
            rw [hF.out] at HE
            have c7 := (cell_at (u := .slice U ns uc) crow 7 rfl).1
            clear crow hke hlt
            have Hlen : Hid ((encT S).length = nn) := by
              have := HE.out.o.1
              rw [byteCells_length, Nat.mul_one] at this
              exact this
            go_wp2_with fail
            go_ret2
            unfold EncR
            refine ⟨A', c', by rw [show (encT S, 0).1.length = nn from Hlen.out]; rfl, HB2.out.trans (HE.out.below.mono HB2.out.size), ?_⟩
            rw [show (encT S, 0).1.length = nn from Hlen.out]
            exact own_down HE.out.o HB2.out.size
end Go.Proofs.YtdfhbnfhkckkbaaGreatDoor
namespace Go.Proofs.YtdfhbnfhkckkbaaGreatDoor
open Go Go.RowKit Go.Walks

theorem dec_small {n : Nat} (h : n < 10) : Lib.decDigits n = [UInt8.ofNat (48 + n)] := by rw [Lib.decDigits, dif_pos h]
theorem dec_big {n : Nat} (h : ¬ n < 10) : Lib.decDigits n = Lib.decDigits (n / 10) ++ [UInt8.ofNat (48 + n % 10)] := by rw [Lib.decDigits, dif_neg h]
theorem dec_len (n : Nat) (h : n ≤ 9223372036854775807) : (Lib.decDigits n).length ≤ 22 := by
  have := itoa_len (n : Int) (by omega) (by omega)
  rw [Lib.itoa_nonneg] at this
  omega
theorem sl_one {W : World} {d : UInt8} {t : TypeId} {g : Nat} (h : W.heap[g]? = some (.cells #[.int .u8 (d.toNat : Int)] t)) : Sl W W.heap.size (some ⟨g, 0, none⟩) (Lib.byteCells [d]) := by
  refine .inr ⟨g, 0, rfl, (Array.getElem?_eq_some_iff.1 h).1, fun j u hu => ?_⟩
  rw [Nat.zero_add]
  refine (cell_at h j (u := u) ?_).1
  simpa [Lib.byteCells] using hu
set_option maxRecDepth 100000 in
set_option maxHeartbeats 1000000 in
theorem rdec_any : ∀ (n : Nat) (w : World), n ≤ 9223372036854775807 → Calls Tryz.prog 96 #[.int .i64 (n : Int)] w (StrR (Lib.decDigits n) w) := by
  intro n
  induction n using Nat.strongRecOn with
  | _ n ih =>
    intro w hn
    have hm : n % 10 < 10 := Nat.mod_lt _ (by decide)
    obtain ⟨d, hd⟩ : ∃ d, d = UInt8.ofNat (48 + n % 10) := ⟨_, rfl⟩
    have hdv : (48 : Int) + (n : Int) % 10 = (d.toNat : Int) := by rw [hd, UInt8.toNat_ofNat']; omega
    have hd8 : d.toNat < 256 := d.toNat_lt
    have Hd := Lib.hid hd
    clear hd hm
    have hl : (Lib.decDigits n).length ≤ 22 := dec_len n hn
    by_cases h : n < 10
    · have hI : (n : Int) < 10 := by omega
      have Hout : Hid (Lib.decDigits n = [d]) := by show _ = _; rw [dec_small h, Hd.out, Nat.mod_eq_of_lt h]
      clear ih hl
      obtain ⟨W1, hW1⟩ : ∃ W, W = w.alloc (.cells #[.int .u8 (d.toNat : Int)] 5) := ⟨_, rfl⟩
      have hcv := conv_bytes (c := 1) (sl_one (W := W1) (d := d) (t := 5) (g := w.heap.size) (by rw [hW1]; exact heap_new _ _))
      have Hb : Hid (Below w.heap.size w W1) := by rw [hW1]; exact (Below.refl _ _).alloc (Nat.le_refl _) _
      go_enter Tryz.func96, Tryz.ntmps96
      go_wp2_with fail
      rw [← hW1]
      have hcv1 : (convert 38 9 (.slice (some ⟨w.heap.size, 0, none⟩) 1 1)).run Tryz.prog W1 = .ok (.string ⟨[d].toArray⟩) W1 := hcv
      clear hW1 hcv
      rw [hcv1]
      simp only [Result.andThen]
      rw [Oper.upon_value]
      clear hcv1
      go_wp2_with fail
      go_ret
      exact ⟨by rw [Hout.out]; rfl, Hb.out⟩
    · have hI : ¬ (n : Int) < 10 := by omega
      have Hout : Hid (Lib.decDigits n = Lib.decDigits (n / 10) ++ [d]) := by show _ = _; rw [dec_big h, Hd.out]
      have IH : Hid (∀ W, Calls Tryz.prog 96 #[.int .i64 ((n / 10 : Nat) : Int)] W (StrR (Lib.decDigits (n / 10)) W)) := Lib.hid fun W => ih (n / 10) (by omega) W (by omega)
      have hl2 : (Lib.decDigits (n / 10)).length ≤ 22 := dec_len _ (by omega)
      have hdiv : ((n / 10 : Nat) : Int) = (n : Int) / 10 := Int.natCast_ediv n 10
      rw [hdiv] at IH
      obtain ⟨y, hy⟩ : ∃ y, y = Lib.decDigits (n / 10) := ⟨_, rfl⟩
      rw [← hy] at IH Hout hl2
      have Hc1 : Hid ((⟨y.toArray⟩ : ByteArray) ++ ⟨#[d]⟩ = ⟨(y ++ [d]).toArray⟩) := by show _ = _; exact cat_eq y [d]
      unfold StrR strV at IH
      clear ih hl hy hdiv
      obtain ⟨W1, hW1⟩ : ∃ W, W = w.alloc (.cells #[.int .u8 (d.toNat : Int)] 5) := ⟨_, rfl⟩
      have hcv := conv_bytes (c := 1) (sl_one (W := W1) (d := d) (t := 5) (g := w.heap.size) (by rw [hW1]; exact heap_new _ _))
      have Hb : Hid (Below w.heap.size w W1) := by rw [hW1]; exact (Below.refl _ _).alloc (Nat.le_refl _) _
      go_enter Tryz.func96, Tryz.ntmps96
      go_wp2_with fail
      rw [← hW1]
      have hcv1 : (convert 38 9 (.slice (some ⟨w.heap.size, 0, none⟩) 1 1)).run Tryz.prog W1 = .ok (.string ⟨[d].toArray⟩) W1 := hcv
      clear hW1 hcv
      rw [hcv1]
      simp only [Result.andThen]
      rw [Oper.upon_value]
      clear hcv1
      go_wp2_with fail
      refine (IH.out _).mono ?_
      rintro e w2 ⟨rfl, hb2⟩
      have HB2 := Lib.hid (Hb.out.trans (hb2.mono Hb.out.size))
      have hq : ¬ 9223372036854775807 < y.length + 1 := by omega
      clear hb2 Hb
      go_wp2_with fail
      rw [Hc1.out]
      go_ret
      exact ⟨by rw [Hout.out]; rfl, HB2.out⟩
set_option maxRecDepth 100000 in
set_option maxHeartbeats 1000000 in
theorem rwords_any (wd : Bytes) (l : List Int) (A : Option Addr) (c : Nat) (w : World) (hl : l.length ≤ 1000000) (hw : wd.length ≤ 1000000) (Hl : Hid (∀ n ∈ l, 0 ≤ n ∧ n ≤ 9223372036854775807)) (Hs : Hid (Sl w w.heap.size A (l.map intC))) : Calls Tryz.prog 55 #[.string ⟨wd.toArray⟩, .slice A l.length c] w (StrR (wordsB wd l ++ [10]) w) := by
  obtain ⟨n, hn⟩ : ∃ n, n = l.length := ⟨_, rfl⟩
  rw [← hn]
  rw [← hn] at hl
  have Hn := Lib.hid hn
  clear hn
  go_enter Tryz.func55, Tryz.ntmps55
  go_wp2_with fail
  go_loopg [5, 0] n (fun gh s9 s0 wr => ∃ (k : Nat) (o : Bytes), s9 = .int .i64 (k : Int) ∧ s0 = .string ⟨o.toArray⟩ ∧ gh = n - k ∧ k ≤ n ∧ o.length ≤ 1000000 + 23 * k ∧ Hid (o = wordsB wd (l.take k) ∧ Below w.heap.size w wr))
  case atStart => exact ⟨0, wd, rfl, rfl, rfl, Nat.zero_le _, by omega, by unfold wordsB; simp, Below.refl _ _⟩
  case round =>
    obtain ⟨k, o, rfl, rfl, hgh, hk, ho, HO⟩ := hrel
    by_cases hlt : k < n
    · have hI1 : (0 : Int) ≤ (k : Int) := by omega
      have hI2 : (k : Int) < (n : Int) := by omega
      obtain ⟨x, hx⟩ : ∃ x, l[k]? = some x := ⟨l[k]'(by rw [← Hn.out]; exact hlt), List.getElem?_eq_getElem _⟩
      obtain ⟨b, of, hA, hbw, hcell⟩ := int_at (Hs.out.below HO.out.2) hx
      subst hA
      obtain ⟨hx0, hx1⟩ := Hl.out x (List.mem_of_getElem? hx)
      obtain ⟨m, rfl⟩ := Int.eq_ofNat_of_zero_le hx0
      have hdl := dec_len m (by omega)
      have Hdec : Hid (∀ W, Calls Tryz.prog 96 #[.int .i64 (m : Int)] W (StrR (Lib.decDigits m) W)) := Lib.hid fun W => rdec_any m W (by omega)
      have Hstep : Hid (wordsB wd (l.take (k + 1)) = (wordsB wd (l.take k) ++ [32]) ++ Lib.decDigits m) := by show _ = _; unfold wordsB; rw [List.take_add_one, hx]; simp [Lib.itoa_nonneg]
      obtain ⟨y, hy⟩ : ∃ y, y = Lib.decDigits m := ⟨_, rfl⟩
      rw [← hy] at Hstep Hdec hdl
      have Hc1 : Hid ((⟨o.toArray⟩ : ByteArray) ++ ⟨#[32]⟩ = ⟨(o ++ [32]).toArray⟩) := by show _ = _; exact cat_eq o [32]
      have Hc2 : Hid ((⟨(o ++ [32]).toArray⟩ : ByteArray) ++ ⟨y.toArray⟩ = ⟨((o ++ [32]) ++ y).toArray⟩) := by show _ = _; exact cat_eq _ y
      unfold StrR strV at Hdec
      have hq1 : ¬ 9223372036854775807 < o.length + 1 := by omega
      have hq2 : ¬ 9223372036854775807 < o.length + 1 + y.length := by omega
      clear hx hx0 hx1 hy
      go_wp2_with fail
      rw [Hc1.out]
      refine (Hdec.out _).mono ?_
      rintro e w2 ⟨rfl, hb2⟩
      have HB2 := Lib.hid (HO.out.2.trans (hb2.mono HO.out.2.size))
      clear hb2
      go_wp2_with fail
      rw [Hc2.out]
      go_roundg (n - (k + 1))
      case measure => omega
      case rel => exact ⟨k + 1, (o ++ [32]) ++ y, by go_num, rfl, rfl, by omega, by simp; omega, by rw [Hstep.out, HO.out.1], HB2.out⟩
    · have hke : k = n := by omega
      have hI3 : ¬ (k : Int) < (n : Int) := by omega
      have hq1 : ¬ 9223372036854775807 < o.length + 1 := by omega
      have Hc1 : Hid ((⟨o.toArray⟩ : ByteArray) ++ ⟨#[10]⟩ = ⟨(o ++ [10]).toArray⟩) := by show _ = _; exact cat_eq o [10]
      clear hlt
      go_wp2_with fail
      rw [Hc1.out]
      go_ret
      refine ⟨?_, HO.out.2⟩
      rw [HO.out.1, List.take_of_length_le (by have := Hn.out; omega)]; rfl
def hexLit : ByteArray := ⟨#[48, 49, 50, 51, 52, 53, 54, 55, 56, 57, 97, 98, 99, 100, 101, 102]⟩
theorem hex_ex : ∀ n : Fin 16, hexLit.extract n.val (n.val + 1) = ⟨#[hexD n.val]⟩ := by decide +kernel
theorem hex_run (n : Nat) (h : n < 16) (W : World) : (Instr.slice 9 (.string hexLit) (some (.int .i64 (n : Int))) (some (.int .i64 ((n : Int) + 1))) none).run Tryz.prog W = .ok (.string ⟨#[hexD n]⟩) W := by
  have hs : hexLit.size = 16 := rfl
  rw [run_slice_string W 9 hexLit .i64 .i64 (n : Int) ((n : Int) + 1) Tryz.underlying9 (by omega) (by omega) (by omega), show ((n : Int)).toNat = n by omega, show ((n : Int) + 1).toNat = n + 1 by omega, hex_ex ⟨n, h⟩]
set_option maxRecDepth 100000 in
set_option maxHeartbeats 1000000 in
theorem rquoted_any (t : Bytes) (w : World) (hl : t.length ≤ 1000000000) : Calls Tryz.prog 56 #[.string ⟨t.toArray⟩] w (StrR (quoteB t) w) := by
  obtain ⟨n, hn⟩ : ∃ n, n = t.length := ⟨_, rfl⟩
  have hss := strBytes_size t
  obtain ⟨tb, htb⟩ : ∃ tb : ByteArray, tb = ⟨t.toArray⟩ := ⟨_, rfl⟩
  rw [← htb] at hss ⊢
  rw [← hn] at hss hl
  have Hn := Lib.hid hn
  have Htb := Lib.hid htb
  clear htb hn
  go_enter Tryz.func56, Tryz.ntmps56
  go_wp2_with fail
  go_loopg [4, 3] n (fun gh s4 s3 wr => ∃ (k : Nat) (o : Bytes), s4 = .int .i64 (k : Int) ∧ s3 = .string ⟨o.toArray⟩ ∧ gh = n - k ∧ k ≤ n ∧ o.length ≤ 1 + 4 * k ∧ Hid (o = 34 :: (t.take k).flatMap qc) ∧ Hid (Below w.heap.size w wr))
  case atStart => exact ⟨0, [34], rfl, rfl, rfl, Nat.zero_le _, by simp, rfl, Below.refl _ _⟩
  case round =>
    obtain ⟨k, o, rfl, rfl, hgh, hk, ho, HO, HW⟩ := hrel
    by_cases hlt : k < n
    · have hI1 : (0 : Int) ≤ (k : Int) := by omega
      have hI2 : (k : Int) < (n : Int) := by omega
      obtain ⟨x, hx⟩ : ∃ x, t[k]? = some x := ⟨t[k]'(by rw [← Hn.out]; exact hlt), List.getElem?_eq_getElem _⟩
      have Hstep : Hid (34 :: (t.take (k + 1)).flatMap qc = (34 :: (t.take k).flatMap qc) ++ qc x) := by show _ = _; rw [flat_qc_step hx]; rfl
      have hx0 : (0 : Int) ≤ (x.toNat : Int) := by omega
      have hx1 : (x.toNat : Int) < 256 := by have := x.toNat_lt; omega
      have hks : k < tb.size := by omega
      have hbx : tb[k] = x := by
        have h1 := bytes_get Htb.out hks
        rw [hx] at h1
        exact (Option.some.inj h1).symm
      have hsl := run_slice_string wr 9 tb .i64 .i64 (k : Int) ((k : Int) + 1) Tryz.underlying9 (by omega) (by omega) (by omega)
      have hex : tb.extract (k : Int).toNat ((k : Int) + 1).toNat = ⟨[x].toArray⟩ := by
        rw [Htb.out, ByteArray.extract_mk, show (k : Int).toNat = k by omega, show ((k : Int) + 1).toNat = k + 1 by omega, show k + 1 - k = 1 by omega]
        congr 1
        rw [List.drop_eq_getElem_cons (by rw [← Hn.out]; exact hlt)]
        rw [List.getElem?_eq_getElem (by rw [← Hn.out]; exact hlt)] at hx
        rw [Option.some.inj hx]
        rfl
      rw [hex] at hsl
      have hsl2 : (Instr.slice 9 (.string tb) (some (.int .i64 (k : Int))) (some (.int .i64 ((k : Int) + 1))) none).run Tryz.prog wr = .ok (.string ⟨#[x]⟩) wr := hsl
      clear hx hex hsl
      have hq1 : ¬ 9223372036854775807 < o.length + 1 := by omega
      have hq2 : ¬ 9223372036854775807 < o.length + 1 + 1 := by omega
      by_cases hq : x.toNat = 34 ∨ x.toNat = 92
      · have hqc : qc x = [92, x] := by
          unfold qc
          rw [if_pos]
          rcases hq with h | h
          · exact .inl (UInt8.toNat_inj.1 h)
          · exact .inr (UInt8.toNat_inj.1 h)
        rw [hqc] at Hstep
        clear hqc
        have Hc1 : Hid ((⟨o.toArray⟩ : ByteArray) ++ ⟨#[92]⟩ = ⟨(o ++ [92]).toArray⟩) := by show _ = _; exact cat_eq o [92]
        have Hc2 : Hid ((⟨(o ++ [92]).toArray⟩ : ByteArray) ++ ⟨#[x]⟩ = ⟨((o ++ [92]) ++ [x]).toArray⟩) := by show _ = _; exact cat_eq _ [x]
        rcases hq with hq | hq
        all_goals
          go_wp2_with fail
          rw [Hc1.out, Hc2.out]
          go_roundg (n - (k + 1))
          case measure => omega
          case rel => exact ⟨k + 1, (o ++ [92]) ++ [x], by go_num, rfl, rfl, by omega, by simp; omega, by show _ = _; rw [Hstep.out, HO.out, List.append_assoc]; rfl, HW.out⟩
      · have hqa : ¬ x.toNat = 34 := fun h => hq (.inl h)
        have hqb : ¬ x.toNat = 92 := fun h => hq (.inr h)
        have q1 : ((x.toNat : Int) == 34) = false := bne_int (by omega)
        have q2 : ((x.toNat : Int) == 92) = false := bne_int (by omega)
        by_cases hc : x.toNat < 32 ∨ 126 < x.toNat
        · have hqc : qc x = [92, 120, hexD (x.toNat / 16), hexD (x.toNat % 16)] := by
            unfold qc
            rw [if_neg (by rintro (rfl | rfl) <;> simp at hqa hqb), if_pos hc]
          rw [hqc] at Hstep
          obtain ⟨a, ha⟩ : ∃ a, a = hexD (x.toNat / 16) := ⟨_, rfl⟩
          obtain ⟨b, hb⟩ : ∃ a, a = hexD (x.toNat % 16) := ⟨_, rfl⟩
          have ha1 : x.toNat / 16 < 16 := by omega
          have hb1 : x.toNat % 16 < 16 := by omega
          have Hs1 : Hid (∀ W, (Instr.slice 9 (.string ⟨#[48, 49, 50, 51, 52, 53, 54, 55, 56, 57, 97, 98, 99, 100, 101, 102]⟩) (some (.int .i64 ((x.toNat : Int) / 16))) (some (.int .i64 ((x.toNat : Int) / 16 + 1))) none).run Tryz.prog W = .ok (.string ⟨#[a]⟩) W) := Lib.hid fun W => by rw [ha]; exact hex_run (x.toNat / 16) ha1 W
          have Hs2 : Hid (∀ W, (Instr.slice 9 (.string ⟨#[48, 49, 50, 51, 52, 53, 54, 55, 56, 57, 97, 98, 99, 100, 101, 102]⟩) (some (.int .i64 ((x.toNat : Int) % 16))) (some (.int .i64 ((x.toNat : Int) % 16 + 1))) none).run Tryz.prog W = .ok (.string ⟨#[b]⟩) W) := Lib.hid fun W => by rw [hb]; exact hex_run (x.toNat % 16) hb1 W
          rw [← ha, ← hb] at Hstep
          have Hc1 : Hid ((⟨o.toArray⟩ : ByteArray) ++ ⟨#[92, 120]⟩ = ⟨(o ++ [92, 120]).toArray⟩) := by show _ = _; exact cat_eq o [92, 120]
          have Hc2 : Hid ((⟨(o ++ [92, 120]).toArray⟩ : ByteArray) ++ ⟨#[a]⟩ = ⟨((o ++ [92, 120]) ++ [a]).toArray⟩) := by show _ = _; exact cat_eq _ [a]
          have Hc3 : Hid ((⟨((o ++ [92, 120]) ++ [a]).toArray⟩ : ByteArray) ++ ⟨#[b]⟩ = ⟨(((o ++ [92, 120]) ++ [a]) ++ [b]).toArray⟩) := by show _ = _; exact cat_eq _ [b]
          have hq3 : ¬ 9223372036854775807 < o.length + 2 := by omega
          have hq4 : ¬ 9223372036854775807 < o.length + 2 + 1 := by omega
          have hq5 : ¬ 9223372036854775807 < o.length + 2 + 1 + 1 := by omega
          clear ha hb hqc hq hsl2 ha1 hb1
          rcases hc with hc | hc
          · have q3 : decide ((x.toNat : Int) < 32) = true := decide_eq_true (by omega)
            go_wp2_with fail
            have hs1 := Hs1.out
            have hs2 := Hs2.out
            go_quiet (fail)
            clear hs1 hs2
            go_wp2_with fail
            rw [Hc1.out, Hc2.out, Hc3.out]
            go_roundg (n - (k + 1))
            case measure => omega
            case rel => exact ⟨k + 1, ((o ++ [92, 120]) ++ [a]) ++ [b], by go_num, rfl, rfl, by omega, by simp; omega, by show _ = _; rw [Hstep.out, HO.out, List.append_assoc, List.append_assoc]; rfl, bel_drewN HW.out _⟩
          · have q3 : decide ((x.toNat : Int) < 32) = false := decide_eq_false (by omega)
            have q4 : decide (126 < (x.toNat : Int)) = true := decide_eq_true (by omega)
            go_wp2_with fail
            have hs1 := Hs1.out
            have hs2 := Hs2.out
            go_quiet (fail)
            clear hs1 hs2
            go_wp2_with fail
            rw [Hc1.out, Hc2.out, Hc3.out]
            go_roundg (n - (k + 1))
            case measure => omega
            case rel => exact ⟨k + 1, ((o ++ [92, 120]) ++ [a]) ++ [b], by go_num, rfl, rfl, by omega, by simp; omega, by show _ = _; rw [Hstep.out, HO.out, List.append_assoc, List.append_assoc]; rfl, bel_drewN HW.out _⟩
        · have hqc : qc x = [x] := by
            unfold qc
            rw [if_neg (by rintro (rfl | rfl) <;> simp at hqa hqb), if_neg hc]
          rw [hqc] at Hstep
          have q3 : decide ((x.toNat : Int) < 32) = false := decide_eq_false (by omega)
          have q4 : decide (126 < (x.toNat : Int)) = false := decide_eq_false (by omega)
          have Hc1 : Hid ((⟨o.toArray⟩ : ByteArray) ++ ⟨#[x]⟩ = ⟨(o ++ [x]).toArray⟩) := by show _ = _; exact cat_eq o [x]
          clear hqc hq hqa hqb hc
          go_wp2_with fail
          rw [Hc1.out]
          go_roundg (n - (k + 1))
          case measure => omega
          case rel => exact ⟨k + 1, o ++ [x], by go_num, rfl, rfl, by omega, by simp; omega, by show _ = _; rw [Hstep.out, HO.out], HW.out⟩
    · have hke : k = n := by omega
      have hI3 : ¬ (k : Int) < (n : Int) := by omega
      have hq1 : ¬ 9223372036854775807 < o.length + 1 := by omega
      have Hc1 : Hid ((⟨o.toArray⟩ : ByteArray) ++ ⟨#[34]⟩ = ⟨(o ++ [34]).toArray⟩) := by show _ = _; exact cat_eq o [34]
      clear hlt
      go_wp2_with fail
      rw [Hc1.out]
      go_ret
      refine ⟨?_, HW.out⟩
      rw [HO.out, List.take_of_length_le (by have := Hn.out; omega)]; rfl
end Go.Proofs.YtdfhbnfhkckkbaaGreatDoor
