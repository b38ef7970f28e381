/-
  The reference's Print.
  The reference's Unit.
-/
import Derived.Test.YtdfhbnfhkckkbaaGreatDoorR6
namespace Go.Proofs.YtdfhbnfhkckkbaaGreatDoor
open Go Go.RowKit Go.Walks

theorem run_append_str {W : World} {base n : Nat} {ty : TypeId} {v : Value} {xs : List Value} (hown : W.ownsRow base 5 1 v n xs) (s : Bytes) (h63 : n + s.length ≤ maxLen) (hbytes : n + s.length ≤ 140737488355328) (hbase : base ≤ W.heap.size) :
    ∃ A' c' w', (Builtin.append_ #[38, 9] ty #[v, .string ⟨s.toArray⟩]).run Tryz.prog W = .ok (.slice A' (n + s.length) c') w' ∧ w'.ownsRow base 5 1 (.slice A' (n + s.length) c') (n + s.length) (xs ++ Lib.byteCells s) ∧ W.grownBy w' v.ownBlock := by
  obtain ⟨i0, hi, hz0, hz1, hz2⟩ := info_parts info5
  have hss := strBytes_size s
  obtain ⟨v', w', hr, h2, h3, -⟩ := Lib.run_append_own_string (P := Tryz.prog) W base 38 9 ty 5 i0 Tryz.underlying38 Tryz.underlying9 hi hz0 hz1 hz2 v n xs hown ⟨s.toArray⟩ (by rw [hss]; exact h63) (by rw [hss]; exact hbytes) hbase
  rw [hss, strCells_bytes] at h2
  obtain ⟨A', c', rfl⟩ := own_form h2
  exact ⟨A', c', w', hr, h2, h3⟩
theorem wpList_append_str {W : World} {ops : Array Oper} {rest : List Oper} {o : Oper} {a : Act} {Q : Exit → Act → World → Prop} (hgd : o.guard = none) (sl x : Operand)
    (ho : o.op = .call { callee := .builtin .append, args := #[sl, x], argTypes := #[38, 9] })
    {base n : Nat} {v : Value} {xs : List Value} (hs : a.eval sl = v) {s : Bytes} (hx : a.eval x = .string ⟨s.toArray⟩) (hown : W.ownsRow base 5 1 v n xs)
    (h63 : n + s.length ≤ maxLen) (hbytes : n + s.length ≤ 140737488355328) (hbase : base ≤ W.heap.size)
    (h : ∀ A' c' w', w'.ownsRow base 5 1 (.slice A' (n + s.length) c') (n + s.length) (xs ++ Lib.byteCells s) → W.grownBy w' v.ownBlock → wpList Tryz.prog ops Q rest (a.put o.dst (.slice A' (n + s.length) c')) w') : wpList Tryz.prog ops Q (o :: rest) a W :=
  wpList_plain hgd fun K hK => by
    obtain ⟨A', c', w', hrun, h2, h3⟩ := run_append_str (ty := o.type) hown s h63 hbytes hbase
    unfold Oper.wp execOp
    simp only [ho, resolve, invoke, builtin, Sem.run_bind, Sem.run_pure, Result.andThen_ok, List.map_toArray, List.map_cons, List.map_nil, hs, hx, hrun]
    exact hK _ _ (h A' c' w' h2 h3)
theorem step_append_str {W : World} {ops : Array Oper} {o : Oper} {a : Act} {K : Act → World → Prop} {Q : Exit → Act → World → Prop} {E : Prop} (hgd : o.guard = none) (sl x : Operand)
    (ho : o.op = .call { callee := .builtin .append, args := #[sl, x], argTypes := #[38, 9] })
    {base n : Nat} {v : Value} {xs : List Value} (hs : a.eval sl = v) {s : Bytes} (hx : a.eval x = .string ⟨s.toArray⟩) (hown : W.ownsRow base 5 1 v n xs)
    (h63 : n + s.length ≤ maxLen) (hbytes : n + s.length ≤ 140737488355328) (hbase : base ≤ W.heap.size)
    (h : ∀ A' c' w', w'.ownsRow base 5 1 (.slice A' (n + s.length) c') (n + s.length) (xs ++ Lib.byteCells s) → W.grownBy w' v.ownBlock → K (a.put o.dst (.slice A' (n + s.length) c')) w') :
    if Region.wanted o (yielded ops a.tmps) = true then Oper.wp Tryz.prog o a W K Q else E := by
  have hw : Region.wanted o (yielded ops a.tmps) = true := by simp [Region.wanted, hgd]
  rw [if_pos hw]
  obtain ⟨A', c', w', hrun, h2, h3⟩ := run_append_str (ty := o.type) hown s h63 hbytes hbase
  unfold Oper.wp execOp
  simp only [ho, resolve, invoke, builtin, Sem.run_bind, Sem.run_pure, Result.andThen_ok, List.map_toArray, List.map_cons, List.map_nil, hs, hx, hrun]
  exact h A' c' w' h2 h3

set_option maxRecDepth 100000 in
set_option maxHeartbeats 8000000 in
theorem rprint_any (S : ScriptD) (v : Value) (w : World) (Hv : Hid (ScriptS w S v)) (HL : Hid (ScriptL S)) : Calls Tryz.prog 18 #[v] w (PrintR (printB S) w) := by
  obtain ⟨p0, p1, p2, p3, p4, p5, T, tc, U, uc, rfl, hp⟩ := Hv.out
  have h6 : S.cfg.length = 6 := by rw [hp.cfg]; rfl
  obtain ⟨nt, hnt⟩ : ∃ n, n = S.texts.length := ⟨_, rfl⟩
  obtain ⟨ns, hns⟩ : ∃ n, n = S.steps.length := ⟨_, rfl⟩
  obtain ⟨ms, hms, hst⟩ := hp.stp
  have Hms := Lib.hid hms
  have Hst := Lib.hid hst
  have Htx := Lib.hid hp.txt
  obtain ⟨ck, hck⟩ : ∃ x, x = (checkB S).1 := ⟨_, rfl⟩
  obtain ⟨ce, hce⟩ : ∃ x, x = (checkB S).2 := ⟨_, rfl⟩
  have HCk : Hid (∀ v W, ScriptS W S v → Calls Tryz.prog 14 #[v] W fun e w' => e = .returned (.tuple #[.int .i64 ck, .int .i64 (ce : Int)]) ∧ Below W.heap.size W w') := Lib.hid fun v W h => by
    have := rcheck_any S v W (Lib.hid h) HL
    unfold CheckR at this
    rw [← hck, ← hce] at this
    exact this
  have HOk : Hid (ce = 0 → OkS S) := Lib.hid fun h => check_ok.1 (by rw [← hce, h])
  have HPb : Hid (printB S = if ce ≠ 0 then ([], ce) else if 200000 < (printT S).length then ([], 2) else (printT S, 0)) := by show _ = _; rw [hce]; rfl
  have HPl : Hid (ce = 0 → (printT S).length ≤ 20000000) := Lib.hid fun h => print_len (HOk.out h) h6
  have Hnum : Hid (∀ W, Calls Tryz.prog 44 #[.agg #[.int .i64 p0, .int .i64 p1, .int .i64 p2, .int .i64 p3, .int .i64 p4, .int .i64 p5]] W fun en w' => ∃ A, en = .returned (.slice A 6 6) ∧ OS W 3 1 A 6 6 (S.cfg.map intC) w') := Lib.hid fun W => by
    rw [hp.cfg]; exact rnumbers_any p0 p1 p2 p3 p4 p5 W
  have Hwords : Hid (ce = 0 → ∀ A W, Sl W W.heap.size A (S.cfg.map intC) → Calls Tryz.prog 55 #[.string ⟨#[97, 114, 114, 97, 121]⟩, .slice A 6 6] W (StrR (wordsB arrayW S.cfg ++ [10]) W)) := Lib.hid fun h0 A W h => by
    have := rwords_any arrayW S.cfg A 6 W (by omega) (by decide) (Lib.hid fun n hn => by have := (HOk.out h0).cfg n hn; exact ⟨by omega, by omega⟩) (Lib.hid h)
    rw [h6] at this
    exact this
  obtain ⟨x, hx⟩ : ∃ x, x = printB S := ⟨_, rfl⟩
  rw [← hx] at HPb ⊢
  rw [← hnt, ← hns] at Hv ⊢
  have Hnt := Lib.hid hnt
  have Hns := Lib.hid hns
  have H6 := Lib.hid h6
  clear hnt hns hms hst hp hck hce hx h6
  obtain ⟨g, hg⟩ : ∃ g, g = w.heap.size := ⟨_, rfl⟩
  obtain ⟨W0, hW⟩ : ∃ W, W = w.alloc (.cells (scrCs p0 p1 p2 p3 p4 p5 T nt tc U ns uc) 27) := ⟨_, rfl⟩
  have HS0 : Hid (SNt 27 S g (scrCs p0 p1 p2 p3 p4 p5 T nt tc U ns uc) W0) := by rw [hW, hg]; exact SNt.start Hv.out
  have HB0 : Hid (Below w.heap.size w W0) := by rw [hW]; exact (Below.refl _ _).alloc (Nat.le_refl _) _
  clear Hv
  unfold scrCs at hW
  unfold scrCs
  go_enter Tryz.func18, Tryz.ntmps18
  go_upto_region 1 with fail
  rw [← hW, ← hg]
  clear hW hg
  have crow := HS0.out.1
  have c0 := (cell_at (u := .int .i64 p0) crow 0 rfl).1
  have c1 := (cell_at (u := .int .i64 p1) crow 1 rfl).1
  have c2 := (cell_at (u := .int .i64 p2) crow 2 rfl).1
  have c3 := (cell_at (u := .int .i64 p3) crow 3 rfl).1
  have c4 := (cell_at (u := .int .i64 p4) crow 4 rfl).1
  have c5 := (cell_at (u := .int .i64 p5) crow 5 rfl).1
  have c6 := (cell_at (u := .slice T nt tc) crow 6 rfl).1
  have c7 := (cell_at (u := .slice U ns uc) crow 7 rfl).1
  clear crow
  go_wp2_with fail
  clear c0 c1 c2 c3 c4 c5 c6 c7
  refine (HCk.out (.agg (scrCs p0 p1 p2 p3 p4 p5 T nt tc U ns uc)) _ HS0.out.2).mono ?_
  rintro en w1 ⟨rfl, hb1⟩
  have HS1 := Lib.hid (HS0.out.call hb1)
  have HB1 := Lib.hid (HB0.out.trans (hb1.mono HB0.out.size))
  clear hb1 HS0 HB0
  by_cases hce : ce = 0
  rotate_left
  · have q1 : ¬ (ce : Int) = 0 := by omega
    have hx : x = ([], ce) := by rw [HPb.out, if_pos hce]
    subst hx
    go_wp2_with fail
    go_ret2
    exact ⟨rfl, HB1.out⟩
  · have hx : x = (if 200000 < (printT S).length then ([], 2) else (printT S, 0)) := by rw [HPb.out, if_neg (fun h => h hce)]
    have HX := Lib.hid hx
    have HO := Lib.hid (HOk.out hce)
    have Hwords0 := Lib.hid (Hwords.out hce)
    have HPl0 := Lib.hid (HPl.out hce)
    subst hce
    clear HOk HPb Hwords HPl hx
    have crow := HS1.out.1
    have c0 := (cell_at (u := .int .i64 p0) crow 0 rfl).1
    have c1 := (cell_at (u := .int .i64 p1) crow 1 rfl).1
    have c2 := (cell_at (u := .int .i64 p2) crow 2 rfl).1
    have c3 := (cell_at (u := .int .i64 p3) crow 3 rfl).1
    have c4 := (cell_at (u := .int .i64 p4) crow 4 rfl).1
    have c5 := (cell_at (u := .int .i64 p5) crow 5 rfl).1
    clear crow
    go_wp2_with fail
    clear c0 c1 c2 c3 c4 c5
    refine (Hnum.out _).mono ?_
    rintro en w2 ⟨A2, rfl, hO⟩
    have HS2 := Lib.hid (HS1.out.call hO.below)
    have HB2 := Lib.hid (HB1.out.trans (hO.below.mono HB1.out.size))
    have HA2 := Lib.hid (own_sl hO.o)
    clear hO HS1 HB1
    go_wp2_with fail
    refine (Hwords0.out _ _ HA2.out).mono ?_
    rintro en w3 ⟨rfl, hb3⟩
    have HS3 := Lib.hid (HS2.out.call hb3)
    have HB3 := Lib.hid (HB2.out.trans (hb3.mono HB2.out.size))
    clear hb3 HS2 HB2 HA2
    have hntb : nt ≤ 16 := by rw [Hnt.out]; exact HO.out.nt
    have hnsb : ns ≤ 1000 := by rw [Hns.out]; exact HO.out.ns
    have hw0 : (wordsB arrayW S.cfg ++ [10]).length ≤ 1000 := by
      have := words_len (wd := arrayW) (l := S.cfg) (fun n hn => by have := HO.out.cfg n hn; exact ⟨by omega, by omega⟩)
      rw [H6.out] at this
      have ha : arrayW.length = 5 := rfl
      rw [List.length_append]
      simp only [List.length_cons, List.length_nil]
      omega
    obtain ⟨l0, hl0⟩ : ∃ l, l = wordsB arrayW S.cfg ++ [10] := ⟨_, rfl⟩
    have HL0 := Lib.hid hl0
    rw [← hl0] at hw0 ⊢
    unfold strV
    have hN := OS.nil w3 5 1
    have HN := Lib.hid hN
    have hb1 : 0 + l0.length ≤ maxLen := by unfold maxLen; omega
    have hb2 : 0 + l0.length ≤ 140737488355328 := by omega
    clear hl0 hN
    go_wp2_with (at_builtin; refine wpList_append_str rfl _ _ rfl rfl rfl (own_nil w3 w3.heap.size 5 1) hb1 hb2 (Nat.le_refl _) ?_; intro A5 c5 w5 ho5 hg5; have HS5 := Lib.hid (HN.out.grow ho5 hg5); clear ho5 hg5)
    clear HN hb1 hb2
    have HO5 : Hid (OS w3 5 1 A5 l0.length c5 (Lib.byteCells l0) w5) := Lib.hid (by have := HS5.out; rw [Nat.zero_add, List.nil_append] at this; exact this)
    clear HS5
    go_loopg [7, 6] nt (fun gh s7 s6 wr => ∃ (k nn : Nat) (A' : Option Addr) (c' : Nat), s7 = .int .i64 (k : Int) ∧ s6 = .slice A' nn c' ∧ gh = nt - k ∧ k ≤ nt ∧ nn ≤ 1000 + 8100 * k ∧ Hid (OS w3 5 1 A' nn c' (Lib.byteCells (l0 ++ (S.texts.take k).flatMap fun t => lineT t ++ [10])) wr))
    case atStart => exact ⟨0, l0.length, A5, c5, rfl, rfl, rfl, Nat.zero_le _, by omega, by rw [List.take_zero, List.flatMap_nil, List.append_nil]; exact HO5.out⟩
    case round =>
      obtain ⟨k, nn, A', c', rfl, rfl, hgh, hk, hnn, HE⟩ := hrel
      clear HO5
      have crow := (HS3.out.call HE.out.below).1
      by_cases hlt : k < nt
      · have hI1 : (0 : Int) ≤ (k : Int) := by omega
        have hI2 : (k : Int) < (nt : Int) := by omega
        obtain ⟨t, ht⟩ : ∃ y, S.texts[k]? = some y := ⟨_, List.getElem?_eq_getElem (by rw [← Hnt.out]; exact hlt)⟩
        obtain ⟨b, o, hA, hbl, hc0⟩ := str_at Htx.out ht
        subst hA
        have c6 := (cell_at (u := .slice (some ⟨b, o, none⟩) nt tc) crow 6 rfl).1
        have hc := ((HB3.out.trans (HE.out.below.mono HB3.out.size)).cell (p := ⟨b, o + k, none⟩) hbl).trans hc0
        have hts := HO.out.txt t (List.mem_of_getElem? ht)
        have Hstep : Hid (l0 ++ ((S.texts.take (k + 1)).flatMap fun t => lineT t ++ [10]) = (l0 ++ (S.texts.take k).flatMap fun t => lineT t ++ [10]) ++ (lineT t ++ [10])) := by show _ = _; rw [List.take_add_one, ht]; simp
        have hql : (quoteB t).length ≤ 8002 := by
          have := flat_qc_len t
          unfold quoteB
          simp only [List.length_cons, List.length_append, List.length_nil]
          omega
        have Hq : Hid (∀ W, Calls Tryz.prog 56 #[.string ⟨t.toArray⟩] W (StrR (quoteB t) W)) := Lib.hid fun W => rquoted_any t W (by omega)
        obtain ⟨q, hq⟩ : ∃ q, q = quoteB t := ⟨_, rfl⟩
        obtain ⟨ll, hll0⟩ : ∃ ll, ll = (textW ++ q) ++ [10] := ⟨_, rfl⟩
        have Hlt : Hid (lineT t ++ [10] = ll) := by show _ = _; rw [hll0, hq]; rfl
        rw [← hq] at Hq hql
        have hll : ll.length ≤ 8008 := by
          rw [hll0]
          simp only [List.length_append, List.length_cons, List.length_nil, show textW.length = 5 from rfl]; omega
        unfold StrR strV at Hq
        have Hc1 : Hid (((⟨#[116, 101, 120, 116, 32]⟩ : ByteArray) ++ ⟨q.toArray⟩) ++ ⟨#[10]⟩ = ⟨ll.toArray⟩) := by show _ = _; rw [hll0]; exact (congrArg (· ++ _) (cat_eq textW q)).trans (cat_eq _ [10])
        have hq1 : ¬ 9223372036854775807 < 5 + q.length := by omega
        have hq2 : ¬ 9223372036854775807 < 5 + q.length + 1 := by omega
        have hq3 : ¬ 9223372036854775807 < q.length + 5 + 1 := by omega
        clear ht hc0 crow hq hll0
        go_wp2_with fail
        clear c6 hc
        refine (Hq.out _).mono ?_
        rintro en w7 ⟨rfl, hb7⟩
        have HE7 := Lib.hid (HE.out.call hb7)
        clear hb7 HE
        have hb1 : nn + ll.length ≤ maxLen := by unfold maxLen; omega
        have hb2 : nn + ll.length ≤ 140737488355328 := by omega
        go_wp2_with (at_builtin; refine wpList_append_str rfl _ _ rfl rfl (congrArg Value.string Hc1.out) HE7.out.o hb1 hb2 HE7.out.below.size ?_; intro A8 c8 w8 ho8 hg8; have HS8 := Lib.hid (HE7.out.grow ho8 hg8); clear ho8 hg8)
        go_roundg (nt - (k + 1))
        case measure => omega
        case rel => exact ⟨k + 1, _, A8, c8, by go_num, rfl, rfl, by omega, by omega, by rw [Hstep.out, Hlt.out, byteCells_append]; exact HS8.out⟩
      · have hke : k = nt := by omega
        have hI3 : ¬ (k : Int) < (nt : Int) := by omega
        obtain ⟨l1, hl1⟩ : ∃ l, l = l0 ++ S.texts.flatMap fun t => lineT t ++ [10] := ⟨_, rfl⟩
        have HE2 : Hid (OS w3 5 1 A' nn c' (Lib.byteCells l1) wr) := Lib.hid (by
          have := HE.out
          rw [hke, List.take_of_length_le (by rw [← Hnt.out]; exact Nat.le_refl _), ← hl1] at this
          exact this)
        have HL1 := Lib.hid hl1
        have hnn2 : nn ≤ 140000 := by omega
        have c6 := (cell_at (u := .slice T nt tc) crow 6 rfl).1
        clear crow hke hlt HE hnn hk hgh hl1
        go_wp2_with fail
        clear c6 hI3
        go_loopg [8, 6] ns (fun gh s8 s6 wr => ∃ (k nn : Nat) (A' : Option Addr) (c' : Nat), s8 = .int .i64 (k : Int) ∧ s6 = .slice A' nn c' ∧ gh = ns - k ∧ k ≤ ns ∧ nn ≤ 140000 + 2000 * k ∧ Hid (OS w3 5 1 A' nn c' (Lib.byteCells (l1 ++ (S.steps.take k).flatMap fun y => lineX y ++ [10])) wr))
        case atStart => exact ⟨0, nn, A', c', rfl, rfl, rfl, Nat.zero_le _, by omega, by rw [List.take_zero, List.flatMap_nil, List.append_nil]; exact HE2.out⟩
        case round =>
          obtain ⟨k, nn, A', c', rfl, rfl, hgh, hk, hnn, HE⟩ := hrel
          clear HE2
          by_cases hlt : k < ns
          · have hI1 : (0 : Int) ≤ (k : Int) := by omega
            have hI2 : (k : Int) < (ns : Int) := by omega
            obtain ⟨y, hy⟩ : ∃ y, S.steps[k]? = some y := ⟨_, List.getElem?_eq_getElem (by rw [← Hns.out]; exact hlt)⟩
            obtain ⟨b, o, A, cc, hU, hbw, hck0, hcs0, hsl, hcc⟩ := step_at Hms.out Hst.out (Below.refl _ _) hy
            subst hU
            obtain ⟨s1, s2, s3, s4⟩ := step_bounds HO.out.nt (HO.out.stp y (List.mem_of_getElem? hy))
            have Hstep : Hid (l1 ++ ((S.steps.take (k + 1)).flatMap fun y => lineX y ++ [10]) = (l1 ++ (S.steps.take k).flatMap fun y => lineX y ++ [10]) ++ (wordsB (nameB y.kind) y.args ++ [10])) := by show _ = _; rw [List.take_add_one, hy]; simp [lineX]
            obtain ⟨kd, hkd⟩ : ∃ kd, kd = y.kind := ⟨_, rfl⟩
            obtain ⟨q, hq⟩ : ∃ q, q = y.args.length := ⟨_, rfl⟩
            have hlx : (wordsB (nameB y.kind) y.args ++ [10]).length ≤ 1500 := by
              have h1 := words_len (wd := nameB y.kind) (l := y.args) (fun n hn => by have := s4 n hn; exact ⟨by omega, by omega⟩)
              have h2 := name_le y.kind
              rw [List.length_append]
              simp only [List.length_cons, List.length_nil]
              omega
            have KS : Hid (∀ W, Below w3.heap.size w3 W → W.cell? ⟨g, 7, none⟩ = some (.slice (some ⟨b, o, none⟩) ns uc) ∧ W.cell? ⟨b, o + k * 2, none⟩ = some (.int .i64 kd) ∧ W.cell? ⟨b, o + k * 2 + 1, none⟩ = some (.slice A q cc)) := Lib.hid fun W hb => by
              have hbW := HB3.out.trans (hb.mono HB3.out.size)
              refine ⟨(cell_at (u := .slice (some ⟨b, o, none⟩) ns uc) (HS3.out.call hb).1 7 rfl).1, ?_, ?_⟩
              · rw [hkd]; exact (hbW.cell (p := ⟨b, o + k * 2, none⟩) hbw).trans hck0
              · rw [hq]; exact (hbW.cell (p := ⟨b, o + k * 2 + 1, none⟩) hbw).trans hcs0
            have Hname : Hid (∀ W, Calls Tryz.prog 20 #[.int .i64 kd] W (StrR (nameB kd) W)) := Lib.hid fun W => rname_any kd W
            have HwordsX : Hid (∀ W, Below w3.heap.size w3 W → Calls Tryz.prog 55 #[.string ⟨(nameB kd).toArray⟩, .slice A q cc] W (StrR (wordsB (nameB kd) y.args ++ [10]) W)) := Lib.hid fun W hb => by
              have hbW := HB3.out.trans (hb.mono HB3.out.size)
              rw [hq]
              exact rwords_any (nameB kd) y.args A cc W (by omega) (by have := name_le kd; omega) (Lib.hid fun n hn => by have := s4 n hn; exact ⟨by omega, by omega⟩) (Lib.hid ((hsl.below hbW).more hbW.size))
            obtain ⟨nm, hnm⟩ : ∃ nm, nm = nameB kd := ⟨_, rfl⟩
            obtain ⟨lx, hlx0⟩ : ∃ l, l = wordsB nm y.args ++ [10] := ⟨_, rfl⟩
            rw [← hkd, ← hnm, ← hlx0] at Hstep hlx
            rw [← hnm, ← hlx0] at HwordsX
            rw [← hnm] at Hname
            unfold StrR strV at Hname HwordsX
            have hb1 : nn + lx.length ≤ maxLen := by unfold maxLen; omega
            have hb2 : nn + lx.length ≤ 140737488355328 := by omega
            obtain ⟨c7, -, -⟩ := KS.out wr HE.out.below
            clear hy hkd hq hcs0 hck0 hsl hcc hbw s1 s2 s3 s4 hnm hlx0
            go_wp2_with fail
            clear c7
            refine wp_region_held_drew (S := fun W => W.cell? ⟨g, 7, none⟩ = some (.slice (some ⟨b, o, none⟩) ns uc) ∧ W.cell? ⟨b, o + k * 2, none⟩ = some (.int .i64 kd) ∧ W.cell? ⟨b, o + k * 2 + 1, none⟩ = some (.slice A q cc)) (by kernel_rfl) (KS.out _ (HE.out.below.trans (Below.refl _ _).drew)) (fun hHeld => ?_)
            have HE0 := Lib.hid (HE.out.call (Below.refl _ _).drew)
            refine wpAnyH_take (i := 0) (v := ?_) (by simp only [List.getElem?_toArray, List.getElem?_cons_zero] <;> rfl) (by kernel_rfl) (by kernel_rfl) (by kernel_rfl) (by intro _ _ _ h; exact h) (Or.inl ⟨by rfl, ?_⟩) hHeld ?_
            rotate_left
            · intro w hSw; (try dsimp only at hSw); go_simp
              with_reducible rfl
            try simp only [Act.put, List.setIfInBounds_toArray, List.set_cons_zero, List.set_cons_succ]
            refine wpAnyH_take (i := 1) (v := ?_) (by simp only [List.getElem?_toArray, List.getElem?_cons_zero, List.getElem?_cons_succ] <;> rfl) (by kernel_rfl) (by kernel_rfl) (by kernel_rfl) (by intro _ _ _ h; exact h) (Or.inl ⟨by rfl, ?_⟩) hHeld ?_
            rotate_left
            · intro w hSw; (try dsimp only at hSw); go_simp
              with_reducible rfl
            try simp only [Act.put, List.setIfInBounds_toArray, List.set_cons_zero, List.set_cons_succ]
            refine wpAnyH_take (i := 2) (v := ?_) (by simp only [List.getElem?_toArray, List.getElem?_cons_zero, List.getElem?_cons_succ] <;> rfl) (by kernel_rfl) (by kernel_rfl) (by kernel_rfl) (by intro _ _ _ h; exact h) (Or.inl ⟨by rfl, ?_⟩) hHeld ?_
            rotate_left
            · intro w hSw; (try dsimp only at hSw); go_simp
              with_reducible rfl
            try simp only [Act.put, List.setIfInBounds_toArray, List.set_cons_zero, List.set_cons_succ]
            refine wpAnyH_take (i := 3) (v := ?_) (by simp only [List.getElem?_toArray, List.getElem?_cons_zero, List.getElem?_cons_succ] <;> rfl) (by kernel_rfl) (by kernel_rfl) (by kernel_rfl) (by intro _ _ _ h; exact h) (Or.inl ⟨by rfl, ?_⟩) hHeld ?_
            rotate_left
            · intro w hSw; (try dsimp only at hSw); go_simp
              with_reducible rfl
            try simp only [Act.put, List.setIfInBounds_toArray, List.set_cons_zero, List.set_cons_succ]
            refine wpAnyH_take (i := 4) (v := ?_) (by simp only [List.getElem?_toArray, List.getElem?_cons_zero, List.getElem?_cons_succ] <;> rfl) (by kernel_rfl) (by kernel_rfl) (by kernel_rfl) (by intro _ _ _ h; exact h) (Or.inl ⟨by rfl, ?_⟩) hHeld ?_
            rotate_left
            · intro w hSw; (try dsimp only at hSw); go_simp
              with_reducible rfl
            try simp only [Act.put, List.setIfInBounds_toArray, List.set_cons_zero, List.set_cons_succ]
            refine wpAnyH_take (i := 5) (v := ?_) (by simp only [List.getElem?_toArray, List.getElem?_cons_zero, List.getElem?_cons_succ] <;> rfl) (by kernel_rfl) (by kernel_rfl) (by kernel_rfl) (by intro _ _ _ h; exact h) (Or.inl ⟨by rfl, ?_⟩) hHeld ?_
            rotate_left
            · intro w hSw; (try dsimp only at hSw); go_simp
              with_reducible rfl
            try simp only [Act.put, List.setIfInBounds_toArray, List.set_cons_zero, List.set_cons_succ]
            refine wpAnyH_take (i := 6) (v := ?_) (by simp only [List.getElem?_toArray, List.getElem?_cons_zero, List.getElem?_cons_succ] <;> rfl) (by kernel_rfl) (by kernel_rfl) (by kernel_rfl) (by intro _ _ _ h; exact h) (Or.inl ⟨by rfl, ?_⟩) hHeld ?_
            rotate_left
            · intro w hSw; (try dsimp only at hSw); go_simp
              with_reducible rfl
            try simp only [Act.put, List.setIfInBounds_toArray, List.set_cons_zero, List.set_cons_succ]
            refine wpAnyH_take (i := 8) (v := ?_) (by simp only [List.getElem?_toArray, List.getElem?_cons_zero, List.getElem?_cons_succ] <;> rfl) (by kernel_rfl) (by kernel_rfl) (by kernel_rfl) (by intro _ _ _ h; exact h) (Or.inl ⟨by rfl, ?_⟩) hHeld ?_
            rotate_left
            · intro w hSw; (try dsimp only at hSw); go_simp
              with_reducible rfl
            try simp only [Act.put, List.setIfInBounds_toArray, List.set_cons_zero, List.set_cons_succ]
            refine wpAnyH_take (i := 9) (v := ?_) (by simp only [List.getElem?_toArray, List.getElem?_cons_zero, List.getElem?_cons_succ] <;> rfl) (by kernel_rfl) (by kernel_rfl) (by kernel_rfl) (by intro _ _ _ h; exact h) (Or.inl ⟨by rfl, ?_⟩) hHeld ?_
            rotate_left
            · intro w hSw; (try dsimp only at hSw); go_simp
              with_reducible rfl
            try simp only [Act.put, List.setIfInBounds_toArray, List.set_cons_zero, List.set_cons_succ]
            refine wpAnyH_take (i := 10) (v := ?_) (by simp only [List.getElem?_toArray, List.getElem?_cons_zero, List.getElem?_cons_succ] <;> rfl) (by kernel_rfl) (by kernel_rfl) (by kernel_rfl) (by intro _ _ _ h; exact h) (Or.inl ⟨by rfl, ?_⟩) hHeld ?_
            rotate_left
            · intro w hSw; (try dsimp only at hSw); go_simp
              with_reducible rfl
            try simp only [Act.put, List.setIfInBounds_toArray, List.set_cons_zero, List.set_cons_succ]
            refine wpAnyH_take (i := 11) (v := ?_) (by simp only [List.getElem?_toArray, List.getElem?_cons_zero, List.getElem?_cons_succ] <;> rfl) (by kernel_rfl) (by kernel_rfl) (by kernel_rfl) (by intro _ _ _ h; exact h) (Or.inl ⟨by rfl, ?_⟩) hHeld ?_
            rotate_left
            · intro w hSw; (try dsimp only at hSw); go_simp
              with_reducible rfl
            try simp only [Act.put, List.setIfInBounds_toArray, List.set_cons_zero, List.set_cons_succ]
            refine wpAnyH_take (i := 12) (v := ?_) (by simp only [List.getElem?_toArray, List.getElem?_cons_zero, List.getElem?_cons_succ] <;> rfl) (by kernel_rfl) (by kernel_rfl) (by kernel_rfl) (by intro _ _ _ h; exact h) (Or.inl ⟨by rfl, ?_⟩) hHeld ?_
            rotate_left
            · intro w hSw; (try dsimp only at hSw); go_simp
              with_reducible rfl
            try simp only [Act.put, List.setIfInBounds_toArray, List.set_cons_zero, List.set_cons_succ]
            refine wpAnyH_take (i := 13) (v := ?_) (by simp only [List.getElem?_toArray, List.getElem?_cons_zero, List.getElem?_cons_succ] <;> rfl) (by kernel_rfl) (by kernel_rfl) (by kernel_rfl) (by intro _ _ _ h; exact h) (Or.inl ⟨by rfl, ?_⟩) hHeld ?_
            rotate_left
            · intro w hSw; (try dsimp only at hSw); go_simp
              with_reducible rfl
            try simp only [Act.put, List.setIfInBounds_toArray, List.set_cons_zero, List.set_cons_succ]
            refine wpAnyH_ready (rs := [7]) (by kernel_rfl) (by simp) ?_
            refine (AllReadyH.cons (by simp only [List.getElem?_toArray, List.getElem?_cons_zero, List.getElem?_cons_succ] <;> rfl) (fun K hK => ?_) AllReadyH.nil)
            · go_simp
              go_at_call 20
              refine (Hname.out _).mono ?_
              rintro en w13 ⟨rfl, hb13⟩
              have HE13 := Lib.hid (HE0.out.call hb13)
              clear hb13 HE0
              refine hK.out _ _ (KS.out _ HE13.out.below) (fun hHeld => ?_)
              clear hK K
              try simp only [Act.put, List.setIfInBounds_toArray, List.set_cons_zero, List.set_cons_succ]
              refine wpAnyH_ready (rs := [14]) (by kernel_rfl) (by simp) ?_
              refine (AllReadyH.cons (by simp only [List.getElem?_toArray, List.getElem?_cons_zero, List.getElem?_cons_succ] <;> rfl) (fun K hK => ?_) AllReadyH.nil)
              · go_simp
                go_at_call 55
                refine (HwordsX.out _ HE13.out.below).mono ?_
                rintro en w14 ⟨rfl, hb14⟩
                have HE14 := Lib.hid (HE13.out.call hb14)
                clear hb14 HE13
                refine hK.out _ _ (KS.out _ HE14.out.below) (fun hHeld => ?_)
                clear hK K
                try simp only [Act.put, List.setIfInBounds_toArray, List.set_cons_zero, List.set_cons_succ]
                refine wpAnyH_ready (rs := [15]) (by kernel_rfl) (by simp) ?_
                refine (AllReadyH.cons (by simp only [List.getElem?_toArray, List.getElem?_cons_zero, List.getElem?_cons_succ] <;> rfl) (fun K hK => ?_) AllReadyH.nil)
                · refine step_append_str rfl _ _ rfl rfl rfl HE14.out.o hb1 hb2 HE14.out.below.size ?_
                  intro A8 c8 w8 ho8 hg8
                  have HS8 := Lib.hid (HE14.out.grow ho8 hg8)
                  clear ho8 hg8
                  refine hK.out _ _ (KS.out _ HS8.out.below) (fun hHeld => ?_)
                  clear hK K
                  try simp only [Act.put, List.setIfInBounds_toArray, List.set_cons_zero, List.set_cons_succ]
                  refine wpAnyH_take (i := 16) (v := ?_) (by simp only [List.getElem?_toArray, List.getElem?_cons_zero, List.getElem?_cons_succ] <;> rfl) (by kernel_rfl) (by kernel_rfl) (by kernel_rfl) (by intro _ _ _ h; exact h) (Or.inl ⟨by rfl, ?_⟩) hHeld ?_
                  rotate_left
                  · intro w hSw; (try dsimp only at hSw); go_simp
                    with_reducible rfl
                  try simp only [Act.put, List.setIfInBounds_toArray, List.set_cons_zero, List.set_cons_succ]
                  refine wpAnyH_done (by kernel_rfl) ?_ _
                  clear hHeld
                  go_wp2_with fail
                  go_roundg (ns - (k + 1))
                  case measure => omega
                  case rel => exact ⟨k + 1, _, A8, c8, by go_num, rfl, rfl, by omega, by omega, by rw [Hstep.out, byteCells_append]; exact HS8.out⟩
          · have hke : k = ns := by omega
            have hI3 : ¬ (k : Int) < (ns : Int) := by omega
            have hF : Hid (l1 ++ ((S.steps.take k).flatMap fun y => lineX y ++ [10]) = printT S) := by
              show _ = _
              rw [hke, List.take_of_length_le (by rw [← Hns.out]; exact Nat.le_refl _), HL1.out, HL0.out]
              unfold printT joinT linesT
              simp [List.flatMap_append, List.flatMap_map]
            rw [hF.out] at HE
            have crow := (HS3.out.call HE.out.below).1
            have c7 := (cell_at (u := .slice U ns uc) crow 7 rfl).1
            clear crow hke hlt
            obtain ⟨p, hp⟩ : ∃ p, p = printT S := ⟨_, rfl⟩
            rw [← hp] at HE HX HPl0
            have hpn : p.length = nn := by
              have := HE.out.o.1
              rw [byteCells_length, Nat.mul_one] at this
              exact this
            have hpl := HPl0.out
            have hcv : (convert 38 9 (.slice A' nn c')).run Tryz.prog wr = .ok (.string ⟨p.toArray⟩) wr := by
              rw [← hpn]
              exact conv_bytes (own_sl (by rw [← hpn] at HE; exact HE.out.o))
            have HB9 := Lib.hid (HB3.out.trans (HE.out.below.mono HB3.out.size))
            have Hpn := Lib.hid hpn
            by_cases hbig : 200000 < nn
            · have hIb : (200000 : Int) < (nn : Int) := by omega
              clear hp hpn hcv
              go_wp2_with fail
              go_ret2
              rw [HX.out, if_pos (by rw [Hpn.out]; exact hbig)]
              exact ⟨rfl, HB9.out⟩
            · have hIb : ¬ (200000 : Int) < (nn : Int) := by omega
              clear hp hpn
              go_wp2_with fail
              go_ret2
              rw [HX.out, if_neg (by rw [Hpn.out]; exact hbig)]
              exact ⟨rfl, HB9.out⟩
end Go.Proofs.YtdfhbnfhkckkbaaGreatDoor
namespace Go.Proofs.YtdfhbnfhkckkbaaGreatDoor
open Go Go.RowKit Go.Walks

/-- The bytes of a unit behind c rounds and j steps of the next one. -/
def unitC (l : Bytes) (c j p : Nat) : UInt8 := if 8 ≤ p % 8 + c ∨ (p % 8 + c = 7 ∧ p / 8 < j) then l.getD (p % 8) 0 else 0
def unitL (l : Bytes) (c j : Nat) : Bytes := (List.range 32).map (unitC l c j)
theorem unitL_len (l : Bytes) (c j : Nat) : (unitL l c j).length = 32 := by unfold unitL; rw [List.length_map, List.length_range]
theorem unitL_get (l : Bytes) (c j p : Nat) (h : p < 32) : (unitL l c j)[p]? = some (unitC l c j p) := by
  unfold unitL
  rw [List.getElem?_map, List.getElem?_range h]; rfl
theorem byteCells_get (l : Bytes) (p : Nat) : (Lib.byteCells l).toArray[p]? = l[p]?.map fun x => .int .u8 (x.toNat : Int) := by
  rw [List.getElem?_toArray]; unfold Lib.byteCells; rw [List.getElem?_map]
theorem unit_set {l : Bytes} {c j : Nat} (hc : c ≤ 7) (hj : j < 4) {x : UInt8} (hx : l.getD (7 - c) 0 = x) : (Lib.byteCells (unitL l c j)).toArray.setIfInBounds (8 * j + (7 - c)) (.int .u8 (x.toNat : Int)) = (Lib.byteCells (unitL l c (j + 1))).toArray := by
  apply Array.ext_getElem?
  intro p
  rw [Array.getElem?_setIfInBounds, byteCells_get, byteCells_get]
  have hs : (Lib.byteCells (unitL l c j)).toArray.size = 32 := by rw [List.size_toArray, byteCells_length, unitL_len]
  by_cases hp : p < 32
  · rw [unitL_get _ _ _ _ hp, unitL_get _ _ _ _ hp]
    by_cases he : 8 * j + (7 - c) = p
    · rw [if_pos he, if_pos (by rw [hs]; omega)]
      have h1 : p % 8 = 7 - c := by omega
      have h2 : p / 8 = j := by omega
      unfold unitC
      rw [if_pos (by rw [h1, h2]; right; omega), h1, hx]
      rfl
    · rw [if_neg he]
      have : unitC l c j p = unitC l c (j + 1) p := by
        unfold unitC
        congr 1
        apply propext
        constructor
        · rintro (h | ⟨h1, h2⟩)
          · exact .inl h
          · exact .inr ⟨h1, by omega⟩
        · rintro (h | ⟨h1, h2⟩)
          · exact .inl h
          · refine .inr ⟨h1, ?_⟩
            rcases Nat.lt_or_ge (p / 8) j with h | h
            · exact h
            · exfalso; apply he; omega
      rw [this]
  · have h1 : (unitL l c j)[p]? = none := by rw [List.getElem?_eq_none_iff, unitL_len]; omega
    have h2 : (unitL l c (j + 1))[p]? = none := by rw [List.getElem?_eq_none_iff, unitL_len]; omega
    rw [h1, h2, if_neg (by omega)]
theorem unit_next (l : Bytes) (c : Nat) (hc : c ≤ 7) : unitL l c 4 = unitL l (c + 1) 0 := by
  unfold unitL
  apply List.map_congr_left
  intro p hp
  have hp := List.mem_range.1 hp
  unfold unitC
  congr 1
  apply propext
  constructor
  · rintro (h | ⟨h1, h2⟩)
    · exact .inl (by omega)
    · exact .inl (by omega)
  · rintro (h | ⟨h1, h2⟩)
    · by_cases h8 : 8 ≤ p % 8 + c
      · exact .inl h8
      · exact .inr ⟨by omega, by omega⟩
    · omega
theorem unit_zero (l : Bytes) : unitL l 0 0 = List.replicate 32 0 := by
  unfold unitL
  rw [List.eq_replicate_iff]
  refine ⟨by rw [List.length_map, List.length_range], fun b hb => ?_⟩
  obtain ⟨p, hp, rfl⟩ := List.mem_map.1 hb
  unfold unitC
  rw [if_neg (by omega)]
theorem unit_all {l : Bytes} (h : l.length = 8) : unitL l 8 0 = (List.replicate 4 l).flatten := by
  match l, h with
  | [a, b, c, d, e, f, g, i], _ => rfl
set_option maxRecDepth 100000 in
set_option maxHeartbeats 400000 in
theorem runit_any (k : Int) (w : World) (Hk : Hid (I64 k)) : Calls Tryz.prog 27 #[.int .i64 k] w (StrR (unitB k) w) := by
  have hk1 := Hk.out.1
  have hk2 := Hk.out.2
  obtain ⟨m, hm⟩ : ∃ m, m = (k % 18446744073709551616).toNat := ⟨_, rfl⟩
  have hw : IntKind.u64.wrap k = (m : Int) := by rw [IntKind.wrap_u64, hm]; omega
  have hm64 : m < 18446744073709551616 := by omega
  obtain ⟨l, hl⟩ : ∃ l, l = bigB m 8 := ⟨_, rfl⟩
  have Hl8 : Hid (l.length = 8) := by show _ = _; rw [hl, bigB_length]
  have Hget : Hid (∀ c, c ≤ 7 → l.getD (7 - c) 0 = UInt8.ofNat (m / 256 ^ c)) := fun c hc => by
    rw [List.getD_eq_getElem?_getD, hl, bigB_get m 8 (7 - c) (by omega), show 8 - 1 - (7 - c) = c by omega]; rfl
  have Hout : Hid (unitB k = unitL l 8 0) := by show _ = _; rw [unit_all Hl8.out]; unfold unitB; rw [hl, hm]
  obtain ⟨g, hg⟩ : ∃ g, g = w.heap.size := ⟨_, rfl⟩
  obtain ⟨W1, hW1⟩ : ∃ W, W = w.alloc (.cells (Array.replicate 32 (.int .u8 0)) 5) := ⟨_, rfl⟩
  have HB1 : Hid (Below w.heap.size w W1) := by rw [hW1]; exact (Below.refl _ _).alloc (Nat.le_refl _) _
  have HR1 : Hid (W1.heap[g]? = some (.cells (Lib.byteCells (unitL l 0 0)).toArray 5)) := by rw [hW1, hg, unit_zero]; exact heap_new _ _
  have hgw : w.heap.size ≤ g := by omega
  clear hm hl Hk
  have hmk : (Instr.makeSlice 38 (.int .i64 32) (.int .i64 32)).run Tryz.prog w = .ok (.slice (some ⟨g, 0, none⟩) 32 32) W1 := by rw [hW1, hg]; kernel_rfl
  clear hW1 hg
  go_enter Tryz.func27, Tryz.ntmps27
  go_upto_region 2 with fail
  clear hmk
  go_wp2_with fail
  go_loopg [5, 4, 6] 8 (fun gh s5 s4 s6 wr => ∃ c : Nat, s5 = .int .i64 (7 - (c : Int)) ∧ s4 = .int .u64 ((m / 256 ^ c : Nat) : Int) ∧ gh = 8 - c ∧ c ≤ 8 ∧ Hid (Below w.heap.size w wr) ∧ Hid (wr.heap[g]? = some (.cells (Lib.byteCells (unitL l c 0)).toArray 5)))
  case atStart => exact ⟨0, rfl, by simp, rfl, Nat.zero_le _, HB1, HR1⟩
  case round =>
    obtain ⟨c, rfl, rfl, hgh, hc, HB, HR⟩ := hrel
    clear HB1 HR1
    obtain ⟨u, hu⟩ : ∃ u, u = m / 256 ^ c := ⟨_, rfl⟩
    have hu64 : u < 18446744073709551616 := by rw [hu]; exact Nat.lt_of_le_of_lt (Nat.div_le_self _ _) hm64
    rw [← hu]
    have Hu := Lib.hid hu
    clear hu
    by_cases hlt : c < 8
    · have hI1 : (0 : Int) ≤ 7 - (c : Int) := by omega
      obtain ⟨i, hi⟩ : ∃ i, i = 7 - c := ⟨_, rfl⟩
      have hic : (7 : Int) - (c : Int) = (i : Int) := by omega
      have hi7 : i ≤ 7 := by omega
      have Hic := Lib.hid hi
      rw [hic] at hI1 ⊢
      clear hi hic
      obtain ⟨y, hy⟩ : ∃ y, y = UInt8.ofNat u := ⟨_, rfl⟩
      have hbyte : (u : Int) % 256 = (y.toNat : Int) := by rw [hy, UInt8.toNat_ofNat']; omega
      have hy256 : (y.toNat : Int) < 256 := by have := y.toNat_lt; omega
      have Hx : Hid (l.getD (7 - c) 0 = y) := by show _ = _; rw [hy, Hu.out]; exact Hget.out c (by omega)
      have hu0 : (0 : Int) ≤ (u : Int) := by omega
      have hu1 : (u : Int) < 18446744073709551616 := by omega
      clear hy
      go_wp2_with fail
      go_loopg [6] 4 (fun gh s6 W => ∃ j : Nat, s6 = .int .i64 (j : Int) ∧ gh = 4 - j ∧ j ≤ 4 ∧ Hid (Below w.heap.size w W) ∧ Hid (W.heap[g]? = some (.cells (Lib.byteCells (unitL l c j)).toArray 5)))
      case atStart => exact ⟨0, rfl, rfl, Nat.zero_le _, HB, HR⟩
      case round =>
        clear HB HR
        obtain ⟨j, rfl, hgh2, hj, HB, HR⟩ := hrel
        by_cases hjl : j < 4
        · have hJ1 : (0 : Int) ≤ (j : Int) := by omega
          have hJ2 : (j : Int) < 4 := by omega
          obtain ⟨p, hp⟩ : ∃ p, p = 8 * j + i := ⟨_, rfl⟩
          have hp32 : p < 32 := by omega
          have hpe : 8 * (j : Int) + (i : Int) = (p : Int) := by omega
          have hp0 : (0 : Int) ≤ (p : Int) := by omega
          have hp1 : (p : Int) < 32 := by omega
          obtain ⟨z, hz⟩ : ∃ z, (Lib.byteCells (unitL l c j)).toArray[p]? = some z := ⟨_, by rw [byteCells_get, unitL_get _ _ _ _ hp32]; rfl⟩
          have c0 := (cell_at HR.out p hz).1
          have f0 := (cell_at HR.out p hz).2
          have HR2 : Hid ((wr.setCell ⟨g, p, none⟩ (.int .u8 (y.toNat : Int))).heap[g]? = some (.cells (Lib.byteCells (unitL l c (j + 1))).toArray 5)) := by
            rw [← unit_set (by omega) hjl Hx.out, ← Hic.out, ← hp]
            exact set_at HR.out p _
          have HB2 : Hid (Below w.heap.size w (wr.setCell ⟨g, p, none⟩ (.int .u8 (y.toNat : Int)))) := HB.out.setCell (p := ⟨g, p, none⟩) hgw _
          have hj8 : (0 : Int) ≤ 8 * (j : Int) := by omega
          clear hp hz
          go_wp2_with fail
          go_roundg (4 - (j + 1))
          case measure => omega
          case rel => exact ⟨j + 1, by go_num, rfl, by omega, HB2, HR2⟩
        · obtain rfl : j = 4 := by omega
          have HR3 : Hid (wr.heap[g]? = some (.cells (Lib.byteCells (unitL l (c + 1) 0)).toArray 5)) := by rw [← unit_next l c (by omega)]; exact HR.out
          have Hd : Hid (u / 256 = m / 256 ^ (c + 1)) := by show _ = _; rw [Hu.out, Nat.div_div_eq_div_mul, Nat.pow_succ]
          have Hi2 : Hid ((i : Int) - 1 = 7 - ((c + 1 : Nat) : Int)) := by show _ = _; have := Hic.out; omega
          clear HR
          go_wp2_with fail
          go_roundg (8 - (c + 1))
          case measure => omega
          case rel => exact ⟨c + 1, by rw [← Hi2.out], by rw [← Hd.out, Int.natCast_ediv]; rfl, rfl, by omega, HB, HR3⟩
    · obtain rfl : c = 8 := by omega
      have hcv : (convert 38 9 (.slice (some ⟨g, 0, none⟩) 32 32)).run Tryz.prog wr = .ok (.string ⟨(unitL l 8 0).toArray⟩) wr := by
        have hsl : Sl wr wr.heap.size (some ⟨g, 0, none⟩) (Lib.byteCells (unitL l 8 0)) := by
          refine .inr ⟨g, 0, rfl, (Array.getElem?_eq_some_iff.1 HR.out).1, fun j u hu => ?_⟩
          rw [Nat.zero_add]
          exact (cell_at HR.out j (u := u) (by rw [List.getElem?_toArray]; exact hu)).1
        have := conv_bytes (c := 32) hsl
        rw [unitL_len] at this
        exact this
      obtain ⟨z, hz⟩ : ∃ z, z = unitL l 8 0 := ⟨_, rfl⟩
      rw [← hz] at hcv Hout
      clear hz HR
      go_wp2_with fail
      go_ret
      exact ⟨by rw [Hout.out]; rfl, HB.out⟩
end Go.Proofs.YtdfhbnfhkckkbaaGreatDoor
