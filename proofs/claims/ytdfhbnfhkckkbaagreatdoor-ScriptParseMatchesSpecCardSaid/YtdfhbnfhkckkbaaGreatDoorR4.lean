/-
  The reference's test of a step's number of arguments.
  The reference's Check.
-/
import Derived.Test.YtdfhbnfhkckkbaaGreatDoorR1
import Derived.Test.YtdfhbnfhkckkbaaGreatDoorL2
namespace Go.Proofs.YtdfhbnfhkckkbaaGreatDoor
open Go Go.RowKit Go.Walks

theorem arity_nat {n : Int} (h : isKindB n = true) : 0 ≤ arityB n := by
  unfold arityB
  rw [if_pos h]
  omega
theorem arity_mount : arityB 19 = 64 := by decide +kernel
set_option maxRecDepth 100000 in
set_option maxHeartbeats 1000000 in
theorem rfits_any (n : Int) (k : Nat) (w : World) (hk : k ≤ 9223372036854775807) : Calls Tryz.prog 45 #[.int .i64 n, .int .i64 (k : Int)] w (BoolR (fitsB n k) w) := by
  have HN : Hid (∀ W, Calls Tryz.prog 22 #[.int .i64 n] W (IntB (arityB n) W)) := Lib.hid fun W => rarity_any n W
  obtain ⟨a, ha⟩ : ∃ a, a = arityB n := ⟨_, rfl⟩
  obtain ⟨v, hv⟩ : ∃ v, v = fitsB n k := ⟨_, rfl⟩
  rw [← ha] at HN
  rw [← hv]
  cases hkd : isKindB n with
  | false =>
    have hv0 : v = false := by rw [hv]; unfold fitsB; rw [hkd]; rfl
    have ha0 : a = -1 := by rw [ha]; unfold arityB; rw [if_neg (by rw [hkd]; decide)]
    subst hv0 ha0
    clear ha hv hkd
    go_enter Tryz.func45, Tryz.ntmps45
    go_wp2_with fail
    refine (HN.out _).mono ?_
    rintro e w1 ⟨rfl, hb⟩
    have HB := Lib.hid hb
    clear hb
    go_wp2_with fail
    go_ret
    exact ⟨rfl, HB.out⟩
  | true =>
    have ha0 : 0 ≤ a := by rw [ha]; exact arity_nat hkd
    have q0 : decide (0 ≤ a) = true := decide_eq_true ha0
    have hv1 : v = (decide ((k : Int) = a) || (decide (n = 19) && decide ((k : Int) < a))) := by rw [hv]; unfold fitsB; rw [hkd, ← ha]; rfl
    have h19 : n = 19 → a = 64 := fun h => by rw [ha, h]; exact arity_mount
    clear ha hv hkd
    go_enter Tryz.func45, Tryz.ntmps45
    go_wp2_with fail
    refine (HN.out _).mono ?_
    rintro e w1 ⟨rfl, hb⟩
    have HB := Lib.hid hb
    clear hb
    go_wp2_with fail
    refine (HN.out _).mono ?_
    rintro e w2 ⟨rfl, hb⟩
    have HB2 := Lib.hid (HB.out.trans (hb.mono HB.out.size))
    clear hb
    by_cases e1 : (k : Int) = a
    · have hv2 : v = true := by rw [hv1, decide_eq_true e1]; rfl
      have q1 : ((k : Int) == a) = true := beq_iff_eq.2 e1
      subst hv2
      clear hv1 h19
      go_wp2_with fail
      go_ret
      exact ⟨rfl, HB2.out⟩
    · have q1 : ((k : Int) == a) = false := beq_false_of_ne e1
      by_cases e2 : n = 19
      · have ha64 := h19 e2
        have q2 : (n == 19) = true := beq_iff_eq.2 e2
        obtain ⟨u, hu⟩ : ∃ u, u = decide ((k : Int) ≤ 64) := ⟨_, rfl⟩
        have hv2 : v = u := by
          rw [hv1, decide_eq_false e1, decide_eq_true e2, hu]
          simp only [Bool.false_or, Bool.true_and]
          exact decide_eq_decide.2 (by omega)
        subst hv2
        have q3 : decide ((k : Int) ≤ 64) = v := hu.symm
        clear hv1 h19 ha64 hu e2 e1
        go_wp2_with fail
        go_ret
        exact ⟨rfl, HB2.out⟩
      · have q2 : (n == 19) = false := beq_false_of_ne e2
        have hv2 : v = false := by rw [hv1, decide_eq_false e1, decide_eq_false e2]; rfl
        subst hv2
        clear hv1 h19
        go_wp2_with fail
        go_ret
        exact ⟨rfl, HB2.out⟩
end Go.Proofs.YtdfhbnfhkckkbaaGreatDoor
namespace Go.Proofs.YtdfhbnfhkckkbaaGreatDoor
open Go Go.RowKit Go.Walks

theorem chk_cfg {S : ScriptD} {x : Int} (hx : x ∈ S.cfg) (h : argB 65536 x = false) : checkB S = (-1, 1) := by
  have : ¬ cfgB S.cfg = true := fun hc => by
    have := List.all_eq_true.1 hc x hx
    rw [h] at this; cases this
  unfold checkB
  rw [if_pos this]
theorem chk_big {S : ScriptD} (hc : cfgB S.cfg = true) (h : 16 < S.texts.length ∨ 1000 < S.steps.length ∨ S.texts.any (fun t => decide (2000 < t.length)) = true) : checkB S = (-1, 2) := by
  unfold checkB
  rw [if_neg (fun k => k hc), if_pos h]
theorem chk_steps {S : ScriptD} (hc : cfgB S.cfg = true) (h : ¬ (16 < S.texts.length ∨ 1000 < S.steps.length ∨ S.texts.any (fun t => decide (2000 < t.length)) = true)) : checkB S = stepsB S.texts.length 0 S.steps := by
  unfold checkB
  rw [if_neg (fun k => k hc), if_neg h]
theorem stepsB_cons (nt k : Nat) (x : StepD) (l : List StepD) : stepsB nt k (x :: l) = if stepB nt x then stepsB nt (k + 1) l else ((k : Int), 1) := rfl
theorem bel_drewN {B : Nat} {a w : World} (h : Below B a w) (n : Nat) : Below B a (w.drewN n) := ⟨h.os, h.tape, h.output, h.size, h.block⟩
set_option maxRecDepth 100000 in
set_option maxHeartbeats 8000000 in
theorem rcheck_any (S : ScriptD) (v : Value) (w : World) (Hv : Hid (ScriptS w S v)) (HL : Hid (ScriptL S)) : Calls Tryz.prog 14 #[v] w (CheckR (checkB S) w) := by
  obtain ⟨p0, p1, p2, p3, p4, p5, T, tc, U, uc, rfl, hp⟩ := Hv.out
  obtain ⟨nt, hnt⟩ : ∃ n, n = S.texts.length := ⟨_, rfl⟩
  obtain ⟨ns, hns⟩ : ∃ n, n = S.steps.length := ⟨_, rfl⟩
  obtain ⟨ms, hms, hst⟩ := hp.stp
  have Hms := Lib.hid hms
  have Hst := Lib.hid hst
  have Htx := Lib.hid hp.txt
  have hntl : nt ≤ 9223372036854775807 := by have := HL.out.tl; unfold maxLen at this; omega
  have hnsl : ns ≤ 9223372036854775807 := by have := HL.out.sl; unfold maxLen at this; omega
  obtain ⟨cf, hcf⟩ : ∃ l, l = [p0, p1, p2, p3, p4, p5] := ⟨_, rfl⟩
  have hcfg : S.cfg = cf := by rw [hcf]; exact hp.cfg
  have hcl : cf.length = 6 := by rw [hcf]; rfl
  obtain ⟨x, hx⟩ : ∃ x, x = checkB S := ⟨_, rfl⟩
  have HX := Lib.hid hx
  have Hnt := Lib.hid hnt
  have Hns := Lib.hid hns
  have Hcf := Lib.hid hcfg
  have Hcl := Lib.hid hcl
  have Hnum : Hid (∀ W, Calls Tryz.prog 44 #[.agg #[.int .i64 p0, .int .i64 p1, .int .i64 p2, .int .i64 p3, .int .i64 p4, .int .i64 p5]] W fun en w' => ∃ A, en = .returned (.slice A 6 6) ∧ OS W 3 1 A 6 6 (cf.map intC) w') := Lib.hid fun W => by
    rw [hcf]; exact rnumbers_any p0 p1 p2 p3 p4 p5 W
  rw [← hnt, ← hns] at Hv ⊢
  rw [← hx]
  clear hnt hns hms hst hp hcf hcfg hcl hx
  obtain ⟨g, hg⟩ : ∃ g, g = w.heap.size := ⟨_, rfl⟩
  obtain ⟨W0, hW⟩ : ∃ W, W = w.alloc (.cells (scrCs p0 p1 p2 p3 p4 p5 T nt tc U ns uc) 27) := ⟨_, rfl⟩
  have HS0 : Hid (SNt 27 S g (scrCs p0 p1 p2 p3 p4 p5 T nt tc U ns uc) W0) := by rw [hW, hg]; exact SNt.start Hv.out
  have HB0 : Hid (Below w.heap.size w W0) := by rw [hW]; exact (Below.refl _ _).alloc (Nat.le_refl _) _
  clear Hv
  unfold scrCs at hW
  unfold scrCs
  go_enter Tryz.func14, Tryz.ntmps14
  go_upto_region 1 with fail
  rw [← hW, ← hg]
  clear hW hg
  have crow := HS0.out.1
  have c0 := (cell_at (u := .int .i64 p0) crow 0 rfl).1
  have c1 := (cell_at (u := .int .i64 p1) crow 1 rfl).1
  have c2 := (cell_at (u := .int .i64 p2) crow 2 rfl).1
  have c3 := (cell_at (u := .int .i64 p3) crow 3 rfl).1
  have c4 := (cell_at (u := .int .i64 p4) crow 4 rfl).1
  have c5 := (cell_at (u := .int .i64 p5) crow 5 rfl).1
  clear crow
  go_wp2_with fail
  clear c0 c1 c2 c3 c4 c5
  refine (Hnum.out _).mono ?_
  rintro en w1 ⟨A1, rfl, hO⟩
  have HS1 := Lib.hid (HS0.out.call hO.below)
  have HB1 := Lib.hid (HB0.out.trans (hO.below.mono HB0.out.size))
  have HA1 := Lib.hid (own_sl hO.o)
  clear hO HS0 HB0 Hnum
  go_wp2_with fail
  go_loopg [5] 6 (fun gh s5 wr => ∃ k : Nat, s5 = .int .i64 (k : Int) ∧ gh = 6 - k ∧ k ≤ 6 ∧ Hid (∀ y ∈ cf.take k, argB 65536 y = true) ∧ w1 = wr)
  case atStart => exact ⟨0, rfl, rfl, by omega, (fun y hy => by simp at hy), rfl⟩
  case round =>
    obtain ⟨k, rfl, hgh, hk, HT, rfl⟩ := hrel
    by_cases hlt : k < 6
    · have hI1 : (0 : Int) ≤ (k : Int) := by omega
      have hI2 : (k : Int) < 6 := by omega
      obtain ⟨y, hy⟩ : ∃ y, cf[k]? = some y := ⟨_, List.getElem?_eq_getElem (by rw [Hcl.out]; exact hlt)⟩
      obtain ⟨b, o, hA, hbl, hc⟩ := int_at HA1.out hy
      subst hA
      have HY := Lib.hid hy
      clear hy
      by_cases h1 : y < 0
      · have hx : x = (-1, 1) := by
          rw [HX.out]
          exact chk_cfg (x := y) (by rw [Hcf.out]; exact List.mem_of_getElem? HY.out) (by unfold argB; rw [decide_eq_false (by omega)]; rfl)
        have q1 : decide (y < 0) = true := decide_eq_true h1
        subst hx
        go_wp2_with fail
        go_ret2
        exact ⟨rfl, HB1.out⟩
      · by_cases h2 : 65536 < y
        · have hx : x = (-1, 1) := by
            rw [HX.out]
            exact chk_cfg (x := y) (by rw [Hcf.out]; exact List.mem_of_getElem? HY.out) (by unfold argB; rw [decide_eq_false (show ¬ y ≤ 65536 by omega), Bool.and_false])
          have q1 : decide (y < 0) = false := decide_eq_false h1
          have q2 : decide (65536 < y) = true := decide_eq_true h2
          subst hx
          go_wp2_with fail
          go_ret2
          exact ⟨rfl, HB1.out⟩
        · have q1 : decide (y < 0) = false := decide_eq_false h1
          have q2 : decide (65536 < y) = false := decide_eq_false h2
          have HT2 : Hid (∀ z ∈ cf.take (k + 1), argB 65536 z = true) := by
            intro z hz
            rw [List.take_add_one, HY.out] at hz
            rcases List.mem_append.1 hz with hz | hz
            · exact HT.out z hz
            · have : z = y := by simpa using hz
              subst this
              unfold argB
              rw [decide_eq_true (by omega), decide_eq_true (by omega)]; rfl
          go_wp2_with fail
          go_roundg (6 - (k + 1))
          case measure => omega
          case rel => exact ⟨k + 1, by go_num, rfl, by omega, HT2, rfl⟩
    · have hke : k = 6 := by omega
      have HC : Hid (cfgB S.cfg = true) := by
        show _ = _
        rw [Hcf.out]
        refine List.all_eq_true.2 fun y hy => HT.out y ?_
        rw [hke, List.take_of_length_le (by rw [Hcl.out]; exact Nat.le_refl _)]
        exact hy
      have hI3 : ¬ (k : Int) < 6 := by omega
      clear hke hlt HT
      have crow := HS1.out.1
      have c6 := (cell_at (u := .slice T nt tc) crow 6 rfl).1
      have c7 := (cell_at (u := .slice U ns uc) crow 7 rfl).1
      clear crow
      by_cases hb1 : 16 < nt
      · have hx : x = (-1, 2) := by rw [HX.out]; exact chk_big HC.out (.inl (by rw [← Hnt.out]; exact hb1))
        have q1 : decide ((16 : Int) < (nt : Int)) = true := decide_eq_true (by omega)
        subst hx
        go_wp2_with fail
        go_ret2
        exact ⟨rfl, HB1.out⟩
      · by_cases hb2 : 1000 < ns
        · have hx : x = (-1, 2) := by rw [HX.out]; exact chk_big HC.out (.inr (.inl (by rw [← Hns.out]; exact hb2)))
          have q1 : decide ((16 : Int) < (nt : Int)) = false := decide_eq_false (by omega)
          have q2 : decide ((1000 : Int) < (ns : Int)) = true := decide_eq_true (by omega)
          subst hx
          go_wp2_with fail
          go_ret2
          exact ⟨rfl, HB1.out⟩
        · have q1 : decide ((16 : Int) < (nt : Int)) = false := decide_eq_false (by omega)
          have q2 : decide ((1000 : Int) < (ns : Int)) = false := decide_eq_false (by omega)
          have Hb1 := Lib.hid hb1
          have Hb2 := Lib.hid hb2
          go_wp2_with fail
          clear q1 q2 hI3
          go_loopg [6] nt (fun gh s6 wr => ∃ k : Nat, s6 = .int .i64 (k : Int) ∧ gh = nt - k ∧ k ≤ nt ∧ Hid (∀ t ∈ S.texts.take k, ¬ 2000 < t.length) ∧ w1 = wr)
          case atStart => exact ⟨0, rfl, rfl, by omega, (fun y hy => by simp at hy), rfl⟩
          case round =>
            obtain ⟨k, rfl, hgh, hk, HT, rfl⟩ := hrel
            by_cases hlt : k < nt
            · have hI1 : (0 : Int) ≤ (k : Int) := by omega
              have hI2 : (k : Int) < (nt : Int) := by omega
              obtain ⟨t, ht⟩ : ∃ y, S.texts[k]? = some y := ⟨_, List.getElem?_eq_getElem (by rw [← Hnt.out]; exact hlt)⟩
              obtain ⟨b, o, hA, hbl, hc0⟩ := str_at Htx.out ht
              subst hA
              have hc := (HB1.out.cell (p := ⟨b, o + k, none⟩) hbl).trans hc0
              have HY := Lib.hid ht
              obtain ⟨tb, htb⟩ : ∃ tb : ByteArray, tb = ⟨t.toArray⟩ := ⟨_, rfl⟩
              have hts : tb.size = t.length := by rw [htb]; exact strBytes_size t
              rw [← htb] at hc
              clear ht hc0 htb
              by_cases h1 : 2000 < t.length
              · have hx : x = (-1, 2) := by
                  rw [HX.out]
                  exact chk_big HC.out (.inr (.inr (List.any_eq_true.2 ⟨t, List.mem_of_getElem? HY.out, decide_eq_true h1⟩)))
                have q1 : decide ((2000 : Int) < (tb.size : Int)) = true := decide_eq_true (by omega)
                subst hx
                clear hts h1
                go_wp2_with fail
                go_ret2
                exact ⟨rfl, HB1.out⟩
              · have q1 : decide ((2000 : Int) < (tb.size : Int)) = false := decide_eq_false (by omega)
                have HT2 : Hid (∀ t ∈ S.texts.take (k + 1), ¬ 2000 < t.length) := by
                  intro z hz
                  rw [List.take_add_one, HY.out] at hz
                  rcases List.mem_append.1 hz with hz | hz
                  · exact HT.out z hz
                  · have : z = t := by simpa using hz
                    subst this
                    exact h1
                clear hts h1
                go_wp2_with fail
                go_roundg (nt - (k + 1))
                case measure => omega
                case rel => exact ⟨k + 1, by go_num, rfl, by omega, HT2, rfl⟩
            · have hke : k = nt := by omega
              have hI3 : ¬ (k : Int) < (nt : Int) := by omega
              have HST : Hid (checkB S = stepsB nt 0 S.steps) := by
                show _ = _
                rw [Hnt.out]
                refine chk_steps HC.out ?_
                rintro (h | h | h)
                · exact Hb1.out (by rw [Hnt.out]; exact h)
                · exact Hb2.out (by rw [Hns.out]; exact h)
                · obtain ⟨t, ht, h2⟩ := List.any_eq_true.1 h
                  refine HT.out t ?_ (of_decide_eq_true h2)
                  rw [hke, Hnt.out, List.take_of_length_le (Nat.le_refl _)]
                  exact ht
              clear hke hlt HT
              have HSB : Hid (SNt 27 S g (scrCs p0 p1 p2 p3 p4 p5 T nt tc U ns uc) w1 ∧ Below w.heap.size w w1) := ⟨HS1.out, HB1.out⟩
              go_wp2_with fail
              clear c6 c7 HS1 HB1 HA1 hI3
              go_loopg [7] ns (fun gh s7 wr => ∃ k : Nat, s7 = .int .i64 (k : Int) ∧ gh = ns - k ∧ k ≤ ns ∧ Hid (checkB S = stepsB nt k (S.steps.drop k)) ∧ Hid (SNt 27 S g (scrCs p0 p1 p2 p3 p4 p5 T nt tc U ns uc) wr ∧ Below w.heap.size w wr))
              case atStart => exact ⟨0, rfl, rfl, by omega, HST.out, HSB.out⟩
              case round =>
                obtain ⟨k, rfl, hgh, hk, HT, HW⟩ := hrel
                clear HSB HST
                by_cases hlt : k < ns
                · have hI1 : (0 : Int) ≤ (k : Int) := by omega
                  have hI2 : (k : Int) < (ns : Int) := by omega
                  obtain ⟨y, hy⟩ : ∃ y, S.steps[k]? = some y := ⟨_, List.getElem?_eq_getElem (by rw [← Hns.out]; exact hlt)⟩
                  obtain ⟨bb, oo, A, cc, hU, hbw, hck, hcs, hsl, hcc⟩ := step_at Hms.out Hst.out HW.out.2 hy
                  subst hU
                  have hlen : y.args.length ≤ maxLen := HL.out.arg y (List.mem_of_getElem? hy)
                  obtain ⟨kd, hkd⟩ : ∃ z, z = y.kind := ⟨_, rfl⟩
                  obtain ⟨al, hal⟩ : ∃ z, z = y.args := ⟨_, rfl⟩
                  obtain ⟨m, hm⟩ : ∃ z, z = al.length := ⟨_, rfl⟩
                  rw [← hkd] at hck
                  rw [← hal] at hcs hsl hcc hlen
                  rw [← hm] at hcs hcc hlen
                  have Hsl := Lib.hid hsl
                  have Hkd := Lib.hid hkd
                  have Hal := Lib.hid hal
                  have Hm := Lib.hid hm
                  have Hy := Lib.hid hy
                  have HT1 : Hid (x = if stepB nt y then stepsB nt (k + 1) (S.steps.drop (k + 1)) else ((k : Int), 1)) := by
                    show _ = _
                    rw [HX.out, HT.out, List.drop_eq_getElem_cons (by rw [← Hns.out]; exact hlt)]
                    rw [stepsB_cons, (List.getElem?_eq_some_iff.1 Hy.out).2]
                  have crow := HW.out.1.1
                  have c7 := (cell_at (u := .slice (some ⟨bb, oo, none⟩) ns uc) crow 7 rfl).1
                  clear crow hsl hkd hal hm hy
                  obtain ⟨g8, hg8⟩ : ∃ g, g = wr.heap.size := ⟨_, rfl⟩
                  obtain ⟨W2, hW2⟩ : ∃ W, W = wr.alloc (.cells #[.int .i64 kd, .slice A m cc] 67) := ⟨_, rfl⟩
                  have hb2 : Below wr.heap.size wr W2 := by rw [hW2]; exact (Below.refl _ _).alloc (Nat.le_refl _) _
                  have hr : W2.heap[g8]? = some (.cells #[.int .i64 kd, .slice A m cc] 67) := by rw [hW2, hg8]; exact heap_new _ _
                  have HW2 : Hid (SNt 27 S g (scrCs p0 p1 p2 p3 p4 p5 T nt tc (some ⟨bb, oo, none⟩) ns uc) W2 ∧ Below w.heap.size w W2) := ⟨HW.out.1.call hb2, HW.out.2.trans (hb2.mono HW.out.2.size)⟩
                  have Hsl2 := Lib.hid ((Hsl.out.below hb2).more hb2.size)
                  have Hr := Lib.hid hr
                  clear hb2 hr HW HT Hsl
                  go_upto_region 18 with fail
                  rw [← hW2, ← hg8]
                  clear hW2 hg8 hck hcs c7
                  have z0 := (cell_at (u := .int .i64 kd) Hr.out 0 rfl).1
                  have z1 := (cell_at (u := .slice A m cc) Hr.out 1 rfl).1
                  go_wp2_with fail
                  clear z0 z1
                  have hmm : m ≤ 9223372036854775807 := by unfold maxLen at hlen; exact hlen
                  refine (rfits_any kd m _ hmm).mono ?_
                  rintro en w3 ⟨rfl, hb3⟩
                  have HW3 : Hid (SNt 27 S g (scrCs p0 p1 p2 p3 p4 p5 T nt tc (some ⟨bb, oo, none⟩) ns uc) w3 ∧ Below w.heap.size w w3) := ⟨HW2.out.1.call hb3, HW2.out.2.trans (hb3.mono HW2.out.2.size)⟩
                  have Hsl3 := Lib.hid ((Hsl2.out.below hb3).more hb3.size)
                  have Hr3 := Lib.hid (below_cells Hr.out hb3)
                  clear hb3 HW2 Hsl2 Hr
                  cases hfit : fitsB kd m with
                  | false =>
                    have hx : x = ((k : Int), 1) := by
                      rw [HT1.out, if_neg]
                      unfold stepB
                      rw [← Hkd.out, ← Hal.out, ← Hm.out, hfit]
                      simp
                    subst hx
                    clear hfit
                    go_wp2_with fail
                    go_ret2
                    exact ⟨rfl, HW3.out.2⟩
                  | true =>
                    have Hfit := Lib.hid hfit
                    clear hfit
                    go_wp2_with fail
                    go_loopg [9] m (fun gh s9 wr => ∃ i : Nat, s9 = .int .i64 (i : Int) ∧ gh = m - i ∧ i ≤ m ∧ Hid (∀ n ∈ al.take i, argB (topB nt kd) n = true) ∧ Hid (∃ q, wr = w3.drewN q))
                    case atStart => exact ⟨0, rfl, rfl, Nat.zero_le _, (fun n hn => by simp at hn), 0, by simp [World.drewN_zero]⟩
                    case round =>
                      obtain ⟨i, rfl, hgh2, hi, HI, HQ⟩ := hrel
                      obtain ⟨q, hw⟩ := HQ.out
                      have z0 : wr.cell? ⟨g8, 0, none⟩ = some (.int .i64 kd) := by rw [hw, World.cell?_drewN]; exact (cell_at (u := .int .i64 kd) Hr3.out 0 rfl).1
                      have z1 : wr.cell? ⟨g8, 1, none⟩ = some (.slice A m cc) := by rw [hw, World.cell?_drewN]; exact (cell_at (u := .slice A m cc) Hr3.out 1 rfl).1
                      have c6 : wr.cell? ⟨g, 6, none⟩ = some (.slice T nt tc) := by rw [hw, World.cell?_drewN]; exact (cell_at (u := .slice T nt tc) HW3.out.1.1 6 rfl).1
                      by_cases hil : i < m
                      · have hJ1 : (0 : Int) ≤ (i : Int) := by omega
                        have hJ2 : (i : Int) < (m : Int) := by omega
                        obtain ⟨a, ha⟩ : ∃ a, al[i]? = some a := ⟨_, List.getElem?_eq_getElem (by rw [← Hm.out]; exact hil)⟩
                        obtain ⟨b1, o1, hA, -, hc1⟩ := int_at Hsl3.out ha
                        subst hA
                        have hca : wr.cell? ⟨b1, o1 + i, none⟩ = some (.int .i64 a) := by rw [hw, World.cell?_drewN]; exact hc1
                        have Ha := Lib.hid ha
                        have Hw := Lib.hid hw
                        clear hc1 ha hw
                        by_cases h1 : a < 0
                        · have q1 : decide (a < 0) = true := decide_eq_true h1
                          have hx : x = ((k : Int), 1) := by
                            rw [HT1.out, if_neg]
                            unfold stepB
                            rw [← Hkd.out, ← Hal.out, ← Hm.out, Hfit.out, Bool.true_and]
                            intro hall
                            have := List.all_eq_true.1 hall a (List.mem_of_getElem? Ha.out)
                            unfold argB topB at this
                            simp only [Bool.and_eq_true, decide_eq_true_eq] at this
                            split at this <;> omega
                          subst hx
                          go_wp2_with fail
                          go_region
                          clear z0 z1 c6 hca
                          go_wp2_with fail
                          go_ret2
                          exact ⟨rfl, by rw [Hw.out]; exact (bel_drewN HW3.out.2 q).drew⟩
                        · have q1 : decide (a < 0) = false := decide_eq_false h1
                          by_cases h2 : 2147483647 < a
                          · have q2 : decide (2147483647 < a) = true := decide_eq_true h2
                            have hx : x = ((k : Int), 1) := by
                              rw [HT1.out, if_neg]
                              unfold stepB
                              rw [← Hkd.out, ← Hal.out, ← Hm.out, Hfit.out, Bool.true_and]
                              intro hall
                              have := List.all_eq_true.1 hall a (List.mem_of_getElem? Ha.out)
                              unfold argB topB at this
                              simp only [Bool.and_eq_true, decide_eq_true_eq] at this
                              split at this <;> omega
                            subst hx
                            go_wp2_with fail
                            go_region
                            clear z0 z1 c6 hca
                            go_wp2_with fail
                            go_ret2
                            exact ⟨rfl, by rw [Hw.out]; exact (bel_drewN HW3.out.2 q).drew⟩
                          · have q2 : decide (2147483647 < a) = false := decide_eq_false h2
                            by_cases h3 : kd < 3
                            · have q3 : decide (kd < 3) = true := decide_eq_true h3
                              by_cases h4 : (nt : Int) ≤ a
                              · have q4 : decide ((nt : Int) ≤ a) = true := decide_eq_true h4
                                have hx : x = ((k : Int), 1) := by
                                  rw [HT1.out, if_neg]
                                  unfold stepB
                                  rw [← Hkd.out, ← Hal.out, ← Hm.out, Hfit.out, Bool.true_and]
                                  intro hall
                                  have := List.all_eq_true.1 hall a (List.mem_of_getElem? Ha.out)
                                  unfold argB topB at this
                                  simp only [Bool.and_eq_true, decide_eq_true_eq] at this
                                  split at this <;> omega
                                subst hx
                                go_wp2_with fail
                                go_region
                                clear z0 z1 c6 hca
                                go_wp2_with fail
                                go_ret2
                                exact ⟨rfl, by rw [Hw.out]; exact (bel_drewN HW3.out.2 q).drew⟩
                              · have q4 : decide ((nt : Int) ≤ a) = false := decide_eq_false h4
                                have HI2 : Hid (∀ n ∈ al.take (i + 1), argB (topB nt kd) n = true) := by
                                  intro z hz
                                  rw [List.take_add_one, Ha.out] at hz
                                  rcases List.mem_append.1 hz with hz | hz
                                  · exact HI.out z hz
                                  · have : z = a := by simpa using hz
                                    subst this
                                    unfold argB topB
                                    simp only [Bool.and_eq_true, decide_eq_true_eq]
                                    split <;> omega
                                have HQ2 : Hid (∃ q, wr.drew = w3.drewN q) := ⟨q + 1, by rw [Hw.out]; rfl⟩
                                go_wp2_with fail
                                go_region
                                clear z0 z1 c6 hca
                                go_wp2_with fail
                                go_roundg (m - (i + 1))
                                case measure => omega
                                case rel => exact ⟨i + 1, by go_num, rfl, by omega, HI2, HQ2⟩
                            · have q3 : decide (kd < 3) = false := decide_eq_false h3
                              have HI2 : Hid (∀ n ∈ al.take (i + 1), argB (topB nt kd) n = true) := by
                                intro z hz
                                rw [List.take_add_one, Ha.out] at hz
                                rcases List.mem_append.1 hz with hz | hz
                                · exact HI.out z hz
                                · have : z = a := by simpa using hz
                                  subst this
                                  unfold argB topB
                                  simp only [Bool.and_eq_true, decide_eq_true_eq]
                                  split <;> omega
                              have HQ2 : Hid (∃ q, wr.drew = w3.drewN q) := ⟨q + 1, by rw [Hw.out]; rfl⟩
                              go_wp2_with fail
                              go_region
                              clear z0 z1 c6 hca
                              go_wp2_with fail
                              go_roundg (m - (i + 1))
                              case measure => omega
                              case rel => exact ⟨i + 1, by go_num, rfl, by omega, HI2, HQ2⟩
                      · have hie : i = m := by omega
                        have hJ3 : ¬ (i : Int) < (m : Int) := by omega
                        have HS2 : Hid (checkB S = stepsB nt (k + 1) (S.steps.drop (k + 1))) := by
                          show _ = _
                          rw [← HX.out, HT1.out, if_pos]
                          unfold stepB
                          rw [← Hkd.out, ← Hal.out, ← Hm.out, Hfit.out, Bool.true_and]
                          refine List.all_eq_true.2 fun n hn => HI.out n ?_
                          rw [hie, Hm.out, List.take_of_length_le (Nat.le_refl _)]
                          exact hn
                        have HWn : Hid (SNt 27 S g (scrCs p0 p1 p2 p3 p4 p5 T nt tc (some ⟨bb, oo, none⟩) ns uc) wr ∧ Below w.heap.size w wr) := by
                          have hb : Below w3.heap.size w3 wr := by rw [hw]; exact bel_drewN (Below.refl _ _) q
                          exact ⟨HW3.out.1.call hb, HW3.out.2.trans (hb.mono HW3.out.2.size)⟩
                        clear hw hie hil HI
                        go_wp2_with fail
                        go_roundg (ns - (k + 1))
                        case measure => omega
                        case rel => exact ⟨k + 1, by go_num, rfl, by omega, HS2, HWn⟩
                · have hke : k = ns := by omega
                  have hI3 : ¬ (k : Int) < (ns : Int) := by omega
                  have hx : x = (0, 0) := by
                    rw [HX.out, HT.out, hke, Hns.out, List.drop_length]; rfl
                  have crow := HW.out.1.1
                  have c7 := (cell_at (u := .slice U ns uc) crow 7 rfl).1
                  clear crow hke
                  subst hx
                  go_wp2_with fail
                  go_ret2
                  exact ⟨rfl, HW.out.2⟩
end Go.Proofs.YtdfhbnfhkckkbaaGreatDoor
