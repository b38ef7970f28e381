/-
  The law of the prefixes: walked whole (printed by genL4.py).
-/
import Derived.Test.YtdfhbnfhkckkbaaGreatDoorL3
namespace Go.Proofs.YtdfhbnfhkckkbaaGreatDoor
open Go Go.RowKit Go.Walks

theorem zero_S (W : World) : ScriptS W emptyS (.agg (scrCs 0 0 0 0 0 0 none 0 0 none 0 0)) := ⟨0, 0, 0, 0, 0, 0, none, 0, none, 0, rfl, rfl, .inl rfl, ⟨[], .inl rfl, rfl⟩, Nat.le_refl _, Nat.le_refl _⟩
theorem StepsS.take {w : World} : ∀ {xs : List StepD} {cs : List Value} (k : Nat), StepsS w xs cs → StepsS w (xs.take k) (cs.take (k * 2))
  | _, _, 0, _ => by simp [StepsS]
  | [], cs, k + 1, h => by
    have : cs = [] := h
    subst this
    simp [StepsS]
  | y :: xs, cs, k + 1, ⟨A', c', cs', e, k1, k2, k3⟩ => by
    subst e
    rw [List.take_succ_cons, show (k + 1) * 2 = k * 2 + 1 + 1 by omega, List.take_succ_cons, List.take_succ_cons]
    exact ⟨A', c', _, rfl, k1, k2, StepsS.take k k3⟩
theorem Sl.take {w : World} {B : Nat} {A : Option Addr} {xs : List Value} (k : Nat) (h : Sl w B A xs) : Sl w B A (xs.take k) := by
  rcases h with h | ⟨b, o, h1, h2, h3⟩
  · subst h; exact .inl (by simp)
  · refine .inr ⟨b, o, h1, h2, fun j u hu => h3 j u ?_⟩
    rw [List.getElem?_take] at hu
    split at hu
    · exact hu
    · cases hu
theorem scr_caps {w : World} {S : ScriptD} {a b c d e f : Int} {T : Option Addr} {nt tc : Nat} {U : Option Addr} {ns uc : Nat} (h : ScriptS w S (.agg (scrCs a b c d e f T nt tc U ns uc))) : nt ≤ tc ∧ ns ≤ uc := by
  obtain ⟨a', b', c', d', e', f', T', tc', U', uc', he, hp⟩ := h
  simp only [scrCs, Value.agg.injEq, Array.mk.injEq, List.cons.injEq, Value.int.injEq, Value.slice.injEq, true_and, and_true] at he
  obtain ⟨rfl, rfl, rfl, rfl, rfl, rfl, ⟨rfl, rfl, rfl⟩, ⟨rfl, rfl, rfl⟩⟩ := he
  exact ⟨hp.tl, hp.sl⟩
/-- The beginning of a script in memory. -/
theorem pref_S {w : World} {S : ScriptD} {a b c d e f : Int} {T : Option Addr} {nt tc : Nat} {U : Option Addr} {ns uc : Nat} (h : ScriptS w S (.agg (scrCs a b c d e f T nt tc U ns uc))) (k : Nat) {m l : Nat} (hm : m = min k nt) (hl : l = min (k - nt) ns) :
    ScriptS w (prefS S k) (.agg (scrCs a b c d e f T m tc U l uc)) := by
  obtain ⟨a', b', c', d', e', f', T', tc', U', uc', he, hp⟩ := h
  simp only [scrCs, Value.agg.injEq, Array.mk.injEq, List.cons.injEq, Value.int.injEq, Value.slice.injEq, true_and, and_true] at he
  obtain ⟨rfl, rfl, rfl, rfl, rfl, rfl, ⟨rfl, rfl, rfl⟩, ⟨rfl, rfl, rfl⟩⟩ := he
  obtain ⟨ms, h1, h2⟩ := hp.stp
  have e1 : (prefS S k).texts.length = m := by unfold prefS; rw [List.length_take]; omega
  have e2 : (prefS S k).steps.length = l := by unfold prefS; rw [List.length_take]; omega
  refine ⟨a, b, c, d, e, f, T, tc, U, uc, by rw [e1, e2], hp.cfg, ?_, ⟨ms.take ((k - S.texts.length) * 2), h1.take _, h2.take _⟩, by rw [e1]; have := hp.tl; omega, by rw [e2]; have := hp.sl; omega⟩
  show Sl w w.heap.size T ((S.texts.take k).map strV)
  rw [List.map_take]
  exact hp.txt.take k

set_option maxRecDepth 100000 in
set_option maxHeartbeats 8000000 in
theorem lawPre_any (S : ScriptD) (v : Value) (n : Int) (w : World) (Hg : Hid (Gl w)) (Hv : Hid (ScriptS w S v)) (HB : ScriptB S) (Hn : Hid (I64 n)) : Calls Tryz.prog 9 #[v, .int .i64 n] w (BoolR true w) := by
  have HSan : Hid (∀ W, Below w.heap.size w W → Calls Tryz.prog 11 #[] W (BoolR true W)) := Lib.hid fun W hb => sanity_any W (Lib.hid (Hg.out.below hb))
  have hlen := HB.lens
  have HFew : Hid (∀ v W, ScriptS W S v → Calls Tryz.prog 10 #[v] W (SomeBool W)) := Lib.hid fun v W h => few_any S v W (Lib.hid h) (by have := HB.steps; omega) (by have := HB.texts; omega)
  have HOwn : Hid (∀ v W, ScriptS W S v → Calls Tryz.prog 13 #[v] W fun e w' => Below W.heap.size W w' ∧ ∃ v', e = .returned v' ∧ ScriptS w' S v') := Lib.hid fun v W h => own_any S v W (Lib.hid h) HB.steps
  have HSpec : Hid (∀ S' : ScriptD, S'.steps.length ≤ S.steps.length → ∀ v W, ScriptS W S' v → Calls Tryz.prog 30 #[v] W fun e w' => Below W.heap.size W w' ∧ ∃ v', e = .returned v' ∧ ScriptS w' S' v') := Lib.hid fun S' hS' v W h => spec_any S' v W (Lib.hid h) (by have := HB.steps; omega)
  have HSm : Hid (∀ S' : ScriptD, ScriptL S' → ∀ u v W, ScriptS W S' u → ScriptS W S' v → Calls Tryz.prog 24 #[u, v] W (BoolR true W)) := Lib.hid fun S' hL' u v W h1 h2 => by
    have := rsame_any S' S' u v W (Lib.hid h1) (Lib.hid h2) (Lib.hid hL')
    rw [decide_eq_true rfl] at this
    exact this
  obtain ⟨p0, p1, p2, p3, p4, p5, T, tc, U, uc, rfl, hp⟩ := Hv.out
  have h6 : S.cfg.length = 6 := by rw [hp.cfg]; rfl
  obtain ⟨pt, hpt⟩ : ∃ x, x = (printB S).1 := ⟨_, rfl⟩
  obtain ⟨pe, hpe⟩ : ∃ x, x = (printB S).2 := ⟨_, rfl⟩
  obtain ⟨t, ht⟩ : ∃ t : ByteArray, t = ⟨pt.toArray⟩ := ⟨_, rfl⟩
  have hts : t.size = pt.length := by rw [ht]; exact strBytes_size pt
  have HPr : Hid (∀ v W, Below w.heap.size w W → ScriptS W S v → Calls Tryz.prog 17 #[v] W fun e w' => e = .returned (.tuple #[.string t, .int .i64 (pe : Int)]) ∧ Below W.heap.size W w') := Lib.hid fun v W hb h => by
    have := print_any S v W (Lib.hid (Hg.out.below hb)) (Lib.hid h) (Lib.hid hlen)
    unfold PrintR strV at this
    rw [← hpt, ← hpe, ← ht] at this
    exact this
  have HP : Hid (pe = 0 → OkS S ∧ pt = printT S ∧ pt.length ≤ 200000) := Lib.hid fun h0 => by
    rw [hpe] at h0
    rw [hpt]
    unfold printB at h0 ⊢
    split at h0
    · rename_i h; exact absurd h0 h
    · rename_i h
      rw [if_neg h]
      split at h0
      · cases h0
      · rename_i h'
        rw [if_neg h']
        exact ⟨check_ok.1 (by simpa using h), rfl, by dsimp only; omega⟩
  have HPre : Hid (pe = 0 → ∀ j : Nat, j < pt.length → ∃ K : Nat, K ≤ 1 + S.texts.length + S.steps.length ∧ (∀ W, Calls Tryz.prog 33 #[.string (t.extract 0 j), .string ⟨#[10]⟩] W fun e w' => e = .returned (.int .i64 (K : Int)) ∧ w' = W) ∧
      if (pt.take j).getLast? = some 10 then 1 ≤ K ∧ ∀ W, Below w.heap.size w W → Calls Tryz.prog 31 #[.string (t.extract 0 j)] W fun e w' => Below W.heap.size W w' ∧ ∃ v, e = .returned (.tuple #[v, .int .i64 0, .int .i64 0]) ∧ ScriptS w' (prefS S (K - 1)) v
      else ∀ W, Below w.heap.size w W → Calls Tryz.prog 31 #[.string (t.extract 0 j)] W fun e w' => Below W.heap.size W w' ∧ e = .returned (.tuple #[.agg (scrCs 0 0 0 0 0 0 none 0 0 none 0 0), .int .i64 (K : Int), .int .i64 3])) := Lib.hid fun h0 j hj => by
    obtain ⟨hO, e1, hle⟩ := HP.out h0
    have ex : t.extract 0 j = ⟨(pt.take j).toArray⟩ := by
      rw [ht, ByteArray.extract_mk]
      simp
    have hx := parse_prefix h6 hO (by rw [← e1]; exact hle) j
    rw [← e1] at hx
    have hcnt : (pt.take j).count 10 ≤ 1 + S.texts.length + S.steps.length := by
      have k1 : (pt.take j).count 10 ≤ pt.count 10 := (List.take_sublist j pt).count_le 10
      have k2 : pt.count 10 = (linesT S).length := by rw [e1]; exact join_count _ (lines_free hO)
      have k3 : (linesT S).length = 1 + S.texts.length + S.steps.length := by simp [linesT]; omega
      omega
    refine ⟨(pt.take j).count 10, hcnt, fun W => ?_, ?_⟩
    · have := Tryz.strings_Count_one (t.extract 0 j) 10 W
      rw [show (t.extract 0 j).data.toList = pt.take j by rw [ex]] at this
      exact this
    · rw [ex]
      have hpa : ∀ W, Below w.heap.size w W → Calls Tryz.prog 31 #[.string ⟨(pt.take j).toArray⟩] W (ParR (pt.take j) W) := fun W hb => parse_any (pt.take j) W (Lib.hid (Hg.out.below hb)) (by rw [List.length_take]; omega)
      unfold ParR at hpa
      split at hx
      · rename_i hl
        rw [if_pos hl]
        rw [hx.1] at hpa
        exact ⟨hx.2, hpa⟩
      · rename_i hl
        rw [if_neg hl]
        rw [hx] at hpa
        exact hpa
  have HOk : Hid (pe = 0 → OkS S) := Lib.hid fun h => (HP.out h).1
  have HSz : Hid (pe = 0 → t.size ≤ 200000) := Lib.hid fun h => by rw [hts]; exact (HP.out h).2.2
  have Ht := Lib.hid ht
  clear hpt hpe hp h6 HB HP ht
  obtain ⟨nt, hnt⟩ : ∃ n, n = S.texts.length := ⟨_, rfl⟩
  obtain ⟨ns, hns⟩ : ∃ n, n = S.steps.length := ⟨_, rfl⟩
  rw [← hnt, ← hns] at Hv HPre ⊢
  rw [← hns] at HSpec
  rw [← hts] at HPre
  have Hnt := Lib.hid hnt
  have Hns := Lib.hid hns
  have Htb : Hid (∀ i : Nat, (h : i < t.size) → ∀ c : UInt8, t[i] = c → (pt.take (i + 1)).getLast? = some c) := Lib.hid fun i h c hc => by
    have k1 := bytes_get Ht.out h
    rw [hc] at k1
    rw [List.getLast?_eq_getElem?, List.length_take, List.getElem?_take, show min (i + 1) pt.length - 1 = i by omega, if_pos (by omega)]
    exact k1
  clear hnt hns hlen hts
  obtain ⟨cs, hcs⟩ : ∃ cs, cs = scrCs p0 p1 p2 p3 p4 p5 T nt tc U ns uc := ⟨_, rfl⟩
  rw [← hcs] at Hv
  obtain ⟨g, hg⟩ : ∃ g, g = w.heap.size := ⟨_, rfl⟩
  obtain ⟨W0, hW⟩ : ∃ W, W = w.alloc (.cells cs 27) := ⟨_, rfl⟩
  have HS0 : Hid (SNt 27 S g cs W0) := by rw [hW, hg]; exact SNt.start Hv.out
  have HB0 : Hid (Below w.heap.size w W0) := by rw [hW]; exact (Below.refl _ _).alloc (Nat.le_refl _) _
  have Hcs := Lib.hid hcs
  rw [hcs] at hW
  clear hcs Hv Hg
  unfold scrCs
  unfold scrCs at hW
  go_enter Tryz.func9, Tryz.ntmps9
  go_upto_region 1 with fail
  rw [← hW, ← hg]
  clear hW hg
  have crow := HS0.out.1
  rw [Hcs.out] at crow
  have c0 := (cell_at (u := .int .i64 p0) crow 0 rfl).1
  have c1 := (cell_at (u := .int .i64 p1) crow 1 rfl).1
  have c2 := (cell_at (u := .int .i64 p2) crow 2 rfl).1
  have c3 := (cell_at (u := .int .i64 p3) crow 3 rfl).1
  have c4 := (cell_at (u := .int .i64 p4) crow 4 rfl).1
  have c5 := (cell_at (u := .int .i64 p5) crow 5 rfl).1
  have c6 := (cell_at (u := .slice T nt tc) crow 6 rfl).1
  have c7 := (cell_at (u := .slice U ns uc) crow 7 rfl).1
  clear crow
  have hv := HS0.out.2
  rw [Hcs.out] at hv
  have HVl := Lib.hid hv
  clear hv
  go_wp2_with fail
  clear c0 c1 c2 c3 c4 c5 c6 c7
  refine (HFew.out (.agg (scrCs p0 p1 p2 p3 p4 p5 T nt tc U ns uc)) _ HVl.out).mono ?_
  rintro en w1 ⟨hb1, fb, rfl⟩
  have HS1 := Lib.hid (HS0.out.call hb1)
  have HB1 := Lib.hid (HB0.out.trans (hb1.mono HB0.out.size))
  clear hb1 HS0 HB0 HVl
  cases fb
  · go_wp2_with fail
    refine (HSan.out _ HB1.out).mono ?_
    rintro en w2 ⟨rfl, hb2⟩
    have HS2 := Lib.hid (HS1.out.call hb2)
    have HB2 := Lib.hid (HB1.out.trans (hb2.mono HB1.out.size))
    clear hb2 HS1 HB1
    go_wp2_with fail
    go_ret
    exact ⟨rfl, HB2.out⟩
  have crow := HS1.out.1
  rw [Hcs.out] at crow
  have c0 := (cell_at (u := .int .i64 p0) crow 0 rfl).1
  have c1 := (cell_at (u := .int .i64 p1) crow 1 rfl).1
  have c2 := (cell_at (u := .int .i64 p2) crow 2 rfl).1
  have c3 := (cell_at (u := .int .i64 p3) crow 3 rfl).1
  have c4 := (cell_at (u := .int .i64 p4) crow 4 rfl).1
  have c5 := (cell_at (u := .int .i64 p5) crow 5 rfl).1
  have c6 := (cell_at (u := .slice T nt tc) crow 6 rfl).1
  have c7 := (cell_at (u := .slice U ns uc) crow 7 rfl).1
  clear crow
  have hv := HS1.out.2
  rw [Hcs.out] at hv
  have HVl := Lib.hid hv
  clear hv
  go_wp2_with fail
  clear c0 c1 c2 c3 c4 c5 c6 c7
  refine (HOwn.out (.agg (scrCs p0 p1 p2 p3 p4 p5 T nt tc U ns uc)) _ HVl.out).mono ?_
  rintro en w2 ⟨hb2, va, rfl, hva⟩
  have HS2 := Lib.hid (HS1.out.call hb2)
  have HB2 := Lib.hid (HB1.out.trans (hb2.mono HB1.out.size))
  clear hb2 HS1 HB1 HVl
  have HVA2 := Lib.hid hva
  clear hva
  go_wp2_with fail
  refine (HPr.out _ _ HB2.out HVA2.out).mono ?_
  rintro en w3 ⟨rfl, hb3⟩
  have HS3 := Lib.hid (HS2.out.call hb3)
  have HB3 := Lib.hid (HB2.out.trans (hb3.mono HB2.out.size))
  have HVA3 := Lib.hid (HVA2.out.below hb3)
  clear hb3 HS2 HB2 HVA2
  clear HVA3
  by_cases hpe : pe = 0
  rotate_left
  · have hne : ¬ ((pe : Int) = 0) := by omega
    have hne2 : ((pe : Int) != 0) = true := by rw [bne_iff_ne]; exact hne
    go_wp2_with fail
    refine (HSan.out _ HB3.out).mono ?_
    rintro en w4 ⟨rfl, hb4⟩
    have HS4 := Lib.hid (HS3.out.call hb4)
    have HB4 := Lib.hid (HB3.out.trans (hb4.mono HB3.out.size))
    clear hb4 HS3 HB3
    go_wp2_with fail
    go_ret
    exact ⟨rfl, HB4.out⟩
  have HPre0 := Lib.hid (HPre.out hpe)
  have HOk0 := Lib.hid (HOk.out hpe)
  have hsz := HSz.out hpe
  subst hpe
  clear HPre HOk HSz
  by_cases hn0 : n < 0
  · have hq : decide (n < 0) = true := decide_eq_true hn0
    go_wp2_with fail
    refine (HSan.out _ HB3.out).mono ?_
    rintro en w4 ⟨rfl, hb4⟩
    have HS4 := Lib.hid (HS3.out.call hb4)
    have HB4 := Lib.hid (HB3.out.trans (hb4.mono HB3.out.size))
    clear hb4 HS3 HB3
    go_wp2_with fail
    go_ret
    exact ⟨rfl, HB4.out⟩
  by_cases hn1 : (t.size : Int) ≤ n
  · have hq : decide (n < 0) = false := decide_eq_false hn0
    have hq2 : decide ((t.size : Int) ≤ n) = true := decide_eq_true hn1
    go_wp2_with fail
    refine (HSan.out _ HB3.out).mono ?_
    rintro en w4 ⟨rfl, hb4⟩
    have HS4 := Lib.hid (HS3.out.call hb4)
    have HB4 := Lib.hid (HB3.out.trans (hb4.mono HB3.out.size))
    clear hb4 HS3 HB3
    go_wp2_with fail
    go_ret
    exact ⟨rfl, HB4.out⟩
  obtain ⟨j, rfl⟩ : ∃ j : Nat, n = (j : Int) := ⟨n.toNat, by omega⟩
  have hj : j < t.size := by omega
  obtain ⟨K, hKle, hCnt, hPar⟩ := HPre0.out j hj
  have HCnt := Lib.hid hCnt
  clear hCnt
  clear HPre0 hn0
  cases j with
  | zero =>
    rw [if_neg (by simp)] at hPar
    have hne0 : ¬ t = ByteArray.empty := fun h => by rw [h] at hj; exact absurd hj (by decide)
    have hx0 : t.extract 0 0 = ByteArray.empty := by simp
    rw [hx0] at HCnt hPar
    clear hx0
    obtain ⟨x, hx⟩ : ∃ x, x = ByteArray.empty := ⟨_, rfl⟩
    rw [← hx] at HCnt hPar
    have HPar := Lib.hid hPar
    clear hPar
    go_wp2_with fail
    rw [← hx]
    refine (HCnt.out _).mono ?_
    rintro en w4 ⟨rfl, hw⟩
    have hw2 := hw.symm
    subst hw2
    clear hw
    go_wp2_with fail
    rw [← hx]
    refine (HPar.out _ HB3.out).mono ?_
    unfold scrCs
    rintro en w5 ⟨hb5, rfl⟩
    have HS5 := Lib.hid (HS3.out.call hb5)
    have HB5 := Lib.hid (HB3.out.trans (hb5.mono HB3.out.size))
    clear hb5 HS3 HB3
    obtain ⟨g8, hg8⟩ : ∃ g, g = w5.heap.size := ⟨_, rfl⟩
    obtain ⟨W6, hW⟩ : ∃ W, W = w5.alloc (.cells #[.int .i64 0, .int .i64 0, .int .i64 0, .int .i64 0, .int .i64 0, .int .i64 0, .slice none 0 0, .slice none 0 0] 35) := ⟨_, rfl⟩
    have HZ6 : Hid (SNt 35 emptyS g8 (scrCs 0 0 0 0 0 0 none 0 0 none 0 0) W6) := by rw [hW, hg8]; exact SNt.start (zero_S _)
    have hb6 : Below w5.heap.size w5 W6 := by rw [hW]; exact (Below.refl _ _).alloc (Nat.le_refl _) _
    have HS6 := Lib.hid (HS5.out.call hb6)
    have HB6 := Lib.hid (HB5.out.trans (hb6.mono HB5.out.size))
    clear hb6 HS5 HB5
    go_upto_region 8 with fail
    rw [← hW, ← hg8]
    clear hW hg8
    go_wp2_with fail
    refine (HSan.out _ HB6.out).mono ?_
    rintro en w7 ⟨rfl, hb7⟩
    have HS7 := Lib.hid (HS6.out.call hb7)
    have HB7 := Lib.hid (HB6.out.trans (hb7.mono HB6.out.size))
    have HZ7 := Lib.hid (HZ6.out.call hb7)
    clear hb7 HS6 HB6 HZ6
    have crow := HZ7.out.1
    have d0 := (cell_at (u := .int .i64 0) crow 0 rfl).1
    have d1 := (cell_at (u := .int .i64 0) crow 1 rfl).1
    have d2 := (cell_at (u := .int .i64 0) crow 2 rfl).1
    have d3 := (cell_at (u := .int .i64 0) crow 3 rfl).1
    have d4 := (cell_at (u := .int .i64 0) crow 4 rfl).1
    have d5 := (cell_at (u := .int .i64 0) crow 5 rfl).1
    have d6 := (cell_at (u := .slice none 0 0) crow 6 rfl).1
    have d7 := (cell_at (u := .slice none 0 0) crow 7 rfl).1
    clear crow
    go_wp2_with fail
    clear d0 d1 d2 d3 d4 d5 d6 d7
    refine (HSpec.out emptyS (Nat.zero_le _) (.agg (scrCs 0 0 0 0 0 0 none 0 0 none 0 0)) _ (zero_S _)).mono ?_
    rintro en w8 ⟨hb8, vc, rfl, hvc⟩
    have HS8 := Lib.hid (HS7.out.call hb8)
    have HB8 := Lib.hid (HB7.out.trans (hb8.mono HB7.out.size))
    have HZ8 := Lib.hid (HZ7.out.call hb8)
    clear hb8 HS7 HB7 HZ7
    have HVC8 := Lib.hid hvc
    clear hvc
    go_wp2_with fail
    refine (HSm.out emptyS ⟨Nat.zero_le _, Nat.zero_le _, fun t h => (by cases h), fun t h => (by cases h)⟩ _ (.agg (scrCs 0 0 0 0 0 0 none 0 0 none 0 0)) _ HVC8.out (zero_S _)).mono ?_
    rintro en w9 ⟨rfl, hb9⟩
    have HS9 := Lib.hid (HS8.out.call hb9)
    have HB9 := Lib.hid (HB8.out.trans (hb9.mono HB8.out.size))
    have HZ9 := Lib.hid (HZ8.out.call hb9)
    have HVC9 := Lib.hid (HVC8.out.below hb9)
    clear hb9 HS8 HB8 HZ8 HVC8
    go_wp2_with fail
    go_ret
    exact ⟨rfl, HB9.out⟩
  | succ i =>
    have hi : i < t.size := by omega
    have hI1 : (i : Int) < (t.size : Int) := by omega
    have hwr : wrap64 (i : Int) = (i : Int) := IntWalk.wrap64_in _ (by omega)
    obtain ⟨c, hc⟩ : ∃ c, t[i] = c := ⟨_, rfl⟩
    have hlast := Htb.out i hi c hc
    rw [hlast] at hPar
    obtain ⟨x, hx⟩ : ∃ x, x = t.extract 0 (i + 1) := ⟨_, rfl⟩
    rw [← hx] at HCnt hPar
    clear hlast
    by_cases hc10 : c = 10
    rotate_left
    · rw [if_neg (by simpa using hc10)] at hPar
      have hcc : ¬ ((c.toNat : Int) = 10) := fun h => hc10 (UInt8.toNat_inj.1 (by show c.toNat = 10; omega))
      have hcc2 : ((c.toNat : Int) != 10) = true := by rw [bne_iff_ne]; exact hcc
      clear hc10
      have HPar := Lib.hid hPar
      clear hPar
      go_wp2_with fail
      rw [← hx]
      refine (HCnt.out _).mono ?_
      rintro en w4 ⟨rfl, hw⟩
      have hw2 := hw.symm
      subst hw2
      clear hw
      go_wp2_with fail
      rw [← hx]
      refine (HPar.out _ HB3.out).mono ?_
      unfold scrCs
      rintro en w5 ⟨hb5, rfl⟩
      have HS5 := Lib.hid (HS3.out.call hb5)
      have HB5 := Lib.hid (HB3.out.trans (hb5.mono HB3.out.size))
      clear hb5 HS3 HB3
      obtain ⟨g8, hg8⟩ : ∃ g, g = w5.heap.size := ⟨_, rfl⟩
      obtain ⟨W6, hW⟩ : ∃ W, W = w5.alloc (.cells #[.int .i64 0, .int .i64 0, .int .i64 0, .int .i64 0, .int .i64 0, .int .i64 0, .slice none 0 0, .slice none 0 0] 35) := ⟨_, rfl⟩
      have HZ6 : Hid (SNt 35 emptyS g8 (scrCs 0 0 0 0 0 0 none 0 0 none 0 0) W6) := by rw [hW, hg8]; exact SNt.start (zero_S _)
      have hb6 : Below w5.heap.size w5 W6 := by rw [hW]; exact (Below.refl _ _).alloc (Nat.le_refl _) _
      have HS6 := Lib.hid (HS5.out.call hb6)
      have HB6 := Lib.hid (HB5.out.trans (hb6.mono HB5.out.size))
      clear hb6 HS5 HB5
      go_upto_region 8 with fail
      rw [← hW, ← hg8]
      clear hW hg8
      go_wp2_with fail
      refine (HSan.out _ HB6.out).mono ?_
      rintro en w7 ⟨rfl, hb7⟩
      have HS7 := Lib.hid (HS6.out.call hb7)
      have HB7 := Lib.hid (HB6.out.trans (hb7.mono HB6.out.size))
      have HZ7 := Lib.hid (HZ6.out.call hb7)
      clear hb7 HS6 HB6 HZ6
      have crow := HZ7.out.1
      have d0 := (cell_at (u := .int .i64 0) crow 0 rfl).1
      have d1 := (cell_at (u := .int .i64 0) crow 1 rfl).1
      have d2 := (cell_at (u := .int .i64 0) crow 2 rfl).1
      have d3 := (cell_at (u := .int .i64 0) crow 3 rfl).1
      have d4 := (cell_at (u := .int .i64 0) crow 4 rfl).1
      have d5 := (cell_at (u := .int .i64 0) crow 5 rfl).1
      have d6 := (cell_at (u := .slice none 0 0) crow 6 rfl).1
      have d7 := (cell_at (u := .slice none 0 0) crow 7 rfl).1
      clear crow
      go_wp2_with fail
      clear d0 d1 d2 d3 d4 d5 d6 d7
      refine (HSpec.out emptyS (Nat.zero_le _) (.agg (scrCs 0 0 0 0 0 0 none 0 0 none 0 0)) _ (zero_S _)).mono ?_
      rintro en w8 ⟨hb8, vc, rfl, hvc⟩
      have HS8 := Lib.hid (HS7.out.call hb8)
      have HB8 := Lib.hid (HB7.out.trans (hb8.mono HB7.out.size))
      have HZ8 := Lib.hid (HZ7.out.call hb8)
      clear hb8 HS7 HB7 HZ7
      have HVC8 := Lib.hid hvc
      clear hvc
      go_wp2_with fail
      refine (HSm.out emptyS ⟨Nat.zero_le _, Nat.zero_le _, fun t h => (by cases h), fun t h => (by cases h)⟩ _ (.agg (scrCs 0 0 0 0 0 0 none 0 0 none 0 0)) _ HVC8.out (zero_S _)).mono ?_
      rintro en w9 ⟨rfl, hb9⟩
      have HS9 := Lib.hid (HS8.out.call hb9)
      have HB9 := Lib.hid (HB8.out.trans (hb9.mono HB8.out.size))
      have HZ9 := Lib.hid (HZ8.out.call hb9)
      have HVC9 := Lib.hid (HVC8.out.below hb9)
      clear hb9 HS8 HB8 HZ8 HVC8
      go_wp2_with fail
      go_ret
      exact ⟨rfl, HB9.out⟩
    subst hc10
    rw [if_pos rfl] at hPar
    obtain ⟨hK1, hPar⟩ := hPar
    have HPar := Lib.hid hPar
    clear hPar
    go_wp2_with fail
    rw [← hx]
    refine (HCnt.out _).mono ?_
    rintro en w4 ⟨rfl, hw⟩
    have hw2 := hw.symm
    subst hw2
    clear hw
    go_wp2_with fail
    rw [← hx]
    obtain ⟨k, rfl⟩ : ∃ k, K = k + 1 := ⟨K - 1, by omega⟩
    have hkn : k ≤ nt + ns := by omega
    have hntb : nt ≤ 16 := by rw [Hnt.out]; exact HOk0.out.nt
    have hnsb : ns ≤ 1000 := by rw [Hns.out]; exact HOk0.out.ns
    rw [Nat.add_sub_cancel] at HPar
    obtain ⟨S2, hS2⟩ : ∃ x, x = prefS S k := ⟨_, rfl⟩
    rw [← hS2] at HPar
    have HS2e := Lib.hid hS2
    clear hS2
    refine (HPar.out _ HB3.out).mono ?_
    rintro en w5 ⟨hb5, vb, rfl, hvb⟩
    have HS5 := Lib.hid (HS3.out.call hb5)
    have HB5 := Lib.hid (HB3.out.trans (hb5.mono HB3.out.size))
    clear hb5 HS3 HB3
    obtain ⟨q0, q1, q2, q3, q4, q5, T', tc', U', uc', rfl, hp⟩ := hvb
    obtain ⟨nt', hnt⟩ : ∃ n, n = S2.texts.length := ⟨_, rfl⟩
    obtain ⟨ns', hns⟩ : ∃ n, n = S2.steps.length := ⟨_, rfl⟩
    have HVx : Hid (ScriptS w5 S2 (.agg (scrCs q0 q1 q2 q3 q4 q5 T' nt' tc' U' ns' uc'))) := ⟨q0, q1, q2, q3, q4, q5, T', tc', U', uc', by rw [hnt, hns], hp⟩
    rw [← hnt, ← hns]
    obtain ⟨ds, hcs⟩ : ∃ cs, cs = scrCs q0 q1 q2 q3 q4 q5 T' nt' tc' U' ns' uc' := ⟨_, rfl⟩
    rw [← hcs] at HVx
    obtain ⟨g8, hg⟩ : ∃ g, g = w5.heap.size := ⟨_, rfl⟩
    obtain ⟨W6, hW⟩ : ∃ W, W = w5.alloc (.cells ds 35) := ⟨_, rfl⟩
    have HZ6 : Hid (SNt 35 S2 g8 ds W6) := by rw [hW, hg]; exact SNt.start HVx.out
    have hb6 : Below w5.heap.size w5 W6 := by rw [hW]; exact (Below.refl _ _).alloc (Nat.le_refl _) _
    have Hds := Lib.hid hcs
    rw [hcs] at hW
    have HS6 := Lib.hid (HS5.out.call hb6)
    have HB6 := Lib.hid (HB5.out.trans (hb6.mono HB5.out.size))
    clear hb6 HS5 HB5 hp hnt hns hcs HVx
    unfold scrCs
    unfold scrCs at hW
    go_upto_region 8 with fail
    rw [← hW, ← hg]
    clear hW hg
    have crow := HS6.out.1
    rw [Hcs.out] at crow
    have c0 := (cell_at (u := .int .i64 p0) crow 0 rfl).1
    have c1 := (cell_at (u := .int .i64 p1) crow 1 rfl).1
    have c2 := (cell_at (u := .int .i64 p2) crow 2 rfl).1
    have c3 := (cell_at (u := .int .i64 p3) crow 3 rfl).1
    have c4 := (cell_at (u := .int .i64 p4) crow 4 rfl).1
    have c5 := (cell_at (u := .int .i64 p5) crow 5 rfl).1
    have c6 := (cell_at (u := .slice T nt tc) crow 6 rfl).1
    have c7 := (cell_at (u := .slice U ns uc) crow 7 rfl).1
    clear crow
    have hv := HS6.out.2
    rw [Hcs.out] at hv
    have HVl := Lib.hid hv
    clear hv
    go_upto_region 11 with fail
    obtain ⟨km, hkm, hkm2⟩ : ∃ m : Nat, min (nt : Int) (k : Int) = (m : Int) ∧ m = min k nt := ⟨min k nt, by omega, rfl⟩
    rw [hkm]
    obtain ⟨kl, hkl, hkl2⟩ : ∃ m : Nat, (k : Int) - (km : Int) = (m : Int) ∧ m = min (k - nt) ns := ⟨k - km, by omega, by omega⟩
    have hcap := scr_caps HVl.out
    have hb1 : (km : Int) ≤ (tc : Int) := by omega
    have hb2 : (kl : Int) ≤ (uc : Int) := by omega
    have hb3 : (km : Int) ≤ 9223372036854775807 := by omega
    have hb4 : (kl : Int) ≤ 9223372036854775807 := by omega
    have Hkm := Lib.hid hkm2
    have Hkl := Lib.hid hkl2
    have hglt : g < W6.heap.size := (Array.getElem?_eq_some_iff.1 HS6.out.1).1
    clear hkm hkm2 hkl2 hcap
    go_region
    obtain ⟨W7, hW⟩ : ∃ W, W = (W6.alloc (.cells #[.int .i64 p0, .int .i64 p1, .int .i64 p2, .int .i64 p3, .int .i64 p4, .int .i64 p5, .slice T km tc, .slice U kl uc] 27)).drew := ⟨_, rfl⟩
    obtain ⟨g12, hg⟩ : ∃ g, g = W6.heap.size := ⟨_, rfl⟩
    have hb7 : Below W6.heap.size W6 W7 := by rw [hW]; exact ((Below.refl W6.heap.size W6).alloc (Nat.le_refl _) _).drew
    obtain ⟨ts, hts⟩ : ∃ cs, cs = scrCs p0 p1 p2 p3 p4 p5 T km tc U kl uc := ⟨_, rfl⟩
    have Hts := Lib.hid hts
    have HVt0 : ScriptS W7 S2 (.agg (scrCs p0 p1 p2 p3 p4 p5 T km tc U kl uc)) := by
      rw [HS2e.out]
      exact (pref_S HVl.out k Hkm.out Hkl.out).below hb7
    have HT7 : Hid (SNt 27 S2 g12 ts W7) := by
      refine ⟨?_, by rw [hts]; exact HVt0⟩
      rw [hW, hg, hts]
      exact heap_new _ _
    have HVt := Lib.hid HVt0
    clear HVt0 hts
    rw [← hW, ← hg]
    clear hW hg c0 c1 c2 c3 c4 c5 c6 c7 hglt
    have HS7 := Lib.hid (HS6.out.call hb7)
    have HB7 := Lib.hid (HB6.out.trans (hb7.mono HB6.out.size))
    have HZ7 := Lib.hid (HZ6.out.call hb7)
    clear hb7 HS6 HB6 HZ6 HVl
    have HS2l : Hid (S2.steps.length ≤ ns) := by
      show _ ≤ _
      rw [HS2e.out, Hns.out]
      show (S.steps.take _).length ≤ _
      rw [List.length_take]; omega
    have HS2L : Hid (ScriptL S2) := by
      show ScriptL S2
      rw [HS2e.out]
      exact check_okL (pref_ok HOk0.out k)
    have hz := HZ7.out.2
    rw [Hds.out] at hz
    have HVz := Lib.hid hz
    clear hz
    have crow := HZ7.out.1
    rw [Hds.out] at crow
    have d0 := (cell_at (u := .int .i64 q0) crow 0 rfl).1
    have d1 := (cell_at (u := .int .i64 q1) crow 1 rfl).1
    have d2 := (cell_at (u := .int .i64 q2) crow 2 rfl).1
    have d3 := (cell_at (u := .int .i64 q3) crow 3 rfl).1
    have d4 := (cell_at (u := .int .i64 q4) crow 4 rfl).1
    have d5 := (cell_at (u := .int .i64 q5) crow 5 rfl).1
    have d6 := (cell_at (u := .slice T' nt' tc') crow 6 rfl).1
    have d7 := (cell_at (u := .slice U' ns' uc') crow 7 rfl).1
    clear crow
    have crow := HT7.out.1
    rw [Hts.out] at crow
    have c0 := (cell_at (u := .int .i64 p0) crow 0 rfl).1
    have c1 := (cell_at (u := .int .i64 p1) crow 1 rfl).1
    have c2 := (cell_at (u := .int .i64 p2) crow 2 rfl).1
    have c3 := (cell_at (u := .int .i64 p3) crow 3 rfl).1
    have c4 := (cell_at (u := .int .i64 p4) crow 4 rfl).1
    have c5 := (cell_at (u := .int .i64 p5) crow 5 rfl).1
    have c6 := (cell_at (u := .slice T km tc) crow 6 rfl).1
    have c7 := (cell_at (u := .slice U kl uc) crow 7 rfl).1
    clear crow
    have hltg12 : g12 < W7.heap.size := (Array.getElem?_eq_some_iff.1 HT7.out.1).1
    have hltg8 : g8 < W7.heap.size := (Array.getElem?_eq_some_iff.1 HZ7.out.1).1
    have KS : Hid (∀ w' : World, Below W7.heap.size W7 w' → (w'.cell? ⟨g8, 0, none⟩ = some (.int .i64 q0) ∧ w'.cell? ⟨g8, 1, none⟩ = some (.int .i64 q1) ∧ w'.cell? ⟨g8, 2, none⟩ = some (.int .i64 q2) ∧ w'.cell? ⟨g8, 3, none⟩ = some (.int .i64 q3) ∧ w'.cell? ⟨g8, 4, none⟩ = some (.int .i64 q4) ∧ w'.cell? ⟨g8, 5, none⟩ = some (.int .i64 q5) ∧ w'.cell? ⟨g8, 6, none⟩ = some (.slice T' nt' tc') ∧ w'.cell? ⟨g8, 7, none⟩ = some (.slice U' ns' uc') ∧ w'.cell? ⟨g12, 0, none⟩ = some (.int .i64 p0) ∧ w'.cell? ⟨g12, 1, none⟩ = some (.int .i64 p1) ∧ w'.cell? ⟨g12, 2, none⟩ = some (.int .i64 p2) ∧ w'.cell? ⟨g12, 3, none⟩ = some (.int .i64 p3) ∧ w'.cell? ⟨g12, 4, none⟩ = some (.int .i64 p4) ∧ w'.cell? ⟨g12, 5, none⟩ = some (.int .i64 p5) ∧ w'.cell? ⟨g12, 6, none⟩ = some (.slice T km tc) ∧ w'.cell? ⟨g12, 7, none⟩ = some (.slice U kl uc))) := fun w' hb => ⟨(hb.cell (p := ⟨g8, 0, none⟩) hltg8).trans d0, (hb.cell (p := ⟨g8, 1, none⟩) hltg8).trans d1, (hb.cell (p := ⟨g8, 2, none⟩) hltg8).trans d2, (hb.cell (p := ⟨g8, 3, none⟩) hltg8).trans d3, (hb.cell (p := ⟨g8, 4, none⟩) hltg8).trans d4, (hb.cell (p := ⟨g8, 5, none⟩) hltg8).trans d5, (hb.cell (p := ⟨g8, 6, none⟩) hltg8).trans d6, (hb.cell (p := ⟨g8, 7, none⟩) hltg8).trans d7, (hb.cell (p := ⟨g12, 0, none⟩) hltg12).trans c0, (hb.cell (p := ⟨g12, 1, none⟩) hltg12).trans c1, (hb.cell (p := ⟨g12, 2, none⟩) hltg12).trans c2, (hb.cell (p := ⟨g12, 3, none⟩) hltg12).trans c3, (hb.cell (p := ⟨g12, 4, none⟩) hltg12).trans c4, (hb.cell (p := ⟨g12, 5, none⟩) hltg12).trans c5, (hb.cell (p := ⟨g12, 6, none⟩) hltg12).trans c6, (hb.cell (p := ⟨g12, 7, none⟩) hltg12).trans c7⟩
    have B0 : Hid (Below W7.heap.size W7 W7.drew) := (Below.refl _ _).drew
    go_wp2_with fail
    go_region_held3 (fun w' => (w'.cell? ⟨g8, 0, none⟩ = some (.int .i64 q0) ∧ w'.cell? ⟨g8, 1, none⟩ = some (.int .i64 q1) ∧ w'.cell? ⟨g8, 2, none⟩ = some (.int .i64 q2) ∧ w'.cell? ⟨g8, 3, none⟩ = some (.int .i64 q3) ∧ w'.cell? ⟨g8, 4, none⟩ = some (.int .i64 q4) ∧ w'.cell? ⟨g8, 5, none⟩ = some (.int .i64 q5) ∧ w'.cell? ⟨g8, 6, none⟩ = some (.slice T' nt' tc') ∧ w'.cell? ⟨g8, 7, none⟩ = some (.slice U' ns' uc') ∧ w'.cell? ⟨g12, 0, none⟩ = some (.int .i64 p0) ∧ w'.cell? ⟨g12, 1, none⟩ = some (.int .i64 p1) ∧ w'.cell? ⟨g12, 2, none⟩ = some (.int .i64 p2) ∧ w'.cell? ⟨g12, 3, none⟩ = some (.int .i64 p3) ∧ w'.cell? ⟨g12, 4, none⟩ = some (.int .i64 p4) ∧ w'.cell? ⟨g12, 5, none⟩ = some (.int .i64 p5) ∧ w'.cell? ⟨g12, 6, none⟩ = some (.slice T km tc) ∧ w'.cell? ⟨g12, 7, none⟩ = some (.slice U kl uc))) (first | exact hKeep | go_keep)
      (first
        | (go_at_call 11; refine (HSan.out _ (HB7.out.trans (B0.out.mono HB7.out.size))).mono ?_; rintro e w8 ⟨rfl, hbx⟩; have B1 := Lib.hid (B0.out.trans (hbx.mono B0.out.size)); have hKeep := KS.out _ B1.out; clear hbx)
        | (go_at_call 30; refine (HSpec.out S2 HS2l.out (.agg (scrCs q0 q1 q2 q3 q4 q5 T' nt' tc' U' ns' uc')) _ (HVz.out.below B1.out)).mono ?_; rintro e w9 ⟨hbx, vc, rfl, hvc⟩; have HVC := Lib.hid hvc; clear hvc; have B2 := Lib.hid (B1.out.trans (hbx.mono B1.out.size)); have hKeep := KS.out _ B2.out; clear hbx)
        | (go_at_call 24; refine (HSm.out S2 HS2L.out _ (.agg (scrCs p0 p1 p2 p3 p4 p5 T km tc U kl uc)) _ HVC.out (HVt.out.below B2.out)).mono ?_; rintro e w10 ⟨rfl, hbx⟩; have B3 := Lib.hid (B2.out.trans (hbx.mono B2.out.size)); have hKeep := KS.out _ B3.out; clear hbx))
    clear KS d0 d1 d2 d3 d4 d5 d6 d7 c0 c1 c2 c3 c4 c5 c6 c7 hltg12 hltg8 B0 B1 B2
    have hb10 := B3.out
    clear B3
    have HS10 := Lib.hid (HS7.out.call hb10)
    have HB10 := Lib.hid (HB7.out.trans (hb10.mono HB7.out.size))
    have HZ10 := Lib.hid (HZ7.out.call hb10)
    have HT10 := Lib.hid (HT7.out.call hb10)
    clear hb10 HS7 HB7 HZ7 HT7 HVz HVt HVC
    go_wp2_with fail
    go_ret
    exact ⟨rfl, HB10.out⟩
end Go.Proofs.YtdfhbnfhkckkbaaGreatDoor
