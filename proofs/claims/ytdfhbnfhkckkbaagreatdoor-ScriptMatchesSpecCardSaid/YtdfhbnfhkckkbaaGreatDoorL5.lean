/-
  The law of the specification of Name, Arity, Check, Same, Encode, Print, Unit: walked whole (printed by genL5.py).
-/
import Derived.Test.YtdfhbnfhkckkbaaGreatDoorR8
import Derived.Test.YtdfhbnfhkckkbaaGreatDoorW31
namespace Go.Proofs.YtdfhbnfhkckkbaaGreatDoor
open Go Go.RowKit Go.Walks

set_option maxRecDepth 100000 in
set_option maxHeartbeats 16000000 in
theorem lawSpec_any (S T : ScriptD) (v u : Value) (k : Int) (w : World) (Hg : Hid (Gl w)) (Hv : Hid (ScriptS w S v)) (Hu : Hid (ScriptS w T u)) (HB : ScriptB S) (HBT : ScriptB T) (Hk : Hid (I64 k)) : Calls Tryz.prog 3 #[v, u, .int .i64 k] w (BoolR true w) := by
  have HSan : Hid (∀ W, Below w.heap.size w W → Calls Tryz.prog 11 #[] W (BoolR true W)) := Lib.hid fun W hb => sanity_any W (Lib.hid (Hg.out.below hb))
  have hlen := HB.lens
  have hlenT := HBT.lens
  have HFew : Hid (∀ v W, ScriptS W S v → Calls Tryz.prog 10 #[v] W (SomeBool W)) := Lib.hid fun v W h => few_any S v W (Lib.hid h) (by have := HB.steps; omega) (by have := HB.texts; omega)
  have HFewT : Hid (∀ v W, ScriptS W T v → Calls Tryz.prog 10 #[v] W (SomeBool W)) := Lib.hid fun v W h => few_any T v W (Lib.hid h) (by have := HBT.steps; omega) (by have := HBT.texts; omega)
  have HOwn : Hid (∀ v W, ScriptS W S v → Calls Tryz.prog 13 #[v] W fun e w' => Below W.heap.size W w' ∧ ∃ v', e = .returned v' ∧ ScriptS w' S v') := Lib.hid fun v W h => own_any S v W (Lib.hid h) HB.steps
  have HOwnT : Hid (∀ v W, ScriptS W T v → Calls Tryz.prog 13 #[v] W fun e w' => Below W.heap.size W w' ∧ ∃ v', e = .returned v' ∧ ScriptS w' T v') := Lib.hid fun v W h => own_any T v W (Lib.hid h) HBT.steps
  obtain ⟨sm, hsm⟩ : ∃ x, x = decide (S = T) := ⟨_, rfl⟩
  have HSm : Hid (∀ u v W, ScriptS W S u → ScriptS W T v → Calls Tryz.prog 24 #[u, v] W (BoolR sm W)) := Lib.hid fun u v W h1 h2 => by
    rw [hsm]; exact rsame_any S T u v W (Lib.hid h1) (Lib.hid h2) (Lib.hid hlen)
  have HSmP : Hid (∀ u v W, ScriptS W S u → ScriptS W T v → Calls Tryz.prog 23 #[u, v] W (BoolR sm W)) := Lib.hid fun u v W h1 h2 => by
    rw [hsm]; exact same_any S T u v W (Lib.hid h1) (Lib.hid h2) (Lib.hid hlen) (Lib.hid hlenT)
  obtain ⟨ck, hck⟩ : ∃ x, x = (checkB S).1 := ⟨_, rfl⟩
  obtain ⟨ce, hce⟩ : ∃ x, x = (checkB S).2 := ⟨_, rfl⟩
  have HCk : Hid (∀ v W, Below w.heap.size w W → ScriptS W S v → Calls Tryz.prog 12 #[v] W fun e w' => e = .returned (.tuple #[.int .i64 ck, .int .i64 (ce : Int)]) ∧ Below W.heap.size W w') := Lib.hid fun v W hb h => by
    have := check_any S v W (Lib.hid (Hg.out.below hb)) (Lib.hid h) (Lib.hid hlen)
    unfold CheckR at this
    rw [← hck, ← hce] at this
    exact this
  have HCkR : Hid (∀ v W, ScriptS W S v → Calls Tryz.prog 14 #[v] W fun e w' => e = .returned (.tuple #[.int .i64 ck, .int .i64 (ce : Int)]) ∧ Below W.heap.size W w') := Lib.hid fun v W h => by
    have := rcheck_any S v W (Lib.hid h) (Lib.hid hlen)
    unfold CheckR at this
    rw [← hck, ← hce] at this
    exact this
  obtain ⟨eb, heb⟩ : ∃ x, x = (encodeB S).1 := ⟨_, rfl⟩
  have hebl : eb.length ≤ maxLen := by
    obtain ⟨p0, p1, p2, p3, p4, p5, TA, tc, UA, uc, -, hp⟩ := Hv.out
    have h6 : S.cfg.length = 6 := by rw [hp.cfg]; rfl
    rw [heb]
    unfold encodeB
    split
    · exact Nat.zero_le _
    · rename_i h
      have := enc_le h6 (check_ok.1 (by simpa using h))
      unfold maxLen
      show (encT S).length ≤ _
      omega
  obtain ⟨ee, hee⟩ : ∃ x, x = (encodeB S).2 := ⟨_, rfl⟩
  have HEn : Hid (∀ v W, Below w.heap.size w W → ScriptS W S v → Calls Tryz.prog 15 #[v] W fun e w' => ∃ A c, e = .returned (.tuple #[.slice A eb.length c, .int .i64 (ee : Int)]) ∧ OS W 5 1 A eb.length c (Lib.byteCells eb) w') := Lib.hid fun v W hb h => by
    have := encode_any S v W (Lib.hid (Hg.out.below hb)) (Lib.hid h) (Lib.hid hlen)
    unfold EncR at this
    rw [← heb, ← hee] at this
    exact this
  have HEnR : Hid (∀ v W, ScriptS W S v → Calls Tryz.prog 16 #[v] W fun e w' => ∃ A c, e = .returned (.tuple #[.slice A eb.length c, .int .i64 (ee : Int)]) ∧ OS W 5 1 A eb.length c (Lib.byteCells eb) w') := Lib.hid fun v W h => by
    have := rencode_any S v W (Lib.hid h) (Lib.hid hlen)
    unfold EncR at this
    rw [← heb, ← hee] at this
    exact this
  obtain ⟨pt, hpt⟩ : ∃ x, x = (printB S).1 := ⟨_, rfl⟩
  obtain ⟨pe, hpe⟩ : ∃ x, x = (printB S).2 := ⟨_, rfl⟩
  have HPr : Hid (∀ v W, Below w.heap.size w W → ScriptS W S v → Calls Tryz.prog 17 #[v] W fun e w' => e = .returned (.tuple #[.string ⟨pt.toArray⟩, .int .i64 (pe : Int)]) ∧ Below W.heap.size W w') := Lib.hid fun v W hb h => by
    have := print_any S v W (Lib.hid (Hg.out.below hb)) (Lib.hid h) (Lib.hid hlen)
    unfold PrintR strV at this
    rw [← hpt, ← hpe] at this
    exact this
  have HPrR : Hid (∀ v W, ScriptS W S v → Calls Tryz.prog 18 #[v] W fun e w' => e = .returned (.tuple #[.string ⟨pt.toArray⟩, .int .i64 (pe : Int)]) ∧ Below W.heap.size W w') := Lib.hid fun v W h => by
    have := rprint_any S v W (Lib.hid h) (Lib.hid hlen)
    unfold PrintR strV at this
    rw [← hpt, ← hpe] at this
    exact this
  obtain ⟨nm, hnm⟩ : ∃ x, x = nameB k := ⟨_, rfl⟩
  obtain ⟨ar, har⟩ : ∃ x, x = arityB k := ⟨_, rfl⟩
  obtain ⟨un, hun⟩ : ∃ x, x = unitB k := ⟨_, rfl⟩
  have HNm : Hid (∀ W, Below w.heap.size w W → Calls Tryz.prog 19 #[.int .i64 k] W fun e w' => e = .returned (.string ⟨nm.toArray⟩) ∧ Below W.heap.size W w') := Lib.hid fun W hb => by
    rw [hnm]; exact (name_any k W (Lib.hid (Hg.out.below hb))).mono fun e w' h => ⟨h.1, by rw [h.2]; exact Below.refl _ _⟩
  have HNmR : Hid (∀ W, Calls Tryz.prog 20 #[.int .i64 k] W fun e w' => e = .returned (.string ⟨nm.toArray⟩) ∧ Below W.heap.size W w') := Lib.hid fun W => by
    rw [hnm]; exact rname_any k W
  have HAr : Hid (∀ W, Below w.heap.size w W → Calls Tryz.prog 21 #[.int .i64 k] W fun e w' => e = .returned (.int .i64 ar) ∧ Below W.heap.size W w') := Lib.hid fun W hb => by
    rw [har]; exact (arity_any k W (Lib.hid (Hg.out.below hb))).mono fun e w' h => ⟨h.1, by rw [h.2]; exact Below.refl _ _⟩
  have HSb : Hid (∀ A A' c c' W, Sl W W.heap.size A (Lib.byteCells eb) → Sl W W.heap.size A' (Lib.byteCells eb) → Calls Tryz.prog 25 #[.slice A eb.length c, .slice A' eb.length c'] W (BoolR true W)) := Lib.hid fun A A' c c' W h1 h2 => by
    have := sameBytes_any eb eb A A' c c' W hebl (Lib.hid h1) (Lib.hid h2)
    rw [decide_eq_true rfl] at this
    exact this
  have HArR : Hid (∀ W, Calls Tryz.prog 22 #[.int .i64 k] W fun e w' => e = .returned (.int .i64 ar) ∧ Below W.heap.size W w') := Lib.hid fun W => by
    rw [har]; exact rarity_any k W
  have HUn : Hid (∀ W, Calls Tryz.prog 26 #[.int .i64 k] W fun e w' => e = .returned (.string ⟨un.toArray⟩) ∧ Below W.heap.size W w') := Lib.hid fun W => by
    rw [hun]; exact unit_any k W Hk
  have HUnR : Hid (∀ W, Calls Tryz.prog 27 #[.int .i64 k] W fun e w' => e = .returned (.string ⟨un.toArray⟩) ∧ Below W.heap.size W w') := Lib.hid fun W => by
    rw [hun]; exact runit_any k W Hk
  clear hebl hsm hck hce heb hee hpt hpe hnm har hun
  obtain ⟨p0, p1, p2, p3, p4, p5, TA, tc, UA, uc, rfl, hp⟩ := Hv.out
  clear hp
  obtain ⟨nt, hnt⟩ : ∃ n, n = S.texts.length := ⟨_, rfl⟩
  obtain ⟨ns, hns⟩ : ∃ n, n = S.steps.length := ⟨_, rfl⟩
  rw [← hnt, ← hns] at Hv ⊢
  clear hnt hns
  obtain ⟨cs, hcs⟩ : ∃ cs, cs = scrCs p0 p1 p2 p3 p4 p5 TA nt tc UA ns uc := ⟨_, rfl⟩
  rw [← hcs] at Hv
  obtain ⟨q0, q1, q2, q3, q4, q5, TB, tc', UB, uc', rfl, hp⟩ := Hu.out
  clear hp
  obtain ⟨nt', hnt⟩ : ∃ n, n = T.texts.length := ⟨_, rfl⟩
  obtain ⟨ns', hns⟩ : ∃ n, n = T.steps.length := ⟨_, rfl⟩
  rw [← hnt, ← hns] at Hu ⊢
  clear hnt hns
  obtain ⟨ds, hds⟩ : ∃ cs, cs = scrCs q0 q1 q2 q3 q4 q5 TB nt' tc' UB ns' uc' := ⟨_, rfl⟩
  rw [← hds] at Hu
  clear hlen hlenT HB HBT
  obtain ⟨g, hg⟩ : ∃ g, g = w.heap.size := ⟨_, rfl⟩
  obtain ⟨Wa, hWa⟩ : ∃ W, W = w.alloc (.cells cs 27) := ⟨_, rfl⟩
  obtain ⟨g2, hg2⟩ : ∃ g, g = Wa.heap.size := ⟨_, rfl⟩
  obtain ⟨W0, hW⟩ : ∃ W, W = Wa.alloc (.cells ds 27) := ⟨_, rfl⟩
  have hba : Below w.heap.size w Wa := by rw [hWa]; exact (Below.refl _ _).alloc (Nat.le_refl _) _
  have hb0 : Below Wa.heap.size Wa W0 := by rw [hW]; exact (Below.refl _ _).alloc (Nat.le_refl _) _
  have HSa : SNt 27 S g cs Wa := by rw [hWa, hg]; exact SNt.start Hv.out
  have HS0 : Hid (SNt 27 S g cs W0) := Lib.hid (HSa.call hb0)
  have HT0 : Hid (SNt 27 T g2 ds W0) := by rw [hW, hg2]; exact SNt.start (Hu.out.below hba)
  have HB0 : Hid (Below w.heap.size w W0) := Lib.hid (hba.trans (hb0.mono hba.size))
  have Hcs := Lib.hid hcs
  have Hds := Lib.hid hds
  rw [hcs] at hWa
  rw [hds] at hW
  have hgg : w.heap.size + 1 = g2 := by rw [hg2, hWa]; simp
  clear hcs hds Hv Hu Hg hba hb0 HSa hg2
  unfold scrCs
  unfold scrCs at hW hWa
  go_enter Tryz.func3, Tryz.ntmps3
  go_upto_region 1 with fail
  rw [← hWa, ← hW, ← hg]
  clear hWa hW hg hgg
  have crow := HS0.out.1
  rw [Hcs.out] at crow
  have c0 := (cell_at (u := .int .i64 p0) crow 0 rfl).1
  have c1 := (cell_at (u := .int .i64 p1) crow 1 rfl).1
  have c2 := (cell_at (u := .int .i64 p2) crow 2 rfl).1
  have c3 := (cell_at (u := .int .i64 p3) crow 3 rfl).1
  have c4 := (cell_at (u := .int .i64 p4) crow 4 rfl).1
  have c5 := (cell_at (u := .int .i64 p5) crow 5 rfl).1
  have c6 := (cell_at (u := .slice TA nt tc) crow 6 rfl).1
  have c7 := (cell_at (u := .slice UA ns uc) crow 7 rfl).1
  clear crow
  have hv := HS0.out.2
  rw [Hcs.out] at hv
  have HVl := Lib.hid hv
  clear hv
  go_wp2_with fail
  clear c0 c1 c2 c3 c4 c5 c6 c7
  refine (HFew.out (.agg (scrCs p0 p1 p2 p3 p4 p5 TA nt tc UA ns uc)) _ HVl.out).mono ?_
  rintro en w1 ⟨hb1, fb, rfl⟩
  have HS1 := Lib.hid (HS0.out.call hb1)
  have HT1 := Lib.hid (HT0.out.call hb1)
  have HB1 := Lib.hid (HB0.out.trans (hb1.mono HB0.out.size))
  clear hb1 HS0 HT0 HB0 HVl
  cases fb
  · go_wp2_with fail
    refine (HSan.out _ HB1.out).mono ?_
    rintro en w2 ⟨rfl, hb2⟩
    have HS2 := Lib.hid (HS1.out.call hb2)
    have HT2 := Lib.hid (HT1.out.call hb2)
    have HB2 := Lib.hid (HB1.out.trans (hb2.mono HB1.out.size))
    clear hb2 HS1 HT1 HB1
    go_wp2_with fail
    go_ret
    exact ⟨rfl, HB2.out⟩
  have crow := HT1.out.1
  rw [Hds.out] at crow
  have d0 := (cell_at (u := .int .i64 q0) crow 0 rfl).1
  have d1 := (cell_at (u := .int .i64 q1) crow 1 rfl).1
  have d2 := (cell_at (u := .int .i64 q2) crow 2 rfl).1
  have d3 := (cell_at (u := .int .i64 q3) crow 3 rfl).1
  have d4 := (cell_at (u := .int .i64 q4) crow 4 rfl).1
  have d5 := (cell_at (u := .int .i64 q5) crow 5 rfl).1
  have d6 := (cell_at (u := .slice TB nt' tc') crow 6 rfl).1
  have d7 := (cell_at (u := .slice UB ns' uc') crow 7 rfl).1
  clear crow
  have hv := HT1.out.2
  rw [Hds.out] at hv
  have HUl := Lib.hid hv
  clear hv
  go_wp2_with fail
  clear d0 d1 d2 d3 d4 d5 d6 d7
  refine (HFewT.out (.agg (scrCs q0 q1 q2 q3 q4 q5 TB nt' tc' UB ns' uc')) _ HUl.out).mono ?_
  rintro en w2 ⟨hb2, fb, rfl⟩
  have HS2 := Lib.hid (HS1.out.call hb2)
  have HT2 := Lib.hid (HT1.out.call hb2)
  have HB2 := Lib.hid (HB1.out.trans (hb2.mono HB1.out.size))
  clear hb2 HS1 HT1 HB1 HUl
  cases fb
  · go_wp2_with fail
    refine (HSan.out _ HB2.out).mono ?_
    rintro en w3 ⟨rfl, hb3⟩
    have HS3 := Lib.hid (HS2.out.call hb3)
    have HT3 := Lib.hid (HT2.out.call hb3)
    have HB3 := Lib.hid (HB2.out.trans (hb3.mono HB2.out.size))
    clear hb3 HS2 HT2 HB2
    go_wp2_with fail
    go_ret
    exact ⟨rfl, HB3.out⟩
  have crow := HS2.out.1
  rw [Hcs.out] at crow
  have c0 := (cell_at (u := .int .i64 p0) crow 0 rfl).1
  have c1 := (cell_at (u := .int .i64 p1) crow 1 rfl).1
  have c2 := (cell_at (u := .int .i64 p2) crow 2 rfl).1
  have c3 := (cell_at (u := .int .i64 p3) crow 3 rfl).1
  have c4 := (cell_at (u := .int .i64 p4) crow 4 rfl).1
  have c5 := (cell_at (u := .int .i64 p5) crow 5 rfl).1
  have c6 := (cell_at (u := .slice TA nt tc) crow 6 rfl).1
  have c7 := (cell_at (u := .slice UA ns uc) crow 7 rfl).1
  clear crow
  have hv := HS2.out.2
  rw [Hcs.out] at hv
  have HVl := Lib.hid hv
  clear hv
  go_wp2_with fail
  clear c0 c1 c2 c3 c4 c5 c6 c7
  refine (HOwn.out (.agg (scrCs p0 p1 p2 p3 p4 p5 TA nt tc UA ns uc)) _ HVl.out).mono ?_
  rintro en w3 ⟨hb3, va, rfl, hva⟩
  have HS3 := Lib.hid (HS2.out.call hb3)
  have HT3 := Lib.hid (HT2.out.call hb3)
  have HB3 := Lib.hid (HB2.out.trans (hb3.mono HB2.out.size))
  clear hb3 HS2 HT2 HB2 HVl
  have HVA3 := Lib.hid hva
  clear hva
  go_wp2_with fail
  refine (HCk.out _ _ HB3.out HVA3.out).mono ?_
  rintro en w4 ⟨rfl, hb4⟩
  have HS4 := Lib.hid (HS3.out.call hb4)
  have HT4 := Lib.hid (HT3.out.call hb4)
  have HB4 := Lib.hid (HB3.out.trans (hb4.mono HB3.out.size))
  have HVA4 := Lib.hid (HVA3.out.below hb4)
  clear hb4 HS3 HT3 HB3 HVA3
  clear HVA4
  have crow := HS4.out.1
  rw [Hcs.out] at crow
  have c0 := (cell_at (u := .int .i64 p0) crow 0 rfl).1
  have c1 := (cell_at (u := .int .i64 p1) crow 1 rfl).1
  have c2 := (cell_at (u := .int .i64 p2) crow 2 rfl).1
  have c3 := (cell_at (u := .int .i64 p3) crow 3 rfl).1
  have c4 := (cell_at (u := .int .i64 p4) crow 4 rfl).1
  have c5 := (cell_at (u := .int .i64 p5) crow 5 rfl).1
  have c6 := (cell_at (u := .slice TA nt tc) crow 6 rfl).1
  have c7 := (cell_at (u := .slice UA ns uc) crow 7 rfl).1
  clear crow
  have hv := HS4.out.2
  rw [Hcs.out] at hv
  have HVl := Lib.hid hv
  clear hv
  go_wp2_with fail
  clear c0 c1 c2 c3 c4 c5 c6 c7
  refine (HCkR.out (.agg (scrCs p0 p1 p2 p3 p4 p5 TA nt tc UA ns uc)) _ HVl.out).mono ?_
  rintro en w5 ⟨rfl, hb5⟩
  have HS5 := Lib.hid (HS4.out.call hb5)
  have HT5 := Lib.hid (HT4.out.call hb5)
  have HB5 := Lib.hid (HB4.out.trans (hb5.mono HB4.out.size))
  clear hb5 HS4 HT4 HB4 HVl
  have crow := HS5.out.1
  rw [Hcs.out] at crow
  have c0 := (cell_at (u := .int .i64 p0) crow 0 rfl).1
  have c1 := (cell_at (u := .int .i64 p1) crow 1 rfl).1
  have c2 := (cell_at (u := .int .i64 p2) crow 2 rfl).1
  have c3 := (cell_at (u := .int .i64 p3) crow 3 rfl).1
  have c4 := (cell_at (u := .int .i64 p4) crow 4 rfl).1
  have c5 := (cell_at (u := .int .i64 p5) crow 5 rfl).1
  have c6 := (cell_at (u := .slice TA nt tc) crow 6 rfl).1
  have c7 := (cell_at (u := .slice UA ns uc) crow 7 rfl).1
  clear crow
  have hv := HS5.out.2
  rw [Hcs.out] at hv
  have HVl := Lib.hid hv
  clear hv
  go_wp2_with fail
  clear c0 c1 c2 c3 c4 c5 c6 c7
  refine (HOwn.out (.agg (scrCs p0 p1 p2 p3 p4 p5 TA nt tc UA ns uc)) _ HVl.out).mono ?_
  rintro en w6 ⟨hb6, va, rfl, hva⟩
  have HS6 := Lib.hid (HS5.out.call hb6)
  have HT6 := Lib.hid (HT5.out.call hb6)
  have HB6 := Lib.hid (HB5.out.trans (hb6.mono HB5.out.size))
  clear hb6 HS5 HT5 HB5 HVl
  have HVA6 := Lib.hid hva
  clear hva
  go_wp2_with fail
  refine (HEn.out _ _ HB6.out HVA6.out).mono ?_
  rintro en w7 ⟨A1, c1, rfl, hO⟩
  have hb7 := hO.below
  have HO := Lib.hid (own_sl hO.o)
  clear hO
  have HS7 := Lib.hid (HS6.out.call hb7)
  have HT7 := Lib.hid (HT6.out.call hb7)
  have HB7 := Lib.hid (HB6.out.trans (hb7.mono HB6.out.size))
  have HVA7 := Lib.hid (HVA6.out.below hb7)
  clear hb7 HS6 HT6 HB6 HVA6
  have SA7 := Lib.hid HO.out
  clear HO
  clear HVA7
  have crow := HS7.out.1
  rw [Hcs.out] at crow
  have c0 := (cell_at (u := .int .i64 p0) crow 0 rfl).1
  have c1 := (cell_at (u := .int .i64 p1) crow 1 rfl).1
  have c2 := (cell_at (u := .int .i64 p2) crow 2 rfl).1
  have c3 := (cell_at (u := .int .i64 p3) crow 3 rfl).1
  have c4 := (cell_at (u := .int .i64 p4) crow 4 rfl).1
  have c5 := (cell_at (u := .int .i64 p5) crow 5 rfl).1
  have c6 := (cell_at (u := .slice TA nt tc) crow 6 rfl).1
  have c7 := (cell_at (u := .slice UA ns uc) crow 7 rfl).1
  clear crow
  have hv := HS7.out.2
  rw [Hcs.out] at hv
  have HVl := Lib.hid hv
  clear hv
  go_wp2_with fail
  clear c0 c1 c2 c3 c4 c5 c6 c7
  refine (HEnR.out (.agg (scrCs p0 p1 p2 p3 p4 p5 TA nt tc UA ns uc)) _ HVl.out).mono ?_
  rintro en w8 ⟨A2, c2, rfl, hO⟩
  have hb8 := hO.below
  have HO := Lib.hid (own_sl hO.o)
  clear hO
  have HS8 := Lib.hid (HS7.out.call hb8)
  have HT8 := Lib.hid (HT7.out.call hb8)
  have HB8 := Lib.hid (HB7.out.trans (hb8.mono HB7.out.size))
  have SA8 := Lib.hid ((SA7.out.below hb8).more hb8.size)
  clear hb8 HS7 HT7 HB7 SA7
  have SB8 := Lib.hid HO.out
  clear HO
  clear HVl
  have crow := HS8.out.1
  rw [Hcs.out] at crow
  have c0 := (cell_at (u := .int .i64 p0) crow 0 rfl).1
  have c1 := (cell_at (u := .int .i64 p1) crow 1 rfl).1
  have c2 := (cell_at (u := .int .i64 p2) crow 2 rfl).1
  have c3 := (cell_at (u := .int .i64 p3) crow 3 rfl).1
  have c4 := (cell_at (u := .int .i64 p4) crow 4 rfl).1
  have c5 := (cell_at (u := .int .i64 p5) crow 5 rfl).1
  have c6 := (cell_at (u := .slice TA nt tc) crow 6 rfl).1
  have c7 := (cell_at (u := .slice UA ns uc) crow 7 rfl).1
  clear crow
  have hv := HS8.out.2
  rw [Hcs.out] at hv
  have HVl := Lib.hid hv
  clear hv
  go_wp2_with fail
  clear c0 c1 c2 c3 c4 c5 c6 c7
  refine (HOwn.out (.agg (scrCs p0 p1 p2 p3 p4 p5 TA nt tc UA ns uc)) _ HVl.out).mono ?_
  rintro en w9 ⟨hb9, va, rfl, hva⟩
  have HS9 := Lib.hid (HS8.out.call hb9)
  have HT9 := Lib.hid (HT8.out.call hb9)
  have HB9 := Lib.hid (HB8.out.trans (hb9.mono HB8.out.size))
  have SA9 := Lib.hid ((SA8.out.below hb9).more hb9.size)
  have SB9 := Lib.hid ((SB8.out.below hb9).more hb9.size)
  clear hb9 HS8 HT8 HB8 SA8 SB8 HVl
  have HVA9 := Lib.hid hva
  clear hva
  go_wp2_with fail
  refine (HPr.out _ _ HB9.out HVA9.out).mono ?_
  rintro en w10 ⟨rfl, hb10⟩
  have HS10 := Lib.hid (HS9.out.call hb10)
  have HT10 := Lib.hid (HT9.out.call hb10)
  have HB10 := Lib.hid (HB9.out.trans (hb10.mono HB9.out.size))
  have SA10 := Lib.hid ((SA9.out.below hb10).more hb10.size)
  have SB10 := Lib.hid ((SB9.out.below hb10).more hb10.size)
  have HVA10 := Lib.hid (HVA9.out.below hb10)
  clear hb10 HS9 HT9 HB9 SA9 SB9 HVA9
  clear HVA10
  have crow := HS10.out.1
  rw [Hcs.out] at crow
  have c0 := (cell_at (u := .int .i64 p0) crow 0 rfl).1
  have c1 := (cell_at (u := .int .i64 p1) crow 1 rfl).1
  have c2 := (cell_at (u := .int .i64 p2) crow 2 rfl).1
  have c3 := (cell_at (u := .int .i64 p3) crow 3 rfl).1
  have c4 := (cell_at (u := .int .i64 p4) crow 4 rfl).1
  have c5 := (cell_at (u := .int .i64 p5) crow 5 rfl).1
  have c6 := (cell_at (u := .slice TA nt tc) crow 6 rfl).1
  have c7 := (cell_at (u := .slice UA ns uc) crow 7 rfl).1
  clear crow
  have hv := HS10.out.2
  rw [Hcs.out] at hv
  have HVl := Lib.hid hv
  clear hv
  go_wp2_with fail
  clear c0 c1 c2 c3 c4 c5 c6 c7
  refine (HPrR.out (.agg (scrCs p0 p1 p2 p3 p4 p5 TA nt tc UA ns uc)) _ HVl.out).mono ?_
  rintro en w11 ⟨rfl, hb11⟩
  have HS11 := Lib.hid (HS10.out.call hb11)
  have HT11 := Lib.hid (HT10.out.call hb11)
  have HB11 := Lib.hid (HB10.out.trans (hb11.mono HB10.out.size))
  have SA11 := Lib.hid ((SA10.out.below hb11).more hb11.size)
  have SB11 := Lib.hid ((SB10.out.below hb11).more hb11.size)
  clear hb11 HS10 HT10 HB10 SA10 SB10 HVl
  have crow := HS11.out.1
  rw [Hcs.out] at crow
  have c0 := (cell_at (u := .int .i64 p0) crow 0 rfl).1
  have c1 := (cell_at (u := .int .i64 p1) crow 1 rfl).1
  have c2 := (cell_at (u := .int .i64 p2) crow 2 rfl).1
  have c3 := (cell_at (u := .int .i64 p3) crow 3 rfl).1
  have c4 := (cell_at (u := .int .i64 p4) crow 4 rfl).1
  have c5 := (cell_at (u := .int .i64 p5) crow 5 rfl).1
  have c6 := (cell_at (u := .slice TA nt tc) crow 6 rfl).1
  have c7 := (cell_at (u := .slice UA ns uc) crow 7 rfl).1
  clear crow
  have crow := HT11.out.1
  rw [Hds.out] at crow
  have d0 := (cell_at (u := .int .i64 q0) crow 0 rfl).1
  have d1 := (cell_at (u := .int .i64 q1) crow 1 rfl).1
  have d2 := (cell_at (u := .int .i64 q2) crow 2 rfl).1
  have d3 := (cell_at (u := .int .i64 q3) crow 3 rfl).1
  have d4 := (cell_at (u := .int .i64 q4) crow 4 rfl).1
  have d5 := (cell_at (u := .int .i64 q5) crow 5 rfl).1
  have d6 := (cell_at (u := .slice TB nt' tc') crow 6 rfl).1
  have d7 := (cell_at (u := .slice UB ns' uc') crow 7 rfl).1
  clear crow
  have hv := HS11.out.2
  rw [Hcs.out] at hv
  have HVl := Lib.hid hv
  clear hv
  have hv := HT11.out.2
  rw [Hds.out] at hv
  have HUl := Lib.hid hv
  clear hv
  have hltg : g < w11.heap.size := (Array.getElem?_eq_some_iff.1 HS11.out.1).1
  have hltg2 : g2 < w11.heap.size := (Array.getElem?_eq_some_iff.1 HT11.out.1).1
  have KS : Hid (∀ W : World, Below w11.heap.size w11 W → W.cell? ⟨g, 0, none⟩ = some (.int .i64 p0) ∧ W.cell? ⟨g, 1, none⟩ = some (.int .i64 p1) ∧ W.cell? ⟨g, 2, none⟩ = some (.int .i64 p2) ∧ W.cell? ⟨g, 3, none⟩ = some (.int .i64 p3) ∧ W.cell? ⟨g, 4, none⟩ = some (.int .i64 p4) ∧ W.cell? ⟨g, 5, none⟩ = some (.int .i64 p5) ∧ W.cell? ⟨g, 6, none⟩ = some (.slice TA nt tc) ∧ W.cell? ⟨g, 7, none⟩ = some (.slice UA ns uc) ∧ W.cell? ⟨g2, 0, none⟩ = some (.int .i64 q0) ∧ W.cell? ⟨g2, 1, none⟩ = some (.int .i64 q1) ∧ W.cell? ⟨g2, 2, none⟩ = some (.int .i64 q2) ∧ W.cell? ⟨g2, 3, none⟩ = some (.int .i64 q3) ∧ W.cell? ⟨g2, 4, none⟩ = some (.int .i64 q4) ∧ W.cell? ⟨g2, 5, none⟩ = some (.int .i64 q5) ∧ W.cell? ⟨g2, 6, none⟩ = some (.slice TB nt' tc') ∧ W.cell? ⟨g2, 7, none⟩ = some (.slice UB ns' uc')) := fun W hb => ⟨(hb.cell (p := ⟨g, 0, none⟩) hltg).trans c0, (hb.cell (p := ⟨g, 1, none⟩) hltg).trans c1, (hb.cell (p := ⟨g, 2, none⟩) hltg).trans c2, (hb.cell (p := ⟨g, 3, none⟩) hltg).trans c3, (hb.cell (p := ⟨g, 4, none⟩) hltg).trans c4, (hb.cell (p := ⟨g, 5, none⟩) hltg).trans c5, (hb.cell (p := ⟨g, 6, none⟩) hltg).trans c6, (hb.cell (p := ⟨g, 7, none⟩) hltg).trans c7, (hb.cell (p := ⟨g2, 0, none⟩) hltg2).trans d0, (hb.cell (p := ⟨g2, 1, none⟩) hltg2).trans d1, (hb.cell (p := ⟨g2, 2, none⟩) hltg2).trans d2, (hb.cell (p := ⟨g2, 3, none⟩) hltg2).trans d3, (hb.cell (p := ⟨g2, 4, none⟩) hltg2).trans d4, (hb.cell (p := ⟨g2, 5, none⟩) hltg2).trans d5, (hb.cell (p := ⟨g2, 6, none⟩) hltg2).trans d6, (hb.cell (p := ⟨g2, 7, none⟩) hltg2).trans d7⟩
  have B0 : Hid (Below w11.heap.size w11 w11.drew) := (Below.refl _ _).drew
  clear hltg hltg2
  go_wp2_with fail
  clear c0 c1 c2 c3 c4 c5 c6 c7
  clear d0 d1 d2 d3 d4 d5 d6 d7
  refine wp_region_held_drew (S := fun W => W.cell? ⟨g, 0, none⟩ = some (.int .i64 p0) ∧ W.cell? ⟨g, 1, none⟩ = some (.int .i64 p1) ∧ W.cell? ⟨g, 2, none⟩ = some (.int .i64 p2) ∧ W.cell? ⟨g, 3, none⟩ = some (.int .i64 p3) ∧ W.cell? ⟨g, 4, none⟩ = some (.int .i64 p4) ∧ W.cell? ⟨g, 5, none⟩ = some (.int .i64 p5) ∧ W.cell? ⟨g, 6, none⟩ = some (.slice TA nt tc) ∧ W.cell? ⟨g, 7, none⟩ = some (.slice UA ns uc) ∧ W.cell? ⟨g2, 0, none⟩ = some (.int .i64 q0) ∧ W.cell? ⟨g2, 1, none⟩ = some (.int .i64 q1) ∧ W.cell? ⟨g2, 2, none⟩ = some (.int .i64 q2) ∧ W.cell? ⟨g2, 3, none⟩ = some (.int .i64 q3) ∧ W.cell? ⟨g2, 4, none⟩ = some (.int .i64 q4) ∧ W.cell? ⟨g2, 5, none⟩ = some (.int .i64 q5) ∧ W.cell? ⟨g2, 6, none⟩ = some (.slice TB nt' tc') ∧ W.cell? ⟨g2, 7, none⟩ = some (.slice UB ns' uc')) (by kernel_rfl) (KS.out _ B0.out) (fun hHeld => ?_)
  refine wpAnyH_ready (rs := [0]) (by kernel_rfl) (by simp) ?_
  refine (AllReadyH.cons (by simp only [List.getElem?_toArray, List.getElem?_cons_zero] <;> rfl) (fun K hK => ?_) AllReadyH.nil)
  · go_simp
    go_at_call 11
    refine (HSan.out _ (HB11.out.trans (B0.out.mono HB11.out.size))).mono ?_
    rintro en x1 ⟨rfl, hbx⟩
    have B1 := Lib.hid (B0.out.trans (hbx.mono B0.out.size))
    clear hbx
    refine hK.out _ _ (KS.out _ B1.out) (fun hHeld => ?_)
    clear hK K
    try simp only [Act.put, List.setIfInBounds_toArray, List.set_cons_zero, List.set_cons_succ]
    refine wpAnyH_take (i := 1) (v := ?_) (by simp only [List.getElem?_toArray, List.getElem?_cons_zero, List.getElem?_cons_succ] <;> rfl) (by kernel_rfl) (by kernel_rfl) (by kernel_rfl) (by intro _ _ _ h; exact h) (Or.inl ⟨by rfl, ?_⟩) hHeld ?_
    rotate_left
    · intro w hSw; (try dsimp only at hSw); go_simp
      with_reducible rfl
    try simp only [Act.put, List.setIfInBounds_toArray, List.set_cons_zero, List.set_cons_succ]
    refine wpAnyH_take (i := 2) (v := ?_) (by simp only [List.getElem?_toArray, List.getElem?_cons_zero, List.getElem?_cons_succ] <;> rfl) (by kernel_rfl) (by kernel_rfl) (by kernel_rfl) (by intro _ _ _ h; exact h) (Or.inl ⟨by rfl, ?_⟩) hHeld ?_
    rotate_left
    · intro w hSw; (try dsimp only at hSw); go_simp
      with_reducible rfl
    try simp only [Act.put, List.setIfInBounds_toArray, List.set_cons_zero, List.set_cons_succ]
    refine wpAnyH_take (i := 4) (v := ?_) (by simp only [List.getElem?_toArray, List.getElem?_cons_zero, List.getElem?_cons_succ] <;> rfl) (by kernel_rfl) (by kernel_rfl) (by kernel_rfl) (by intro _ _ _ h; exact h) (Or.inl ⟨by rfl, ?_⟩) hHeld ?_
    rotate_left
    · intro w hSw; (try dsimp only at hSw); go_simp
      with_reducible rfl
    try simp only [Act.put, List.setIfInBounds_toArray, List.set_cons_zero, List.set_cons_succ]
    refine wpAnyH_ready (rs := [3]) (by kernel_rfl) (by simp) ?_
    refine (AllReadyH.cons (by simp only [List.getElem?_toArray, List.getElem?_cons_zero, List.getElem?_cons_succ] <;> rfl) (fun K hK => ?_) AllReadyH.nil)
    · go_simp
      go_at_call 19
      refine (HNm.out _ (HB11.out.trans (B1.out.mono HB11.out.size))).mono ?_
      rintro en x2 ⟨rfl, hbx⟩
      have B2 := Lib.hid (B1.out.trans (hbx.mono B1.out.size))
      clear hbx
      refine hK.out _ _ (KS.out _ B2.out) (fun hHeld => ?_)
      clear hK K
      try simp only [Act.put, List.setIfInBounds_toArray, List.set_cons_zero, List.set_cons_succ]
      refine wpAnyH_ready (rs := [5]) (by kernel_rfl) (by simp) ?_
      refine (AllReadyH.cons (by simp only [List.getElem?_toArray, List.getElem?_cons_zero, List.getElem?_cons_succ] <;> rfl) (fun K hK => ?_) AllReadyH.nil)
      · go_simp
        go_at_call 20
        refine (HNmR.out _).mono ?_
        rintro en x3 ⟨rfl, hbx⟩
        have B3 := Lib.hid (B2.out.trans (hbx.mono B2.out.size))
        clear hbx
        refine hK.out _ _ (KS.out _ B3.out) (fun hHeld => ?_)
        clear hK K
        try simp only [Act.put, List.setIfInBounds_toArray, List.set_cons_zero, List.set_cons_succ]
        refine wpAnyH_take (i := 6) (v := ?_) (by simp only [List.getElem?_toArray, List.getElem?_cons_zero, List.getElem?_cons_succ] <;> rfl) (by kernel_rfl) (by kernel_rfl) (by kernel_rfl) (by intro _ _ _ h; exact h) (Or.inl ⟨by rfl, ?_⟩) hHeld ?_
        rotate_left
        · intro w hSw; (try dsimp only at hSw); go_simp
          with_reducible rfl
        try simp only [Act.put, List.setIfInBounds_toArray, List.set_cons_zero, List.set_cons_succ]
        refine wpAnyH_take (i := 7) (v := ?_) (by simp only [List.getElem?_toArray, List.getElem?_cons_zero, List.getElem?_cons_succ] <;> rfl) (by kernel_rfl) (by kernel_rfl) (by kernel_rfl) (by intro _ _ _ h; exact h) (Or.inl ⟨by rfl, ?_⟩) hHeld ?_
        rotate_left
        · intro w hSw; (try dsimp only at hSw); go_simp
          with_reducible rfl
        try simp only [Act.put, List.setIfInBounds_toArray, List.set_cons_zero, List.set_cons_succ]
        refine wpAnyH_take (i := 8) (v := ?_) (by simp only [List.getElem?_toArray, List.getElem?_cons_zero, List.getElem?_cons_succ] <;> rfl) (by kernel_rfl) (by kernel_rfl) (by kernel_rfl) (by intro _ _ _ h; exact h) (Or.inl ⟨by rfl, ?_⟩) hHeld ?_
        rotate_left
        · intro w hSw; (try dsimp only at hSw); go_simp
          with_reducible rfl
        try simp only [Act.put, List.setIfInBounds_toArray, List.set_cons_zero, List.set_cons_succ]
        refine wpAnyH_take (i := 9) (v := ?_) (by simp only [List.getElem?_toArray, List.getElem?_cons_zero, List.getElem?_cons_succ] <;> rfl) (by kernel_rfl) (by kernel_rfl) (by kernel_rfl) (by intro _ _ _ h; exact h) (Or.inl ⟨by rfl, ?_⟩) hHeld ?_
        rotate_left
        · intro w hSw; (try dsimp only at hSw); go_simp
          with_reducible rfl
        try simp only [Act.put, List.setIfInBounds_toArray, List.set_cons_zero, List.set_cons_succ]
        refine wpAnyH_take (i := 11) (v := ?_) (by simp only [List.getElem?_toArray, List.getElem?_cons_zero, List.getElem?_cons_succ] <;> rfl) (by kernel_rfl) (by kernel_rfl) (by kernel_rfl) (by intro _ _ _ h; exact h) (Or.inl ⟨by rfl, ?_⟩) hHeld ?_
        rotate_left
        · intro w hSw; (try dsimp only at hSw); go_simp
          with_reducible rfl
        try simp only [Act.put, List.setIfInBounds_toArray, List.set_cons_zero, List.set_cons_succ]
        refine wpAnyH_ready (rs := [10]) (by kernel_rfl) (by simp) ?_
        refine (AllReadyH.cons (by simp only [List.getElem?_toArray, List.getElem?_cons_zero, List.getElem?_cons_succ] <;> rfl) (fun K hK => ?_) AllReadyH.nil)
        · go_simp
          go_at_call 21
          refine (HAr.out _ (HB11.out.trans (B3.out.mono HB11.out.size))).mono ?_
          rintro en x4 ⟨rfl, hbx⟩
          have B4 := Lib.hid (B3.out.trans (hbx.mono B3.out.size))
          clear hbx
          refine hK.out _ _ (KS.out _ B4.out) (fun hHeld => ?_)
          clear hK K
          try simp only [Act.put, List.setIfInBounds_toArray, List.set_cons_zero, List.set_cons_succ]
          refine wpAnyH_ready (rs := [12]) (by kernel_rfl) (by simp) ?_
          refine (AllReadyH.cons (by simp only [List.getElem?_toArray, List.getElem?_cons_zero, List.getElem?_cons_succ] <;> rfl) (fun K hK => ?_) AllReadyH.nil)
          · go_simp
            go_at_call 22
            refine (HArR.out _).mono ?_
            rintro en x5 ⟨rfl, hbx⟩
            have B5 := Lib.hid (B4.out.trans (hbx.mono B4.out.size))
            clear hbx
            refine hK.out _ _ (KS.out _ B5.out) (fun hHeld => ?_)
            clear hK K
            try simp only [Act.put, List.setIfInBounds_toArray, List.set_cons_zero, List.set_cons_succ]
            refine wpAnyH_take (i := 13) (v := ?_) (by simp only [List.getElem?_toArray, List.getElem?_cons_zero, List.getElem?_cons_succ] <;> rfl) (by kernel_rfl) (by kernel_rfl) (by kernel_rfl) (by intro _ _ _ h; exact h) (Or.inl ⟨by rfl, ?_⟩) hHeld ?_
            rotate_left
            · intro w hSw; (try dsimp only at hSw); go_simp
              with_reducible rfl
            try simp only [Act.put, List.setIfInBounds_toArray, List.set_cons_zero, List.set_cons_succ]
            refine wpAnyH_take (i := 14) (v := ?_) (by simp only [List.getElem?_toArray, List.getElem?_cons_zero, List.getElem?_cons_succ] <;> rfl) (by kernel_rfl) (by kernel_rfl) (by kernel_rfl) (by intro _ _ _ h; exact h) (Or.inl ⟨by rfl, ?_⟩) hHeld ?_
            rotate_left
            · intro w hSw; (try dsimp only at hSw); go_simp
              with_reducible rfl
            try simp only [Act.put, List.setIfInBounds_toArray, List.set_cons_zero, List.set_cons_succ]
            refine wpAnyH_take (i := 15) (v := ?_) (by simp only [List.getElem?_toArray, List.getElem?_cons_zero, List.getElem?_cons_succ] <;> rfl) (by kernel_rfl) (by kernel_rfl) (by kernel_rfl) (by intro _ _ _ h; exact h) (Or.inl ⟨by rfl, ?_⟩) hHeld ?_
            rotate_left
            · intro w hSw; (try dsimp only at hSw); go_simp
              with_reducible rfl
            try simp only [Act.put, List.setIfInBounds_toArray, List.set_cons_zero, List.set_cons_succ]
            refine wpAnyH_take (i := 16) (v := ?_) (by simp only [List.getElem?_toArray, List.getElem?_cons_zero, List.getElem?_cons_succ] <;> rfl) (by kernel_rfl) (by kernel_rfl) (by kernel_rfl) (by intro _ _ _ h; exact h) (Or.inl ⟨by rfl, ?_⟩) hHeld ?_
            rotate_left
            · intro w hSw; (try dsimp only at hSw); go_simp
              with_reducible rfl
            try simp only [Act.put, List.setIfInBounds_toArray, List.set_cons_zero, List.set_cons_succ]
            refine wpAnyH_take (i := 17) (v := ?_) (by simp only [List.getElem?_toArray, List.getElem?_cons_zero, List.getElem?_cons_succ] <;> rfl) (by kernel_rfl) (by kernel_rfl) (by kernel_rfl) (by intro _ _ _ h; exact h) (Or.inl ⟨by rfl, ?_⟩) hHeld ?_
            rotate_left
            · intro w hSw; (try dsimp only at hSw); go_simp
              with_reducible rfl
            try simp only [Act.put, List.setIfInBounds_toArray, List.set_cons_zero, List.set_cons_succ]
            refine wpAnyH_take (i := 18) (v := ?_) (by simp only [List.getElem?_toArray, List.getElem?_cons_zero, List.getElem?_cons_succ] <;> rfl) (by kernel_rfl) (by kernel_rfl) (by kernel_rfl) (by intro _ _ _ h; exact h) (Or.inl ⟨by rfl, ?_⟩) hHeld ?_
            rotate_left
            · intro w hSw; (try dsimp only at hSw); go_simp
              with_reducible rfl
            try simp only [Act.put, List.setIfInBounds_toArray, List.set_cons_zero, List.set_cons_succ]
            refine wpAnyH_take (i := 19) (v := ?_) (by simp only [List.getElem?_toArray, List.getElem?_cons_zero, List.getElem?_cons_succ] <;> rfl) (by kernel_rfl) (by kernel_rfl) (by kernel_rfl) (by intro _ _ _ h; exact h) (Or.inl ⟨by rfl, ?_⟩) hHeld ?_
            rotate_left
            · intro w hSw; (try dsimp only at hSw); go_simp
              with_reducible rfl
            try simp only [Act.put, List.setIfInBounds_toArray, List.set_cons_zero, List.set_cons_succ]
            refine wpAnyH_take (i := 20) (v := ?_) (by simp only [List.getElem?_toArray, List.getElem?_cons_zero, List.getElem?_cons_succ] <;> rfl) (by kernel_rfl) (by kernel_rfl) (by kernel_rfl) (by intro _ _ _ h; exact h) (Or.inl ⟨by rfl, ?_⟩) hHeld ?_
            rotate_left
            · intro w hSw; (try dsimp only at hSw); go_simp
              with_reducible rfl
            try simp only [Act.put, List.setIfInBounds_toArray, List.set_cons_zero, List.set_cons_succ]
            refine wpAnyH_take (i := 21) (v := ?_) (by simp only [List.getElem?_toArray, List.getElem?_cons_zero, List.getElem?_cons_succ] <;> rfl) (by kernel_rfl) (by kernel_rfl) (by kernel_rfl) (by intro _ _ _ h; exact h) (Or.inl ⟨by rfl, ?_⟩) hHeld ?_
            rotate_left
            · intro w hSw; (try dsimp only at hSw); go_simp
              with_reducible rfl
            try simp only [Act.put, List.setIfInBounds_toArray, List.set_cons_zero, List.set_cons_succ]
            refine wpAnyH_take (i := 22) (v := ?_) (by simp only [List.getElem?_toArray, List.getElem?_cons_zero, List.getElem?_cons_succ] <;> rfl) (by kernel_rfl) (by kernel_rfl) (by kernel_rfl) (by intro _ _ _ h; exact h) (Or.inl ⟨by rfl, ?_⟩) hHeld ?_
            rotate_left
            · intro w hSw; (try dsimp only at hSw); go_simp
              with_reducible rfl
            try simp only [Act.put, List.setIfInBounds_toArray, List.set_cons_zero, List.set_cons_succ]
            refine wpAnyH_take (i := 23) (v := ?_) (by simp only [List.getElem?_toArray, List.getElem?_cons_zero, List.getElem?_cons_succ] <;> rfl) (by kernel_rfl) (by kernel_rfl) (by kernel_rfl) (by intro _ _ _ h; exact h) (Or.inl ⟨by rfl, ?_⟩) hHeld ?_
            rotate_left
            · intro w hSw; (try dsimp only at hSw); go_simp
              with_reducible rfl
            try simp only [Act.put, List.setIfInBounds_toArray, List.set_cons_zero, List.set_cons_succ]
            refine wpAnyH_take (i := 24) (v := ?_) (by simp only [List.getElem?_toArray, List.getElem?_cons_zero, List.getElem?_cons_succ] <;> rfl) (by kernel_rfl) (by kernel_rfl) (by kernel_rfl) (by intro _ _ _ h; exact h) (Or.inl ⟨by rfl, ?_⟩) hHeld ?_
            rotate_left
            · intro w hSw; (try dsimp only at hSw); go_simp
              with_reducible rfl
            try simp only [Act.put, List.setIfInBounds_toArray, List.set_cons_zero, List.set_cons_succ]
            refine wpAnyH_take (i := 25) (v := ?_) (by simp only [List.getElem?_toArray, List.getElem?_cons_zero, List.getElem?_cons_succ] <;> rfl) (by kernel_rfl) (by kernel_rfl) (by kernel_rfl) (by intro _ _ _ h; exact h) (Or.inl ⟨by rfl, ?_⟩) hHeld ?_
            rotate_left
            · intro w hSw; (try dsimp only at hSw); go_simp
              with_reducible rfl
            try simp only [Act.put, List.setIfInBounds_toArray, List.set_cons_zero, List.set_cons_succ]
            refine wpAnyH_take (i := 26) (v := ?_) (by simp only [List.getElem?_toArray, List.getElem?_cons_zero, List.getElem?_cons_succ] <;> rfl) (by kernel_rfl) (by kernel_rfl) (by kernel_rfl) (by intro _ _ _ h; exact h) (Or.inl ⟨by rfl, ?_⟩) hHeld ?_
            rotate_left
            · intro w hSw; (try dsimp only at hSw); go_simp
              with_reducible rfl
            try simp only [Act.put, List.setIfInBounds_toArray, List.set_cons_zero, List.set_cons_succ]
            refine wpAnyH_take (i := 28) (v := ?_) (by simp only [List.getElem?_toArray, List.getElem?_cons_zero, List.getElem?_cons_succ] <;> rfl) (by kernel_rfl) (by kernel_rfl) (by kernel_rfl) (by intro _ _ _ h; exact h) (Or.inl ⟨by rfl, ?_⟩) hHeld ?_
            rotate_left
            · intro w hSw; (try dsimp only at hSw); go_simp
              with_reducible rfl
            try simp only [Act.put, List.setIfInBounds_toArray, List.set_cons_zero, List.set_cons_succ]
            refine wpAnyH_take (i := 31) (v := ?_) (by simp only [List.getElem?_toArray, List.getElem?_cons_zero, List.getElem?_cons_succ] <;> rfl) (by kernel_rfl) (by kernel_rfl) (by kernel_rfl) (by intro _ _ _ h; exact h) (Or.inl ⟨by rfl, ?_⟩) hHeld ?_
            rotate_left
            · intro w hSw; (try dsimp only at hSw); go_simp
              with_reducible rfl
            try simp only [Act.put, List.setIfInBounds_toArray, List.set_cons_zero, List.set_cons_succ]
            refine wpAnyH_take (i := 32) (v := ?_) (by simp only [List.getElem?_toArray, List.getElem?_cons_zero, List.getElem?_cons_succ] <;> rfl) (by kernel_rfl) (by kernel_rfl) (by kernel_rfl) (by intro _ _ _ h; exact h) (Or.inl ⟨by rfl, ?_⟩) hHeld ?_
            rotate_left
            · intro w hSw; (try dsimp only at hSw); go_simp
              with_reducible rfl
            try simp only [Act.put, List.setIfInBounds_toArray, List.set_cons_zero, List.set_cons_succ]
            refine wpAnyH_ready (rs := [27]) (by kernel_rfl) (by simp) ?_
            refine (AllReadyH.cons (by simp only [List.getElem?_toArray, List.getElem?_cons_zero, List.getElem?_cons_succ] <;> rfl) (fun K hK => ?_) AllReadyH.nil)
            · go_simp
              go_at_call 13
              refine (HOwn.out (.agg (scrCs p0 p1 p2 p3 p4 p5 TA nt tc UA ns uc)) _ (HVl.out.below B5.out)).mono ?_
              rintro en x6 ⟨hbx, va, rfl, hva⟩
              have B6 := Lib.hid (B5.out.trans (hbx.mono B5.out.size))
              have HVA := Lib.hid hva; clear hva
              clear hbx
              refine hK.out _ _ (KS.out _ B6.out) (fun hHeld => ?_)
              clear hK K
              try simp only [Act.put, List.setIfInBounds_toArray, List.set_cons_zero, List.set_cons_succ]
              refine wpAnyH_ready (rs := [29]) (by kernel_rfl) (by simp) ?_
              refine (AllReadyH.cons (by simp only [List.getElem?_toArray, List.getElem?_cons_zero, List.getElem?_cons_succ] <;> rfl) (fun K hK => ?_) AllReadyH.nil)
              · go_simp
                go_at_call 13
                refine (HOwnT.out (.agg (scrCs q0 q1 q2 q3 q4 q5 TB nt' tc' UB ns' uc')) _ (HUl.out.below B6.out)).mono ?_
                rintro en x7 ⟨hbx, vb, rfl, hvb⟩
                have B7 := Lib.hid (B6.out.trans (hbx.mono B6.out.size))
                have HVB := Lib.hid hvb; clear hvb
                have HVA := Lib.hid (HVA.out.below hbx)
                clear hbx
                refine hK.out _ _ (KS.out _ B7.out) (fun hHeld => ?_)
                clear hK K
                try simp only [Act.put, List.setIfInBounds_toArray, List.set_cons_zero, List.set_cons_succ]
                refine wpAnyH_ready (rs := [30]) (by kernel_rfl) (by simp) ?_
                refine (AllReadyH.cons (by simp only [List.getElem?_toArray, List.getElem?_cons_zero, List.getElem?_cons_succ] <;> rfl) (fun K hK => ?_) AllReadyH.nil)
                · go_simp
                  go_at_call 23
                  refine (HSmP.out va vb _ HVA.out HVB.out).mono ?_
                  rintro en x8 ⟨rfl, hbx⟩
                  have B8 := Lib.hid (B7.out.trans (hbx.mono B7.out.size))
                  clear hbx
                  refine hK.out _ _ (KS.out _ B8.out) (fun hHeld => ?_)
                  clear hK K
                  try simp only [Act.put, List.setIfInBounds_toArray, List.set_cons_zero, List.set_cons_succ]
                  refine wpAnyH_ready (rs := [33]) (by kernel_rfl) (by simp) ?_
                  refine (AllReadyH.cons (by simp only [List.getElem?_toArray, List.getElem?_cons_zero, List.getElem?_cons_succ] <;> rfl) (fun K hK => ?_) AllReadyH.nil)
                  · go_simp
                    go_at_call 24
                    refine (HSm.out (.agg (scrCs p0 p1 p2 p3 p4 p5 TA nt tc UA ns uc)) (.agg (scrCs q0 q1 q2 q3 q4 q5 TB nt' tc' UB ns' uc')) _ (HVl.out.below B8.out) (HUl.out.below B8.out)).mono ?_
                    rintro en x9 ⟨rfl, hbx⟩
                    have B9 := Lib.hid (B8.out.trans (hbx.mono B8.out.size))
                    clear hbx
                    refine hK.out _ _ (KS.out _ B9.out) (fun hHeld => ?_)
                    clear hK K
                    try simp only [Act.put, List.setIfInBounds_toArray, List.set_cons_zero, List.set_cons_succ]
                    refine wpAnyH_take (i := 34) (v := ?_) (by simp only [List.getElem?_toArray, List.getElem?_cons_zero, List.getElem?_cons_succ] <;> rfl) (by kernel_rfl) (by kernel_rfl) (by kernel_rfl) (by intro _ _ _ h; exact h) (Or.inl ⟨by rfl, ?_⟩) hHeld ?_
                    rotate_left
                    · intro w hSw; (try dsimp only at hSw); go_simp
                      with_reducible rfl
                    try simp only [Act.put, List.setIfInBounds_toArray, List.set_cons_zero, List.set_cons_succ]
                    refine wpAnyH_take (i := 35) (v := ?_) (by simp only [List.getElem?_toArray, List.getElem?_cons_zero, List.getElem?_cons_succ] <;> rfl) (by kernel_rfl) (by kernel_rfl) (by kernel_rfl) (by intro _ _ _ h; exact h) (Or.inl ⟨by rfl, ?_⟩) hHeld ?_
                    rotate_left
                    · intro w hSw; (try dsimp only at hSw); go_simp
                      with_reducible rfl
                    try simp only [Act.put, List.setIfInBounds_toArray, List.set_cons_zero, List.set_cons_succ]
                    refine wpAnyH_take (i := 36) (v := ?_) (by simp only [List.getElem?_toArray, List.getElem?_cons_zero, List.getElem?_cons_succ] <;> rfl) (by kernel_rfl) (by kernel_rfl) (by kernel_rfl) (by intro _ _ _ h; exact h) (Or.inl ⟨by rfl, ?_⟩) hHeld ?_
                    rotate_left
                    · intro w hSw; (try dsimp only at hSw); go_simp
                      with_reducible rfl
                    try simp only [Act.put, List.setIfInBounds_toArray, List.set_cons_zero, List.set_cons_succ]
                    refine wpAnyH_take (i := 37) (v := ?_) (by simp only [List.getElem?_toArray, List.getElem?_cons_zero, List.getElem?_cons_succ] <;> rfl) (by kernel_rfl) (by kernel_rfl) (by kernel_rfl) (by intro _ _ _ h; exact h) (Or.inl ⟨by rfl, ?_⟩) hHeld ?_
                    rotate_left
                    · intro w hSw; (try dsimp only at hSw); go_simp
                      with_reducible rfl
                    try simp only [Act.put, List.setIfInBounds_toArray, List.set_cons_zero, List.set_cons_succ]
                    refine wpAnyH_take (i := 38) (v := ?_) (by simp only [List.getElem?_toArray, List.getElem?_cons_zero, List.getElem?_cons_succ] <;> rfl) (by kernel_rfl) (by kernel_rfl) (by kernel_rfl) (by intro _ _ _ h; exact h) (Or.inl ⟨by rfl, ?_⟩) hHeld ?_
                    rotate_left
                    · intro w hSw; (try dsimp only at hSw); go_simp
                      with_reducible rfl
                    try simp only [Act.put, List.setIfInBounds_toArray, List.set_cons_zero, List.set_cons_succ]
                    refine wpAnyH_ready (rs := [39]) (by kernel_rfl) (by simp) ?_
                    refine (AllReadyH.cons (by simp only [List.getElem?_toArray, List.getElem?_cons_zero, List.getElem?_cons_succ] <;> rfl) (fun K hK => ?_) AllReadyH.nil)
                    · go_simp
                      go_at_call 25
                      refine (HSb.out _ _ _ _ _ ((SA11.out.below B9.out).more B9.out.size) ((SB11.out.below B9.out).more B9.out.size)).mono ?_
                      rintro en x10 ⟨rfl, hbx⟩
                      have B10 := Lib.hid (B9.out.trans (hbx.mono B9.out.size))
                      clear hbx
                      refine hK.out _ _ (KS.out _ B10.out) (fun hHeld => ?_)
                      clear hK K
                      try simp only [Act.put, List.setIfInBounds_toArray, List.set_cons_zero, List.set_cons_succ]
                      refine wpAnyH_take (i := 40) (v := ?_) (by simp only [List.getElem?_toArray, List.getElem?_cons_zero, List.getElem?_cons_succ] <;> rfl) (by kernel_rfl) (by kernel_rfl) (by kernel_rfl) (by intro _ _ _ h; exact h) (Or.inl ⟨by rfl, ?_⟩) hHeld ?_
                      rotate_left
                      · intro w hSw; (try dsimp only at hSw); go_simp
                        with_reducible rfl
                      try simp only [Act.put, List.setIfInBounds_toArray, List.set_cons_zero, List.set_cons_succ]
                      refine wpAnyH_take (i := 41) (v := ?_) (by simp only [List.getElem?_toArray, List.getElem?_cons_zero, List.getElem?_cons_succ] <;> rfl) (by kernel_rfl) (by kernel_rfl) (by kernel_rfl) (by intro _ _ _ h; exact h) (Or.inl ⟨by rfl, ?_⟩) hHeld ?_
                      rotate_left
                      · intro w hSw; (try dsimp only at hSw); go_simp
                        with_reducible rfl
                      try simp only [Act.put, List.setIfInBounds_toArray, List.set_cons_zero, List.set_cons_succ]
                      refine wpAnyH_take (i := 42) (v := ?_) (by simp only [List.getElem?_toArray, List.getElem?_cons_zero, List.getElem?_cons_succ] <;> rfl) (by kernel_rfl) (by kernel_rfl) (by kernel_rfl) (by intro _ _ _ h; exact h) (Or.inl ⟨by rfl, ?_⟩) hHeld ?_
                      rotate_left
                      · intro w hSw; (try dsimp only at hSw); go_simp
                        with_reducible rfl
                      try simp only [Act.put, List.setIfInBounds_toArray, List.set_cons_zero, List.set_cons_succ]
                      refine wpAnyH_take (i := 43) (v := ?_) (by simp only [List.getElem?_toArray, List.getElem?_cons_zero, List.getElem?_cons_succ] <;> rfl) (by kernel_rfl) (by kernel_rfl) (by kernel_rfl) (by intro _ _ _ h; exact h) (Or.inl ⟨by rfl, ?_⟩) hHeld ?_
                      rotate_left
                      · intro w hSw; (try dsimp only at hSw); go_simp
                        with_reducible rfl
                      try simp only [Act.put, List.setIfInBounds_toArray, List.set_cons_zero, List.set_cons_succ]
                      refine wpAnyH_take (i := 44) (v := ?_) (by simp only [List.getElem?_toArray, List.getElem?_cons_zero, List.getElem?_cons_succ] <;> rfl) (by kernel_rfl) (by kernel_rfl) (by kernel_rfl) (by intro _ _ _ h; exact h) (Or.inl ⟨by rfl, ?_⟩) hHeld ?_
                      rotate_left
                      · intro w hSw; (try dsimp only at hSw); go_simp
                        with_reducible rfl
                      try simp only [Act.put, List.setIfInBounds_toArray, List.set_cons_zero, List.set_cons_succ]
                      refine wpAnyH_take (i := 45) (v := ?_) (by simp only [List.getElem?_toArray, List.getElem?_cons_zero, List.getElem?_cons_succ] <;> rfl) (by kernel_rfl) (by kernel_rfl) (by kernel_rfl) (by intro _ _ _ h; exact h) (Or.inl ⟨by rfl, ?_⟩) hHeld ?_
                      rotate_left
                      · intro w hSw; (try dsimp only at hSw); go_simp
                        with_reducible rfl
                      try simp only [Act.put, List.setIfInBounds_toArray, List.set_cons_zero, List.set_cons_succ]
                      refine wpAnyH_take (i := 46) (v := ?_) (by simp only [List.getElem?_toArray, List.getElem?_cons_zero, List.getElem?_cons_succ] <;> rfl) (by kernel_rfl) (by kernel_rfl) (by kernel_rfl) (by intro _ _ _ h; exact h) (Or.inl ⟨by rfl, ?_⟩) hHeld ?_
                      rotate_left
                      · intro w hSw; (try dsimp only at hSw); go_simp
                        with_reducible rfl
                      try simp only [Act.put, List.setIfInBounds_toArray, List.set_cons_zero, List.set_cons_succ]
                      refine wpAnyH_take (i := 47) (v := ?_) (by simp only [List.getElem?_toArray, List.getElem?_cons_zero, List.getElem?_cons_succ] <;> rfl) (by kernel_rfl) (by kernel_rfl) (by kernel_rfl) (by intro _ _ _ h; exact h) (Or.inl ⟨by rfl, ?_⟩) hHeld ?_
                      rotate_left
                      · intro w hSw; (try dsimp only at hSw); go_simp
                        with_reducible rfl
                      try simp only [Act.put, List.setIfInBounds_toArray, List.set_cons_zero, List.set_cons_succ]
                      refine wpAnyH_take (i := 48) (v := ?_) (by simp only [List.getElem?_toArray, List.getElem?_cons_zero, List.getElem?_cons_succ] <;> rfl) (by kernel_rfl) (by kernel_rfl) (by kernel_rfl) (by intro _ _ _ h; exact h) (Or.inl ⟨by rfl, ?_⟩) hHeld ?_
                      rotate_left
                      · intro w hSw; (try dsimp only at hSw); go_simp
                        with_reducible rfl
                      try simp only [Act.put, List.setIfInBounds_toArray, List.set_cons_zero, List.set_cons_succ]
                      refine wpAnyH_take (i := 49) (v := ?_) (by simp only [List.getElem?_toArray, List.getElem?_cons_zero, List.getElem?_cons_succ] <;> rfl) (by kernel_rfl) (by kernel_rfl) (by kernel_rfl) (by intro _ _ _ h; exact h) (Or.inl ⟨by rfl, ?_⟩) hHeld ?_
                      rotate_left
                      · intro w hSw; (try dsimp only at hSw); go_simp
                        with_reducible rfl
                      try simp only [Act.put, List.setIfInBounds_toArray, List.set_cons_zero, List.set_cons_succ]
                      refine wpAnyH_take (i := 50) (v := ?_) (by simp only [List.getElem?_toArray, List.getElem?_cons_zero, List.getElem?_cons_succ] <;> rfl) (by kernel_rfl) (by kernel_rfl) (by kernel_rfl) (by intro _ _ _ h; exact h) (Or.inl ⟨by rfl, ?_⟩) hHeld ?_
                      rotate_left
                      · intro w hSw; (try dsimp only at hSw); go_simp
                        with_reducible rfl
                      try simp only [Act.put, List.setIfInBounds_toArray, List.set_cons_zero, List.set_cons_succ]
                      refine wpAnyH_take (i := 51) (v := ?_) (by simp only [List.getElem?_toArray, List.getElem?_cons_zero, List.getElem?_cons_succ] <;> rfl) (by kernel_rfl) (by kernel_rfl) (by kernel_rfl) (by intro _ _ _ h; exact h) (Or.inl ⟨by rfl, ?_⟩) hHeld ?_
                      rotate_left
                      · intro w hSw; (try dsimp only at hSw); go_simp
                        with_reducible rfl
                      try simp only [Act.put, List.setIfInBounds_toArray, List.set_cons_zero, List.set_cons_succ]
                      refine wpAnyH_take (i := 52) (v := ?_) (by simp only [List.getElem?_toArray, List.getElem?_cons_zero, List.getElem?_cons_succ] <;> rfl) (by kernel_rfl) (by kernel_rfl) (by kernel_rfl) (by intro _ _ _ h; exact h) (Or.inl ⟨by rfl, ?_⟩) hHeld ?_
                      rotate_left
                      · intro w hSw; (try dsimp only at hSw); go_simp
                        with_reducible rfl
                      try simp only [Act.put, List.setIfInBounds_toArray, List.set_cons_zero, List.set_cons_succ]
                      refine wpAnyH_take (i := 53) (v := ?_) (by simp only [List.getElem?_toArray, List.getElem?_cons_zero, List.getElem?_cons_succ] <;> rfl) (by kernel_rfl) (by kernel_rfl) (by kernel_rfl) (by intro _ _ _ h; exact h) (Or.inl ⟨by rfl, ?_⟩) hHeld ?_
                      rotate_left
                      · intro w hSw; (try dsimp only at hSw); go_simp
                        with_reducible rfl
                      try simp only [Act.put, List.setIfInBounds_toArray, List.set_cons_zero, List.set_cons_succ]
                      refine wpAnyH_take (i := 54) (v := ?_) (by simp only [List.getElem?_toArray, List.getElem?_cons_zero, List.getElem?_cons_succ] <;> rfl) (by kernel_rfl) (by kernel_rfl) (by kernel_rfl) (by intro _ _ _ h; exact h) (Or.inl ⟨by rfl, ?_⟩) hHeld ?_
                      rotate_left
                      · intro w hSw; (try dsimp only at hSw); go_simp
                        with_reducible rfl
                      try simp only [Act.put, List.setIfInBounds_toArray, List.set_cons_zero, List.set_cons_succ]
                      refine wpAnyH_take (i := 55) (v := ?_) (by simp only [List.getElem?_toArray, List.getElem?_cons_zero, List.getElem?_cons_succ] <;> rfl) (by kernel_rfl) (by kernel_rfl) (by kernel_rfl) (by intro _ _ _ h; exact h) (Or.inl ⟨by rfl, ?_⟩) hHeld ?_
                      rotate_left
                      · intro w hSw; (try dsimp only at hSw); go_simp
                        with_reducible rfl
                      try simp only [Act.put, List.setIfInBounds_toArray, List.set_cons_zero, List.set_cons_succ]
                      refine wpAnyH_take (i := 56) (v := ?_) (by simp only [List.getElem?_toArray, List.getElem?_cons_zero, List.getElem?_cons_succ] <;> rfl) (by kernel_rfl) (by kernel_rfl) (by kernel_rfl) (by intro _ _ _ h; exact h) (Or.inl ⟨by rfl, ?_⟩) hHeld ?_
                      rotate_left
                      · intro w hSw; (try dsimp only at hSw); go_simp
                        with_reducible rfl
                      try simp only [Act.put, List.setIfInBounds_toArray, List.set_cons_zero, List.set_cons_succ]
                      refine wpAnyH_take (i := 57) (v := ?_) (by simp only [List.getElem?_toArray, List.getElem?_cons_zero, List.getElem?_cons_succ] <;> rfl) (by kernel_rfl) (by kernel_rfl) (by kernel_rfl) (by intro _ _ _ h; exact h) (Or.inl ⟨by rfl, ?_⟩) hHeld ?_
                      rotate_left
                      · intro w hSw; (try dsimp only at hSw); go_simp
                        with_reducible rfl
                      try simp only [Act.put, List.setIfInBounds_toArray, List.set_cons_zero, List.set_cons_succ]
                      refine wpAnyH_take (i := 59) (v := ?_) (by simp only [List.getElem?_toArray, List.getElem?_cons_zero, List.getElem?_cons_succ] <;> rfl) (by kernel_rfl) (by kernel_rfl) (by kernel_rfl) (by intro _ _ _ h; exact h) (Or.inl ⟨by rfl, ?_⟩) hHeld ?_
                      rotate_left
                      · intro w hSw; (try dsimp only at hSw); go_simp
                        with_reducible rfl
                      try simp only [Act.put, List.setIfInBounds_toArray, List.set_cons_zero, List.set_cons_succ]
                      refine wpAnyH_ready (rs := [58]) (by kernel_rfl) (by simp) ?_
                      refine (AllReadyH.cons (by simp only [List.getElem?_toArray, List.getElem?_cons_zero, List.getElem?_cons_succ] <;> rfl) (fun K hK => ?_) AllReadyH.nil)
                      · go_simp
                        go_at_call 26
                        refine (HUn.out _).mono ?_
                        rintro en x11 ⟨rfl, hbx⟩
                        have B11 := Lib.hid (B10.out.trans (hbx.mono B10.out.size))
                        clear hbx
                        refine hK.out _ _ (KS.out _ B11.out) (fun hHeld => ?_)
                        clear hK K
                        try simp only [Act.put, List.setIfInBounds_toArray, List.set_cons_zero, List.set_cons_succ]
                        refine wpAnyH_ready (rs := [60]) (by kernel_rfl) (by simp) ?_
                        refine (AllReadyH.cons (by simp only [List.getElem?_toArray, List.getElem?_cons_zero, List.getElem?_cons_succ] <;> rfl) (fun K hK => ?_) AllReadyH.nil)
                        · go_simp
                          go_at_call 27
                          refine (HUnR.out _).mono ?_
                          rintro en x12 ⟨rfl, hbx⟩
                          have B12 := Lib.hid (B11.out.trans (hbx.mono B11.out.size))
                          clear hbx
                          refine hK.out _ _ (KS.out _ B12.out) (fun hHeld => ?_)
                          clear hK K
                          try simp only [Act.put, List.setIfInBounds_toArray, List.set_cons_zero, List.set_cons_succ]
                          refine wpAnyH_take (i := 61) (v := ?_) (by simp only [List.getElem?_toArray, List.getElem?_cons_zero, List.getElem?_cons_succ] <;> rfl) (by kernel_rfl) (by kernel_rfl) (by kernel_rfl) (by intro _ _ _ h; exact h) (Or.inl ⟨by rfl, ?_⟩) hHeld ?_
                          rotate_left
                          · intro w hSw; (try dsimp only at hSw); go_simp
                            with_reducible rfl
                          try simp only [Act.put, List.setIfInBounds_toArray, List.set_cons_zero, List.set_cons_succ]
                          refine wpAnyH_take (i := 62) (v := ?_) (by simp only [List.getElem?_toArray, List.getElem?_cons_zero, List.getElem?_cons_succ] <;> rfl) (by kernel_rfl) (by kernel_rfl) (by kernel_rfl) (by intro _ _ _ h; exact h) (Or.inl ⟨by rfl, ?_⟩) hHeld ?_
                          rotate_left
                          · intro w hSw; (try dsimp only at hSw); go_simp
                            with_reducible rfl
                          try simp only [Act.put, List.setIfInBounds_toArray, List.set_cons_zero, List.set_cons_succ]
                          refine wpAnyH_take (i := 63) (v := ?_) (by simp only [List.getElem?_toArray, List.getElem?_cons_zero, List.getElem?_cons_succ] <;> rfl) (by kernel_rfl) (by kernel_rfl) (by kernel_rfl) (by intro _ _ _ h; exact h) (Or.inl ⟨by rfl, ?_⟩) hHeld ?_
                          rotate_left
                          · intro w hSw; (try dsimp only at hSw); go_simp
                            with_reducible rfl
                          try simp only [Act.put, List.setIfInBounds_toArray, List.set_cons_zero, List.set_cons_succ]
                          refine wpAnyH_done (by kernel_rfl) ?_ _
                          clear hHeld
                          go_wp2_with fail
                          go_ret
                          exact ⟨rfl, HB11.out.trans (B12.out.mono HB11.out.size)⟩
end Go.Proofs.YtdfhbnfhkckkbaaGreatDoor
