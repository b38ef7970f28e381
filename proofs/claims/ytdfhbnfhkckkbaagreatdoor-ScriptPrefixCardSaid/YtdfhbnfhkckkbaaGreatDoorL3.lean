/-
  The law of the canonical form: walked whole (printed by genL3.py).
-/
import Derived.Test.YtdfhbnfhkckkbaaGreatDoorL2
import Derived.Test.YtdfhbnfhkckkbaaGreatDoorW31
namespace Go.Proofs.YtdfhbnfhkckkbaaGreatDoor
open Go Go.RowKit Go.Walks

theorem rd_err {α : Type} {g : Bytes → Except Nat (α × Nat)} (hg : ∀ b e, g b = .error e → e ≠ 0) {b : Bytes} {e : Nat} (h : rd g b = .error e) : e ≠ 0 := by
  unfold rd at h
  split at h
  · rename_i e' he; injection h with h; subst h; exact hg _ _ he
  · cases h
theorem rdL_err {α : Type} {g : Bytes → Rd α} (hg : ∀ b e, g b = .error e → e ≠ 0) : ∀ (n : Nat) (b : Bytes) (e : Nat), rdL g n b = .error e → e ≠ 0
  | 0, b, e, h => by cases h
  | n + 1, b, e, h => by
    rw [rdL] at h
    split at h
    · rename_i e' he; injection h with h; subst h; exact hg _ _ he
    · split at h
      · rename_i e' he; injection h with h; subst h; exact rdL_err hg n _ _ he
      · cases h
theorem int_e (b : Bytes) (e : Nat) (h : getIntB b = .error e) : e ≠ 0 := by have := getInt_err h; omega
theorem ints_e (b : Bytes) (e : Nat) (h : getIntsB b = .error e) : e ≠ 0 := by have := getInts_err h; omega
theorem bytes_e (b : Bytes) (e : Nat) (h : getBytesB b = .error e) : e ≠ 0 := by have := getBytes_err h; omega
theorem cnt_e {top : Int} {b : Bytes} {e : Nat} (h : rdCount top b = .error e) : e ≠ 0 := by
  unfold rdCount at h
  split at h
  · rename_i e' he; injection h with h; subst h; exact rd_err int_e he
  · split at h
    · cases h
    · injection h with h; omega
theorem stp_e (b : Bytes) (e : Nat) (h : rdStep b = .error e) : e ≠ 0 := by
  unfold rdStep at h
  split at h
  · rename_i e' he; injection h with h; subst h; exact rd_err int_e he
  · split at h
    · rename_i e' he; injection h with h; subst h; exact rd_err ints_e he
    · cases h
theorem dec_e {b : Bytes} {e : Nat} (h : decodeB b = .error e) : e ≠ 0 := by
  unfold decodeB at h
  split at h
  · rename_i e' he; injection h with h; subst h; exact rd_err ints_e he
  · split at h
    · injection h with h; omega
    · split at h
      · rename_i e' he; injection h with h; subst h; exact cnt_e he
      · split at h
        · rename_i e' he; injection h with h; subst h; exact rdL_err (fun b e => rd_err bytes_e) _ _ _ he
        · split at h
          · rename_i e' he; injection h with h; subst h; exact cnt_e he
          · split at h
            · rename_i e' he; injection h with h; subst h; exact rdL_err stp_e _ _ _ he
            · split at h
              · injection h with h; omega
              · split at h
                · injection h with h; omega
                · cases h
theorem par_e {t : Bytes} {n e : Nat} (h : parseB t = .error (n, e)) : e ≠ 0 := by
  unfold parseB at h
  split at h
  · injection h with h; injection h with _ h; omega
  · split at h
    · injection h with h; injection h with _ h; omega
    · split at h
      · injection h with h; injection h with _ h; omega
      · split at h
        · rename_i hc; injection h with h; injection h with _ h; omega
        · cases h

set_option maxRecDepth 100000 in
set_option maxHeartbeats 8000000 in
theorem lawCan_any (b : Bytes) (A : Option Addr) (c : Nat) (w : World) (Hg : Hid (Gl w)) (hc : b.length ≤ c) (hcm : c ≤ maxLen) (Hs : Hid (Sl w w.heap.size A (Lib.byteCells b))) : Calls Tryz.prog 7 #[.slice A b.length c] w (BoolR true w) := by
  have hbm : b.length ≤ maxLen := by omega
  have HSan : Hid (∀ W, Below w.heap.size w W → Calls Tryz.prog 11 #[] W (BoolR true W)) := Lib.hid fun W hb => sanity_any W (Lib.hid (Hg.out.below hb))
  have HCk : Hid (∀ S, OkS S → ∀ v W, Below w.heap.size w W → ScriptS W S v → Calls Tryz.prog 12 #[v] W fun e w' => e = .returned (.tuple #[.int .i64 0, .int .i64 0]) ∧ Below W.heap.size W w') := Lib.hid fun S hO v W hb h => by
    have := check_any S v W (Lib.hid (Hg.out.below hb)) (Lib.hid h) (Lib.hid (check_okL hO))
    unfold CheckR at this
    rw [check_zero (check_ok.2 hO)] at this
    exact this
  have HDe : Hid (∀ A n c W, Below w.heap.size w W → n = b.length → n ≤ 20000 → n ≤ c → c ≤ maxLen → Sl W W.heap.size A (Lib.byteCells b) → Calls Tryz.prog 28 #[.slice A n c] W (DecR (decodeB b) W)) := Lib.hid fun A n c W hb hn h0 h1 h2 hs => by
    rw [hn] at h0 h1 ⊢
    exact decode_any b A c W (Lib.hid (Hg.out.below hb)) (by omega) h1 (by unfold maxLen at h2; omega) (Lib.hid hs)
  have HEn : Hid (∀ S, decodeB b = .ok S → ∀ v W, Below w.heap.size w W → ScriptS W S v → Calls Tryz.prog 15 #[v] W (EncR (b, 0) W)) := Lib.hid fun S hd v W hb h => by
    obtain ⟨e1, -, hO⟩ := enc_decode hd
    have := encode_any S v W (Lib.hid (Hg.out.below hb)) (Lib.hid h) (Lib.hid (check_okL hO))
    rw [show encodeB S = (b, 0) by unfold encodeB; rw [if_neg (by rw [check_zero (check_ok.2 hO)]; exact fun k => k rfl), ← e1]] at this
    exact this
  have HSm : Hid (∀ A c A' c' W, Sl W W.heap.size A (Lib.byteCells b) → Sl W W.heap.size A' (Lib.byteCells b) → Calls Tryz.prog 25 #[.slice A b.length c, .slice A' b.length c'] W (BoolR true W)) := Lib.hid fun A c A' c' W h1 h2 => by
    have := sameBytes_any b b A A' c c' W (by omega) (Lib.hid h1) (Lib.hid h2)
    rw [decide_eq_true rfl] at this
    exact this
  have HPa : Hid (b.length ≤ 20000 → ∀ W, Below w.heap.size w W → Calls Tryz.prog 31 #[.string ⟨b.toArray⟩] W (ParR b W)) := Lib.hid fun h0 W hb => parse_any b W (Lib.hid (Hg.out.below hb)) (by omega)
  have HPr : Hid (∀ S, parseB b = .ok S → ∀ v W, Below w.heap.size w W → ScriptS W S v → Calls Tryz.prog 17 #[v] W fun e w' => e = .returned (.tuple #[.string ⟨b.toArray⟩, .int .i64 0]) ∧ Below W.heap.size W w') := Lib.hid fun S hd v W hb h => by
    obtain ⟨e1, -, hO, hle⟩ := print_parse hd
    have := print_any S v W (Lib.hid (Hg.out.below hb)) (Lib.hid h) (Lib.hid (check_okL hO))
    rw [show printB S = (b, 0) by unfold printB; rw [if_neg (by rw [check_zero (check_ok.2 hO)]; exact fun k => k rfl), if_neg (by rw [e1]; omega), e1]] at this
    exact this
  have HB0 : Hid (Below w.heap.size w w) := Below.refl _ _
  have HL0 := Lib.hid Hs.out
  obtain ⟨n, hn⟩ : ∃ n, n = b.length := ⟨_, rfl⟩
  rw [← hn] at HSm hc ⊢
  have Hn := Lib.hid hn
  have hmx : b.length = n := hn.symm
  rw [← hn] at hbm
  clear hn Hs Hg
  by_cases hgt : (20000 : Int) < (n : Int)
  · go_enter Tryz.func7, Tryz.ntmps7
    go_wp2_with fail
    refine (HSan.out _ HB0.out).mono ?_
    rintro en w1 ⟨rfl, hb1⟩
    have HB1 := Lib.hid (HB0.out.trans (hb1.mono HB0.out.size))
    have HL1 := Lib.hid ((HL0.out.below hb1).more hb1.size)
    clear hb1 HB0 HL0
    go_wp2_with fail
    go_ret
    exact ⟨rfl, HB1.out⟩
  have hle : n ≤ 20000 := by omega
  go_enter Tryz.func7, Tryz.ntmps7
  go_wp2_with fail
  refine (HDe.out A n c _ HB0.out Hn.out hle hc hcm HL0.out).mono ?_
  unfold DecR
  cases hdb : decodeB b with
  | error er =>
    have her := dec_e hdb
    clear hdb
    dsimp only
    unfold scrCs
    rintro en w1 ⟨hb1, rfl⟩
    have HB1 := Lib.hid (HB0.out.trans (hb1.mono HB0.out.size))
    have HL1 := Lib.hid ((HL0.out.below hb1).more hb1.size)
    clear hb1 HB0 HL0
    obtain ⟨W2, hW⟩ : ∃ W, W = w1.alloc (.cells #[.int .i64 0, .int .i64 0, .int .i64 0, .int .i64 0, .int .i64 0, .int .i64 0, .slice none 0 0, .slice none 0 0] 35) := ⟨_, rfl⟩
    have hb2 : Below w1.heap.size w1 W2 := by rw [hW]; exact (Below.refl _ _).alloc (Nat.le_refl _) _
    have HB2 := Lib.hid (HB1.out.trans (hb2.mono HB1.out.size))
    have HL2 := Lib.hid ((HL1.out.below hb2).more hb2.size)
    clear hb2 HB1 HL1
    go_upto_region 4 with fail
    rw [← hW]
    clear hW
    have hne : ¬ ((er : Int) = 0) := by omega
    have hne2 : ((er : Int) == 0) = false := by simp; omega
    have hcv := conv_bytes (c := c) HL2.out
    rw [hmx] at hcv
    go_wp2_with fail
    clear hcv
    refine (HPa.out (by have := Hn.out; omega) _ HB2.out).mono ?_
    unfold ParR
    cases hpb : parseB b with
    | error x =>
      obtain ⟨ln, er⟩ := x
      have her := par_e hpb
      clear hpb
      dsimp only
      unfold scrCs
      rintro en w3 ⟨hb3, rfl⟩
      have HB3 := Lib.hid (HB2.out.trans (hb3.mono HB2.out.size))
      have HL3 := Lib.hid ((HL2.out.below hb3).more hb3.size)
      clear hb3 HB2 HL2
      obtain ⟨W4, hW⟩ : ∃ W, W = w3.alloc (.cells #[.int .i64 0, .int .i64 0, .int .i64 0, .int .i64 0, .int .i64 0, .int .i64 0, .slice none 0 0, .slice none 0 0] 35) := ⟨_, rfl⟩
      have hb4 : Below w3.heap.size w3 W4 := by rw [hW]; exact (Below.refl _ _).alloc (Nat.le_refl _) _
      have HB4 := Lib.hid (HB3.out.trans (hb4.mono HB3.out.size))
      have HL4 := Lib.hid ((HL3.out.below hb4).more hb4.size)
      clear hb4 HB3 HL3
      go_upto_region 10 with fail
      rw [← hW]
      clear hW
      have hne : ¬ ((er : Int) = 0) := by omega
      have hne2 : ((er : Int) == 0) = false := by simp; omega
      go_wp2_with fail
      refine (HSan.out _ HB4.out).mono ?_
      rintro en w5 ⟨rfl, hb5⟩
      have HB5 := Lib.hid (HB4.out.trans (hb5.mono HB4.out.size))
      have HL5 := Lib.hid ((HL4.out.below hb5).more hb5.size)
      clear hb5 HB4 HL4
      go_wp2_with fail
      go_ret
      exact ⟨rfl, HB5.out⟩
    | ok S =>
      have HpO := Lib.hid (HPr.out S hpb)
      have HcO := Lib.hid (HCk.out S (print_parse hpb).2.2.1)
      clear hpb
      dsimp only
      rintro en w3 ⟨hb3, vb, rfl, hvb⟩
      have HB3 := Lib.hid (HB2.out.trans (hb3.mono HB2.out.size))
      have HL3 := Lib.hid ((HL2.out.below hb3).more hb3.size)
      clear hb3 HB2 HL2
      obtain ⟨q0, q1, q2, q3, q4, q5, T', tc', U', uc', rfl, hp⟩ := hvb
      obtain ⟨nt', hnt⟩ : ∃ n, n = S.texts.length := ⟨_, rfl⟩
      obtain ⟨ns', hns⟩ : ∃ n, n = S.steps.length := ⟨_, rfl⟩
      have HVx : Hid (ScriptS w3 S (.agg (scrCs q0 q1 q2 q3 q4 q5 T' nt' tc' U' ns' uc'))) := ⟨q0, q1, q2, q3, q4, q5, T', tc', U', uc', by rw [hnt, hns], hp⟩
      rw [← hnt, ← hns]
      obtain ⟨ds, hcs⟩ : ∃ cs, cs = scrCs q0 q1 q2 q3 q4 q5 T' nt' tc' U' ns' uc' := ⟨_, rfl⟩
      rw [← hcs] at HVx
      obtain ⟨g9, hg⟩ : ∃ g, g = w3.heap.size := ⟨_, rfl⟩
      obtain ⟨W4, hW⟩ : ∃ W, W = w3.alloc (.cells ds 35) := ⟨_, rfl⟩
      have HZ4 : Hid (SNt 35 S g9 ds W4) := by rw [hW, hg]; exact SNt.start HVx.out
      have hb4 : Below w3.heap.size w3 W4 := by rw [hW]; exact (Below.refl _ _).alloc (Nat.le_refl _) _
      have Hds := Lib.hid hcs
      rw [hcs] at hW
      have HB4 := Lib.hid (HB3.out.trans (hb4.mono HB3.out.size))
      have HL4 := Lib.hid ((HL3.out.below hb4).more hb4.size)
      clear hb4 HB3 HL3 hp hnt hns hcs HVx
      unfold scrCs
      unfold scrCs at hW
      go_upto_region 10 with fail
      rw [← hW, ← hg]
      clear hW hg
      have crow := HZ4.out.1
      rw [Hds.out] at crow
      have d0 := (cell_at (u := .int .i64 q0) crow 0 rfl).1
      have d1 := (cell_at (u := .int .i64 q1) crow 1 rfl).1
      have d2 := (cell_at (u := .int .i64 q2) crow 2 rfl).1
      have d3 := (cell_at (u := .int .i64 q3) crow 3 rfl).1
      have d4 := (cell_at (u := .int .i64 q4) crow 4 rfl).1
      have d5 := (cell_at (u := .int .i64 q5) crow 5 rfl).1
      have d6 := (cell_at (u := .slice T' nt' tc') crow 6 rfl).1
      have d7 := (cell_at (u := .slice U' ns' uc') crow 7 rfl).1
      clear crow
      have hz := HZ4.out.2
      rw [Hds.out] at hz
      have HVz := Lib.hid hz
      clear hz
      go_wp2_with fail
      clear d0 d1 d2 d3 d4 d5 d6 d7
      refine (HcO.out (.agg (scrCs q0 q1 q2 q3 q4 q5 T' nt' tc' U' ns' uc')) _ HB4.out HVz.out).mono ?_
      rintro en w5 ⟨rfl, hb5⟩
      have HB5 := Lib.hid (HB4.out.trans (hb5.mono HB4.out.size))
      have HL5 := Lib.hid ((HL4.out.below hb5).more hb5.size)
      have HZ5 := Lib.hid (HZ4.out.call hb5)
      clear hb5 HB4 HL4 HZ4 HVz
      have crow := HZ5.out.1
      rw [Hds.out] at crow
      have d0 := (cell_at (u := .int .i64 q0) crow 0 rfl).1
      have d1 := (cell_at (u := .int .i64 q1) crow 1 rfl).1
      have d2 := (cell_at (u := .int .i64 q2) crow 2 rfl).1
      have d3 := (cell_at (u := .int .i64 q3) crow 3 rfl).1
      have d4 := (cell_at (u := .int .i64 q4) crow 4 rfl).1
      have d5 := (cell_at (u := .int .i64 q5) crow 5 rfl).1
      have d6 := (cell_at (u := .slice T' nt' tc') crow 6 rfl).1
      have d7 := (cell_at (u := .slice U' ns' uc') crow 7 rfl).1
      clear crow
      have hz := HZ5.out.2
      rw [Hds.out] at hz
      have HVz := Lib.hid hz
      clear hz
      go_wp2_with fail
      clear d0 d1 d2 d3 d4 d5 d6 d7
      refine (HpO.out (.agg (scrCs q0 q1 q2 q3 q4 q5 T' nt' tc' U' ns' uc')) _ HB5.out HVz.out).mono ?_
      rintro en w6 ⟨rfl, hb6⟩
      have HB6 := Lib.hid (HB5.out.trans (hb6.mono HB5.out.size))
      have HL6 := Lib.hid ((HL5.out.below hb6).more hb6.size)
      have HZ6 := Lib.hid (HZ5.out.call hb6)
      clear hb6 HB5 HL5 HZ5 HVz
      have hcv := conv_bytes (c := c) HL6.out
      rw [hmx] at hcv
      go_wp2_with fail
      clear hcv
      refine (HSan.out _ HB6.out).mono ?_
      rintro en w7 ⟨rfl, hb7⟩
      have HB7 := Lib.hid (HB6.out.trans (hb7.mono HB6.out.size))
      have HL7 := Lib.hid ((HL6.out.below hb7).more hb7.size)
      have HZ7 := Lib.hid (HZ6.out.call hb7)
      clear hb7 HB6 HL6 HZ6
      go_wp2_with fail
      go_ret
      exact ⟨rfl, HB7.out⟩
  | ok S1 =>
    have HeO := Lib.hid (HEn.out S1 hdb)
    have HcO := Lib.hid (HCk.out S1 (enc_decode hdb).2.2)
    clear hdb
    dsimp only
    rintro en w1 ⟨hb1, va, rfl, hva⟩
    have HB1 := Lib.hid (HB0.out.trans (hb1.mono HB0.out.size))
    have HL1 := Lib.hid ((HL0.out.below hb1).more hb1.size)
    clear hb1 HB0 HL0
    obtain ⟨p0, p1, p2, p3, p4, p5, T, tc, U, uc, rfl, hp⟩ := hva
    obtain ⟨nt, hnt⟩ : ∃ n, n = S1.texts.length := ⟨_, rfl⟩
    obtain ⟨ns, hns⟩ : ∃ n, n = S1.steps.length := ⟨_, rfl⟩
    have HVx : Hid (ScriptS w1 S1 (.agg (scrCs p0 p1 p2 p3 p4 p5 T nt tc U ns uc))) := ⟨p0, p1, p2, p3, p4, p5, T, tc, U, uc, by rw [hnt, hns], hp⟩
    rw [← hnt, ← hns]
    obtain ⟨cs, hcs⟩ : ∃ cs, cs = scrCs p0 p1 p2 p3 p4 p5 T nt tc U ns uc := ⟨_, rfl⟩
    rw [← hcs] at HVx
    obtain ⟨g3, hg⟩ : ∃ g, g = w1.heap.size := ⟨_, rfl⟩
    obtain ⟨W2, hW⟩ : ∃ W, W = w1.alloc (.cells cs 35) := ⟨_, rfl⟩
    have HS2 : Hid (SNt 35 S1 g3 cs W2) := by rw [hW, hg]; exact SNt.start HVx.out
    have hb2 : Below w1.heap.size w1 W2 := by rw [hW]; exact (Below.refl _ _).alloc (Nat.le_refl _) _
    have Hcs := Lib.hid hcs
    rw [hcs] at hW
    have HB2 := Lib.hid (HB1.out.trans (hb2.mono HB1.out.size))
    have HL2 := Lib.hid ((HL1.out.below hb2).more hb2.size)
    clear hb2 HB1 HL1 hp hnt hns hcs HVx
    unfold scrCs
    unfold scrCs at hW
    go_upto_region 4 with fail
    rw [← hW, ← hg]
    clear hW hg
    have crow := HS2.out.1
    rw [Hcs.out] at crow
    have c0 := (cell_at (u := .int .i64 p0) crow 0 rfl).1
    have c1 := (cell_at (u := .int .i64 p1) crow 1 rfl).1
    have c2 := (cell_at (u := .int .i64 p2) crow 2 rfl).1
    have c3 := (cell_at (u := .int .i64 p3) crow 3 rfl).1
    have c4 := (cell_at (u := .int .i64 p4) crow 4 rfl).1
    have c5 := (cell_at (u := .int .i64 p5) crow 5 rfl).1
    have c6 := (cell_at (u := .slice T nt tc) crow 6 rfl).1
    have c7 := (cell_at (u := .slice U ns uc) crow 7 rfl).1
    clear crow
    have hv := HS2.out.2
    rw [Hcs.out] at hv
    have HVl := Lib.hid hv
    clear hv
    go_wp2_with fail
    clear c0 c1 c2 c3 c4 c5 c6 c7
    refine (HcO.out (.agg (scrCs p0 p1 p2 p3 p4 p5 T nt tc U ns uc)) _ HB2.out HVl.out).mono ?_
    rintro en w3 ⟨rfl, hb3⟩
    have HB3 := Lib.hid (HB2.out.trans (hb3.mono HB2.out.size))
    have HL3 := Lib.hid ((HL2.out.below hb3).more hb3.size)
    have HS3 := Lib.hid (HS2.out.call hb3)
    clear hb3 HB2 HL2 HS2 HVl
    have crow := HS3.out.1
    rw [Hcs.out] at crow
    have c0 := (cell_at (u := .int .i64 p0) crow 0 rfl).1
    have c1 := (cell_at (u := .int .i64 p1) crow 1 rfl).1
    have c2 := (cell_at (u := .int .i64 p2) crow 2 rfl).1
    have c3 := (cell_at (u := .int .i64 p3) crow 3 rfl).1
    have c4 := (cell_at (u := .int .i64 p4) crow 4 rfl).1
    have c5 := (cell_at (u := .int .i64 p5) crow 5 rfl).1
    have c6 := (cell_at (u := .slice T nt tc) crow 6 rfl).1
    have c7 := (cell_at (u := .slice U ns uc) crow 7 rfl).1
    clear crow
    have hv := HS3.out.2
    rw [Hcs.out] at hv
    have HVl := Lib.hid hv
    clear hv
    go_wp2_with fail
    clear c0 c1 c2 c3 c4 c5 c6 c7
    refine (HeO.out (.agg (scrCs p0 p1 p2 p3 p4 p5 T nt tc U ns uc)) _ HB3.out HVl.out).mono ?_
    unfold EncR
    dsimp only
    rw [hmx]
    rintro en w4 ⟨A2, c2, rfl, hO⟩
    have hb4 := hO.below
    have HO := Lib.hid hO.o
    clear hO
    have HB4 := Lib.hid (HB3.out.trans (hb4.mono HB3.out.size))
    have HL4 := Lib.hid ((HL3.out.below hb4).more hb4.size)
    have HS4 := Lib.hid (HS3.out.call hb4)
    clear hb4 HB3 HL3 HS3 HVl
    go_wp2_with fail
    refine (HSm.out A c A2 c2 _ HL4.out (own_sl HO.out)).mono ?_
    rintro en w5 ⟨rfl, hb5⟩
    have HB5 := Lib.hid (HB4.out.trans (hb5.mono HB4.out.size))
    have HL5 := Lib.hid ((HL4.out.below hb5).more hb5.size)
    have HS5 := Lib.hid (HS4.out.call hb5)
    clear hb5 HB4 HL4 HS4 HO
    clear HS5
    clear HeO HcO
    have hcv := conv_bytes (c := c) HL5.out
    rw [hmx] at hcv
    go_wp2_with fail
    clear hcv
    refine (HPa.out (by have := Hn.out; omega) _ HB5.out).mono ?_
    unfold ParR
    cases hpb : parseB b with
    | error x =>
      obtain ⟨ln, er⟩ := x
      have her := par_e hpb
      clear hpb
      dsimp only
      unfold scrCs
      rintro en w6 ⟨hb6, rfl⟩
      have HB6 := Lib.hid (HB5.out.trans (hb6.mono HB5.out.size))
      have HL6 := Lib.hid ((HL5.out.below hb6).more hb6.size)
      clear hb6 HB5 HL5
      obtain ⟨W7, hW⟩ : ∃ W, W = w6.alloc (.cells #[.int .i64 0, .int .i64 0, .int .i64 0, .int .i64 0, .int .i64 0, .int .i64 0, .slice none 0 0, .slice none 0 0] 35) := ⟨_, rfl⟩
      have hb7 : Below w6.heap.size w6 W7 := by rw [hW]; exact (Below.refl _ _).alloc (Nat.le_refl _) _
      have HB7 := Lib.hid (HB6.out.trans (hb7.mono HB6.out.size))
      have HL7 := Lib.hid ((HL6.out.below hb7).more hb7.size)
      clear hb7 HB6 HL6
      go_upto_region 10 with fail
      rw [← hW]
      clear hW
      have hne : ¬ ((er : Int) = 0) := by omega
      have hne2 : ((er : Int) == 0) = false := by simp; omega
      go_wp2_with fail
      refine (HSan.out _ HB7.out).mono ?_
      rintro en w8 ⟨rfl, hb8⟩
      have HB8 := Lib.hid (HB7.out.trans (hb8.mono HB7.out.size))
      have HL8 := Lib.hid ((HL7.out.below hb8).more hb8.size)
      clear hb8 HB7 HL7
      go_wp2_with fail
      go_ret
      exact ⟨rfl, HB8.out⟩
    | ok S =>
      have HpO := Lib.hid (HPr.out S hpb)
      have HcO := Lib.hid (HCk.out S (print_parse hpb).2.2.1)
      clear hpb
      dsimp only
      rintro en w6 ⟨hb6, vb, rfl, hvb⟩
      have HB6 := Lib.hid (HB5.out.trans (hb6.mono HB5.out.size))
      have HL6 := Lib.hid ((HL5.out.below hb6).more hb6.size)
      clear hb6 HB5 HL5
      obtain ⟨q0, q1, q2, q3, q4, q5, T', tc', U', uc', rfl, hp⟩ := hvb
      obtain ⟨nt', hnt⟩ : ∃ n, n = S.texts.length := ⟨_, rfl⟩
      obtain ⟨ns', hns⟩ : ∃ n, n = S.steps.length := ⟨_, rfl⟩
      have HVx : Hid (ScriptS w6 S (.agg (scrCs q0 q1 q2 q3 q4 q5 T' nt' tc' U' ns' uc'))) := ⟨q0, q1, q2, q3, q4, q5, T', tc', U', uc', by rw [hnt, hns], hp⟩
      rw [← hnt, ← hns]
      obtain ⟨ds, hcs⟩ : ∃ cs, cs = scrCs q0 q1 q2 q3 q4 q5 T' nt' tc' U' ns' uc' := ⟨_, rfl⟩
      rw [← hcs] at HVx
      obtain ⟨g9, hg⟩ : ∃ g, g = w6.heap.size := ⟨_, rfl⟩
      obtain ⟨W7, hW⟩ : ∃ W, W = w6.alloc (.cells ds 35) := ⟨_, rfl⟩
      have HZ7 : Hid (SNt 35 S g9 ds W7) := by rw [hW, hg]; exact SNt.start HVx.out
      have hb7 : Below w6.heap.size w6 W7 := by rw [hW]; exact (Below.refl _ _).alloc (Nat.le_refl _) _
      have Hds := Lib.hid hcs
      rw [hcs] at hW
      have HB7 := Lib.hid (HB6.out.trans (hb7.mono HB6.out.size))
      have HL7 := Lib.hid ((HL6.out.below hb7).more hb7.size)
      clear hb7 HB6 HL6 hp hnt hns hcs HVx
      unfold scrCs
      unfold scrCs at hW
      go_upto_region 10 with fail
      rw [← hW, ← hg]
      clear hW hg
      have crow := HZ7.out.1
      rw [Hds.out] at crow
      have d0 := (cell_at (u := .int .i64 q0) crow 0 rfl).1
      have d1 := (cell_at (u := .int .i64 q1) crow 1 rfl).1
      have d2 := (cell_at (u := .int .i64 q2) crow 2 rfl).1
      have d3 := (cell_at (u := .int .i64 q3) crow 3 rfl).1
      have d4 := (cell_at (u := .int .i64 q4) crow 4 rfl).1
      have d5 := (cell_at (u := .int .i64 q5) crow 5 rfl).1
      have d6 := (cell_at (u := .slice T' nt' tc') crow 6 rfl).1
      have d7 := (cell_at (u := .slice U' ns' uc') crow 7 rfl).1
      clear crow
      have hz := HZ7.out.2
      rw [Hds.out] at hz
      have HVz := Lib.hid hz
      clear hz
      go_wp2_with fail
      clear d0 d1 d2 d3 d4 d5 d6 d7
      refine (HcO.out (.agg (scrCs q0 q1 q2 q3 q4 q5 T' nt' tc' U' ns' uc')) _ HB7.out HVz.out).mono ?_
      rintro en w8 ⟨rfl, hb8⟩
      have HB8 := Lib.hid (HB7.out.trans (hb8.mono HB7.out.size))
      have HL8 := Lib.hid ((HL7.out.below hb8).more hb8.size)
      have HZ8 := Lib.hid (HZ7.out.call hb8)
      clear hb8 HB7 HL7 HZ7 HVz
      have crow := HZ8.out.1
      rw [Hds.out] at crow
      have d0 := (cell_at (u := .int .i64 q0) crow 0 rfl).1
      have d1 := (cell_at (u := .int .i64 q1) crow 1 rfl).1
      have d2 := (cell_at (u := .int .i64 q2) crow 2 rfl).1
      have d3 := (cell_at (u := .int .i64 q3) crow 3 rfl).1
      have d4 := (cell_at (u := .int .i64 q4) crow 4 rfl).1
      have d5 := (cell_at (u := .int .i64 q5) crow 5 rfl).1
      have d6 := (cell_at (u := .slice T' nt' tc') crow 6 rfl).1
      have d7 := (cell_at (u := .slice U' ns' uc') crow 7 rfl).1
      clear crow
      have hz := HZ8.out.2
      rw [Hds.out] at hz
      have HVz := Lib.hid hz
      clear hz
      go_wp2_with fail
      clear d0 d1 d2 d3 d4 d5 d6 d7
      refine (HpO.out (.agg (scrCs q0 q1 q2 q3 q4 q5 T' nt' tc' U' ns' uc')) _ HB8.out HVz.out).mono ?_
      rintro en w9 ⟨rfl, hb9⟩
      have HB9 := Lib.hid (HB8.out.trans (hb9.mono HB8.out.size))
      have HL9 := Lib.hid ((HL8.out.below hb9).more hb9.size)
      have HZ9 := Lib.hid (HZ8.out.call hb9)
      clear hb9 HB8 HL8 HZ8 HVz
      have hcv := conv_bytes (c := c) HL9.out
      rw [hmx] at hcv
      go_wp2_with fail
      clear hcv
      refine (HSan.out _ HB9.out).mono ?_
      rintro en w10 ⟨rfl, hb10⟩
      have HB10 := Lib.hid (HB9.out.trans (hb10.mono HB9.out.size))
      have HL10 := Lib.hid ((HL9.out.below hb10).more hb10.size)
      have HZ10 := Lib.hid (HZ9.out.call hb10)
      clear hb10 HB9 HL9 HZ9
      go_wp2_with fail
      go_ret
      exact ⟨rfl, HB10.out⟩
end Go.Proofs.YtdfhbnfhkckkbaaGreatDoor
