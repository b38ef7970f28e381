/-
  The law of the round trip: walked whole (printed by genL2.py).
-/
import Derived.Test.YtdfhbnfhkckkbaaGreatDoorW30
import Derived.Test.YtdfhbnfhkckkbaaGreatDoorP1
import Derived.Deep.RegionHeld3
namespace Go.Proofs.YtdfhbnfhkckkbaaGreatDoor
open Go Go.RowKit Go.Walks

/-- A script in a variable. -/
def SNt (ty : TypeId) (S : ScriptD) (g : Nat) (cs : Array Value) (W : World) : Prop := W.heap[g]? = some (.cells cs ty) ∧ ScriptS W S (.agg cs)
theorem SNt.call {ty : TypeId} {S : ScriptD} {W W' : World} {g : Nat} {cs : Array Value} (h : SNt ty S g cs W) (hb : Below W.heap.size W W') : SNt ty S g cs W' := ⟨below_cells h.1 hb, h.2.below hb⟩
theorem SNt.start {ty : TypeId} {S : ScriptD} {W : World} {cs : Array Value} (h : ScriptS W S (.agg cs)) : SNt ty S W.heap.size cs (W.alloc (.cells cs ty)) := ⟨heap_new _ _, h.below ((Below.refl _ _).alloc (Nat.le_refl _) _)⟩
theorem ints_le {l : List Int} {m : Nat} (hm : l.length ≤ m) (hm2 : m ≤ 1000) (h : ∀ n ∈ l, I64 n) : (intsB l).length ≤ 9 + 9 * m := by
  unfold intsB
  rw [List.length_append]
  have h1 := intB_le (l.length : Int) (nat_I64 (by omega))
  have h2 := flat_intB_le l h
  omega
theorem enc_le {S : ScriptD} (h6 : S.cfg.length = 6) (h : OkS S) : (encT S).length ≤ 1000000 := by
  unfold encT
  simp only [List.length_append]
  have k1 := ints_le (m := 6) (l := S.cfg) (by omega) (by omega) fun n hn => by have := h.cfg n hn; exact ⟨by omega, by omega⟩
  have hnt := h.nt
  have hns := h.ns
  have k2 := intB_le (S.texts.length : Int) (nat_I64 (by omega))
  have k3 := flat_le (f := bytesB) (m := 2009) S.texts fun t ht => by
    unfold bytesB
    rw [List.length_append]
    have := h.txt t ht
    have := intB_le (t.length : Int) (nat_I64 (by omega))
    omega
  have k4 := intB_le (S.steps.length : Int) (nat_I64 (by omega))
  have k5 := flat_le (f := encStep) (m := 600) S.steps fun x hx => by
    unfold encStep
    rw [List.length_append]
    obtain ⟨s1, s2, s3, s4⟩ := step_bounds h.nt (h.stp x hx)
    have := ints_le (m := 64) (l := x.args) s3 (by omega) fun n hn => by have := s4 n hn; exact ⟨by omega, by omega⟩
    have := intB_le x.kind ⟨by omega, by omega⟩
    omega
  have e1 : 2009 * S.texts.length ≤ 2009 * 16 := Nat.mul_le_mul_left _ hnt
  have e2 : 600 * S.steps.length ≤ 600 * 1000 := Nat.mul_le_mul_left _ hns
  omega

set_option maxRecDepth 100000 in
set_option maxHeartbeats 8000000 in
theorem lawRound_any (S : ScriptD) (v : Value) (w : World) (Hg : Hid (Gl w)) (Hv : Hid (ScriptS w S v)) (HB : ScriptB S) : Calls Tryz.prog 6 #[v] w (BoolR true w) := by
  have HSan : Hid (∀ W, Below w.heap.size w W → Calls Tryz.prog 11 #[] W (BoolR true W)) := Lib.hid fun W hb => sanity_any W (Lib.hid (Hg.out.below hb))
  have hlen := HB.lens
  have HFew : Hid (∀ v W, ScriptS W S v → Calls Tryz.prog 10 #[v] W (SomeBool W)) := Lib.hid fun v W h => few_any S v W (Lib.hid h) (by have := HB.steps; omega) (by have := HB.texts; omega)
  have HOwn : Hid (∀ v W, ScriptS W S v → Calls Tryz.prog 13 #[v] W fun e w' => Below W.heap.size W w' ∧ ∃ v', e = .returned v' ∧ ScriptS w' S v') := Lib.hid fun v W h => own_any S v W (Lib.hid h) HB.steps
  have HSpec : Hid (∀ v W, ScriptS W S v → Calls Tryz.prog 30 #[v] W fun e w' => Below W.heap.size W w' ∧ ∃ v', e = .returned v' ∧ ScriptS w' S v') := Lib.hid fun v W h => spec_any S v W (Lib.hid h) HB.steps
  have HSm : Hid (∀ u v W, ScriptS W S u → ScriptS W S v → Calls Tryz.prog 24 #[u, v] W (BoolR true W)) := Lib.hid fun u v W h1 h2 => by
    have := rsame_any S S u v W (Lib.hid h1) (Lib.hid h2) (Lib.hid hlen)
    rw [decide_eq_true rfl] at this
    exact this
  obtain ⟨p0, p1, p2, p3, p4, p5, T, tc, U, uc, rfl, hp⟩ := Hv.out
  obtain ⟨ck, hck⟩ : ∃ x, x = (checkB S).1 := ⟨_, rfl⟩
  obtain ⟨ce, hce⟩ : ∃ x, x = (checkB S).2 := ⟨_, rfl⟩
  have h6 : S.cfg.length = 6 := by rw [hp.cfg]; rfl
  have HCk : Hid (∀ v W, Below w.heap.size w W → ScriptS W S v → Calls Tryz.prog 12 #[v] W fun e w' => e = .returned (.tuple #[.int .i64 ck, .int .i64 (ce : Int)]) ∧ Below W.heap.size W w') := Lib.hid fun v W hb h => by
    have := check_any S v W (Lib.hid (Hg.out.below hb)) (Lib.hid h) (Lib.hid hlen)
    unfold CheckR at this
    rw [← hck, ← hce] at this
    exact this
  have HOk : Hid (ce = 0 → OkS S) := Lib.hid fun h => check_ok.1 (by rw [← hce, h])
  have HEn : Hid (ce = 0 → ∀ v W, Below w.heap.size w W → ScriptS W S v → Calls Tryz.prog 15 #[v] W (EncR (encT S, 0) W)) := Lib.hid fun h0 v W hb h => by
    have := encode_any S v W (Lib.hid (Hg.out.below hb)) (Lib.hid h) (Lib.hid hlen)
    rw [show encodeB S = (encT S, 0) by unfold encodeB; rw [if_neg (by rw [← hce, h0]; exact fun k => k rfl)]] at this
    exact this
  have HDe : Hid (ce = 0 → ∀ A n c W, Below w.heap.size w W → n = (encT S).length → n ≤ c → c ≤ 9223372036854775807 → Sl W W.heap.size A (Lib.byteCells (encT S)) → Calls Tryz.prog 28 #[.slice A n c] W fun e w' => Below W.heap.size W w' ∧ ∃ v, e = .returned (.tuple #[v, .int .i64 0]) ∧ ScriptS w' S v) := Lib.hid fun h0 A n c W hb hn h1 h2 hs => by
    rw [hn] at h1 ⊢
    have hO : OkS S := check_ok.1 (by rw [← hce, h0])
    have := decode_any (encT S) A c W (Lib.hid (Hg.out.below hb)) (enc_le h6 hO) h1 h2 (Lib.hid hs)
    unfold DecR at this
    rw [decode_enc h6 hO] at this
    exact this
  obtain ⟨pt, hpt⟩ : ∃ x, x = (printB S).1 := ⟨_, rfl⟩
  obtain ⟨pe, hpe⟩ : ∃ x, x = (printB S).2 := ⟨_, rfl⟩
  have HPr : Hid (∀ v W, Below w.heap.size w W → ScriptS W S v → Calls Tryz.prog 17 #[v] W fun e w' => e = .returned (.tuple #[.string ⟨pt.toArray⟩, .int .i64 (pe : Int)]) ∧ Below W.heap.size W w') := Lib.hid fun v W hb h => by
    have := print_any S v W (Lib.hid (Hg.out.below hb)) (Lib.hid h) (Lib.hid hlen)
    unfold PrintR strV at this
    rw [← hpt, ← hpe] at this
    exact this
  have HPe : Hid (ce = 0 → pe = 0 ∨ pe = 2) := Lib.hid fun h0 => by
    rw [hpe]
    unfold printB
    rw [if_neg (by rw [← hce, h0]; exact fun k => k rfl)]
    split
    · exact .inr rfl
    · exact .inl rfl
  have HPa : Hid (ce = 0 → pe = 0 → ∀ W, Below w.heap.size w W → Calls Tryz.prog 31 #[.string ⟨pt.toArray⟩] W fun e w' => Below W.heap.size W w' ∧ ∃ v, e = .returned (.tuple #[v, .int .i64 0, .int .i64 0]) ∧ ScriptS w' S v) := Lib.hid fun h0 hp0 W hb => by
    have hO : OkS S := check_ok.1 (by rw [← hce, h0])
    have hle : (printT S).length ≤ 200000 := by
      rcases Nat.lt_or_ge 200000 (printT S).length with h | h
      · have : pe = 2 := by rw [hpe]; unfold printB; rw [if_neg (by rw [← hce, h0]; exact fun k => k rfl), if_pos h]
        omega
      · exact h
    have hpp : pt = printT S := by rw [hpt]; unfold printB; rw [if_neg (by rw [← hce, h0]; exact fun k => k rfl), if_neg (by omega)]
    have := parse_any pt W (Lib.hid (Hg.out.below hb)) (by rw [hpp]; omega)
    unfold ParR at this
    rw [show parseB pt = .ok S by rw [hpp]; exact parse_print h6 hO hle] at this
    exact this
  clear hck hce hpt hpe hp h6 HB
  obtain ⟨nt, hnt⟩ : ∃ n, n = S.texts.length := ⟨_, rfl⟩
  obtain ⟨ns, hns⟩ : ∃ n, n = S.steps.length := ⟨_, rfl⟩
  rw [← hnt, ← hns] at Hv ⊢
  clear hnt hns hlen
  obtain ⟨cs, hcs⟩ : ∃ cs, cs = scrCs p0 p1 p2 p3 p4 p5 T nt tc U ns uc := ⟨_, rfl⟩
  rw [← hcs] at Hv
  obtain ⟨g, hg⟩ : ∃ g, g = w.heap.size := ⟨_, rfl⟩
  obtain ⟨W0, hW⟩ : ∃ W, W = w.alloc (.cells cs 27) := ⟨_, rfl⟩
  have HS0 : Hid (SNt 27 S g cs W0) := by rw [hW, hg]; exact SNt.start Hv.out
  have HB0 : Hid (Below w.heap.size w W0) := by rw [hW]; exact (Below.refl _ _).alloc (Nat.le_refl _) _
  have Hcs := Lib.hid hcs
  rw [hcs] at hW
  clear hcs Hv Hg
  unfold scrCs
  unfold scrCs at hW
  go_enter Tryz.func6, Tryz.ntmps6
  go_upto_region 1 with fail
  rw [← hW, ← hg]
  clear hW hg
  have crow := HS0.out.1
  rw [Hcs.out] at crow
  have c0 := (cell_at (u := .int .i64 p0) crow 0 rfl).1
  have c1 := (cell_at (u := .int .i64 p1) crow 1 rfl).1
  have c2 := (cell_at (u := .int .i64 p2) crow 2 rfl).1
  have c3 := (cell_at (u := .int .i64 p3) crow 3 rfl).1
  have c4 := (cell_at (u := .int .i64 p4) crow 4 rfl).1
  have c5 := (cell_at (u := .int .i64 p5) crow 5 rfl).1
  have c6 := (cell_at (u := .slice T nt tc) crow 6 rfl).1
  have c7 := (cell_at (u := .slice U ns uc) crow 7 rfl).1
  clear crow
  have hv := HS0.out.2
  rw [Hcs.out] at hv
  have HVl := Lib.hid hv
  clear hv
  go_wp2_with fail
  clear c0 c1 c2 c3 c4 c5 c6 c7
  refine (HFew.out (.agg (scrCs p0 p1 p2 p3 p4 p5 T nt tc U ns uc)) _ HVl.out).mono ?_
  rintro en w1 ⟨hb1, fb, rfl⟩
  have HS1 := Lib.hid (HS0.out.call hb1)
  have HB1 := Lib.hid (HB0.out.trans (hb1.mono HB0.out.size))
  clear hb1 HS0 HB0 HVl
  cases fb
  · go_wp2_with fail
    refine (HSan.out _ HB1.out).mono ?_
    rintro en w2 ⟨rfl, hb2⟩
    have HS2 := Lib.hid (HS1.out.call hb2)
    have HB2 := Lib.hid (HB1.out.trans (hb2.mono HB1.out.size))
    clear hb2 HS1 HB1
    go_wp2_with fail
    go_ret
    exact ⟨rfl, HB2.out⟩
  have crow := HS1.out.1
  rw [Hcs.out] at crow
  have c0 := (cell_at (u := .int .i64 p0) crow 0 rfl).1
  have c1 := (cell_at (u := .int .i64 p1) crow 1 rfl).1
  have c2 := (cell_at (u := .int .i64 p2) crow 2 rfl).1
  have c3 := (cell_at (u := .int .i64 p3) crow 3 rfl).1
  have c4 := (cell_at (u := .int .i64 p4) crow 4 rfl).1
  have c5 := (cell_at (u := .int .i64 p5) crow 5 rfl).1
  have c6 := (cell_at (u := .slice T nt tc) crow 6 rfl).1
  have c7 := (cell_at (u := .slice U ns uc) crow 7 rfl).1
  clear crow
  have hv := HS1.out.2
  rw [Hcs.out] at hv
  have HVl := Lib.hid hv
  clear hv
  go_wp2_with fail
  clear c0 c1 c2 c3 c4 c5 c6 c7
  refine (HOwn.out (.agg (scrCs p0 p1 p2 p3 p4 p5 T nt tc U ns uc)) _ HVl.out).mono ?_
  rintro en w2 ⟨hb2, va, rfl, hva⟩
  have HS2 := Lib.hid (HS1.out.call hb2)
  have HB2 := Lib.hid (HB1.out.trans (hb2.mono HB1.out.size))
  clear hb2 HS1 HB1 HVl
  have HVA2 := Lib.hid hva
  clear hva
  go_wp2_with fail
  refine (HCk.out _ _ HB2.out HVA2.out).mono ?_
  rintro en w3 ⟨rfl, hb3⟩
  have HS3 := Lib.hid (HS2.out.call hb3)
  have HB3 := Lib.hid (HB2.out.trans (hb3.mono HB2.out.size))
  have HVA3 := Lib.hid (HVA2.out.below hb3)
  clear hb3 HS2 HB2 HVA2
  clear HVA3
  by_cases hce : ce = 0
  rotate_left
  · have hne : ¬ ((ce : Int) = 0) := by omega
    go_wp2_with fail
    refine (HSan.out _ HB3.out).mono ?_
    rintro en w4 ⟨rfl, hb4⟩
    have HS4 := Lib.hid (HS3.out.call hb4)
    have HB4 := Lib.hid (HB3.out.trans (hb4.mono HB3.out.size))
    clear hb4 HS3 HB3
    go_wp2_with fail
    go_ret
    exact ⟨rfl, HB4.out⟩
  have HOk0 := Lib.hid (HOk.out hce)
  have HEn0 := Lib.hid (HEn.out hce)
  have HDe0 := Lib.hid (HDe.out hce)
  have HPe0 := Lib.hid (HPe.out hce)
  have HPa0 := Lib.hid (HPa.out hce)
  subst hce
  clear HOk HEn HDe HPe HPa
  have crow := HS3.out.1
  rw [Hcs.out] at crow
  have c0 := (cell_at (u := .int .i64 p0) crow 0 rfl).1
  have c1 := (cell_at (u := .int .i64 p1) crow 1 rfl).1
  have c2 := (cell_at (u := .int .i64 p2) crow 2 rfl).1
  have c3 := (cell_at (u := .int .i64 p3) crow 3 rfl).1
  have c4 := (cell_at (u := .int .i64 p4) crow 4 rfl).1
  have c5 := (cell_at (u := .int .i64 p5) crow 5 rfl).1
  have c6 := (cell_at (u := .slice T nt tc) crow 6 rfl).1
  have c7 := (cell_at (u := .slice U ns uc) crow 7 rfl).1
  clear crow
  have hv := HS3.out.2
  rw [Hcs.out] at hv
  have HVl := Lib.hid hv
  clear hv
  go_wp2_with fail
  clear c0 c1 c2 c3 c4 c5 c6 c7
  refine (HOwn.out (.agg (scrCs p0 p1 p2 p3 p4 p5 T nt tc U ns uc)) _ HVl.out).mono ?_
  rintro en w4 ⟨hb4, va, rfl, hva⟩
  have HS4 := Lib.hid (HS3.out.call hb4)
  have HB4 := Lib.hid (HB3.out.trans (hb4.mono HB3.out.size))
  clear hb4 HS3 HB3 HVl
  have HVA4 := Lib.hid hva
  clear hva
  go_wp2_with fail
  refine (HEn0.out _ _ HB4.out HVA4.out).mono ?_
  unfold EncR
  dsimp only
  rintro en w5 ⟨A, c, rfl, hO⟩
  have hb5 := hO.below
  have HO := Lib.hid hO.o
  clear hO
  have HS5 := Lib.hid (HS4.out.call hb5)
  have HB5 := Lib.hid (HB4.out.trans (hb5.mono HB4.out.size))
  have HVA5 := Lib.hid (HVA4.out.below hb5)
  clear hb5 HS4 HB4 HVA4
  clear HVA5
  obtain ⟨n, hn⟩ : ∃ n, n = (encT S).length := ⟨_, rfl⟩
  rw [← hn] at HO
  rw [← hn]
  have Hn := Lib.hid hn
  clear hn
  have HD := Lib.hid (HDe0.out A n c w5 HB5.out Hn.out (own_cap HO.out).1 (by have := (own_cap HO.out).2; unfold maxLen at this; omega) (own_sl HO.out))
  clear HO Hn
  go_wp2_with fail
  refine (HD.out).mono ?_
  rintro en w6 ⟨hb6, vb, rfl, hvb⟩
  have HS6 := Lib.hid (HS5.out.call hb6)
  have HB6 := Lib.hid (HB5.out.trans (hb6.mono HB5.out.size))
  clear hb6 HS5 HB5 HD
  obtain ⟨q0, q1, q2, q3, q4, q5, T', tc', U', uc', rfl, hp⟩ := hvb
  obtain ⟨nt', hnt⟩ : ∃ n, n = S.texts.length := ⟨_, rfl⟩
  obtain ⟨ns', hns⟩ : ∃ n, n = S.steps.length := ⟨_, rfl⟩
  have HVx : Hid (ScriptS w6 S (.agg (scrCs q0 q1 q2 q3 q4 q5 T' nt' tc' U' ns' uc'))) := ⟨q0, q1, q2, q3, q4, q5, T', tc', U', uc', by rw [hnt, hns], hp⟩
  rw [← hnt, ← hns]
  obtain ⟨ds, hcs⟩ : ∃ cs, cs = scrCs q0 q1 q2 q3 q4 q5 T' nt' tc' U' ns' uc' := ⟨_, rfl⟩
  rw [← hcs] at HVx
  obtain ⟨g7, hg⟩ : ∃ g, g = w6.heap.size := ⟨_, rfl⟩
  obtain ⟨W7, hW⟩ : ∃ W, W = w6.alloc (.cells ds 35) := ⟨_, rfl⟩
  have HZ7 : Hid (SNt 35 S g7 ds W7) := by rw [hW, hg]; exact SNt.start HVx.out
  have hb7 : Below w6.heap.size w6 W7 := by rw [hW]; exact (Below.refl _ _).alloc (Nat.le_refl _) _
  have Hds := Lib.hid hcs
  rw [hcs] at hW
  have HS7 := Lib.hid (HS6.out.call hb7)
  have HB7 := Lib.hid (HB6.out.trans (hb7.mono HB6.out.size))
  clear hb7 HS6 HB6 hp hnt hns hcs HVx
  unfold scrCs
  unfold scrCs at hW
  go_upto_region 8 with fail
  rw [← hW, ← hg]
  clear hW hg
  have hv := HS7.out.2
  rw [Hcs.out] at hv
  have HVl := Lib.hid hv
  clear hv
  have hz := HZ7.out.2
  rw [Hds.out] at hz
  have HVz := Lib.hid hz
  clear hz
  have crow := HS7.out.1
  rw [Hcs.out] at crow
  have c0 := (cell_at (u := .int .i64 p0) crow 0 rfl).1
  have c1 := (cell_at (u := .int .i64 p1) crow 1 rfl).1
  have c2 := (cell_at (u := .int .i64 p2) crow 2 rfl).1
  have c3 := (cell_at (u := .int .i64 p3) crow 3 rfl).1
  have c4 := (cell_at (u := .int .i64 p4) crow 4 rfl).1
  have c5 := (cell_at (u := .int .i64 p5) crow 5 rfl).1
  have c6 := (cell_at (u := .slice T nt tc) crow 6 rfl).1
  have c7 := (cell_at (u := .slice U ns uc) crow 7 rfl).1
  clear crow
  have crow := HZ7.out.1
  rw [Hds.out] at crow
  have d0 := (cell_at (u := .int .i64 q0) crow 0 rfl).1
  have d1 := (cell_at (u := .int .i64 q1) crow 1 rfl).1
  have d2 := (cell_at (u := .int .i64 q2) crow 2 rfl).1
  have d3 := (cell_at (u := .int .i64 q3) crow 3 rfl).1
  have d4 := (cell_at (u := .int .i64 q4) crow 4 rfl).1
  have d5 := (cell_at (u := .int .i64 q5) crow 5 rfl).1
  have d6 := (cell_at (u := .slice T' nt' tc') crow 6 rfl).1
  have d7 := (cell_at (u := .slice U' ns' uc') crow 7 rfl).1
  clear crow
  have hltg : g < W7.heap.size := (Array.getElem?_eq_some_iff.1 HS7.out.1).1
  have hltg7 : g7 < W7.heap.size := (Array.getElem?_eq_some_iff.1 HZ7.out.1).1
  have KS : Hid (∀ w' : World, Below W7.heap.size W7 w' → (w'.cell? ⟨g, 0, none⟩ = some (.int .i64 p0) ∧ w'.cell? ⟨g, 1, none⟩ = some (.int .i64 p1) ∧ w'.cell? ⟨g, 2, none⟩ = some (.int .i64 p2) ∧ w'.cell? ⟨g, 3, none⟩ = some (.int .i64 p3) ∧ w'.cell? ⟨g, 4, none⟩ = some (.int .i64 p4) ∧ w'.cell? ⟨g, 5, none⟩ = some (.int .i64 p5) ∧ w'.cell? ⟨g, 6, none⟩ = some (.slice T nt tc) ∧ w'.cell? ⟨g, 7, none⟩ = some (.slice U ns uc) ∧ w'.cell? ⟨g7, 0, none⟩ = some (.int .i64 q0) ∧ w'.cell? ⟨g7, 1, none⟩ = some (.int .i64 q1) ∧ w'.cell? ⟨g7, 2, none⟩ = some (.int .i64 q2) ∧ w'.cell? ⟨g7, 3, none⟩ = some (.int .i64 q3) ∧ w'.cell? ⟨g7, 4, none⟩ = some (.int .i64 q4) ∧ w'.cell? ⟨g7, 5, none⟩ = some (.int .i64 q5) ∧ w'.cell? ⟨g7, 6, none⟩ = some (.slice T' nt' tc') ∧ w'.cell? ⟨g7, 7, none⟩ = some (.slice U' ns' uc'))) := fun w' hb => ⟨(hb.cell (p := ⟨g, 0, none⟩) hltg).trans c0, (hb.cell (p := ⟨g, 1, none⟩) hltg).trans c1, (hb.cell (p := ⟨g, 2, none⟩) hltg).trans c2, (hb.cell (p := ⟨g, 3, none⟩) hltg).trans c3, (hb.cell (p := ⟨g, 4, none⟩) hltg).trans c4, (hb.cell (p := ⟨g, 5, none⟩) hltg).trans c5, (hb.cell (p := ⟨g, 6, none⟩) hltg).trans c6, (hb.cell (p := ⟨g, 7, none⟩) hltg).trans c7, (hb.cell (p := ⟨g7, 0, none⟩) hltg7).trans d0, (hb.cell (p := ⟨g7, 1, none⟩) hltg7).trans d1, (hb.cell (p := ⟨g7, 2, none⟩) hltg7).trans d2, (hb.cell (p := ⟨g7, 3, none⟩) hltg7).trans d3, (hb.cell (p := ⟨g7, 4, none⟩) hltg7).trans d4, (hb.cell (p := ⟨g7, 5, none⟩) hltg7).trans d5, (hb.cell (p := ⟨g7, 6, none⟩) hltg7).trans d6, (hb.cell (p := ⟨g7, 7, none⟩) hltg7).trans d7⟩
  have B0 : Hid (Below W7.heap.size W7 W7.drew) := (Below.refl _ _).drew
  go_wp2_with fail
  go_region_held3 (fun w' => (w'.cell? ⟨g, 0, none⟩ = some (.int .i64 p0) ∧ w'.cell? ⟨g, 1, none⟩ = some (.int .i64 p1) ∧ w'.cell? ⟨g, 2, none⟩ = some (.int .i64 p2) ∧ w'.cell? ⟨g, 3, none⟩ = some (.int .i64 p3) ∧ w'.cell? ⟨g, 4, none⟩ = some (.int .i64 p4) ∧ w'.cell? ⟨g, 5, none⟩ = some (.int .i64 p5) ∧ w'.cell? ⟨g, 6, none⟩ = some (.slice T nt tc) ∧ w'.cell? ⟨g, 7, none⟩ = some (.slice U ns uc) ∧ w'.cell? ⟨g7, 0, none⟩ = some (.int .i64 q0) ∧ w'.cell? ⟨g7, 1, none⟩ = some (.int .i64 q1) ∧ w'.cell? ⟨g7, 2, none⟩ = some (.int .i64 q2) ∧ w'.cell? ⟨g7, 3, none⟩ = some (.int .i64 q3) ∧ w'.cell? ⟨g7, 4, none⟩ = some (.int .i64 q4) ∧ w'.cell? ⟨g7, 5, none⟩ = some (.int .i64 q5) ∧ w'.cell? ⟨g7, 6, none⟩ = some (.slice T' nt' tc') ∧ w'.cell? ⟨g7, 7, none⟩ = some (.slice U' ns' uc'))) (first | exact hKeep | go_keep)
    (first
      | (go_at_call 30; refine (HSpec.out (.agg (scrCs q0 q1 q2 q3 q4 q5 T' nt' tc' U' ns' uc')) _ (HVz.out.below B0.out)).mono ?_; rintro e w8 ⟨hbx, vc, rfl, hvc⟩; have HVC := Lib.hid hvc; clear hvc; have B1 := Lib.hid (B0.out.trans (hbx.mono B0.out.size)); have hKeep := KS.out _ B1.out; clear hbx)
      | (go_at_call 24; refine (HSm.out (.agg (scrCs p0 p1 p2 p3 p4 p5 T nt tc U ns uc)) _ _ (HVl.out.below B1.out) HVC.out).mono ?_; rintro e w9 ⟨rfl, hbx⟩; have B2 := Lib.hid (B1.out.trans (hbx.mono B1.out.size)); have hKeep := KS.out _ B2.out; clear hbx))
  clear KS c0 c1 c2 c3 c4 c5 c6 c7 d0 d1 d2 d3 d4 d5 d6 d7 hltg hltg7 B0 B1
  have hb9 := B2.out
  clear B2
  have HS9 := Lib.hid (HS7.out.call hb9)
  have HB9 := Lib.hid (HB7.out.trans (hb9.mono HB7.out.size))
  have HZ9 := Lib.hid (HZ7.out.call hb9)
  clear hb9 HS7 HB7 HZ7 HVz HVl HVC
  clear HZ9
  have crow := HS9.out.1
  rw [Hcs.out] at crow
  have c0 := (cell_at (u := .int .i64 p0) crow 0 rfl).1
  have c1 := (cell_at (u := .int .i64 p1) crow 1 rfl).1
  have c2 := (cell_at (u := .int .i64 p2) crow 2 rfl).1
  have c3 := (cell_at (u := .int .i64 p3) crow 3 rfl).1
  have c4 := (cell_at (u := .int .i64 p4) crow 4 rfl).1
  have c5 := (cell_at (u := .int .i64 p5) crow 5 rfl).1
  have c6 := (cell_at (u := .slice T nt tc) crow 6 rfl).1
  have c7 := (cell_at (u := .slice U ns uc) crow 7 rfl).1
  clear crow
  have hv := HS9.out.2
  rw [Hcs.out] at hv
  have HVl := Lib.hid hv
  clear hv
  go_wp2_with fail
  clear c0 c1 c2 c3 c4 c5 c6 c7
  refine (HOwn.out (.agg (scrCs p0 p1 p2 p3 p4 p5 T nt tc U ns uc)) _ HVl.out).mono ?_
  rintro en w10 ⟨hb10, va, rfl, hva⟩
  have HS10 := Lib.hid (HS9.out.call hb10)
  have HB10 := Lib.hid (HB9.out.trans (hb10.mono HB9.out.size))
  clear hb10 HS9 HB9 HVl
  have HVA10 := Lib.hid hva
  clear hva
  go_wp2_with fail
  refine (HPr.out _ _ HB10.out HVA10.out).mono ?_
  rintro en w11 ⟨rfl, hb11⟩
  have HS11 := Lib.hid (HS10.out.call hb11)
  have HB11 := Lib.hid (HB10.out.trans (hb11.mono HB10.out.size))
  have HVA11 := Lib.hid (HVA10.out.below hb11)
  clear hb11 HS10 HB10 HVA10
  clear HVA11
  by_cases hpe : pe = 0
  rotate_left
  · have hpe2 : pe = 2 := HPe0.out.resolve_left hpe
    subst hpe2
    go_wp2_with fail
    refine (HSan.out _ HB11.out).mono ?_
    rintro en w12 ⟨rfl, hb12⟩
    have HS12 := Lib.hid (HS11.out.call hb12)
    have HB12 := Lib.hid (HB11.out.trans (hb12.mono HB11.out.size))
    clear hb12 HS11 HB11
    go_wp2_with fail
    go_ret
    exact ⟨rfl, HB12.out⟩
  have HPa1 := Lib.hid (HPa0.out hpe)
  subst hpe
  clear HPa0 HPe0
  go_wp2_with fail
  refine (HPa1.out _ HB11.out).mono ?_
  rintro en w12 ⟨hb12, vb, rfl, hvb⟩
  have HS12 := Lib.hid (HS11.out.call hb12)
  have HB12 := Lib.hid (HB11.out.trans (hb12.mono HB11.out.size))
  clear hb12 HS11 HB11
  obtain ⟨r0, r1, r2, r3, r4, r5, T2, tc2, U2, uc2, rfl, hp⟩ := hvb
  obtain ⟨nt2, hnt⟩ : ∃ n, n = S.texts.length := ⟨_, rfl⟩
  obtain ⟨ns2, hns⟩ : ∃ n, n = S.steps.length := ⟨_, rfl⟩
  have HVx : Hid (ScriptS w12 S (.agg (scrCs r0 r1 r2 r3 r4 r5 T2 nt2 tc2 U2 ns2 uc2))) := ⟨r0, r1, r2, r3, r4, r5, T2, tc2, U2, uc2, by rw [hnt, hns], hp⟩
  rw [← hnt, ← hns]
  obtain ⟨es, hcs⟩ : ∃ cs, cs = scrCs r0 r1 r2 r3 r4 r5 T2 nt2 tc2 U2 ns2 uc2 := ⟨_, rfl⟩
  rw [← hcs] at HVx
  obtain ⟨g11, hg⟩ : ∃ g, g = w12.heap.size := ⟨_, rfl⟩
  obtain ⟨W13, hW⟩ : ∃ W, W = w12.alloc (.cells es 35) := ⟨_, rfl⟩
  have HY13 : Hid (SNt 35 S g11 es W13) := by rw [hW, hg]; exact SNt.start HVx.out
  have hb13 : Below w12.heap.size w12 W13 := by rw [hW]; exact (Below.refl _ _).alloc (Nat.le_refl _) _
  have Hes := Lib.hid hcs
  rw [hcs] at hW
  have HS13 := Lib.hid (HS12.out.call hb13)
  have HB13 := Lib.hid (HB12.out.trans (hb13.mono HB12.out.size))
  clear hb13 HS12 HB12 hp hnt hns hcs HVx
  unfold scrCs
  unfold scrCs at hW
  go_upto_region 14 with fail
  rw [← hW, ← hg]
  clear hW hg
  have hv := HS13.out.2
  rw [Hcs.out] at hv
  have HVl := Lib.hid hv
  clear hv
  have hz := HY13.out.2
  rw [Hes.out] at hz
  have HVz := Lib.hid hz
  clear hz
  have crow := HS13.out.1
  rw [Hcs.out] at crow
  have c0 := (cell_at (u := .int .i64 p0) crow 0 rfl).1
  have c1 := (cell_at (u := .int .i64 p1) crow 1 rfl).1
  have c2 := (cell_at (u := .int .i64 p2) crow 2 rfl).1
  have c3 := (cell_at (u := .int .i64 p3) crow 3 rfl).1
  have c4 := (cell_at (u := .int .i64 p4) crow 4 rfl).1
  have c5 := (cell_at (u := .int .i64 p5) crow 5 rfl).1
  have c6 := (cell_at (u := .slice T nt tc) crow 6 rfl).1
  have c7 := (cell_at (u := .slice U ns uc) crow 7 rfl).1
  clear crow
  have crow := HY13.out.1
  rw [Hes.out] at crow
  have d0 := (cell_at (u := .int .i64 r0) crow 0 rfl).1
  have d1 := (cell_at (u := .int .i64 r1) crow 1 rfl).1
  have d2 := (cell_at (u := .int .i64 r2) crow 2 rfl).1
  have d3 := (cell_at (u := .int .i64 r3) crow 3 rfl).1
  have d4 := (cell_at (u := .int .i64 r4) crow 4 rfl).1
  have d5 := (cell_at (u := .int .i64 r5) crow 5 rfl).1
  have d6 := (cell_at (u := .slice T2 nt2 tc2) crow 6 rfl).1
  have d7 := (cell_at (u := .slice U2 ns2 uc2) crow 7 rfl).1
  clear crow
  have hltg : g < W13.heap.size := (Array.getElem?_eq_some_iff.1 HS13.out.1).1
  have hltg11 : g11 < W13.heap.size := (Array.getElem?_eq_some_iff.1 HY13.out.1).1
  have KS : Hid (∀ w' : World, Below W13.heap.size W13 w' → (w'.cell? ⟨g, 0, none⟩ = some (.int .i64 p0) ∧ w'.cell? ⟨g, 1, none⟩ = some (.int .i64 p1) ∧ w'.cell? ⟨g, 2, none⟩ = some (.int .i64 p2) ∧ w'.cell? ⟨g, 3, none⟩ = some (.int .i64 p3) ∧ w'.cell? ⟨g, 4, none⟩ = some (.int .i64 p4) ∧ w'.cell? ⟨g, 5, none⟩ = some (.int .i64 p5) ∧ w'.cell? ⟨g, 6, none⟩ = some (.slice T nt tc) ∧ w'.cell? ⟨g, 7, none⟩ = some (.slice U ns uc) ∧ w'.cell? ⟨g11, 0, none⟩ = some (.int .i64 r0) ∧ w'.cell? ⟨g11, 1, none⟩ = some (.int .i64 r1) ∧ w'.cell? ⟨g11, 2, none⟩ = some (.int .i64 r2) ∧ w'.cell? ⟨g11, 3, none⟩ = some (.int .i64 r3) ∧ w'.cell? ⟨g11, 4, none⟩ = some (.int .i64 r4) ∧ w'.cell? ⟨g11, 5, none⟩ = some (.int .i64 r5) ∧ w'.cell? ⟨g11, 6, none⟩ = some (.slice T2 nt2 tc2) ∧ w'.cell? ⟨g11, 7, none⟩ = some (.slice U2 ns2 uc2))) := fun w' hb => ⟨(hb.cell (p := ⟨g, 0, none⟩) hltg).trans c0, (hb.cell (p := ⟨g, 1, none⟩) hltg).trans c1, (hb.cell (p := ⟨g, 2, none⟩) hltg).trans c2, (hb.cell (p := ⟨g, 3, none⟩) hltg).trans c3, (hb.cell (p := ⟨g, 4, none⟩) hltg).trans c4, (hb.cell (p := ⟨g, 5, none⟩) hltg).trans c5, (hb.cell (p := ⟨g, 6, none⟩) hltg).trans c6, (hb.cell (p := ⟨g, 7, none⟩) hltg).trans c7, (hb.cell (p := ⟨g11, 0, none⟩) hltg11).trans d0, (hb.cell (p := ⟨g11, 1, none⟩) hltg11).trans d1, (hb.cell (p := ⟨g11, 2, none⟩) hltg11).trans d2, (hb.cell (p := ⟨g11, 3, none⟩) hltg11).trans d3, (hb.cell (p := ⟨g11, 4, none⟩) hltg11).trans d4, (hb.cell (p := ⟨g11, 5, none⟩) hltg11).trans d5, (hb.cell (p := ⟨g11, 6, none⟩) hltg11).trans d6, (hb.cell (p := ⟨g11, 7, none⟩) hltg11).trans d7⟩
  have B0 : Hid (Below W13.heap.size W13 W13.drew) := (Below.refl _ _).drew
  go_wp2_with fail
  go_region_held3 (fun w' => (w'.cell? ⟨g, 0, none⟩ = some (.int .i64 p0) ∧ w'.cell? ⟨g, 1, none⟩ = some (.int .i64 p1) ∧ w'.cell? ⟨g, 2, none⟩ = some (.int .i64 p2) ∧ w'.cell? ⟨g, 3, none⟩ = some (.int .i64 p3) ∧ w'.cell? ⟨g, 4, none⟩ = some (.int .i64 p4) ∧ w'.cell? ⟨g, 5, none⟩ = some (.int .i64 p5) ∧ w'.cell? ⟨g, 6, none⟩ = some (.slice T nt tc) ∧ w'.cell? ⟨g, 7, none⟩ = some (.slice U ns uc) ∧ w'.cell? ⟨g11, 0, none⟩ = some (.int .i64 r0) ∧ w'.cell? ⟨g11, 1, none⟩ = some (.int .i64 r1) ∧ w'.cell? ⟨g11, 2, none⟩ = some (.int .i64 r2) ∧ w'.cell? ⟨g11, 3, none⟩ = some (.int .i64 r3) ∧ w'.cell? ⟨g11, 4, none⟩ = some (.int .i64 r4) ∧ w'.cell? ⟨g11, 5, none⟩ = some (.int .i64 r5) ∧ w'.cell? ⟨g11, 6, none⟩ = some (.slice T2 nt2 tc2) ∧ w'.cell? ⟨g11, 7, none⟩ = some (.slice U2 ns2 uc2))) (first | exact hKeep | go_keep)
    (first
      | (go_at_call 11; refine (HSan.out _ (HB13.out.trans (B0.out.mono HB13.out.size))).mono ?_; rintro e w14 ⟨rfl, hbx⟩; have B1 := Lib.hid (B0.out.trans (hbx.mono B0.out.size)); have hKeep := KS.out _ B1.out; clear hbx)
      | (go_at_call 30; refine (HSpec.out (.agg (scrCs r0 r1 r2 r3 r4 r5 T2 nt2 tc2 U2 ns2 uc2)) _ (HVz.out.below B1.out)).mono ?_; rintro e w15 ⟨hbx, vc, rfl, hvc⟩; have HVC := Lib.hid hvc; clear hvc; have B2 := Lib.hid (B1.out.trans (hbx.mono B1.out.size)); have hKeep := KS.out _ B2.out; clear hbx)
      | (go_at_call 24; refine (HSm.out (.agg (scrCs p0 p1 p2 p3 p4 p5 T nt tc U ns uc)) _ _ (HVl.out.below B2.out) HVC.out).mono ?_; rintro e w16 ⟨rfl, hbx⟩; have B3 := Lib.hid (B2.out.trans (hbx.mono B2.out.size)); have hKeep := KS.out _ B3.out; clear hbx))
  clear KS c0 c1 c2 c3 c4 c5 c6 c7 d0 d1 d2 d3 d4 d5 d6 d7 hltg hltg11 B0 B1 B2
  have hb16 := B3.out
  clear B3
  have HS16 := Lib.hid (HS13.out.call hb16)
  have HB16 := Lib.hid (HB13.out.trans (hb16.mono HB13.out.size))
  have HY16 := Lib.hid (HY13.out.call hb16)
  clear hb16 HS13 HB13 HY13 HVz HVl HVC
  go_wp2_with fail
  go_ret
  exact ⟨rfl, HB16.out⟩
end Go.Proofs.YtdfhbnfhkckkbaaGreatDoor
