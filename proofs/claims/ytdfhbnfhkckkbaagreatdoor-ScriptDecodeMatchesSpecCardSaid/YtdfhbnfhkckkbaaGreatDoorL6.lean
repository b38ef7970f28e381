/-
  The law of the specification of Decode: walked whole (printed by genL6.py).
-/
import Derived.Test.YtdfhbnfhkckkbaaGreatDoorQ5
namespace Go.Proofs.YtdfhbnfhkckkbaaGreatDoor
open Go Go.RowKit Go.Walks

def resS : Except Nat ScriptD → ScriptD
  | .ok S => S
  | .error _ => emptyS
def resE : Except Nat ScriptD → Nat
  | .ok _ => 0
  | .error e => e
theorem zero_S (W : World) : ScriptS W emptyS (.agg (scrCs 0 0 0 0 0 0 none 0 0 none 0 0)) :=
  ⟨0, 0, 0, 0, 0, 0, none, 0, none, 0, rfl, rfl, .inl rfl, ⟨[], .inl rfl, rfl⟩, Nat.le_refl _, Nat.le_refl _⟩
theorem dec_two {x : Except Nat ScriptD} {w : World} {e : Ending} {w' : World} (h : DecR x w e w') : Below w.heap.size w w' ∧ ∃ v, e = .returned (.tuple #[v, .int .i64 (resE x : Int)]) ∧ ScriptS w' (resS x) v := by
  cases x with
  | error er => exact ⟨h.1, _, h.2, zero_S _⟩
  | ok S => exact h
theorem dec_okS (b : Bytes) : OkS (resS (decodeB b)) := by
  cases h : decodeB b with
  | error e => exact check_ok.1 (show (checkB emptyS).2 = 0 by decide +kernel)
  | ok S => exact (enc_decode h).2.2

set_option maxRecDepth 100000 in
set_option maxHeartbeats 8000000 in
theorem lawDec_any (b : Bytes) (A : Option Addr) (c : Nat) (w : World) (Hg : Hid (Gl w)) (hc : b.length ≤ c) (hcm : c ≤ maxLen) (Hs : Hid (Sl w w.heap.size A (Lib.byteCells b))) : Calls Tryz.prog 4 #[.slice A b.length c] w (BoolR true w) := by
  have HSan : Hid (∀ W, Below w.heap.size w W → Calls Tryz.prog 11 #[] W (BoolR true W)) := Lib.hid fun W hb => sanity_any W (Lib.hid (Hg.out.below hb))
  obtain ⟨S, hS⟩ : ∃ S, S = resS (decodeB b) := ⟨_, rfl⟩
  have hO : OkS S := by rw [hS]; exact dec_okS b
  have HSpec : Hid (∀ v W, ScriptS W S v → Calls Tryz.prog 30 #[v] W fun e w' => Below W.heap.size W w' ∧ ∃ v', e = .returned v' ∧ ScriptS w' S v') := Lib.hid fun v W h => spec_any S v W (Lib.hid h) (by have := hO.ns; omega)
  have HSm : Hid (∀ u v W, ScriptS W S u → ScriptS W S v → Calls Tryz.prog 24 #[u, v] W (BoolR true W)) := Lib.hid fun u v W h1 h2 => by
    have := rsame_any S S u v W (Lib.hid h1) (Lib.hid h2) (Lib.hid (check_okL hO))
    rw [decide_eq_true rfl] at this
    exact this
  obtain ⟨er, her⟩ : ∃ e, e = resE (decodeB b) := ⟨_, rfl⟩
  have HDe : Hid (∀ A n c W, Below w.heap.size w W → n = b.length → n ≤ 20000 → n ≤ c → c ≤ maxLen → Sl W W.heap.size A (Lib.byteCells b) → Calls Tryz.prog 28 #[.slice A n c] W fun e w' => Below W.heap.size W w' ∧ ∃ v, e = .returned (.tuple #[v, .int .i64 (er : Int)]) ∧ ScriptS w' S v) := Lib.hid fun A n c W hb hn h0 h1 h2 hs => by
    rw [hn] at h0 h1 ⊢
    rw [hS, her]
    exact (decode_any b A c W (Lib.hid (Hg.out.below hb)) (by omega) h1 (by unfold maxLen at h2; omega) (Lib.hid hs)).mono fun _ _ h => dec_two h
  have HDr : Hid (∀ A n c W, n = b.length → n ≤ 20000 → n ≤ c → c ≤ maxLen → Sl W W.heap.size A (Lib.byteCells b) → Calls Tryz.prog 29 #[.slice A n c] W fun e w' => Below W.heap.size W w' ∧ ∃ v, e = .returned (.tuple #[v, .int .i64 (er : Int)]) ∧ ScriptS w' S v) := Lib.hid fun A n c W hn h0 h1 h2 hs => by
    rw [hn] at h0 h1 ⊢
    rw [hS, her]
    exact (rdecode_any b A c W (by omega) h1 (by unfold maxLen at h2; omega) (Lib.hid hs)).mono fun _ _ h => dec_two h
  have HB0 : Hid (Below w.heap.size w w) := Below.refl _ _
  have HL0 := Lib.hid Hs.out
  obtain ⟨n, hn⟩ : ∃ n, n = b.length := ⟨_, rfl⟩
  rw [← hn] at hc ⊢
  have Hn := Lib.hid hn
  clear hn Hs Hg hS her hO
  by_cases hgt : (20000 : Int) < (n : Int)
  · go_enter Tryz.func4, Tryz.ntmps4
    go_wp2_with fail
    refine (HSan.out _ HB0.out).mono ?_
    rintro en w1 ⟨rfl, hb1⟩
    have HB1 := Lib.hid (HB0.out.trans (hb1.mono HB0.out.size))
    have HL1 := Lib.hid ((HL0.out.below hb1).more hb1.size)
    clear hb1 HB0 HL0
    go_wp2_with fail
    go_ret
    exact ⟨rfl, HB1.out⟩
  have hle : n ≤ 20000 := by omega
  go_enter Tryz.func4, Tryz.ntmps4
  go_wp2_with fail
  refine (HDe.out A n c _ HB0.out Hn.out hle hc hcm HL0.out).mono ?_
  rintro en w1 ⟨hb1, va, rfl, hva⟩
  have HB1 := Lib.hid (HB0.out.trans (hb1.mono HB0.out.size))
  have HL1 := Lib.hid ((HL0.out.below hb1).more hb1.size)
  clear hb1 HB0 HL0
  obtain ⟨p0, p1, p2, p3, p4, p5, T, tc, U, uc, rfl, hp⟩ := hva
  obtain ⟨nt, hnt⟩ : ∃ n, n = S.texts.length := ⟨_, rfl⟩
  obtain ⟨ns, hns⟩ : ∃ n, n = S.steps.length := ⟨_, rfl⟩
  have HVx : Hid (ScriptS w1 S (.agg (scrCs p0 p1 p2 p3 p4 p5 T nt tc U ns uc))) := ⟨p0, p1, p2, p3, p4, p5, T, tc, U, uc, by rw [hnt, hns], hp⟩
  rw [← hnt, ← hns]
  obtain ⟨cs, hcs⟩ : ∃ cs, cs = scrCs p0 p1 p2 p3 p4 p5 T nt tc U ns uc := ⟨_, rfl⟩
  rw [← hcs] at HVx
  obtain ⟨g3, hg⟩ : ∃ g, g = w1.heap.size := ⟨_, rfl⟩
  obtain ⟨W2, hW⟩ : ∃ W, W = w1.alloc (.cells cs 35) := ⟨_, rfl⟩
  have HS2 : Hid (SNt 35 S g3 cs W2) := by rw [hW, hg]; exact SNt.start HVx.out
  have hb2 : Below w1.heap.size w1 W2 := by rw [hW]; exact (Below.refl _ _).alloc (Nat.le_refl _) _
  have Hcs := Lib.hid hcs
  rw [hcs] at hW
  have HB2 := Lib.hid (HB1.out.trans (hb2.mono HB1.out.size))
  have HL2 := Lib.hid ((HL1.out.below hb2).more hb2.size)
  clear hb2 HB1 HL1 hp hnt hns hcs HVx
  unfold scrCs
  unfold scrCs at hW
  go_upto_region 4 with fail
  rw [← hW, ← hg]
  clear hW hg
  go_wp2_with fail
  refine (HDr.out A n c _ Hn.out hle hc hcm HL2.out).mono ?_
  rintro en w3 ⟨hb3, vb, rfl, hvb⟩
  have HB3 := Lib.hid (HB2.out.trans (hb3.mono HB2.out.size))
  have HL3 := Lib.hid ((HL2.out.below hb3).more hb3.size)
  have HS3 := Lib.hid (HS2.out.call hb3)
  clear hb3 HB2 HL2 HS2
  obtain ⟨q0, q1, q2, q3, q4, q5, T', tc', U', uc', rfl, hp⟩ := hvb
  obtain ⟨nt', hnt⟩ : ∃ n, n = S.texts.length := ⟨_, rfl⟩
  obtain ⟨ns', hns⟩ : ∃ n, n = S.steps.length := ⟨_, rfl⟩
  have HVx : Hid (ScriptS w3 S (.agg (scrCs q0 q1 q2 q3 q4 q5 T' nt' tc' U' ns' uc'))) := ⟨q0, q1, q2, q3, q4, q5, T', tc', U', uc', by rw [hnt, hns], hp⟩
  rw [← hnt, ← hns]
  obtain ⟨ds, hcs⟩ : ∃ cs, cs = scrCs q0 q1 q2 q3 q4 q5 T' nt' tc' U' ns' uc' := ⟨_, rfl⟩
  rw [← hcs] at HVx
  obtain ⟨g5, hg⟩ : ∃ g, g = w3.heap.size := ⟨_, rfl⟩
  obtain ⟨W4, hW⟩ : ∃ W, W = w3.alloc (.cells ds 27) := ⟨_, rfl⟩
  have HT4 : Hid (SNt 27 S g5 ds W4) := by rw [hW, hg]; exact SNt.start HVx.out
  have hb4 : Below w3.heap.size w3 W4 := by rw [hW]; exact (Below.refl _ _).alloc (Nat.le_refl _) _
  have Hds := Lib.hid hcs
  rw [hcs] at hW
  have HB4 := Lib.hid (HB3.out.trans (hb4.mono HB3.out.size))
  have HL4 := Lib.hid ((HL3.out.below hb4).more hb4.size)
  have HS4 := Lib.hid (HS3.out.call hb4)
  clear hb4 HB3 HL3 HS3 hp hnt hns hcs HVx
  unfold scrCs
  unfold scrCs at hW
  go_upto_region 5 with fail
  rw [← hW, ← hg]
  clear hW hg
  have hv := HS4.out.2
  rw [Hcs.out] at hv
  have HVl := Lib.hid hv
  clear hv
  have hz := HT4.out.2
  rw [Hds.out] at hz
  have HVz := Lib.hid hz
  clear hz
  have crow := HS4.out.1
  rw [Hcs.out] at crow
  have c0 := (cell_at (u := .int .i64 p0) crow 0 rfl).1
  have c1 := (cell_at (u := .int .i64 p1) crow 1 rfl).1
  have c2 := (cell_at (u := .int .i64 p2) crow 2 rfl).1
  have c3 := (cell_at (u := .int .i64 p3) crow 3 rfl).1
  have c4 := (cell_at (u := .int .i64 p4) crow 4 rfl).1
  have c5 := (cell_at (u := .int .i64 p5) crow 5 rfl).1
  have c6 := (cell_at (u := .slice T nt tc) crow 6 rfl).1
  have c7 := (cell_at (u := .slice U ns uc) crow 7 rfl).1
  clear crow
  have crow := HT4.out.1
  rw [Hds.out] at crow
  have d0 := (cell_at (u := .int .i64 q0) crow 0 rfl).1
  have d1 := (cell_at (u := .int .i64 q1) crow 1 rfl).1
  have d2 := (cell_at (u := .int .i64 q2) crow 2 rfl).1
  have d3 := (cell_at (u := .int .i64 q3) crow 3 rfl).1
  have d4 := (cell_at (u := .int .i64 q4) crow 4 rfl).1
  have d5 := (cell_at (u := .int .i64 q5) crow 5 rfl).1
  have d6 := (cell_at (u := .slice T' nt' tc') crow 6 rfl).1
  have d7 := (cell_at (u := .slice U' ns' uc') crow 7 rfl).1
  clear crow
  have hltg3 : g3 < W4.heap.size := (Array.getElem?_eq_some_iff.1 HS4.out.1).1
  have hltg5 : g5 < W4.heap.size := (Array.getElem?_eq_some_iff.1 HT4.out.1).1
  have KS : Hid (∀ w' : World, Below W4.heap.size W4 w' → (w'.cell? ⟨g3, 0, none⟩ = some (.int .i64 p0) ∧ w'.cell? ⟨g3, 1, none⟩ = some (.int .i64 p1) ∧ w'.cell? ⟨g3, 2, none⟩ = some (.int .i64 p2) ∧ w'.cell? ⟨g3, 3, none⟩ = some (.int .i64 p3) ∧ w'.cell? ⟨g3, 4, none⟩ = some (.int .i64 p4) ∧ w'.cell? ⟨g3, 5, none⟩ = some (.int .i64 p5) ∧ w'.cell? ⟨g3, 6, none⟩ = some (.slice T nt tc) ∧ w'.cell? ⟨g3, 7, none⟩ = some (.slice U ns uc) ∧ w'.cell? ⟨g5, 0, none⟩ = some (.int .i64 q0) ∧ w'.cell? ⟨g5, 1, none⟩ = some (.int .i64 q1) ∧ w'.cell? ⟨g5, 2, none⟩ = some (.int .i64 q2) ∧ w'.cell? ⟨g5, 3, none⟩ = some (.int .i64 q3) ∧ w'.cell? ⟨g5, 4, none⟩ = some (.int .i64 q4) ∧ w'.cell? ⟨g5, 5, none⟩ = some (.int .i64 q5) ∧ w'.cell? ⟨g5, 6, none⟩ = some (.slice T' nt' tc') ∧ w'.cell? ⟨g5, 7, none⟩ = some (.slice U' ns' uc'))) := fun w' hb => ⟨(hb.cell (p := ⟨g3, 0, none⟩) hltg3).trans c0, (hb.cell (p := ⟨g3, 1, none⟩) hltg3).trans c1, (hb.cell (p := ⟨g3, 2, none⟩) hltg3).trans c2, (hb.cell (p := ⟨g3, 3, none⟩) hltg3).trans c3, (hb.cell (p := ⟨g3, 4, none⟩) hltg3).trans c4, (hb.cell (p := ⟨g3, 5, none⟩) hltg3).trans c5, (hb.cell (p := ⟨g3, 6, none⟩) hltg3).trans c6, (hb.cell (p := ⟨g3, 7, none⟩) hltg3).trans c7, (hb.cell (p := ⟨g5, 0, none⟩) hltg5).trans d0, (hb.cell (p := ⟨g5, 1, none⟩) hltg5).trans d1, (hb.cell (p := ⟨g5, 2, none⟩) hltg5).trans d2, (hb.cell (p := ⟨g5, 3, none⟩) hltg5).trans d3, (hb.cell (p := ⟨g5, 4, none⟩) hltg5).trans d4, (hb.cell (p := ⟨g5, 5, none⟩) hltg5).trans d5, (hb.cell (p := ⟨g5, 6, none⟩) hltg5).trans d6, (hb.cell (p := ⟨g5, 7, none⟩) hltg5).trans d7⟩
  have B0 : Hid (Below W4.heap.size W4 W4.drew) := (Below.refl _ _).drew
  go_wp2_with fail
  go_region_held3 (fun w' => (w'.cell? ⟨g3, 0, none⟩ = some (.int .i64 p0) ∧ w'.cell? ⟨g3, 1, none⟩ = some (.int .i64 p1) ∧ w'.cell? ⟨g3, 2, none⟩ = some (.int .i64 p2) ∧ w'.cell? ⟨g3, 3, none⟩ = some (.int .i64 p3) ∧ w'.cell? ⟨g3, 4, none⟩ = some (.int .i64 p4) ∧ w'.cell? ⟨g3, 5, none⟩ = some (.int .i64 p5) ∧ w'.cell? ⟨g3, 6, none⟩ = some (.slice T nt tc) ∧ w'.cell? ⟨g3, 7, none⟩ = some (.slice U ns uc) ∧ w'.cell? ⟨g5, 0, none⟩ = some (.int .i64 q0) ∧ w'.cell? ⟨g5, 1, none⟩ = some (.int .i64 q1) ∧ w'.cell? ⟨g5, 2, none⟩ = some (.int .i64 q2) ∧ w'.cell? ⟨g5, 3, none⟩ = some (.int .i64 q3) ∧ w'.cell? ⟨g5, 4, none⟩ = some (.int .i64 q4) ∧ w'.cell? ⟨g5, 5, none⟩ = some (.int .i64 q5) ∧ w'.cell? ⟨g5, 6, none⟩ = some (.slice T' nt' tc') ∧ w'.cell? ⟨g5, 7, none⟩ = some (.slice U' ns' uc'))) (first | exact hKeep | go_keep)
    (first
      | (go_at_call 11; refine (HSan.out _ (HB4.out.trans (B0.out.mono HB4.out.size))).mono ?_; rintro e w5 ⟨rfl, hbx⟩; have B1 := Lib.hid (B0.out.trans (hbx.mono B0.out.size)); have hKeep := KS.out _ B1.out; clear hbx)
      | (go_at_call 30; refine (HSpec.out (.agg (scrCs p0 p1 p2 p3 p4 p5 T nt tc U ns uc)) _ (HVl.out.below B1.out)).mono ?_; rintro e w6 ⟨hbx, vc, rfl, hvc⟩; have HVC := Lib.hid hvc; clear hvc; have B2 := Lib.hid (B1.out.trans (hbx.mono B1.out.size)); have hKeep := KS.out _ B2.out; clear hbx)
      | (go_at_call 24; refine (HSm.out _ (.agg (scrCs q0 q1 q2 q3 q4 q5 T' nt' tc' U' ns' uc')) _ HVC.out (HVz.out.below B2.out)).mono ?_; rintro e w7 ⟨rfl, hbx⟩; have B3 := Lib.hid (B2.out.trans (hbx.mono B2.out.size)); have hKeep := KS.out _ B3.out; clear hbx))
  clear KS c0 c1 c2 c3 c4 c5 c6 c7 d0 d1 d2 d3 d4 d5 d6 d7 hltg3 hltg5 B0 B1 B2
  have hb7 := B3.out
  clear B3
  have HB7 := Lib.hid (HB4.out.trans (hb7.mono HB4.out.size))
  have HL7 := Lib.hid ((HL4.out.below hb7).more hb7.size)
  have HS7 := Lib.hid (HS4.out.call hb7)
  have HT7 := Lib.hid (HT4.out.call hb7)
  clear hb7 HB4 HL4 HS4 HT4 HVz HVl HVC
  go_wp2_with fail
  go_ret
  exact ⟨rfl, HB7.out⟩
end Go.Proofs.YtdfhbnfhkckkbaaGreatDoor
