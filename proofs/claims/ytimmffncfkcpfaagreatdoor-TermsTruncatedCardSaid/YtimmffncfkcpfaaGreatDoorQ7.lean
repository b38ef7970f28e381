/-
  The walk of the reference's take.
  The walks of the reference's word, number and must.
-/
import Derived.Test.YtimmffncfkcpfaaGreatDoorQ5
namespace Go.Proofs.YtimmffncfkcpfaaGreatDoor
open Go Go.RowKit Go.Walks

set_option maxRecDepth 100000 in
theorem res60 (tmps : Array Value) (w : World) (g : Nat) (a b : Value) (hp : tmps.getD 4 undef = .pointer (some ⟨g, 0, none⟩)) (hg : w.heap[g]? = some (.cells #[a, b] 73)) :
    (results Tryz.f60 tmps).run Tryz.prog w = .ok (.agg #[a, b]) w :=
  results_cell_row (p := 4) (ty := 73) rfl tmps w g 73 #[a, b] (0, 0) _ hp hg Tryz.underlying73 rfl info73
/-- What a step of the reference's parser leaves. -/
def StepR (r : Nat) (A : Option Addr) (c : Nat) (acc : List Tok) (stop : Nat) (S : RSt) (v : Value) (w : World) (e : Ending) (w' : World) : Prop := e = .returned v ∧ RB r w w' ∧ RP w' r A c acc stop S
theorem rts_len {acc : List Tok} {stop i n : Nat} {ts : List Tok} (h : ts = (acc ++ [(⟨[], stop⟩ : Tok)]).drop i) (hn : n = acc.length) : ts.length = n + 1 - i := by rw [h, List.length_drop, List.length_append, hn]; rfl

set_option maxRecDepth 100000 in
set_option maxHeartbeats 4000000 in
theorem rtake_any {r c stop : Nat} {A : Option Addr} {acc : List Tok} {S : RSt} (b : Bool) (w : World) (H : Hid (RP w r A c acc stop S)) (hn : acc.length ≤ 2000) (hcap : acc.length ≤ c) :
    Calls Tryz.prog 60 #[.pointer (some ⟨r, 0, none⟩), .bool b] w (StepR r A c acc stop (takeR b S).2 (TokV (takeR b S).1) w) := by
  obtain ⟨x, hx⟩ : ∃ x, x = takeR b S := ⟨_, rfl⟩
  rw [← hx]
  have HX := Lib.hid hx
  clear hx
  obtain ⟨W0, hW0⟩ : ∃ W, W = w.alloc (.cells #[.string ⟨#[]⟩, .int .i64 0] 73) := ⟨_, rfl⟩
  have hB0 : Below w.heap.size w W0 := by rw [hW0]; exact (Below.refl _ _).alloc (Nat.le_refl _) _
  have hN0 : W0.heap[w.heap.size]? = some (.cells #[.string ⟨#[]⟩, .int .i64 0] 73) := by rw [hW0]; exact heap_new _ _
  have Hnext := Lib.hid (next_any W0 (H.out.below hB0) hn hcap)
  obtain ⟨T, hT⟩ : ∃ T, T = headR S := ⟨_, rfl⟩
  rw [← hT] at Hnext
  have HTe := Lib.hid hT
  have HN0 := Lib.hid hN0
  have HB0 := Lib.hid hB0
  have hrl := H.out.lt
  clear hT hN0 hB0
  go_enter Tryz.func60, Tryz.ntmps60
  go_wp2_with fail
  rw [← hW0]
  refine Hnext.out.mono ?_
  unfold TokV strV
  rintro e w1 ⟨rfl, hb1⟩
  have HB1 := Lib.hid (HB0.out.trans (hb1.mono HB0.out.size))
  have HN1 := Lib.hid (below_cells HN0.out hb1)
  clear hb1 hW0
  go_upto_region 2 with fail
  obtain ⟨W2, hW2⟩ : ∃ W, W = w1.alloc (.cells #[.string ⟨T.text.toArray⟩, .int .i64 (T.at_ : Int)] 73) := ⟨_, rfl⟩
  rw [← hW2]
  have hB2 : Below w1.heap.size w1 W2 := by rw [hW2]; exact (Below.refl _ _).alloc (Nat.le_refl _) _
  have hT2 : W2.heap[w1.heap.size]? = some (.cells #[.string ⟨T.text.toArray⟩, .int .i64 (T.at_ : Int)] 73) := by rw [hW2]; exact heap_new _ _
  have HB2 := Lib.hid (HB1.out.trans (hB2.mono HB1.out.size))
  have HN2 := Lib.hid (below_cells HN1.out hB2)
  have HT2 := Lib.hid hT2
  have hw01 : w.heap.size < w1.heap.size := (Array.getElem?_eq_some_iff.1 HN1.out).1
  have HP2 := Lib.hid (H.out.below HB2.out)
  obtain ⟨i, hi, hts, hrow⟩ := HP2.out.row
  have HSL := Lib.hid HP2.out.sl
  have hl2 := rts_len hts rfl
  obtain ⟨ts, bad⟩ := S
  dsimp only at hts hrow hl2
  have HTS := Lib.hid hts
  have HRow := Lib.hid hrow
  have hrs : r < W2.heap.size := HP2.out.lt
  clear hW2 hB2 hT2 hts
  obtain ⟨t0, t1, -⟩ := two_cells HT2.out
  obtain ⟨z0, z1, z2⟩ := two_cells HN2.out
  have z3 := (cell_at HN2.out 1 rfl).2
  have ne1 : r ≠ w.heap.size := by omega
  have ne2 : r ≠ w1.heap.size := by omega
  cases bad with
  | some p =>
    unfold parCs at hrow
    obtain ⟨x0, x1, x2, x3, x4, -⟩ := five_cells hrow
    clear hrow
    go_wp2_with fail
    refine bodyPost_ret (res60 _ _ w.heap.size (.string ⟨#[]⟩) (.int .i64 0) rfl (set_at (set_at HN2.out 0 _) 1 _)) rfl ?_
    have hb3 := below_set2 HB2.out (.string ⟨#[]⟩) (.int .i64 0)
    rw [HX.out]
    exact ⟨rfl, RB.of_below hb3, H.out.below hb3⟩
  | none =>
    unfold parCs at hrow
    dsimp only [Option.isSome, Option.getD] at hrow
    obtain ⟨x0, x1, x2, x3, x4, -⟩ := five_cells hrow
    have hrow2 : W2.heap[r]? = some (.cells #[.slice A acc.length c, .int .i64 (stop : Int), .int .i64 (i : Int), .bool false, .int .i64 0] 117) := hrow
    have HRow := Lib.hid hrow2
    have HSL0 := Lib.hid H.out.sl
    obtain ⟨cs0, hcs0⟩ : ∃ cs, w.heap[r]? = some (.cells cs 117) := by obtain ⟨i, _, _, h⟩ := H.out.row; exact ⟨_, h⟩
    have HRow0 := Lib.hid hcs0
    clear hrow hrow2 hcs0
    cases b with
    | false =>
      have HX2 : Hid (x = (tok0, ⟨ts, some T.at_⟩)) := by
        show _ = _
        rw [HX.out]
        unfold takeR
        rw [← HTe.out]; rfl
      clear hl2
      go_upto_region 4 with fail
      go_quiet (fail)
      obtain ⟨W3, hW3⟩ : ∃ W, W = W2.drewN nq := ⟨_, rfl⟩
      have hB3 : Below W2.heap.size W2 W3 := by rw [hW3]; exact below_drewN (Below.refl _ _) _
      have HB3 := Lib.hid (HB2.out.trans (hB3.mono HB2.out.size))
      have HN3 := Lib.hid (below_cells HN2.out hB3)
      have HT3 := Lib.hid (below_cells HT2.out hB3)
      have HR3 := Lib.hid (below_cells HRow.out hB3)
      rw [← hW3]
      clear hW3 hB3 x0 x1 x2 x3 x4 t0 t1 z0 z1 z2 z3
      obtain ⟨x0, x1, x2, x3, x4, f0⟩ := five_cells HR3.out
      have f2 := (cell_at HR3.out 2 rfl).2
      have f3 := (cell_at HR3.out 3 rfl).2
      have f4 := (cell_at HR3.out 4 rfl).2
      obtain ⟨t0, t1, -⟩ := two_cells HT3.out
      obtain ⟨z0, z1, z2⟩ := two_cells HN3.out
      have z3 := (cell_at HN3.out 1 rfl).2
      have ne3 : w.heap.size ≠ w1.heap.size := by omega
      go_wp2_with fail
      refine bodyPost_ret (res60 _ _ w.heap.size (.string ⟨#[]⟩) (.int .i64 0) rfl (set_at (set_at ((Below.heap_setCell _ _ _ _ (Ne.symm ne1)).trans ((Below.heap_setCell _ _ _ _ (Ne.symm ne1)).trans HN3.out)) 0 _) 1 _)) rfl ?_
      have hrb := (((RB.of_below HB3.out).setCell (r := r) 3 (.bool true)).setCell 4 (.int .i64 (T.at_ : Int))).setNew (g := w.heap.size) (Nat.le_refl _) 0 (.string ⟨#[]⟩)
      have hrb := hrb.setNew (g := w.heap.size) (Nat.le_refl _) 1 (.int .i64 0)
      rw [HX2.out]
      exact ⟨rfl, hrb, ⟨⟨i, hi, HTS.out, (Below.heap_setCell _ _ _ _ ne1).trans ((Below.heap_setCell _ _ _ _ ne1).trans (set_at (set_at HR3.out 3 _) 4 _))⟩, HSL0.out.rb hrb HRow0.out (by decide) hrb.size⟩⟩
    | true =>
      by_cases hlt : i < acc.length
      · have hI1 : ¬ (acc.length : Int) ≤ (i : Int) := by omega
        have HX2 : Hid (x = (T, ⟨ts.tail, none⟩)) := by
          show _ = _
          rw [HX.out]
          unfold takeR
          dsimp only
          rw [if_pos ⟨rfl, by omega⟩, ← HTe.out]
        clear hl2
        go_upto_region 4 with fail
        go_quiet (fail)
        obtain ⟨W3, hW3⟩ : ∃ W, W = W2.drewN nq := ⟨_, rfl⟩
        have hB3 : Below W2.heap.size W2 W3 := by rw [hW3]; exact below_drewN (Below.refl _ _) _
        have HB3 := Lib.hid (HB2.out.trans (hB3.mono HB2.out.size))
        have HN3 := Lib.hid (below_cells HN2.out hB3)
        have HT3 := Lib.hid (below_cells HT2.out hB3)
        have HR3 := Lib.hid (below_cells HRow.out hB3)
        rw [← hW3]
        clear hW3 hB3 x0 x1 x2 x3 x4 t0 t1 z0 z1 z2 z3
        obtain ⟨x0, x1, x2, x3, x4, f0⟩ := five_cells HR3.out
        have f2 := (cell_at HR3.out 2 rfl).2
        have f3 := (cell_at HR3.out 3 rfl).2
        have f4 := (cell_at HR3.out 4 rfl).2
        obtain ⟨t0, t1, -⟩ := two_cells HT3.out
        obtain ⟨z0, z1, z2⟩ := two_cells HN3.out
        have z3 := (cell_at HN3.out 1 rfl).2
        have ne3 : w.heap.size ≠ w1.heap.size := by omega
        go_wp2_with fail
        refine bodyPost_ret (res60 _ _ w.heap.size (.string ⟨T.text.toArray⟩) (.int .i64 (T.at_ : Int)) rfl (set_at (set_at ((Below.heap_setCell _ _ _ _ (Ne.symm ne1)).trans HN3.out) 0 _) 1 _)) rfl ?_
        have hrb := ((RB.of_below HB3.out).setCell (r := r) 2 (.int .i64 ((i : Int) + 1))).setNew (g := w.heap.size) (Nat.le_refl _) 0 (.string ⟨T.text.toArray⟩)
        have hrb := hrb.setNew (g := w.heap.size) (Nat.le_refl _) 1 (.int .i64 (T.at_ : Int))
        rw [HX2.out]
        exact ⟨rfl, hrb, ⟨⟨i + 1, hlt, by show ts.tail = _; rw [HTS.out, List.tail_drop], (Below.heap_setCell _ _ _ _ ne1).trans ((Below.heap_setCell _ _ _ _ ne1).trans (set_at HR3.out 2 _))⟩, HSL0.out.rb hrb HRow0.out (by decide) hrb.size⟩⟩
      · have hI1 : (acc.length : Int) ≤ (i : Int) := by omega
        have HX2 : Hid (x = (tok0, ⟨ts, some T.at_⟩)) := by
          show _ = _
          rw [HX.out]
          unfold takeR
          dsimp only
          rw [if_neg (fun h => by have := h.2; omega), ← HTe.out]
        clear hl2
        go_upto_region 4 with fail
        go_quiet (fail)
        obtain ⟨W3, hW3⟩ : ∃ W, W = W2.drewN nq := ⟨_, rfl⟩
        have hB3 : Below W2.heap.size W2 W3 := by rw [hW3]; exact below_drewN (Below.refl _ _) _
        have HB3 := Lib.hid (HB2.out.trans (hB3.mono HB2.out.size))
        have HN3 := Lib.hid (below_cells HN2.out hB3)
        have HT3 := Lib.hid (below_cells HT2.out hB3)
        have HR3 := Lib.hid (below_cells HRow.out hB3)
        rw [← hW3]
        clear hW3 hB3 x0 x1 x2 x3 x4 t0 t1 z0 z1 z2 z3
        obtain ⟨x0, x1, x2, x3, x4, f0⟩ := five_cells HR3.out
        have f2 := (cell_at HR3.out 2 rfl).2
        have f3 := (cell_at HR3.out 3 rfl).2
        have f4 := (cell_at HR3.out 4 rfl).2
        obtain ⟨t0, t1, -⟩ := two_cells HT3.out
        obtain ⟨z0, z1, z2⟩ := two_cells HN3.out
        have z3 := (cell_at HN3.out 1 rfl).2
        have ne3 : w.heap.size ≠ w1.heap.size := by omega
        go_wp2_with fail
        refine bodyPost_ret (res60 _ _ w.heap.size (.string ⟨#[]⟩) (.int .i64 0) rfl (set_at (set_at ((Below.heap_setCell _ _ _ _ (Ne.symm ne1)).trans ((Below.heap_setCell _ _ _ _ (Ne.symm ne1)).trans HN3.out)) 0 _) 1 _)) rfl ?_
        have hrb := (((RB.of_below HB3.out).setCell (r := r) 3 (.bool true)).setCell 4 (.int .i64 (T.at_ : Int))).setNew (g := w.heap.size) (Nat.le_refl _) 0 (.string ⟨#[]⟩)
        have hrb := hrb.setNew (g := w.heap.size) (Nat.le_refl _) 1 (.int .i64 0)
        rw [HX2.out]
        exact ⟨rfl, hrb, ⟨⟨i, hi, HTS.out, (Below.heap_setCell _ _ _ _ ne1).trans ((Below.heap_setCell _ _ _ _ ne1).trans (set_at (set_at HR3.out 3 _) 4 _))⟩, HSL0.out.rb hrb HRow0.out (by decide) hrb.size⟩⟩
end Go.Proofs.YtimmffncfkcpfaaGreatDoor
namespace Go.Proofs.YtimmffncfkcpfaaGreatDoor
open Go Go.RowKit Go.Walks

/-- What is known of the tokens. -/
structure RK (c : Nat) (acc : List Tok) : Prop where
  n : acc.length ≤ 2000
  cap : acc.length ≤ c
  tl : ∀ T ∈ acc, T.text.length ≤ 2000
def numHead : Bytes → Bool
  | [] => false
  | c :: _ => isD c
def stepR (ok : Bytes → Bool) (S : RSt) : Tok × RSt := takeR (ok (headR S).text) S
theorem RP.head_len {W : World} {r c stop : Nat} {A : Option Addr} {acc : List Tok} {S : RSt} (h : RP W r A c acc stop S) (hk : RK c acc) : (headR S).text.length ≤ 2000 := by
  obtain ⟨i, hi, hts, -⟩ := h.row
  unfold headR
  rw [hts, List.head?_drop]
  cases hg : (acc ++ [(⟨[], stop⟩ : Tok)])[i]? with
  | none => exact Nat.zero_le _
  | some T =>
    have := List.mem_of_getElem? hg
    rcases List.mem_append.1 this with h | h
    · exact hk.tl T h
    · rw [List.mem_singleton] at h; rw [h]; exact Nat.zero_le _
set_option maxRecDepth 100000 in
theorem res75 (tmps : Array Value) (w : World) (g : Nat) (a b : Value) (hp : tmps.getD 2 undef = .pointer (some ⟨g, 0, none⟩)) (hg : w.heap[g]? = some (.cells #[a, b] 73)) :
    (results Tryz.f75 tmps).run Tryz.prog w = .ok (.agg #[a, b]) w :=
  results_cell_row (p := 2) (ty := 73) rfl tmps w g 73 #[a, b] (0, 0) _ hp hg Tryz.underlying73 rfl info73
set_option maxRecDepth 100000 in
theorem res77 (tmps : Array Value) (w : World) (g : Nat) (a b : Value) (hp : tmps.getD 2 undef = .pointer (some ⟨g, 0, none⟩)) (hg : w.heap[g]? = some (.cells #[a, b] 73)) :
    (results Tryz.f77 tmps).run Tryz.prog w = .ok (.agg #[a, b]) w :=
  results_cell_row (p := 2) (ty := 73) rfl tmps w g 73 #[a, b] (0, 0) _ hp hg Tryz.underlying73 rfl info73
set_option maxRecDepth 100000 in
theorem fld73 (x : ByteArray) (y : Int) (w : World) : (Instr.field 73 (.agg #[.string x, .int .i64 y]) 0).run Tryz.prog w = .ok (.string x) w := by kernel_rfl
section
variable {r c stop : Nat} {A : Option Addr} {acc : List Tok} {S : RSt}
theorem RP.of {W W' W'' : World} {S0 : RSt} (h0 : RP W r A c acc stop S0) (hb : RB r W W') (hp : RP W'' r A c acc stop S) (hrow : W'.heap[r]? = W''.heap[r]?) : RP W' r A c acc stop S := by
  obtain ⟨i, h1, h2, h3⟩ := hp.row
  obtain ⟨_, _, _, h6⟩ := h0.row
  exact ⟨⟨i, h1, h2, hrow.trans h3⟩, h0.sl.rb hb h6 (by decide) hb.size⟩
theorem rb_setNew2 {a w : World} (h : RB r a w) {g : Nat} (hg : a.heap.size ≤ g) (u v : Value) : RB r a ((w.setCell ⟨g, 0, none⟩ u).setCell ⟨g, 1, none⟩ v) := (h.setNew hg 0 u).setNew hg 1 v
theorem set2_row {w : World} {g k : Nat} (h : k ≠ g) (u v : Value) : ((w.setCell ⟨g, 0, none⟩ u).setCell ⟨g, 1, none⟩ v).heap[k]? = w.heap[k]? := (Below.heap_setCell _ _ _ _ h).trans (Below.heap_setCell _ _ _ _ h)
set_option maxRecDepth 100000 in
set_option maxHeartbeats 4000000 in
theorem rmust_any (s : Bytes) (w : World) (H : Hid (RP w r A c acc stop S)) (HK : Hid (RK c acc)) :
    Calls Tryz.prog 76 #[.pointer (some ⟨r, 0, none⟩), .string ⟨s.toArray⟩] w (StepR r A c acc stop (stepR (· == s) S).2 (.tuple #[]) w) := by
  have Hnext := Lib.hid (next_any w H HK.out.n HK.out.cap)
  have Htake : Hid (∀ (b : Bool) W, RP W r A c acc stop S → Calls Tryz.prog 60 #[.pointer (some ⟨r, 0, none⟩), .bool b] W (StepR r A c acc stop (takeR b S).2 (TokV (takeR b S).1) W)) := fun b W h => rtake_any b W h HK.out.n HK.out.cap
  obtain ⟨T, hT⟩ : ∃ T, T = headR S := ⟨_, rfl⟩
  rw [← hT] at Hnext
  have hX : stepR (· == s) S = takeR (T.text == s) S := by rw [hT]; rfl
  have HX := Lib.hid hX
  clear hT hX
  have hf := fld73
  go_enter Tryz.func76, Tryz.ntmps76
  go_wp2_with fail
  refine Hnext.out.mono ?_
  unfold TokV strV
  rintro e w1 ⟨rfl, hb1⟩
  have HB1 := Lib.hid hb1
  have HP1 := Lib.hid (H.out.below hb1)
  clear hb1
  go_wp2_with fail
  refine (Htake.out _ _ HP1.out).mono ?_
  rintro e w2 ⟨rfl, hrb, hp⟩
  have HR2 := Lib.hid ((RB.of_below HB1.out).trans hrb)
  have HP2 := Lib.hid hp
  clear hrb hp
  unfold TokV
  go_wp2_with fail
  refine bodyPost_end (results_none rfl _ _ _) rfl ?_
  exact ⟨rfl, HR2.out, by rw [HX.out]; exact HP2.out⟩
set_option maxRecDepth 100000 in
set_option maxHeartbeats 4000000 in
theorem rwordP_any (w : World) (H : Hid (RP w r A c acc stop S)) (HK : Hid (RK c acc)) :
    Calls Tryz.prog 75 #[.pointer (some ⟨r, 0, none⟩)] w (StepR r A c acc stop (stepR wordB S).2 (TokV (stepR wordB S).1) w) := by
  obtain ⟨W0, hW0⟩ : ∃ W, W = w.alloc (.cells #[.string ⟨#[]⟩, .int .i64 0] 73) := ⟨_, rfl⟩
  have hB0 : Below w.heap.size w W0 := by rw [hW0]; exact (Below.refl _ _).alloc (Nat.le_refl _) _
  have hN0 : W0.heap[w.heap.size]? = some (.cells #[.string ⟨#[]⟩, .int .i64 0] 73) := by rw [hW0]; exact heap_new _ _
  have Hnext := Lib.hid (next_any W0 (H.out.below hB0) HK.out.n HK.out.cap)
  have Htake : Hid (∀ (b : Bool) W, RP W r A c acc stop S → Calls Tryz.prog 60 #[.pointer (some ⟨r, 0, none⟩), .bool b] W (StepR r A c acc stop (takeR b S).2 (TokV (takeR b S).1) W)) := fun b W h => rtake_any b W h HK.out.n HK.out.cap
  have hlen := H.out.head_len HK.out
  obtain ⟨T, hT⟩ : ∃ T, T = headR S := ⟨_, rfl⟩
  rw [← hT] at Hnext hlen
  have hX : stepR wordB S = takeR (wordB T.text) S := by rw [hT]; rfl
  have Hword : Hid (∀ W, Calls Tryz.prog 88 #[.string ⟨T.text.toArray⟩] W fun e w' => e = .returned (.bool (wordB T.text)) ∧ w' = W) := fun W => by
    have := rword_any ⟨T.text.toArray⟩ W (by show T.text.toArray.size ≤ _; rw [List.size_toArray]; unfold maxLen; omega)
    simpa using this
  obtain ⟨x, hx⟩ : ∃ x, x = stepR wordB S := ⟨_, rfl⟩
  rw [← hx]
  have HX := Lib.hid (hx.trans hX)
  have HB0 := Lib.hid hB0
  have HN0 := Lib.hid hN0
  have hrl := H.out.lt
  have ne1 : w.heap.size ≠ r := by omega
  have hf := fld73
  clear hT hX hx hB0 hN0 hlen
  go_enter Tryz.func75, Tryz.ntmps75
  go_wp2_with fail
  rw [← hW0]
  refine Hnext.out.mono ?_
  unfold TokV strV
  rintro e w1 ⟨rfl, hb1⟩
  have HB1 := Lib.hid (HB0.out.trans (hb1.mono HB0.out.size))
  have HP1 := Lib.hid (H.out.below HB1.out)
  have HN1 := Lib.hid (below_cells HN0.out hb1)
  clear hb1 hW0
  go_wp2_with fail
  refine (Hword.out _).mono ?_
  rintro e w2 ⟨rfl, hw2⟩
  have hw3 := hw2.symm
  subst hw3
  clear hw2
  go_wp2_with fail
  refine (Htake.out _ _ HP1.out).mono ?_
  rintro e w2 ⟨rfl, hrb, hp⟩
  have HR2 := Lib.hid ((RB.of_below HB1.out).trans hrb)
  have HP2 := Lib.hid hp
  have HN2 := Lib.hid (hrb.row ne1 HN1.out)
  obtain ⟨z0, z1, z2⟩ := two_cells HN2.out
  have z3 := (cell_at HN2.out 1 rfl).2
  clear hrb hp
  rw [← HX.out]
  unfold TokV strV
  go_wp2_with fail
  refine bodyPost_ret (res75 _ _ w.heap.size (.string ⟨x.1.text.toArray⟩) (.int .i64 (x.1.at_ : Int)) rfl (set_at (set_at HN2.out 0 _) 1 _)) rfl ?_
  have hrb := rb_setNew2 HR2.out (Nat.le_refl _) (.string ⟨x.1.text.toArray⟩) (.int .i64 (x.1.at_ : Int))
  exact ⟨rfl, hrb, H.out.of hrb (by rw [HX.out]; exact HP2.out) (set2_row (Ne.symm ne1) _ _)⟩
set_option maxRecDepth 100000 in
set_option maxHeartbeats 4000000 in
theorem rnumP_any (w : World) (H : Hid (RP w r A c acc stop S)) (HK : Hid (RK c acc)) :
    Calls Tryz.prog 77 #[.pointer (some ⟨r, 0, none⟩)] w (StepR r A c acc stop (stepR numHead S).2 (TokV (stepR numHead S).1) w) := by
  obtain ⟨W0, hW0⟩ : ∃ W, W = w.alloc (.cells #[.string ⟨#[]⟩, .int .i64 0] 73) := ⟨_, rfl⟩
  have hB0 : Below w.heap.size w W0 := by rw [hW0]; exact (Below.refl _ _).alloc (Nat.le_refl _) _
  have hN0 : W0.heap[w.heap.size]? = some (.cells #[.string ⟨#[]⟩, .int .i64 0] 73) := by rw [hW0]; exact heap_new _ _
  have Hnext := Lib.hid (next_any W0 (H.out.below hB0) HK.out.n HK.out.cap)
  have Htake : Hid (∀ (b : Bool) W, RP W r A c acc stop S → Calls Tryz.prog 60 #[.pointer (some ⟨r, 0, none⟩), .bool b] W (StepR r A c acc stop (takeR b S).2 (TokV (takeR b S).1) W)) := fun b W h => rtake_any b W h HK.out.n HK.out.cap
  have hlen := H.out.head_len HK.out
  obtain ⟨T, hT⟩ : ∃ T, T = headR S := ⟨_, rfl⟩
  rw [← hT] at Hnext hlen
  have hX : stepR numHead S = takeR (numHead T.text) S := by rw [hT]; rfl
  obtain ⟨x, hx⟩ : ∃ x, x = stepR numHead S := ⟨_, rfl⟩
  rw [← hx]
  have hX2 := hx.trans hX
  have HB0 := Lib.hid hB0
  have HN0 := Lib.hid hN0
  have hrl := H.out.lt
  have ne1 : w.heap.size ≠ r := by omega
  have hf := fld73
  clear hT hX hx hB0 hN0
  go_enter Tryz.func77, Tryz.ntmps77
  go_wp2_with fail
  rw [← hW0]
  refine Hnext.out.mono ?_
  unfold TokV strV
  rintro e w1 ⟨rfl, hb1⟩
  have HB1 := Lib.hid (HB0.out.trans (hb1.mono HB0.out.size))
  have HP1 := Lib.hid (H.out.below HB1.out)
  have HN1 := Lib.hid (below_cells HN0.out hb1)
  clear hb1 hW0
  obtain ⟨tx, ta⟩ := T
  dsimp only at hX2 hlen
  cases tx with
  | nil =>
    have hX3 : x = takeR false S := hX2
    have HX := Lib.hid hX3
    clear hX2 hX3
    go_wp2_with fail
    refine (Htake.out _ _ HP1.out).mono ?_
    rintro e w2 ⟨rfl, hrb, hp⟩
    have HR2 := Lib.hid ((RB.of_below HB1.out).trans hrb)
    have HP2 := Lib.hid hp
    have HN2 := Lib.hid (hrb.row ne1 HN1.out)
    obtain ⟨z0, z1, z2⟩ := two_cells HN2.out
    have z3 := (cell_at HN2.out 1 rfl).2
    clear hrb hp
    rw [← HX.out]
    unfold TokV strV
    go_wp2_with fail
    refine bodyPost_ret (res77 _ _ w.heap.size (.string ⟨x.1.text.toArray⟩) (.int .i64 (x.1.at_ : Int)) rfl (set_at (set_at HN2.out 0 _) 1 _)) rfl ?_
    have hrb := rb_setNew2 HR2.out (Nat.le_refl _) (.string ⟨x.1.text.toArray⟩) (.int .i64 (x.1.at_ : Int))
    exact ⟨rfl, hrb, H.out.of hrb (by rw [HX.out]; exact HP2.out) (set2_row (Ne.symm ne1) _ _)⟩
  | cons d rr =>
    obtain ⟨t, ht⟩ : ∃ t : ByteArray, t = ⟨(d :: rr).toArray⟩ := ⟨_, rfl⟩
    have htl : t.data.toList = d :: rr := by rw [ht]
    have hsz : 0 < t.size := by rw [Lib.size_eq, htl]; simp
    have hI1 : (0 : Int) < (t.size : Int) := by omega
    have hd0 : t[0] = d := by
      have := byte_get hsz
      rw [htl] at this
      simpa using this.symm
    have h87 := rdigit_any d
    have H87 := Lib.hid h87
    have hX3 : x = takeR (isD d) S := hX2
    have HX := Lib.hid hX3
    rw [← ht]
    clear hX2 hX3 ht htl h87
    go_wp2_with fail
    refine (H87.out _).mono ?_
    rintro e w2 ⟨rfl, hw2⟩
    have hw3 := hw2.symm
    subst hw3
    clear hw2
    go_wp2_with fail
    refine (Htake.out _ _ HP1.out).mono ?_
    rintro e w2 ⟨rfl, hrb, hp⟩
    have HR2 := Lib.hid ((RB.of_below HB1.out).trans hrb)
    have HP2 := Lib.hid hp
    have HN2 := Lib.hid (hrb.row ne1 HN1.out)
    obtain ⟨z0, z1, z2⟩ := two_cells HN2.out
    have z3 := (cell_at HN2.out 1 rfl).2
    clear hrb hp
    rw [← HX.out]
    unfold TokV strV
    go_wp2_with fail
    refine bodyPost_ret (res77 _ _ w.heap.size (.string ⟨x.1.text.toArray⟩) (.int .i64 (x.1.at_ : Int)) rfl (set_at (set_at HN2.out 0 _) 1 _)) rfl ?_
    have hrb := rb_setNew2 HR2.out (Nat.le_refl _) (.string ⟨x.1.text.toArray⟩) (.int .i64 (x.1.at_ : Int))
    exact ⟨rfl, hrb, H.out.of hrb (by rw [HX.out]; exact HP2.out) (set2_row (Ne.symm ne1) _ _)⟩
end
end Go.Proofs.YtimmffncfkcpfaaGreatDoor
