/-
  The walk of the statement TermsCheckMatchesSpec: it returns true for all terms.
-/
import Derived.Test.YtimmffncfkcpfaaDoorX10
import Derived.Test.YtimmffncfkcpfaaDoorY4
namespace Go.Proofs.YtimmffncfkcpfaaDoor
open Go Go.RowKit Go.Walks

/-- In the law: the blocks of two terms. -/
structure LV2 (w : World) (T U : TermsD) (v u : Array Value) (W : World) : Prop where
  below : Below w.heap.size w W
  x1 : W.heap[w.heap.size]? = some (.cells v 25)
  x2 : W.heap[w.heap.size + 1]? = some (.cells u 25)
  tv : TermsV W T (.agg v)
  tu : TermsV W U (.agg u)
theorem LV2.call {w W W' : World} {T U : TermsD} {v u : Array Value} (h : LV2 w T U v u W) (hb : Below W.heap.size W W') : LV2 w T U v u W' :=
  ⟨h.below.trans (hb.mono h.below.size), below_cells h.x1 hb, below_cells h.x2 hb, h.tv.below hb, h.tu.below hb⟩
theorem LV2.start {w : World} {T U : TermsD} {v u : Array Value} (h : TermsV w T (.agg v)) (k : TermsV w U (.agg u)) : LV2 w T U v u ((w.alloc (.cells v 25)).alloc (.cells u 25)) := by
  have h1 : Below w.heap.size w ((w.alloc (.cells v 25)).alloc (.cells u 25)) := ((Below.refl _ _).alloc (Nat.le_refl _) _).alloc (by simp) _
  refine ⟨h1, (Below.heap_alloc _ _ _ (by simp)).trans (heap_new _ _), ?_, h.below h1, k.below h1⟩
  have := heap_new (w.alloc (.cells v 25)) (.cells u 25)
  rw [World.size_alloc] at this
  exact this

set_option maxRecDepth 100000 in
set_option maxHeartbeats 8000000 in
theorem lawCheck_any (T U : TermsD) (v u : Value) (w : World) (Hg : Hid (Gl w)) (Hv : Hid (TermsV w T v)) (HN : Hid (NamesL T)) (Hu : Hid (TermsV w U u)) (HM : Hid (NamesL U)) : Calls Tryd.prog 3 #[v, u] w (BoolR true w) := by
  obtain ⟨A, n, c, A', m, d, hve⟩ := Hv.out.form
  subst hve
  obtain ⟨B, i, c2, B', j, d2, hue⟩ := Hu.out.form
  subst hue
  have HL0 := Lib.hid (LV2.start Hv.out Hu.out)
  have Hsan : Hid (∀ W, Gl W → Calls Tryd.prog 7 #[] W (BoolR true W)) := fun W h => sanity_any W h
  have HfewT : Hid (∀ W, TermsV W T (.agg #[.slice A n c, .slice A' m d]) → Calls Tryd.prog 8 #[.agg #[.slice A n c, .slice A' m d]] W (BoolR (fewB T) W)) := fun W h => few_any T _ W h HN
  have HfewU : Hid (∀ W, TermsV W U (.agg #[.slice B i c2, .slice B' j d2]) → Calls Tryd.prog 8 #[.agg #[.slice B i c2, .slice B' j d2]] W (BoolR (fewB U) W)) := fun W h => few_any U _ W h HM
  obtain ⟨x0, x1, -⟩ := two_cells HL0.out.x1
  obtain ⟨y0, y1, -⟩ := two_cells HL0.out.x2
  clear Hv HN Hu HM
  go_enter Tryd.func3, Tryd.ntmps3
  go_wp2_with fail
  refine (Hsan.out _ (Hg.out.below HL0.out.below)).mono ?_
  rintro e w1 ⟨rfl, hb1⟩
  have HL1 := Lib.hid (HL0.out.call hb1)
  clear hb1 x0 x1 y0 y1
  obtain ⟨x0, x1, -⟩ := two_cells HL1.out.x1
  go_wp2_with fail
  refine (HfewT.out _ HL1.out.tv).mono ?_
  cases hf : fewB T with
  | false =>
    rintro e w2 ⟨rfl, hb2⟩
    have HL2 := Lib.hid (HL1.out.call hb2)
    clear hb2 x0 x1 hf
    go_wp2_with fail
    go_ret
    exact ⟨rfl, HL2.out.below⟩
  | true =>
  rintro e w2 ⟨rfl, hb2⟩
  have HL2 := Lib.hid (HL1.out.call hb2)
  clear hb2 x0 x1
  obtain ⟨y0, y1, -⟩ := two_cells HL2.out.x2
  go_wp2_with fail
  refine (HfewU.out _ HL2.out.tu).mono ?_
  cases hfu : fewB U with
  | false =>
    rintro e w3 ⟨rfl, hb3⟩
    have HL3 := Lib.hid (HL2.out.call hb3)
    clear hb3 y0 y1 hf hfu
    go_wp2_with fail
    go_ret
    exact ⟨rfl, HL3.out.below⟩
  | true =>
  rintro e w3 ⟨rfl, hb3⟩
  have HL3 := Lib.hid (HL2.out.call hb3)
  have hfit := few_fits hf
  have Hc9 : Hid (∀ W, LV2 w T U #[.slice A n c, .slice A' m d] #[.slice B i c2, .slice B' j d2] W → Calls Tryd.prog 9 #[.agg #[.slice A n c, .slice A' m d]] W (CheckR (checkB T) W)) := fun W h => check_any T _ W (Hg.out.below h.below) h.tv hfit
  have Hc10 : Hid (∀ W, LV2 w T U #[.slice A n c, .slice A' m d] #[.slice B i c2, .slice B' j d2] W → Calls Tryd.prog 10 #[.agg #[.slice A n c, .slice A' m d]] W (CheckR (checkB T) W)) := fun W h => checkR_any T _ W h.tv hfit
  have Hp11 : Hid (∀ W, LV2 w T U #[.slice A n c, .slice A' m d] #[.slice B i c2, .slice B' j d2] W → Calls Tryd.prog 11 #[.agg #[.slice A n c, .slice A' m d]] W (PrintR (printB T) W)) := fun W h => print_any T _ W (Hg.out.below h.below) h.tv hfit
  have Hp12 : Hid (∀ W, LV2 w T U #[.slice A n c, .slice A' m d] #[.slice B i c2, .slice B' j d2] W → Calls Tryd.prog 12 #[.agg #[.slice A n c, .slice A' m d]] W (PrintR (printB T) W)) := fun W h => printR_any T _ W (Hg.out.below h.below) h.tv hfit
  obtain ⟨ci, ce, hce⟩ : ∃ ci ce, checkB T = (ci, ce) := ⟨_, _, rfl⟩
  obtain ⟨ps, pe, hpe⟩ : ∃ ps pe, printB T = (ps, pe) := ⟨_, _, rfl⟩
  rw [hce] at Hc9 Hc10
  rw [hpe] at Hp11 Hp12
  clear hb3 y0 y1 hf hfu hce hpe hfit HfewT HfewU Hsan
  obtain ⟨x0, x1, -⟩ := two_cells HL3.out.x1
  go_wp2_with fail
  refine (Hc9.out _ HL3.out).mono ?_
  rintro e w4 ⟨rfl, hb4⟩
  have HL4 := Lib.hid (HL3.out.call hb4)
  clear hb4 x0 x1
  obtain ⟨x0, x1, -⟩ := two_cells HL4.out.x1
  go_wp2_with fail
  refine (Hc10.out _ HL4.out).mono ?_
  rintro e w5 ⟨rfl, hb5⟩
  have HL5 := Lib.hid (HL4.out.call hb5)
  clear hb5 x0 x1
  obtain ⟨x0, x1, -⟩ := two_cells HL5.out.x1
  go_wp2_with fail
  refine (Hp11.out _ HL5.out).mono ?_
  unfold PrintR strV
  rintro e w6 ⟨rfl, hb6⟩
  have HL6 := Lib.hid (HL5.out.call hb6)
  clear hb6 x0 x1
  obtain ⟨x0, x1, -⟩ := two_cells HL6.out.x1
  go_wp2_with fail
  refine (Hp12.out _ HL6.out).mono ?_
  unfold PrintR strV
  rintro e w7 ⟨rfl, hb7⟩
  have HL7 := Lib.hid (HL6.out.call hb7)
  clear hb7 x0 x1 Hc9 Hc10 Hp11 Hp12
  have HK : Hid (∀ W, Below w7.heap.size w7 W → ((W.cell? ⟨w.heap.size, 0, none⟩ = some (.slice A n c) ∧ W.cell? ⟨w.heap.size, 1, none⟩ = some (.slice A' m d)) ∧ W.cell? ⟨w.heap.size + 1, 0, none⟩ = some (.slice B i c2)) ∧ W.cell? ⟨w.heap.size + 1, 1, none⟩ = some (.slice B' j d2)) := by
    intro W hW
    have h := HL7.out.call hW
    obtain ⟨h0, h1, -⟩ := two_cells h.x1
    obtain ⟨h2, h3, -⟩ := two_cells h.x2
    exact ⟨⟨⟨h0, h1⟩, h2⟩, h3⟩
  have H13 : Hid (∀ (X Y : TermsD) (x y : Array Value) W, TermsV W X (.agg x) → TermsV W Y (.agg y) → Calls Tryd.prog 13 #[.agg x, .agg y] W (BoolR (decide (X = Y)) W)) := fun X Y x y W hx hy => same_any X Y _ _ W hx hy
  have H14 : Hid (∀ (X Y : TermsD) (x y : Array Value) W, TermsV W X (.agg x) → TermsV W Y (.agg y) → Calls Tryd.prog 14 #[.agg x, .agg y] W (BoolR (decide (X = Y)) W)) := fun X Y x y W hx hy => sameR_any X Y _ _ W hx hy
  have HTV : Hid (∀ W, Below w7.heap.size w7 W → TermsV W T (.agg #[.slice A n c, .slice A' m d])) := fun W hW => HL7.out.tv.below hW
  have HTU : Hid (∀ W, Below w7.heap.size w7 W → TermsV W U (.agg #[.slice B i c2, .slice B' j d2])) := fun W hW => HL7.out.tu.below hW
  go_upto_region 8 with fail
  go_region_held3 (fun W => ((W.cell? ⟨w.heap.size, 0, none⟩ = some (.slice A n c) ∧ W.cell? ⟨w.heap.size, 1, none⟩ = some (.slice A' m d)) ∧ W.cell? ⟨w.heap.size + 1, 0, none⟩ = some (.slice B i c2)) ∧ W.cell? ⟨w.heap.size + 1, 1, none⟩ = some (.slice B' j d2))
    (first | exact HK.out _ HB10.out | exact HK.out _ HB9.out | exact HK.out _ HB8.out | exact HK.out _ (Below.refl _ _).drew)
    (first | (go_at_call 13; refine (H13.out _ _ _ _ _ (by first | exact HTV.out _ (by first | exact HB9.out | exact HB8.out | exact (Below.refl _ _).drew) | exact HTU.out _ (by first | exact HB9.out | exact HB8.out | exact (Below.refl _ _).drew)) (by first | exact HTV.out _ (by first | exact HB9.out | exact HB8.out | exact (Below.refl _ _).drew) | exact HTU.out _ (by first | exact HB9.out | exact HB8.out | exact (Below.refl _ _).drew))).mono ?_; rintro e w8 ⟨rfl, hb8⟩; first | (have HB10 := Lib.hid (HB9.out.trans (hb8.mono HB9.out.size)); clear hb8) | (have HB9 := Lib.hid (HB8.out.trans (hb8.mono HB8.out.size)); clear hb8) | (have HB8 := Lib.hid ((Below.refl w7.heap.size w7).drew.trans hb8); clear hb8)) | (go_at_call 14; refine (H14.out _ _ _ _ _ (by exact HTV.out _ (by first | exact HB9.out | exact HB8.out | exact (Below.refl _ _).drew)) (by exact HTU.out _ (by first | exact HB9.out | exact HB8.out | exact (Below.refl _ _).drew))).mono ?_; rintro e w8 ⟨rfl, hb8⟩; first | (have HB10 := Lib.hid (HB9.out.trans (hb8.mono HB9.out.size)); clear hb8) | (have HB9 := Lib.hid (HB8.out.trans (hb8.mono HB8.out.size)); clear hb8) | (have HB8 := Lib.hid ((Below.refl w7.heap.size w7).drew.trans hb8); clear hb8)))
  all_goals
    go_wp2_with fail
    go_ret
    exact ⟨rfl, HL7.out.below.trans (HB10.out.mono HL7.out.below.size)⟩
end Go.Proofs.YtimmffncfkcpfaaDoor
