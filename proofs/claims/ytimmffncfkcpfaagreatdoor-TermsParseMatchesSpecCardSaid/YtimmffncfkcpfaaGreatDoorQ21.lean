/-
  The walk of the statement TermsParseMatchesSpec: it returns true for every text.
-/
import Derived.Test.YtimmffncfkcpfaaGreatDoorQ20
import Derived.Test.YtimmffncfkcpfaaGreatDoorX6
import Derived.Test.YtimmffncfkcpfaaGreatDoorX9
namespace Go.Proofs.YtimmffncfkcpfaaGreatDoor
open Go Go.RowKit Go.Walks

theorem terms_nil (w : World) : TermsV w ⟨[], []⟩ (.agg #[.slice none 0 0, .slice none 0 0]) :=
  TS.terms (B := 0) (own_nil _ _ _ _) (own_nil _ _ _ _) rfl rfl
theorem TermsV.form {w : World} {T : TermsD} {v : Value} (h : TermsV w T v) : ∃ A n c A' m d, v = .agg #[.slice A n c, .slice A' m d] := by
  obtain ⟨A, c, A', d, he, -⟩ := h
  exact ⟨_, _, _, _, _, _, he⟩
theorem spotR_ints (t : ByteArray) (p : Nat) : ∃ s1 s2 : Int, spotR t p = #[.int .i64 s1, .int .i64 s2] := by
  unfold spotR spotV
  split
  · exact ⟨1, 1, rfl⟩
  · exact ⟨_, _, rfl⟩
/-- Both parsers hand back the same terms, place and code. -/
theorem both_any (t : ByteArray) (ht : t.size ≤ 2100) : ∃ (T : TermsD) (s1 s2 en : Int),
    (∀ w, Gl w → Calls Tryz.prog 6 #[.string t] w fun e w' => Below w.heap.size w w' ∧ ∃ A n c A' m d, e = .returned (.tuple #[.agg #[.slice A n c, .slice A' m d], .agg #[.int .i64 s1, .int .i64 s2], .int .i64 en]) ∧ TermsV w' T (.agg #[.slice A n c, .slice A' m d])) ∧
    (∀ w, Calls Tryz.prog 7 #[.string t] w fun e w' => Below w.heap.size w w' ∧ ∃ A n c A' m d, e = .returned (.agg #[.slice A n c, .slice A' m d, .int .i64 s1, .int .i64 s2, .int .i64 en]) ∧ TermsV w' T (.agg #[.slice A n c, .slice A' m d])) := by
  cases hp : parseB t.data.toList with
  | bad p en =>
    obtain ⟨s1, s2, hs⟩ := spotR_ints t p
    refine ⟨⟨[], []⟩, s1, s2, (en : Int), fun w hg => (call_bad hp w hg).mono ?_, fun w => (rparse_any t w ht).mono ?_⟩
    · rintro e w' ⟨hb, rfl⟩
      exact ⟨hb, none, 0, 0, none, 0, 0, by rw [hs], terms_nil _⟩
    · rintro e w' ⟨hb, h⟩
      rw [hp] at h
      obtain ⟨r1, r2, hr, rfl⟩ := h
      rw [hs] at hr
      obtain ⟨rfl, rfl⟩ : Value.int .i64 s1 = r1 ∧ Value.int .i64 s2 = r2 := by simpa using hr
      exact ⟨hb, none, 0, 0, none, 0, 0, rfl, terms_nil _⟩
  | ok T =>
    refine ⟨T, 0, 0, 0, fun w hg => (call_ok hp w hg).mono ?_, fun w => (rparse_any t w ht).mono ?_⟩
    · rintro e w' ⟨hb, v, rfl, hv⟩
      obtain ⟨A, n, c, A', m, d, rfl⟩ := hv.form
      exact ⟨hb, _, _, _, _, _, _, rfl, hv⟩
    · rintro e w' ⟨hb, h⟩
      rw [hp] at h
      obtain ⟨A, n, c, A', m, d, rfl, hv⟩ := h
      exact ⟨hb, _, _, _, _, _, _, rfl, hv⟩
/-- In the law: the terms' block and the place's. -/
structure LP (w : World) (T : TermsD) (g1 : Nat) (v : Array Value) (g2 : Nat) (s : Array Value) (W : World) : Prop where
  below : Below w.heap.size w W
  x1 : W.heap[g1]? = some (.cells v 26)
  x2 : W.heap[g2]? = some (.cells s 28)
  tv : TermsV W T (.agg v)
theorem LP.call {w W W' : World} {T : TermsD} {g1 g2 : Nat} {v s : Array Value} (h : LP w T g1 v g2 s W) (hb : Below W.heap.size W W') : LP w T g1 v g2 s W' :=
  ⟨h.below.trans (hb.mono h.below.size), below_cells h.x1 hb, below_cells h.x2 hb, h.tv.below hb⟩

set_option maxRecDepth 100000 in
set_option maxHeartbeats 8000000 in
theorem lawParse_any (t : ByteArray) (w : World) (Hg : Hid (Gl w)) : Calls Tryz.prog 3 #[.string t] w (BoolR true w) := by
  have Hsan := Lib.hid (sanity_any w Hg)
  by_cases hbig : 2100 < t.size
  · have hi : (2100 : Int) < (t.size : Int) := by omega
    go_enter Tryz.func3, Tryz.ntmps3
    go_wp2_with (go_at_call 5; refine Hsan.out.mono ?_; rintro e w1 ⟨rfl, hb1⟩; have HB1 := Lib.hid hb1; clear hb1)
    go_ret
    exact ⟨rfl, HB1.out⟩
  · have hi : ¬ (2100 : Int) < (t.size : Int) := by omega
    obtain ⟨T, s1, s2, en, h6, h7⟩ := both_any t (by omega)
    have H6 := Lib.hid h6
    have H7 := Lib.hid h7
    clear h6 h7
    go_enter Tryz.func3, Tryz.ntmps3
    go_wp2_with (go_at_call 5; refine Hsan.out.mono ?_; rintro e w1 ⟨rfl, hb1⟩; have HB1 := Lib.hid hb1; clear hb1)
    refine (H6.out _ (Hg.out.below HB1.out)).mono ?_
    rintro e w2 ⟨hb2, A, n, c, A', m, d, rfl, hv⟩
    have HB2 := Lib.hid (HB1.out.trans (hb2.mono HB1.out.size))
    obtain ⟨g1, hg1⟩ : ∃ g, g = w2.heap.size := ⟨_, rfl⟩
    obtain ⟨g2, hg2⟩ : ∃ g, g = w2.heap.size + 1 := ⟨_, rfl⟩
    obtain ⟨W3, hW3⟩ : ∃ W, W = (w2.alloc (.cells #[.slice A n c, .slice A' m d] 26)).alloc (.cells #[.int .i64 s1, .int .i64 s2] 28) := ⟨_, rfl⟩
    have hL3 : Hid (LP w T g1 #[.slice A n c, .slice A' m d] g2 #[.int .i64 s1, .int .i64 s2] W3) := by
      rw [hW3, hg1, hg2]
      have h1 : Below w2.heap.size w2 ((w2.alloc (.cells #[.slice A n c, .slice A' m d] 26)).alloc (.cells #[.int .i64 s1, .int .i64 s2] 28)) := ((Below.refl _ _).alloc (Nat.le_refl _) _).alloc (by simp) _
      exact ⟨HB2.out.trans (h1.mono HB2.out.size), (Below.heap_alloc _ _ _ (by simp)).trans (heap_new _ _), by rw [show w2.heap.size + 1 = (w2.alloc (.cells #[.slice A n c, .slice A' m d] 26)).heap.size by simp]; exact heap_new _ _, hv.below h1⟩
    clear hb2 hv
    go_upto_region 5 with fail
    rw [← hW3, ← hg2, ← hg1]
    clear hW3 hg1 hg2
    go_wp2_with fail
    refine (H7.out _).mono ?_
    rintro e w4 ⟨hb4, B, i, c2, B', j, d2, rfl, hu⟩
    obtain ⟨g3, hg3⟩ : ∃ g, g = w4.heap.size := ⟨_, rfl⟩
    obtain ⟨W5, hW5⟩ : ∃ W, W = w4.alloc (.cells #[.slice B i c2, .slice B' j d2, .int .i64 s1, .int .i64 s2, .int .i64 en] 33) := ⟨_, rfl⟩
    have h1 : Below w4.heap.size w4 W5 := by rw [hW5]; exact (Below.refl _ _).alloc (Nat.le_refl _) _
    have hr5 : W5.heap[g3]? = some (.cells #[.slice B i c2, .slice B' j d2, .int .i64 s1, .int .i64 s2, .int .i64 en] 33) := by rw [hW5, hg3]; exact heap_new _ _
    have HL5 := Lib.hid ((hL3.out.call hb4).call h1)
    have HU5 := Lib.hid (hu.below h1)
    have hsame := sameR_any T T _ _ _ HL5.out.tv HU5.out
    rw [decide_eq_true rfl] at hsame
    have Hsame := Lib.hid hsame
    clear hb4 hu h1 hsame
    go_upto_region 6 with fail
    rw [← hW5, ← hg3]
    clear hW5 hg3
    obtain ⟨x0, x1, -⟩ := two_cells HL5.out.x1
    obtain ⟨y0, y1, -⟩ := two_cells HL5.out.x2
    obtain ⟨z0, z1, z2, z3, z4, -⟩ := five_cells hr5
    clear hr5
    go_wp2_with (go_at_call 8; refine Hsame.out.mono ?_; rintro e w6 ⟨rfl, hb6⟩; have HL6 := Lib.hid (HL5.out.call hb6); clear hb6)
    go_ret
    exact ⟨rfl, HL6.out.below⟩
end Go.Proofs.YtimmffncfkcpfaaGreatDoor
