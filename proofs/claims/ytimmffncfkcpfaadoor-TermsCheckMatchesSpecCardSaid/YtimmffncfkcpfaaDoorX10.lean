/-
  The walk of the statement TermsRoundTrip: it returns true for all terms.
-/
import Derived.Test.YtimmffncfkcpfaaDoorX7
import Derived.Test.YtimmffncfkcpfaaDoorX8
import Derived.Test.YtimmffncfkcpfaaDoorX9
namespace Go.Proofs.YtimmffncfkcpfaaDoor
open Go Go.RowKit Go.Walks

theorem few_fits {T : TermsD} (h : fewB T = true) : Fits T := by
  unfold fewB fewC fewD at h
  simp only [Bool.and_eq_true, List.all_eq_true, decide_eq_true_eq] at h
  exact ⟨fun C hC => by have := h.1.2 C hC; omega, fun D hD => by have := h.2 D hD; omega⟩
theorem print_cases (T : TermsD) : ((checkB T).2 ≠ 0 ∧ printB T = ([], (checkB T).2)) ∨ (checkB T = (0, 0) ∧ printB T = ([], 2)) ∨ (Ok T ∧ (printT T).length ≤ 2000 ∧ checkB T = (0, 0) ∧ printB T = (printT T, 0)) := by
  unfold printB
  by_cases h : (checkB T).2 = 0
  · right
    rw [if_neg (fun h' => h' h)]
    by_cases hl : 2000 < (printT T).length
    · exact .inl ⟨check_zero h, if_pos hl⟩
    · exact .inr ⟨check_ok.1 h, by omega, check_zero h, if_neg hl⟩
  · exact .inl ⟨h, if_pos h⟩
theorem LV.start {w : World} {T : TermsD} {v : Array Value} (h : TermsV w T (.agg v)) : LV w T w.heap.size v (w.alloc (.cells v 25)) := by
  have h1 : Below w.heap.size w (w.alloc (.cells v 25)) := (Below.refl _ _).alloc (Nat.le_refl _) _
  exact ⟨h1, heap_new _ _, h.below h1⟩

set_option maxRecDepth 100000 in
set_option maxHeartbeats 8000000 in
theorem lawRound_any (T : TermsD) (v : Value) (w : World) (Hg : Hid (Gl w)) (Hv : Hid (TermsV w T v)) (HN : Hid (NamesL T)) : Calls Tryd.prog 4 #[v] w (BoolR true w) := by
  obtain ⟨A, n, c, A', m, d, hve⟩ := Hv.out.form
  subst hve
  have HL0 := Lib.hid (LV.start Hv.out)
  have Hsan : Hid (∀ W, Gl W → Calls Tryd.prog 7 #[] W (BoolR true W)) := fun W h => sanity_any W h
  have Hfew : Hid (∀ W, LV w T w.heap.size #[.slice A n c, .slice A' m d] W → Calls Tryd.prog 8 #[.agg #[.slice A n c, .slice A' m d]] W (BoolR (fewB T) W)) := fun W h => few_any T _ W h.tv HN
  obtain ⟨x0, x1, -⟩ := two_cells HL0.out.x1
  clear Hv HN
  cases hf : fewB T with
  | false =>
    rw [hf] at Hfew
    clear hf
    go_enter Tryd.func4, Tryd.ntmps4
    go_wp2_with fail
    refine (Hsan.out _ (Hg.out.below HL0.out.below)).mono ?_
    rintro e w1 ⟨rfl, hb1⟩
    have HL1 := Lib.hid (HL0.out.call hb1)
    clear hb1 x0 x1
    obtain ⟨x0, x1, -⟩ := two_cells HL1.out.x1
    go_wp2_with fail
    refine (Hfew.out _ HL1.out).mono ?_
    rintro e w2 ⟨rfl, hb2⟩
    have HL2 := Lib.hid (HL1.out.call hb2)
    clear hb2 x0 x1
    go_wp2_with fail
    go_ret
    exact ⟨rfl, HL2.out.below⟩
  | true =>
    have hfit := few_fits hf
    rw [hf] at Hfew
    clear hf
    have hcheck : ∀ W, LV w T w.heap.size #[.slice A n c, .slice A' m d] W → Calls Tryd.prog 9 #[.agg #[.slice A n c, .slice A' m d]] W (CheckR (checkB T) W) := fun W h => check_any T _ W (Hg.out.below h.below) h.tv hfit
    have hprint : ∀ W, LV w T w.heap.size #[.slice A n c, .slice A' m d] W → Calls Tryd.prog 11 #[.agg #[.slice A n c, .slice A' m d]] W (PrintR (printB T) W) := fun W h => print_any T _ W (Hg.out.below h.below) h.tv hfit
    have Hcheck := Lib.hid hcheck
    have Hprint := Lib.hid hprint
    clear hfit hcheck hprint
    go_enter Tryd.func4, Tryd.ntmps4
    go_wp2_with fail
    refine (Hsan.out _ (Hg.out.below HL0.out.below)).mono ?_
    rintro e w1 ⟨rfl, hb1⟩
    have HL1 := Lib.hid (HL0.out.call hb1)
    clear hb1 x0 x1
    obtain ⟨x0, x1, -⟩ := two_cells HL1.out.x1
    go_wp2_with fail
    refine (Hfew.out _ HL1.out).mono ?_
    rintro e w2 ⟨rfl, hb2⟩
    have HL2 := Lib.hid (HL1.out.call hb2)
    clear hb2 x0 x1
    obtain ⟨x0, x1, -⟩ := two_cells HL2.out.x1
    go_wp2_with fail
    refine (Hprint.out _ HL2.out).mono ?_
    rcases print_cases T with ⟨hne, hp⟩ | ⟨hck, hp⟩ | ⟨hok, hlen, hck, hp⟩
    · obtain ⟨i, en, hie⟩ : ∃ i en, checkB T = (i, en) := ⟨_, _, rfl⟩
      rw [hie] at hne hp Hcheck
      rw [hp]
      have hen : ((en : Int) != 0) = true := by rw [bne_iff_ne]; dsimp only at hne; omega
      unfold PrintR strV
      rintro e w3 ⟨rfl, hb3⟩
      have HL3 := Lib.hid (HL2.out.call hb3)
      clear hb3 x0 x1 hne hp hie
      obtain ⟨x0, x1, -⟩ := two_cells HL3.out.x1
      go_wp2_with fail
      refine (Hcheck.out _ HL3.out).mono ?_
      rintro e w4 ⟨rfl, hb4⟩
      have HL4 := Lib.hid (HL3.out.call hb4)
      clear hb4 x0 x1
      go_wp2_with fail
      go_ret
      exact ⟨rfl, HL4.out.below⟩
    · rw [hck] at Hcheck
      rw [hp]
      unfold PrintR strV
      rintro e w3 ⟨rfl, hb3⟩
      have HL3 := Lib.hid (HL2.out.call hb3)
      clear hb3 x0 x1 hck hp
      obtain ⟨x0, x1, -⟩ := two_cells HL3.out.x1
      go_wp2_with fail
      refine (Hcheck.out _ HL3.out).mono ?_
      rintro e w4 ⟨rfl, hb4⟩
      have HL4 := Lib.hid (HL3.out.call hb4)
      clear hb4 x0 x1
      go_wp2_with fail
      go_ret
      exact ⟨rfl, HL4.out.below⟩
    · have hrt := round_trip hok hlen
      rw [hp]
      unfold PrintR strV
      rintro e w3 ⟨rfl, hb3⟩
      have HL3 := Lib.hid (HL2.out.call hb3)
      have Hcall : Hid (∀ W, Gl W → Calls Tryd.prog 15 #[.string ⟨(printT T).toArray⟩] W fun e w' => Below W.heap.size W w' ∧ ∃ v, e = .returned (.tuple #[v, .agg #[.int .i64 0, .int .i64 0], .int .i64 0]) ∧ TermsV w' T v) := fun W h => call_ok (t := ⟨(printT T).toArray⟩) (by simpa using hrt) W h
      clear hb3 x0 x1 hok hlen hck hp hrt
      go_wp2_with fail
      refine (Hcall.out _ (Hg.out.below HL3.out.below)).mono ?_
      rintro e w4 ⟨hb4, u, rfl, hu⟩
      obtain ⟨B, i, c2, B', j, d2, hue⟩ := hu.form
      subst hue
      have h1 : Below w4.heap.size w4 ((w4.alloc (.cells #[.slice B i c2, .slice B' j d2] 25)).alloc (.cells #[.int .i64 0, .int .i64 0] 35)) := ((Below.refl _ _).alloc (Nat.le_refl _) _).alloc (by simp) _
      have HL4 := Lib.hid ((HL3.out.call hb4).call h1)
      have HU4 := Lib.hid (hu.below h1)
      have HX4 : Hid (((w4.alloc (.cells #[.slice B i c2, .slice B' j d2] 25)).alloc (.cells #[.int .i64 0, .int .i64 0] 35)).heap[w4.heap.size]? = some (.cells #[.slice B i c2, .slice B' j d2] 25)) := (Below.heap_alloc _ _ _ (by simp)).trans (heap_new _ _)
      have hsame := same_any T T _ _ _ HL4.out.tv HU4.out
      rw [decide_eq_true rfl] at hsame
      have Hsame := Lib.hid hsame
      clear hb4 hu h1 hsame
      obtain ⟨x0, x1, -⟩ := two_cells HL4.out.x1
      obtain ⟨y0, y1, -⟩ := two_cells HX4.out
      go_wp2_with fail
      refine (Hsame.out).mono ?_
      rintro e w5 ⟨rfl, hb5⟩
      have HL5 := Lib.hid (HL4.out.call hb5)
      have HX5 := Lib.hid (below_cells HX4.out hb5)
      have hsame := sameR_any T T _ _ _ HL5.out.tv (HU4.out.below hb5)
      rw [decide_eq_true rfl] at hsame
      have HsameR := Lib.hid hsame
      clear hb5 hsame x0 x1 y0 y1
      obtain ⟨x0, x1, -⟩ := two_cells HL5.out.x1
      obtain ⟨y0, y1, -⟩ := two_cells HX5.out
      go_wp2_with fail
      refine (HsameR.out).mono ?_
      rintro e w6 ⟨rfl, hb6⟩
      have HL6 := Lib.hid (HL5.out.call hb6)
      clear hb6 x0 x1 y0 y1
      go_wp2_with fail
      go_ret
      exact ⟨rfl, HL6.out.below⟩
end Go.Proofs.YtimmffncfkcpfaaDoor
