/-
  The walk of the statement TermsParsedAreValid: it returns true for every text.
-/
import Derived.Test.YtimmffncfkcpfaaDoorX6
import Derived.Test.YtimmffncfkcpfaaDoorV5
import Derived.Test.YtimmffncfkcpfaaDoorV3
namespace Go.Proofs.YtimmffncfkcpfaaDoor
open Go Go.RowKit Go.Walks

theorem check_call {T : TermsD} (hT : Ok T) (v : Value) (w : World) (Hg : Hid (Gl w)) (Hv : Hid (TermsV w T v)) : Calls Tryd.prog 9 #[v] w (CheckR (0, 0) w) := by
  have := check_any T v w Hg Hv (ok_fits hT)
  rw [check_zero (check_ok.2 hT)] at this
  exact this
theorem print_ok {T : TermsD} (hT : Ok T) : printB T = if 2000 < (printT T).length then ([], 2) else (printT T, 0) := by
  unfold printB
  rw [if_neg (fun h => h (check_ok.2 hT))]
theorem TermsV.form {w : World} {T : TermsD} {v : Value} (h : TermsV w T v) : ∃ A n c A' m d, v = .agg #[.slice A n c, .slice A' m d] := by
  obtain ⟨A, c, A', d, he, -⟩ := h
  exact ⟨_, _, _, _, _, _, he⟩
/-- In the law: the terms' block, and another one's. -/
structure LV (w : World) (T : TermsD) (g1 : Nat) (v : Array Value) (W : World) : Prop where
  below : Below w.heap.size w W
  x1 : W.heap[g1]? = some (.cells v 25)
  tv : TermsV W T (.agg v)
theorem LV.call {w W W' : World} {T : TermsD} {g1 : Nat} {v : Array Value} (h : LV w T g1 v W) (hb : Below W.heap.size W W') : LV w T g1 v W' :=
  ⟨h.below.trans (hb.mono h.below.size), below_cells h.x1 hb, h.tv.below hb⟩

set_option maxRecDepth 100000 in
set_option maxHeartbeats 8000000 in
theorem lawValid_any (t : ByteArray) (w : World) (Hg : Hid (Gl w)) : Calls Tryd.prog 5 #[.string t] w (BoolR true w) := by
  have Hsan := Lib.hid (sanity_any w Hg)
  by_cases hbig : 2100 < t.size
  · have hi : (2100 : Int) < (t.size : Int) := by omega
    go_enter Tryd.func5, Tryd.ntmps5
    go_wp2_with (go_at_call 7; refine Hsan.out.mono ?_; rintro e w1 ⟨rfl, hb1⟩; have HB1 := Lib.hid hb1; clear hb1)
    go_ret
    exact ⟨rfl, HB1.out⟩
  · have hi : ¬ (2100 : Int) < (t.size : Int) := by omega
    go_enter Tryd.func5, Tryd.ntmps5
    go_wp2_with (go_at_call 7; refine Hsan.out.mono ?_; rintro e w1 ⟨rfl, hb1⟩; have HB1 := Lib.hid hb1; clear hb1)
    cases hp : parseB t.data.toList with
    | bad p en =>
      have hen : ((en : Int) != 0) = true := by
        have := parseB_pos hp
        rw [bne_iff_ne]; omega
      refine (call_bad hp w1 (Hg.out.below HB1.out)).mono ?_
      rintro e w2 ⟨hb2, rfl⟩
      have HB2 := Lib.hid (HB1.out.trans (hb2.mono HB1.out.size))
      obtain ⟨sa, hsa⟩ : ∃ sa, spotR t p = #[.int .i64 (sa : Int × Int).1, .int .i64 sa.2] := by
        unfold spotR spotV
        split
        · exact ⟨(1, 1), rfl⟩
        · exact ⟨(_, _), rfl⟩
      rw [hsa]
      obtain ⟨s1, s2⟩ := sa
      clear hb2 hp hsa
      go_wp2_with fail
      go_ret
      exact ⟨rfl, (HB2.out.alloc HB2.out.size _).alloc (by rw [World.size_alloc]; have := HB2.out.size; omega) _⟩
    | ok T =>
      have hT := parse_valid hp
      refine (call_ok hp w1 (Hg.out.below HB1.out)).mono ?_
      rintro e w2 ⟨hb2, v, rfl, hv⟩
      obtain ⟨A, n, c, A', m, d, hve⟩ := hv.form
      subst hve
      have HB2 := Lib.hid (HB1.out.trans (hb2.mono HB1.out.size))
      have HL2 : Hid (LV w T w2.heap.size #[.slice A n c, .slice A' m d] ((w2.alloc (.cells #[.slice A n c, .slice A' m d] 25)).alloc (.cells #[.int .i64 0, .int .i64 0] 35))) := by
        have h1 : Below w2.heap.size w2 ((w2.alloc (.cells #[.slice A n c, .slice A' m d] 25)).alloc (.cells #[.int .i64 0, .int .i64 0] 35)) := ((Below.refl _ _).alloc (Nat.le_refl _) _).alloc (by simp) _
        exact ⟨HB2.out.trans (h1.mono HB2.out.size), (Below.heap_alloc _ _ _ (by simp)).trans (heap_new _ _), hv.below h1⟩
      have HT := Lib.hid hT
      have Hcheck : Hid (∀ W, LV w T w2.heap.size #[.slice A n c, .slice A' m d] W → Calls Tryd.prog 9 #[.agg #[.slice A n c, .slice A' m d]] W (CheckR (0, 0) W)) := fun W h => check_call hT _ W (Hg.out.below h.below) h.tv
      have Hprint : Hid (∀ W, LV w T w2.heap.size #[.slice A n c, .slice A' m d] W → Calls Tryd.prog 11 #[.agg #[.slice A n c, .slice A' m d]] W (PrintR (if 2000 < (printT T).length then ([], 2) else (printT T, 0)) W)) := fun W h => by
        have := print_any T _ W (Hg.out.below h.below) h.tv (ok_fits hT)
        rw [print_ok hT] at this
        exact this
      clear hb2 hv hp hT
      obtain ⟨x0, x1, -⟩ := two_cells HL2.out.x1
      go_wp2_with fail
      refine (Hcheck.out _ HL2.out).mono ?_
      rintro e w3 ⟨rfl, hb3⟩
      have HL3 := Lib.hid (HL2.out.call hb3)
      clear hb3 x0 x1
      obtain ⟨x0, x1, -⟩ := two_cells HL3.out.x1
      go_wp2_with fail
      refine (Hprint.out _ HL3.out).mono ?_
      by_cases hlen : 2000 < (printT T).length
      · rw [if_pos hlen]
        unfold PrintR strV
        rintro e w4 ⟨rfl, hb4⟩
        have HL4 := Lib.hid (HL3.out.call hb4)
        clear hb4 x0 x1
        go_wp2_with fail
        go_ret
        exact ⟨rfl, HL4.out.below⟩
      · rw [if_neg hlen]
        unfold PrintR strV
        rintro e w4 ⟨rfl, hb4⟩
        have HL4 := Lib.hid (HL3.out.call hb4)
        have hrt := round_trip HT.out (Nat.le_of_not_lt hlen)
        have Hcall : Hid (∀ W, Gl W → Calls Tryd.prog 15 #[.string ⟨(printT T).toArray⟩] W fun e w' => Below W.heap.size W w' ∧ ∃ v, e = .returned (.tuple #[v, .agg #[.int .i64 0, .int .i64 0], .int .i64 0]) ∧ TermsV w' T v) := fun W h => call_ok (t := ⟨(printT T).toArray⟩) (by simpa using hrt) W h
        clear hb4 x0 x1 hlen hrt
        go_wp2_with fail
        refine (Hcall.out _ (Hg.out.below HL4.out.below)).mono ?_
        rintro e w5 ⟨hb5, u, rfl, hu⟩
        obtain ⟨B, i, c2, B', j, d2, hue⟩ := hu.form
        subst hue
        have h1 : Below w5.heap.size w5 ((w5.alloc (.cells #[.slice B i c2, .slice B' j d2] 25)).alloc (.cells #[.int .i64 0, .int .i64 0] 35)) := ((Below.refl _ _).alloc (Nat.le_refl _) _).alloc (by simp) _
        have HL5 := Lib.hid ((HL4.out.call hb5).call h1)
        have HU5 := Lib.hid (hu.below h1)
        have HX5 : Hid (((w5.alloc (.cells #[.slice B i c2, .slice B' j d2] 25)).alloc (.cells #[.int .i64 0, .int .i64 0] 35)).heap[w5.heap.size]? = some (.cells #[.slice B i c2, .slice B' j d2] 25)) := (Below.heap_alloc _ _ _ (by simp)).trans (heap_new _ _)
        have hsame := same_any T T _ _ _ HL5.out.tv HU5.out
        rw [decide_eq_true rfl] at hsame
        have Hsame := Lib.hid hsame
        clear hb5 hu h1 hsame
        obtain ⟨x0, x1, -⟩ := two_cells HL5.out.x1
        obtain ⟨y0, y1, -⟩ := two_cells HX5.out
        go_wp2_with (go_at_call 13; refine Hsame.out.mono ?_; rintro e w6 ⟨rfl, hb6⟩; have HL6 := Lib.hid (HL5.out.call hb6); clear hb6)
        go_ret
        exact ⟨rfl, HL6.out.below⟩
end Go.Proofs.YtimmffncfkcpfaaDoor
