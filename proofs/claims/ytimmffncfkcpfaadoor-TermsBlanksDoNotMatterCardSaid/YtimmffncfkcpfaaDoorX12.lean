/-
  The walk of the statement TermsBlanksDoNotMatter: it returns true for all terms and picks.
-/
import Derived.Test.YtimmffncfkcpfaaDoorX10
import Derived.Test.YtimmffncfkcpfaaDoorX11
namespace Go.Proofs.YtimmffncfkcpfaaDoor
open Go Go.RowKit Go.Walks

theorem weave_big {t : ByteArray} (h : 2000 < t.data.toList.length) : parseB t.data.toList = .bad 0 2 := if_pos h
theorem spot_big {t : ByteArray} (h : 2000 < t.data.toList.length) : spotR t 0 = #[.int .i64 1, .int .i64 1] := by
  unfold spotR spotV
  first
    | rw [if_pos h]
    | (rw [if_pos (by rw [Lib.size_eq]; exact h)])
    | rfl

set_option maxRecDepth 100000 in
set_option maxHeartbeats 8000000 in
theorem lawBlanks_any (T : TermsD) (v : Value) (ch : List Nat) (B : Option Addr) (c0 : Nat) (w : World) (Hg : Hid (Gl w)) (Hv : Hid (TermsV w T v)) (HN : Hid (NamesL T))
    (Hch : Hid (Sl w w.heap.size B (ch.map fun n : Nat => .int .u8 (n : Int)))) (H255 : Hid (∀ n ∈ ch, n ≤ 255)) : Calls Tryd.prog 6 #[v, .slice B ch.length c0] w (BoolR true w) := by
  obtain ⟨A, n, c, A', m, d, hve⟩ := Hv.out.form
  subst hve
  have HL0 := Lib.hid (LV.start Hv.out)
  have Hsan : Hid (∀ W, Gl W → Calls Tryd.prog 7 #[] W (BoolR true W)) := fun W h => sanity_any W h
  have Hfew : Hid (∀ W, LV w T w.heap.size #[.slice A n c, .slice A' m d] W → Calls Tryd.prog 8 #[.agg #[.slice A n c, .slice A' m d]] W (BoolR (fewB T) W)) := fun W h => few_any T _ W h.tv HN
  obtain ⟨x0, x1, -⟩ := two_cells HL0.out.x1
  clear Hv HN
  go_enter Tryd.func6, Tryd.ntmps6
  go_wp2_with fail
  refine (Hsan.out _ (Hg.out.below HL0.out.below)).mono ?_
  rintro e w1 ⟨rfl, hb1⟩
  have HL1 := Lib.hid (HL0.out.call hb1)
  clear hb1 x0 x1
  obtain ⟨x0, x1, -⟩ := two_cells HL1.out.x1
  go_wp2_with fail
  refine (Hfew.out _ HL1.out).mono ?_
  cases hf : fewB T with
  | false =>
    rintro e w2 ⟨rfl, hb2⟩
    have HL2 := Lib.hid (HL1.out.call hb2)
    clear hb2 x0 x1 hf
    go_wp2_with fail
    go_ret
    exact ⟨rfl, HL2.out.below⟩
  | true =>
    have hfit := few_fits hf
    have Hprint : Hid (∀ W, LV w T w.heap.size #[.slice A n c, .slice A' m d] W → Calls Tryd.prog 11 #[.agg #[.slice A n c, .slice A' m d]] W (PrintR (printB T) W)) := fun W h => print_any T _ W (Hg.out.below h.below) h.tv hfit
    rintro e w2 ⟨rfl, hb2⟩
    have HL2 := Lib.hid (HL1.out.call hb2)
    clear hb2 x0 x1 hf hfit
    obtain ⟨x0, x1, -⟩ := two_cells HL2.out.x1
    by_cases hn4 : 4 < n
    · have hi1 : (4 : Int) < (n : Int) := by omega
      go_wp2_with fail
      go_ret
      exact ⟨rfl, HL2.out.below⟩
    have hi1 : ¬ (4 : Int) < (n : Int) := by omega
    by_cases hm4 : 4 < m
    · have hi2 : (4 : Int) < (m : Int) := by omega
      go_wp2_with fail
      go_ret
      exact ⟨rfl, HL2.out.below⟩
    have hi2 : ¬ (4 : Int) < (m : Int) := by omega
    go_wp2_with fail
    refine (Hprint.out _ HL2.out).mono ?_
    rcases print_cases T with ⟨hne, hp⟩ | ⟨hck, hp⟩ | ⟨hok, hlen, hck, hp⟩
    · rw [hp]
      obtain ⟨en, hen⟩ : ∃ en, en = (checkB T).2 := ⟨_, rfl⟩
      rw [← hen] at hne ⊢
      have hen2 : ((en : Int) != 0) = true := by rw [bne_iff_ne]; omega
      unfold PrintR strV
      rintro e w3 ⟨rfl, hb3⟩
      have HL3 := Lib.hid (HL2.out.call hb3)
      clear hb3 x0 x1 hne hp hen
      go_wp2_with fail
      go_ret
      exact ⟨rfl, HL3.out.below⟩
    · rw [hp]
      unfold PrintR strV
      rintro e w3 ⟨rfl, hb3⟩
      have HL3 := Lib.hid (HL2.out.call hb3)
      clear hb3 x0 x1 hck hp
      go_wp2_with fail
      go_ret
      exact ⟨rfl, HL3.out.below⟩
    · rw [hp]
      unfold PrintR strV
      rintro e w3 ⟨rfl, hb3⟩
      have HL3 := Lib.hid (HL2.out.call hb3)
      have hsp := spaced_any (printT T) ch B c0 w3 hlen ((Hch.out.below HL3.out.below).more HL3.out.below.size) H255
      have Hsp := Lib.hid hsp
      have hwl := parse_weave hok (pickN ch) 0
      obtain ⟨r, hr⟩ : ∃ r : ByteArray, r = ⟨(weaveB (pickN ch) 0 (printT T)).toArray⟩ := ⟨_, rfl⟩
      have hrl : r.data.toList = weaveB (pickN ch) 0 (printT T) := by rw [hr]
      have hrz : r.size = r.data.toList.length := Lib.size_eq r
      rw [← hrl] at hwl
      have Hwl := Lib.hid hwl
      unfold strV at Hsp
      rw [← hr] at Hsp
      clear hb3 x0 x1 hok hlen hck hp hsp hwl hr hrl
      go_wp2_with fail
      refine (Hsp.out).mono ?_
      rintro e w4 ⟨rfl, hb4⟩
      have HL4 := Lib.hid (HL3.out.call hb4)
      clear hb4 Hsp
      by_cases hbig : r.data.toList.length ≤ 2000
      · have hi3 : ¬ (2000 : Int) < (r.size : Int) := by omega
        have Hcall : Hid (∀ W, Gl W → Calls Tryd.prog 15 #[.string r] W fun e w' => Below W.heap.size W w' ∧ ∃ v, e = .returned (.tuple #[v, .agg #[.int .i64 0, .int .i64 0], .int .i64 0]) ∧ TermsV w' T v) := fun W h => call_ok (Hwl.out hbig) W h
        clear hbig hrz
        go_wp2_with fail
        refine (Hcall.out _ (Hg.out.below HL4.out.below)).mono ?_
        rintro e w5 ⟨hb5, u, rfl, hu⟩
        obtain ⟨Bu, i, c2, Bu', j, d2, hue⟩ := hu.form
        subst hue
        have h1 : Below w5.heap.size w5 ((w5.alloc (.cells #[.slice Bu i c2, .slice Bu' j d2] 25)).alloc (.cells #[.int .i64 0, .int .i64 0] 35)) := ((Below.refl _ _).alloc (Nat.le_refl _) _).alloc (by simp) _
        have HL5 := Lib.hid ((HL4.out.call hb5).call h1)
        have HU5 := Lib.hid (hu.below h1)
        have HX5 : Hid (((w5.alloc (.cells #[.slice Bu i c2, .slice Bu' j d2] 25)).alloc (.cells #[.int .i64 0, .int .i64 0] 35)).heap[w5.heap.size]? = some (.cells #[.slice Bu i c2, .slice Bu' j d2] 25)) := (Below.heap_alloc _ _ _ (by simp)).trans (heap_new _ _)
        have hsame := same_any T T _ _ _ HL5.out.tv HU5.out
        rw [decide_eq_true rfl] at hsame
        have Hsame := Lib.hid hsame
        clear hb5 hu h1 hsame
        obtain ⟨x0, x1, -⟩ := two_cells HL5.out.x1
        obtain ⟨y0, y1, -⟩ := two_cells HX5.out
        go_wp2_with fail
        refine (Hsame.out).mono ?_
        rintro e w6 ⟨rfl, hb6⟩
        have HL6 := Lib.hid (HL5.out.call hb6)
        clear hb6 x0 x1 y0 y1
        go_wp2_with fail
        go_ret
        exact ⟨rfl, HL6.out.below⟩
      · have hlt : 2000 < r.data.toList.length := by omega
        have hi3 : (2000 : Int) < (r.size : Int) := by omega
        have Hcall : Hid (∀ W, Hid (Gl W) → Calls Tryd.prog 15 #[.string r] W fun e w' => Below W.heap.size W w' ∧ e = .returned (.tuple #[.agg #[.slice none 0 0, .slice none 0 0], .agg #[.int .i64 1, .int .i64 1], .int .i64 2])) := fun W h => by
          have := call_bad (weave_big hlt) W h
          rw [spot_big hlt] at this
          exact this
        clear hbig hlt hrz Hwl
        go_wp2_with fail
        refine (Hcall.out _ (Hg.out.below HL4.out.below)).mono ?_
        rintro e w5 ⟨hb5, rfl⟩
        have HB5 := Lib.hid (HL4.out.below.trans (hb5.mono HL4.out.below.size))
        clear hb5
        go_wp2_with fail
        go_ret
        exact ⟨rfl, (HB5.out.alloc HB5.out.size _).alloc (by rw [World.size_alloc]; have := HB5.out.size; omega) _⟩
end Go.Proofs.YtimmffncfkcpfaaDoor
