/-
  The walks of the law's few (whose answer is left open) and of the reference's SameInts.
-/
import Derived.Test.YtdfhbnfhkckkbaaGreatDoorW27
import Derived.Deep.QuietTactic
import Derived.BigQuiet
namespace Go.Proofs.YtdfhbnfhkckkbaaGreatDoor
open Go Go.RowKit Go.Walks

/-- A call hands back a bool, whichever. -/
def SomeBool (w : World) (e : Ending) (w' : World) : Prop := Below w.heap.size w w' ∧ ∃ b, e = .returned (.bool b)
set_option maxRecDepth 100000 in
set_option maxHeartbeats 4000000 in
theorem few_any (S : ScriptD) (v : Value) (w : World) (Hv : Hid (ScriptS w S v)) (hn1 : S.steps.length ≤ 4611686018427387904) (hn2 : S.texts.length ≤ 4611686018427387904) : Calls Tryz.prog 10 #[v] w (SomeBool w) := by
  obtain ⟨a, b, c, d, e, f, T, tc, U, uc, rfl, hp⟩ := Hv.out
  obtain ⟨nt, hnt⟩ : ∃ n, n = S.texts.length := ⟨_, rfl⟩
  obtain ⟨ns, hns⟩ : ∃ n, n = S.steps.length := ⟨_, rfl⟩
  obtain ⟨ms, hms, hst⟩ := hp.stp
  have Hms := Lib.hid hms
  have Hst := Lib.hid hst
  have Hp := Lib.hid hp
  rw [← hnt, ← hns]
  rw [← hns] at hn1
  rw [← hnt] at hn2
  have Hnt := Lib.hid hnt
  have Hns := Lib.hid hns
  obtain ⟨W0, hW0⟩ : ∃ W, W = w.alloc (.cells (scrCs a b c d e f T nt tc U ns uc) 27) := ⟨_, rfl⟩
  have h0 : Below w.heap.size w W0 := by rw [hW0]; exact (Below.refl _ _).alloc (Nat.le_refl _) _
  have r0 : W0.heap[w.heap.size]? = some (.cells (scrCs a b c d e f T nt tc U ns uc) 27) := by rw [hW0]; exact heap_new _ _
  have z6 := (cell_at (u := .slice T nt tc) r0 6 rfl).1
  have z7 := (cell_at (u := .slice U ns uc) r0 7 rfl).1
  have HB0 := Lib.hid h0
  have HR0 := Lib.hid r0
  clear hnt hns hms hst hp Hv h0 r0
  go_enter Tryz.func10, Tryz.ntmps10
  go_upto_region 1 with fail
  rw [← hW0]
  clear hW0
  go_upto_region 2 with fail
  go_wp2_with fail
  clear z6 z7
  go_loopg [18, 3] nt (fun gh s18 s3 wr => ∃ (k : Nat) (x : Int), s18 = .int .i64 (k : Int) ∧ s3 = .int .i64 x ∧ gh = nt - k ∧ k ≤ nt ∧ wr = W0)
  case atStart => exact ⟨0, _, rfl, rfl, rfl, Nat.zero_le _, rfl⟩
  case round =>
    obtain ⟨k, x, rfl, rfl, hgh, hk, rfl⟩ := hrel
    by_cases hlt : k < nt
    · have hI1 : (0 : Int) ≤ (k : Int) := by omega
      have hI2 : (k : Int) < (nt : Int) := by omega
      obtain ⟨t, ht⟩ : ∃ t, S.texts[k]? = some t := ⟨S.texts[k]'(by rw [← Hnt.out]; exact hlt), List.getElem?_eq_getElem _⟩
      obtain ⟨bb, oo, hT, hbw, hcell⟩ := str_at (Hp.out.txt.below HB0.out) ht
      subst hT
      clear ht
      go_wp2_with fail
      go_roundg (nt - (k + 1))
      case measure => omega
      case rel => exact ⟨k + 1, _, by go_num, rfl, rfl, by omega, rfl⟩
    · have hI3 : ¬ (k : Int) < (nt : Int) := by omega
      have z7 := (cell_at (u := .slice U ns uc) HR0.out 7 rfl).1
      clear hlt
      go_wp2_with fail
      clear z7
      go_loopg [31, 3] ns (fun gh s31 s3 wr => ∃ (j : Nat) (x : Int), s31 = .int .i64 (j : Int) ∧ s3 = .int .i64 x ∧ gh = ns - j ∧ j ≤ ns ∧ Hid (Below w.heap.size w wr))
      case atStart => exact ⟨0, x, rfl, rfl, rfl, Nat.zero_le _, HB0⟩
      case round =>
        obtain ⟨j, x, rfl, rfl, hgh, hj, HB⟩ := hrel
        by_cases hlt : j < ns
        · have hI1 : (0 : Int) ≤ (j : Int) := by omega
          have hI2 : (j : Int) < (ns : Int) := by omega
          obtain ⟨y, hy⟩ : ∃ y, S.steps[j]? = some y := ⟨S.steps[j]'(by rw [← Hns.out]; exact hlt), List.getElem?_eq_getElem _⟩
          obtain ⟨bb, oo, A, cc, hU, hbw, hck0, hcs0, -, -⟩ := step_at Hms.out Hst.out (Below.refl _ _) hy
          have hck := (HB.out.cell (p := ⟨bb, oo + j * 2, none⟩) hbw).trans hck0
          have hcs := (HB.out.cell (p := ⟨bb, oo + j * 2 + 1, none⟩) hbw).trans hcs0
          clear hck0 hcs0 hbw hy
          subst hU
          obtain ⟨q, hq⟩ : ∃ q, q = y.args.length := ⟨_, rfl⟩
          obtain ⟨kd, hkd⟩ : ∃ kd, kd = y.kind := ⟨_, rfl⟩
          rw [← hq] at hcs
          rw [← hkd] at hck
          clear hq hkd
          have HB5 := Lib.hid (HB.out.trans (((Below.refl wr.heap.size wr).alloc (Nat.le_refl _) (.cells #[.int .i64 kd, .slice A q cc] 67)).mono HB.out.size))
          go_wp2_with fail
          go_roundg (ns - (j + 1))
          case measure => omega
          case rel => exact ⟨j + 1, _, by go_num, rfl, rfl, by omega, HB5⟩
        · have hI3 : ¬ (j : Int) < (ns : Int) := by omega
          clear hlt
          go_wp2_with fail
          go_ret
          exact ⟨HB.out, _, rfl⟩

set_option maxRecDepth 100000 in
set_option maxHeartbeats 4000000 in
theorem sameInts_any (xs ys : List Int) (A B : Option Addr) (c d : Nat) (w : World) (hx : xs.length ≤ maxLen) (H1 : Hid (Sl w w.heap.size A (xs.map intC))) (H2 : Hid (Sl w w.heap.size B (ys.map intC))) : Calls Tryz.prog 63 #[.slice A xs.length c, .slice B ys.length d] w (BoolR (decide (xs = ys)) w) := by
  obtain ⟨n, hn⟩ : ∃ n, n = xs.length := ⟨_, rfl⟩
  obtain ⟨m, hm⟩ : ∃ m, m = ys.length := ⟨_, rfl⟩
  rw [← hn, ← hm]
  rw [← hn] at hx
  unfold maxLen at hx
  have Hn := Lib.hid hn
  have Hm := Lib.hid hm
  clear hn hm
  by_cases hnm : n = m
  · subst hnm
    have q1 : ((n : Int) != (n : Int)) = false := by simp
    go_enter Tryz.func63, Tryz.ntmps63
    go_wp2_with fail
    go_loopg [5] n (fun gh s5 wr => ∃ k : Nat, s5 = .int .i64 (k : Int) ∧ gh = n - k ∧ k ≤ n ∧ Hid (xs.take k = ys.take k) ∧ Hid (∃ q, wr = w.drewN q))
    case atStart => exact ⟨0, rfl, rfl, Nat.zero_le _, rfl, 0, by simp [World.drewN_zero]⟩
    case round =>
      obtain ⟨k, rfl, hgh, hk, HT, HW⟩ := hrel
      obtain ⟨q, hw⟩ := HW.out
      by_cases hlt : k < n
      · have hI1 : (0 : Int) ≤ (k : Int) := by omega
        have hI2 : (k : Int) < (n : Int) := by omega
        obtain ⟨x, hxk⟩ : ∃ y, xs[k]? = some y := ⟨xs[k]'(by rw [← Hn.out]; exact hlt), List.getElem?_eq_getElem _⟩
        obtain ⟨y, hyk⟩ : ∃ y, ys[k]? = some y := ⟨ys[k]'(by rw [← Hm.out]; exact hlt), List.getElem?_eq_getElem _⟩
        obtain ⟨b1, o1, hA, -, c1⟩ := int_at H1.out hxk
        obtain ⟨b2, o2, hB, -, c2⟩ := int_at H2.out hyk
        subst hA hB
        have c1' : wr.cell? ⟨b1, o1 + k, none⟩ = some (.int .i64 x) := by rw [hw, World.cell?_drewN]; exact c1
        have c2' : wr.cell? ⟨b2, o2 + k, none⟩ = some (.int .i64 y) := by rw [hw, World.cell?_drewN]; exact c2
        have Hxy : Hid (xs[k]? = some x ∧ ys[k]? = some y) := ⟨hxk, hyk⟩
        have HWd : Hid (∃ q, wr.drew = w.drewN q) := ⟨q + 1, by rw [hw]; rfl⟩
        clear c1 c2 hxk hyk hw
        by_cases he : x = y
        · subst he
          have q2 : ((x : Int) != x) = false := by simp
          have HT2 := Lib.hid (take_eq_step Hxy.out.1 Hxy.out.2 HT.out rfl)
          go_upto_region 6 with fail
          go_region
          clear c1' c2'
          go_wp2_with fail
          go_roundg (n - (k + 1))
          case measure => omega
          case rel => exact ⟨k + 1, by go_num, rfl, by omega, HT2, HWd⟩
        · have q2 : ((x : Int) != y) = true := by rw [bne_iff_ne]; exact he
          have q3 : ((x : Int) == y) = false := bne_int he
          have HNE : Hid (decide (xs = ys) = false) := by
            refine decide_eq_false fun h => he ?_
            have h1 := Hxy.out.1
            rw [h, Hxy.out.2] at h1
            injection h1 with h1
            exact h1.symm
          clear he
          go_upto_region 6 with fail
          go_region
          clear c1' c2'
          go_wp2_with fail
          go_ret
          exact BoolR.dr (by rw [HNE.out]; rfl) (.inr HWd.out)
      · have hke : k = n := by omega
        have hI3 : ¬ (k : Int) < (n : Int) := by omega
        have HE : Hid (decide (xs = ys) = true) := by
          have := HT.out
          rw [hke] at this
          have e1 : xs.take n = xs := List.take_of_length_le (by have := Hn.out; omega)
          have e2 : ys.take n = ys := List.take_of_length_le (by have := Hm.out; omega)
          rw [e1, e2] at this
          exact decide_eq_true this
        clear hlt hke
        go_wp2_with fail
        go_ret
        exact BoolR.dr (by rw [HE.out]; rfl) (.inr ⟨q, rfl⟩)
  · have q1 : ((n : Int) != (m : Int)) = true := by rw [bne_iff_ne]; omega
    have HNE : Hid (decide (xs = ys) = false) := decide_eq_false fun h => hnm (by rw [Hn.out, Hm.out, h])
    clear hnm
    go_enter Tryz.func63, Tryz.ntmps63
    go_wp2_with fail
    go_ret
    exact BoolR.dr (by rw [HNE.out]; rfl) (.inl rfl)
end Go.Proofs.YtdfhbnfhkckkbaaGreatDoor
