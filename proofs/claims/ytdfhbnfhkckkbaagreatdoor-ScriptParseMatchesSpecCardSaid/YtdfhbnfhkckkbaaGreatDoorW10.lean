/-
  The walks of slices.Equal at what the program calls it with, of Same's closure, EqualFunc and Same.
-/
import Derived.Test.YtdfhbnfhkckkbaaGreatDoorW9
namespace Go.Proofs.YtdfhbnfhkckkbaaGreatDoor
open Go Go.RowKit Go.Walks

theorem BoolR.dr {b : Bool} {w : World} {e : Ending} {w' : World} (h : e = .returned (.bool b)) (hw : w' = w ∨ ∃ q, w' = w.drewN q) : BoolR b w e w' := by
  rcases hw with rfl | ⟨q, rfl⟩
  · exact ⟨h, Below.refl _ _⟩
  · exact ⟨h, rfl, rfl, rfl, Nat.le_refl _, fun _ _ => rfl⟩
theorem ints_all {W : World} {B : Nat} {A : Option Addr} {l : List Int} (h : Sl W B A (l.map intC)) (hl : l ≠ []) : ∃ b o, A = some ⟨b, o, none⟩ ∧ ∀ j, j < l.length → W.cell? ⟨b, o + j, none⟩ = some (.int .i64 (l.getD j 0)) := by
  obtain ⟨x, r, rfl⟩ := List.exists_cons_of_ne_nil hl
  obtain ⟨b, o, hA, -, -⟩ := int_at h (k := 0) (x := x) rfl
  refine ⟨b, o, hA, fun j hj => ?_⟩
  obtain ⟨b', o', hA', -, hc⟩ := int_at h (k := j) (x := (x :: r)[j]) (List.getElem?_eq_getElem hj)
  rw [hA] at hA'
  obtain ⟨rfl, rfl⟩ : b = b' ∧ o = o' := by simpa using hA'
  rw [hc]
  simp [List.getD, List.getElem?_eq_getElem hj]
theorem strs_all {W : World} {B : Nat} {A : Option Addr} {l : List Bytes} (h : Sl W B A (l.map strV)) (hl : l ≠ []) : ∃ b o, A = some ⟨b, o, none⟩ ∧ ∀ j, j < (l.map fun s => (⟨s.toArray⟩ : ByteArray)).length → W.cell? ⟨b, o + j, none⟩ = some (.string ((l.map fun s => (⟨s.toArray⟩ : ByteArray)).getD j ByteArray.empty)) := by
  obtain ⟨x, r, rfl⟩ := List.exists_cons_of_ne_nil hl
  obtain ⟨b, o, hA, -, -⟩ := str_at h (k := 0) (x := x) rfl
  refine ⟨b, o, hA, fun j hj => ?_⟩
  rw [List.length_map] at hj
  obtain ⟨b', o', hA', -, hc⟩ := str_at h (k := j) (x := (x :: r)[j]) (List.getElem?_eq_getElem hj)
  rw [hA] at hA'
  obtain ⟨rfl, rfl⟩ : b = b' ∧ o = o' := by simpa using hA'
  rw [hc, List.getD_eq_getElem?_getD, List.getElem?_map, List.getElem?_eq_getElem hj]
  rfl
theorem eqInts_any (xs ys : List Int) (A B : Option Addr) (c d : Nat) (w : World) (hx : xs.length ≤ maxLen) (hy : ys.length ≤ maxLen) (H1 : Hid (Sl w w.heap.size A (xs.map intC))) (H2 : Hid (Sl w w.heap.size B (ys.map intC))) :
    Calls Tryz.prog 60 #[.slice A xs.length c, .slice B ys.length d] w (BoolR (decide (xs = ys)) w) := by
  unfold maxLen at hx hy
  by_cases hn : xs.length = ys.length
  · by_cases h0 : xs = []
    · subst h0
      have h1 : ys = [] := List.length_eq_zero_iff.1 hn.symm
      subst h1
      refine (Tryz.slices_Equal_int_empty A B c 0 d w (by omega)).mono ?_
      rintro e w' ⟨rfl, rfl⟩
      exact BoolR.dr rfl (.inl rfl)
    · have h1 : ys ≠ [] := fun h => h0 (List.length_eq_zero_iff.1 (by rw [hn, h]; rfl))
      obtain ⟨b1, o1, rfl, c1⟩ := ints_all H1.out h0
      obtain ⟨b2, o2, rfl, c2⟩ := ints_all H2.out h1
      refine (Tryz.slices_Equal_int b1 o1 xs.length c b2 o2 ys.length d xs ys w (Nat.le_refl _) (Nat.le_refl _) (by omega) (by omega) c1 c2).mono ?_
      rintro e w' ⟨rfl, hw⟩
      rw [List.take_length, List.take_length]
      have : (xs == ys) = decide (xs = ys) := by rw [Bool.eq_iff_iff, beq_iff_eq, decide_eq_true_eq]
      rw [this]
      exact BoolR.dr rfl (.inr hw)
  · refine (Tryz.slices_Equal_int_lens A B xs.length c ys.length d w hn).mono ?_
    rintro e w' ⟨rfl, rfl⟩
    exact BoolR.dr (by rw [decide_eq_false (fun h => hn (by rw [h]))]) (.inl rfl)
theorem eqStrs_any (xs ys : List Bytes) (A B : Option Addr) (c d : Nat) (w : World) (hx : xs.length ≤ maxLen) (hy : ys.length ≤ maxLen) (H1 : Hid (Sl w w.heap.size A (xs.map strV))) (H2 : Hid (Sl w w.heap.size B (ys.map strV))) :
    Calls Tryz.prog 61 #[.slice A xs.length c, .slice B ys.length d] w (BoolR (decide (xs = ys)) w) := by
  unfold maxLen at hx hy
  by_cases hn : xs.length = ys.length
  · by_cases h0 : xs = []
    · subst h0
      have h1 : ys = [] := List.length_eq_zero_iff.1 hn.symm
      subst h1
      refine (Tryz.slices_Equal_string_empty A B c 0 d w (by omega)).mono ?_
      rintro e w' ⟨rfl, rfl⟩
      exact BoolR.dr rfl (.inl rfl)
    · have h1 : ys ≠ [] := fun h => h0 (List.length_eq_zero_iff.1 (by rw [hn, h]; rfl))
      obtain ⟨b1, o1, rfl, c1⟩ := strs_all H1.out h0
      obtain ⟨b2, o2, rfl, c2⟩ := strs_all H2.out h1
      refine (Tryz.slices_Equal_string b1 o1 xs.length c b2 o2 ys.length d _ _ w (by simp) (by simp) (by omega) (by omega) c1 c2).mono ?_
      rintro e w' ⟨rfl, hw⟩
      refine BoolR.dr ?_ (.inr hw)
      rw [List.take_of_length_le (by simp), List.take_of_length_le (by simp)]
      congr 2
      rw [Bool.eq_iff_iff, decide_eq_true_eq, decide_eq_true_eq]
      refine ⟨fun h => ?_, fun h => by rw [h]⟩
      have := congrArg (List.map fun (s : ByteArray) => s.data.toList) h
      rw [List.map_map, List.map_map] at this
      have e : ∀ l : List Bytes, l.map ((fun (s : ByteArray) => s.data.toList) ∘ fun s => (⟨s.toArray⟩ : ByteArray)) = l := fun l => (List.map_congr_left fun s _ => rfl).trans (List.map_id l)
      rw [e, e] at this
      exact this
  · refine (Tryz.slices_Equal_string_lens A B xs.length c ys.length d w hn).mono ?_
    rintro e w' ⟨rfl, rfl⟩
    exact BoolR.dr (by rw [decide_eq_false (fun h => hn (by rw [h]))]) (.inl rfl)

/-- A step as a value. -/
structure StepV (w : World) (x : StepD) (A : Option Addr) (c : Nat) : Prop where
  sl : Sl w w.heap.size A (x.args.map intC)
  le : x.args.length ≤ maxLen
theorem StepV.below {w w' : World} {x : StepD} {A : Option Addr} {c : Nat} (h : StepV w x A c) (hb : Below w.heap.size w w') : StepV w' x A c := ⟨(h.sl.below hb).more hb.size, h.le⟩
def stepCs (x : StepD) (A : Option Addr) (n c : Nat) : Array Value := #[.int .i64 x.kind, .slice A n c]
set_option maxRecDepth 100000 in
set_option maxHeartbeats 400000 in
theorem same1_any (x y : StepD) (A B : Option Addr) (c d : Nat) (w : World) (H1 : Hid (StepV w x A c)) (H2 : Hid (StepV w y B d)) :
    Calls Tryz.prog 59 #[.agg #[.int .i64 x.kind, .slice A x.args.length c], .agg #[.int .i64 y.kind, .slice B y.args.length d]] w (BoolR (decide (x = y)) w) := by
  obtain ⟨n, hn⟩ : ∃ n, n = x.args.length := ⟨_, rfl⟩
  obtain ⟨m, hm⟩ : ∃ n, n = y.args.length := ⟨_, rfl⟩
  obtain ⟨kx, hkx⟩ : ∃ n, n = x.kind := ⟨_, rfl⟩
  obtain ⟨ky, hky⟩ : ∃ n, n = y.kind := ⟨_, rfl⟩
  obtain ⟨v, hv⟩ : ∃ v, v = decide (x = y) := ⟨_, rfl⟩
  rw [← hn, ← hm, ← hkx, ← hky, ← hv]
  obtain ⟨g1, hg1⟩ : ∃ g, g = w.heap.size := ⟨_, rfl⟩
  obtain ⟨g2, hg2⟩ : ∃ g, g = w.heap.size + 1 := ⟨_, rfl⟩
  obtain ⟨W1, hW1⟩ : ∃ W, W = w.alloc (.cells #[.int .i64 kx, .slice A n c] 69) := ⟨_, rfl⟩
  obtain ⟨W2, hW2⟩ : ∃ W, W = W1.alloc (.cells #[.int .i64 ky, .slice B m d] 69) := ⟨_, rfl⟩
  have hb1 : Below w.heap.size w W1 := by rw [hW1]; exact (Below.refl _ _).alloc (Nat.le_refl _) _
  have hr1 : W1.heap[g1]? = some (.cells #[.int .i64 kx, .slice A n c] 69) := by rw [hW1, hg1]; exact heap_new _ _
  have hs1 : W1.heap.size = g2 := by rw [hW1, hg2]; simp
  have hb2 : Below W1.heap.size W1 W2 := by rw [hW2]; exact (Below.refl _ _).alloc (Nat.le_refl _) _
  have hr2 : W2.heap[g2]? = some (.cells #[.int .i64 ky, .slice B m d] 69) := by rw [hW2, ← hs1]; exact heap_new _ _
  have hr12 : W2.heap[g1]? = some (.cells #[.int .i64 kx, .slice A n c] 69) := (hb2.block _ (Array.getElem?_eq_some_iff.1 hr1).1).trans hr1
  have HB : Hid (Below w.heap.size w W2) := hb1.trans (hb2.mono hb1.size)
  have heq := eqInts_any x.args y.args A B c d W2 H1.out.le H2.out.le (H1.out.below HB.out).sl (H2.out.below HB.out).sl
  rw [← hn, ← hm] at heq
  have Heq := Lib.hid heq
  obtain ⟨x0, x1, -⟩ := two_cells hr12
  obtain ⟨y0, y1, -⟩ := two_cells hr2
  have Hv : Hid (v = (decide (kx = ky) && decide (x.args = y.args))) := by
    show _ = _
    rw [hv, hkx, hky]
    obtain ⟨a, b⟩ := x
    obtain ⟨a', b'⟩ := y
    rw [Bool.eq_iff_iff, Bool.and_eq_true, decide_eq_true_eq, decide_eq_true_eq, decide_eq_true_eq]
    simp
  clear hb1 hr1 hs1 hb2 hr2 hr12 heq hn hm hkx hky hv
  go_enter Tryz.func59, Tryz.ntmps59
  go_upto_region 1 with fail
  rw [← hg2, ← hg1, ← hW1, ← hW2]
  clear hg1 hg2 hW1 hW2
  by_cases hk : kx = ky
  · have q1 : (kx == ky) = true := beq_iff_eq.2 hk
    have Hv2 : Hid (v = decide (x.args = y.args)) := by show _ = _; rw [Hv.out, decide_eq_true hk, Bool.true_and]
    clear hk
    go_wp2_with fail
    refine Heq.out.mono ?_
    rintro e w1 ⟨rfl, hb⟩
    have HB3 : Hid (Below w.heap.size w w1) := HB.out.trans (hb.mono HB.out.size)
    clear hb
    rw [← Hv2.out]
    go_wp2_with fail
    go_ret
    exact ⟨by cases v <;> rfl, HB3.out⟩
  · have q1 : (kx == ky) = false := bne_int hk
    have Hv2 : Hid (v = false) := by show _ = _; rw [Hv.out, decide_eq_false hk, Bool.false_and]
    clear hk
    go_wp2_with fail
    go_ret
    exact ⟨by rw [Hv2.out]; rfl, HB.out⟩

theorem take_eq_step {α : Type} {xs ys : List α} {k : Nat} {x y : α} (hx : xs[k]? = some x) (hy : ys[k]? = some y) (h : xs.take k = ys.take k) (e : x = y) : xs.take (k + 1) = ys.take (k + 1) := by
  rw [List.take_add_one, List.take_add_one, hx, hy, h, e]
set_option maxRecDepth 100000 in
set_option maxHeartbeats 1000000 in
theorem eqSteps_any (xs ys : List StepD) (U V : Option Addr) (uc vc : Nat) (ms ns : List Value) (w : World) (hx : xs.length ≤ maxLen) (hy : ys.length ≤ maxLen) (hxa : ∀ x ∈ xs, x.args.length ≤ maxLen) (hya : ∀ x ∈ ys, x.args.length ≤ maxLen)
    (H1 : Hid (Sl w w.heap.size U ms)) (H2 : Hid (StepsS w xs ms)) (H3 : Hid (Sl w w.heap.size V ns)) (H4 : Hid (StepsS w ys ns)) :
    Calls Tryz.prog 62 #[.slice U xs.length uc, .slice V ys.length vc, .func (.func 59) #[] #[]] w (BoolR (decide (xs = ys)) w) := by
  obtain ⟨n, hn⟩ : ∃ n, n = xs.length := ⟨_, rfl⟩
  obtain ⟨m, hm⟩ : ∃ n, n = ys.length := ⟨_, rfl⟩
  obtain ⟨v, hv⟩ : ∃ v, v = decide (xs = ys) := ⟨_, rfl⟩
  rw [← hn, ← hm, ← hv]
  unfold maxLen at hx hy
  rw [← hn] at hx
  rw [← hm] at hy
  by_cases hnm : n = m
  · have Hn := Lib.hid hn
    have Hm := Lib.hid hm
    have Hv := Lib.hid hv
    subst hnm
    have Hxa := Lib.hid hxa
    have Hya := Lib.hid hya
    clear hn hm hv hxa hya hy
    go_enter Tryz.func62, Tryz.ntmps62
    go_wp2_with fail
    go_loopg [17] n (fun g s17 wr => ∃ k : Nat, s17 = .int .i64 (k : Int) ∧ g = n - k ∧ k ≤ n ∧ Hid (Below w.heap.size w wr) ∧ Hid (xs.take k = ys.take k))
    case atStart => exact ⟨0, rfl, rfl, Nat.zero_le _, Below.refl _ _, rfl⟩
    case round =>
      obtain ⟨k, rfl, hg, hk, HB, HE⟩ := hrel
      by_cases hlt : k < n
      · have hI1 : (0 : Int) ≤ (k : Int) := by omega
        have hI2 : (k : Int) < (n : Int) := by omega
        obtain ⟨x, hxk⟩ : ∃ x, xs[k]? = some x := ⟨xs[k]'(by rw [← Hn.out]; exact hlt), List.getElem?_eq_getElem _⟩
        obtain ⟨y, hyk⟩ : ∃ y, ys[k]? = some y := ⟨ys[k]'(by rw [← Hm.out]; exact hlt), List.getElem?_eq_getElem _⟩
        obtain ⟨b, o, A, ca, hU, hb0, c1, c2, hsA, -⟩ := step_at H1.out H2.out HB.out hxk
        obtain ⟨b', o', A', ca', hV, hb0', d1, d2, hsA', -⟩ := step_at H3.out H4.out HB.out hyk
        subst hU hV
        have HX := Lib.hid hxk
        have HY := Lib.hid hyk
        obtain ⟨p, hp⟩ : ∃ p, p = x.args.length := ⟨_, rfl⟩
        obtain ⟨q, hq⟩ : ∃ p, p = y.args.length := ⟨_, rfl⟩
        obtain ⟨kx, hkx⟩ : ∃ p, p = x.kind := ⟨_, rfl⟩
        obtain ⟨ky, hky⟩ : ∃ p, p = y.kind := ⟨_, rfl⟩
        obtain ⟨g1, hg1⟩ : ∃ g, g = wr.heap.size := ⟨_, rfl⟩
        obtain ⟨g2, hg2⟩ : ∃ g, g = wr.heap.size + 1 := ⟨_, rfl⟩
        obtain ⟨W1, hW1⟩ : ∃ W, W = wr.alloc (.cells #[.int .i64 kx, .slice A p ca] 69) := ⟨_, rfl⟩
        obtain ⟨W2, hW2⟩ : ∃ W, W = W1.alloc (.cells #[.int .i64 ky, .slice A' q ca'] 69) := ⟨_, rfl⟩
        have hb1 : Below wr.heap.size wr W1 := by rw [hW1]; exact (Below.refl _ _).alloc (Nat.le_refl _) _
        have hr1 : W1.heap[g1]? = some (.cells #[.int .i64 kx, .slice A p ca] 69) := by rw [hW1, hg1]; exact heap_new _ _
        have hs1 : W1.heap.size = g2 := by rw [hW1, hg2]; simp
        have hb2 : Below W1.heap.size W1 W2 := by rw [hW2]; exact (Below.refl _ _).alloc (Nat.le_refl _) _
        have hr2 : W2.heap[g2]? = some (.cells #[.int .i64 ky, .slice A' q ca'] 69) := by rw [hW2, ← hs1]; exact heap_new _ _
        have hr12 : W2.heap[g1]? = some (.cells #[.int .i64 kx, .slice A p ca] 69) := (hb2.block _ (Array.getElem?_eq_some_iff.1 hr1).1).trans hr1
        have hbw : Below wr.heap.size wr W2 := hb1.trans (hb2.mono hb1.size)
        have HB2 : Hid (Below w.heap.size w W2) := HB.out.trans (hbw.mono HB.out.size)
        have hs := same1_any x y A A' ca ca' W2 ⟨(hsA.below hbw).more hbw.size, Hxa.out x (List.mem_of_getElem? hxk)⟩ ⟨(hsA'.below hbw).more hbw.size, Hya.out y (List.mem_of_getElem? hyk)⟩
        have c1' : wr.cell? ⟨b, o + k * 2, none⟩ = some (.int .i64 kx) := by rw [hkx]; exact c1
        have c2' : wr.cell? ⟨b, o + k * 2 + 1, none⟩ = some (.slice A p ca) := by rw [hp]; exact c2
        have d1' : wr.cell? ⟨b', o' + k * 2, none⟩ = some (.int .i64 ky) := by rw [hky]; exact d1
        have d2' : wr.cell? ⟨b', o' + k * 2 + 1, none⟩ = some (.slice A' q ca') := by rw [hq]; exact d2
        have hbs : b < wr.heap.size := Nat.lt_of_lt_of_le hb0 HB.out.size
        have hbs' : b' < wr.heap.size := Nat.lt_of_lt_of_le hb0' HB.out.size
        have e1 : W1.cell? ⟨b', o' + k * 2, none⟩ = some (.int .i64 ky) := (hb1.cell (p := ⟨b', o' + k * 2, none⟩) hbs').trans d1'
        have e2 : W1.cell? ⟨b', o' + k * 2 + 1, none⟩ = some (.slice A' q ca') := (hb1.cell (p := ⟨b', o' + k * 2 + 1, none⟩) hbs').trans d2'
        rw [← hp, ← hq, ← hkx, ← hky] at hs
        have Hs := Lib.hid hs
        have Hr12 := Lib.hid hr12
        have Hr2 := Lib.hid hr2
        clear c1 c2 d1 d2 hxk hyk hb1 hr1 hs1 hb2 hr2 hr12 hbw hs hp hq hkx hky hsA hsA' hb0 hb0'
        go_upto_region 7 with fail
        rw [← hg2, ← hg1, ← hW1, ← hW2]
        clear hg1 hg2 hW1 hW2 c1' c2' d1' d2' e1 e2
        obtain ⟨x0, x1, -⟩ := two_cells Hr12.out
        obtain ⟨y0, y1, -⟩ := two_cells Hr2.out
        by_cases hxy : x = y
        · have hd : decide (x = y) = true := decide_eq_true hxy
          rw [hd] at Hs
          have HE2 := Lib.hid (take_eq_step HX.out HY.out HE.out hxy)
          clear hxy hd
          go_wp2_with fail
          refine Hs.out.mono ?_
          rintro e w3 ⟨rfl, hb3⟩
          have HB3 : Hid (Below w.heap.size w w3) := HB2.out.trans (hb3.mono HB2.out.size)
          clear hb3
          go_wp2_with fail
          go_roundg (n - (k + 1))
          case measure => omega
          case rel => exact ⟨k + 1, by go_num, rfl, by omega, HB3, HE2⟩
        · have hd : decide (x = y) = false := decide_eq_false hxy
          rw [hd] at Hs
          have HV : Hid (v = false) := by
            show _ = _
            rw [Hv.out]
            refine decide_eq_false fun h => hxy ?_
            have h1 := HX.out
            rw [h, HY.out] at h1
            exact (Option.some.inj h1).symm
          clear hxy hd
          go_wp2_with fail
          refine Hs.out.mono ?_
          rintro e w3 ⟨rfl, hb3⟩
          have HB3 : Hid (Below w.heap.size w w3) := HB2.out.trans (hb3.mono HB2.out.size)
          clear hb3
          go_wp2_with fail
          go_ret
          exact ⟨by rw [HV.out]; rfl, HB3.out⟩
      · have hke : k = n := by omega
        have hI3 : ¬ (k : Int) < (n : Int) := by omega
        have HV : Hid (v = true) := by
          show _ = _
          have := HE.out
          rw [hke, Hn.out, List.take_length, ← Hn.out, Hm.out, List.take_length] at this
          rw [Hv.out]
          exact decide_eq_true this
        clear hke hlt
        go_wp2_with fail
        go_ret
        exact ⟨by rw [HV.out]; rfl, HB.out⟩
  · have q1 : ((n : Int) != (m : Int)) = true := by rw [bne_iff_ne]; omega
    have HV : Hid (v = false) := by
      show _ = _
      rw [hv]
      exact decide_eq_false fun h => hnm (by rw [hn, hm, h])
    clear hn hm hv hnm hxa hya
    go_enter Tryz.func62, Tryz.ntmps62
    go_wp2_with fail
    go_ret
    exact ⟨by rw [HV.out]; rfl, Below.refl _ _⟩

set_option maxRecDepth 100000 in
set_option maxHeartbeats 1000000 in
theorem same_any (S S' : ScriptD) (u v : Value) (w : World) (H1 : Hid (ScriptS w S u)) (H2 : Hid (ScriptS w S' v)) (HL : Hid (ScriptL S)) (HL' : Hid (ScriptL S')) : Calls Tryz.prog 23 #[u, v] w (BoolR (decide (S = S')) w) := by
  obtain ⟨a, b, c, d, e, f, T, tc, U, uc, rfl, hp⟩ := H1.out
  obtain ⟨a', b', c', d', e', f', T', tc', U', uc', rfl, hp'⟩ := H2.out
  obtain ⟨x, hx⟩ : ∃ x, x = decide (S = S') := ⟨_, rfl⟩
  rw [← hx]
  have Hx : Hid (x = (decide (S.cfg = S'.cfg) && (decide (S.texts = S'.texts) && decide (S.steps = S'.steps)))) := by
    show _ = _
    rw [hx, Bool.eq_iff_iff, Bool.and_eq_true, Bool.and_eq_true, decide_eq_true_eq, decide_eq_true_eq, decide_eq_true_eq, decide_eq_true_eq]
    obtain ⟨p, q, r⟩ := S
    obtain ⟨p', q', r'⟩ := S'
    simp
  have Hcfg : Hid (S.cfg = [a, b, c, d, e, f] ∧ S'.cfg = [a', b', c', d', e', f']) := ⟨hp.cfg, hp'.cfg⟩
  obtain ⟨ms, hms, hst⟩ := hp.stp
  obtain ⟨ms', hms', hst'⟩ := hp'.stp
  obtain ⟨nt, hnt⟩ : ∃ n, n = S.texts.length := ⟨_, rfl⟩
  obtain ⟨ns, hns⟩ : ∃ n, n = S.steps.length := ⟨_, rfl⟩
  obtain ⟨nt', hnt'⟩ : ∃ n, n = S'.texts.length := ⟨_, rfl⟩
  obtain ⟨ns', hns'⟩ : ∃ n, n = S'.steps.length := ⟨_, rfl⟩
  obtain ⟨g1, hg1⟩ : ∃ g, g = w.heap.size := ⟨_, rfl⟩
  obtain ⟨g2, hg2⟩ : ∃ g, g = w.heap.size + 1 := ⟨_, rfl⟩
  obtain ⟨W1, hW1⟩ : ∃ W, W = w.alloc (.cells (scrCs a b c d e f T nt tc U ns uc) 35) := ⟨_, rfl⟩
  obtain ⟨W2, hW2⟩ : ∃ W, W = W1.alloc (.cells (scrCs a' b' c' d' e' f' T' nt' tc' U' ns' uc') 35) := ⟨_, rfl⟩
  have hc1 : CK w g1 (scrCs a b c d e f T nt tc U ns uc) W1 := by rw [hW1, hg1]; exact CK.start w _
  have hs1 : W1.heap.size = g2 := by rw [hW1, hg2]; simp
  have hc2 : CK W1 g2 (scrCs a' b' c' d' e' f' T' nt' tc' U' ns' uc') W2 := by rw [hW2, ← hs1]; exact CK.start W1 _
  have HC1 : Hid (CK w g1 (scrCs a b c d e f T nt tc U ns uc) W2) := hc1.call hc2.below
  have HC2 : Hid (CK w g2 (scrCs a' b' c' d' e' f' T' nt' tc' U' ns' uc') W2) := ⟨HC1.out.below, hc2.row⟩
  have HT : Hid (∀ W, Below w.heap.size w W → Calls Tryz.prog 61 #[.slice T nt tc, .slice T' nt' tc'] W (BoolR (decide (S.texts = S'.texts)) W)) := fun W hb => by
    rw [hnt, hnt']
    exact eqStrs_any _ _ _ _ _ _ W HL.out.tl HL'.out.tl ((hp.txt.below hb).more hb.size) ((hp'.txt.below hb).more hb.size)
  have HS : Hid (∀ W, Below w.heap.size w W → Calls Tryz.prog 62 #[.slice U ns uc, .slice U' ns' uc', .func (.func 59) #[] #[]] W (BoolR (decide (S.steps = S'.steps)) W)) := fun W hb => by
    rw [hns, hns']
    exact eqSteps_any _ _ _ _ _ _ ms ms' W HL.out.sl HL'.out.sl HL.out.arg HL'.out.arg ((hms.below hb).more hb.size) (hst.below hb) ((hms'.below hb).more hb.size) (hst'.below hb)
  rw [← hnt, ← hns, ← hnt', ← hns']
  clear hnt hns hnt' hns' hc1 hs1 hc2 hx hp hp' hms hst hms' hst' H1 H2 HL HL'
  obtain ⟨⟨z0, z1, z2, z3, z4, z5⟩, z6, z7⟩ := HC1.out.cells
  obtain ⟨⟨y0, y1, y2, y3, y4, y5⟩, y6, y7⟩ := HC2.out.cells
  go_enter Tryz.func23, Tryz.ntmps23
  go_upto_region 2 with fail
  rw [← hg2, ← hg1, ← hW1, ← hW2]
  clear hg1 hg2 hW1 hW2
  by_cases h0 : a = a' ∧ b = b' ∧ c = c' ∧ d = d' ∧ e = e' ∧ f = f'
  · obtain ⟨rfl, rfl, rfl, rfl, rfl, rfl⟩ := h0
    have Hx2 : Hid (x = (decide (S.texts = S'.texts) && decide (S.steps = S'.steps))) := by
      show _ = _
      rw [Hx.out, decide_eq_true (by rw [Hcfg.out.1, Hcfg.out.2]), Bool.true_and]
    have HT1 := Lib.hid (HT.out _ HC1.out.below)
    cases ht : decide (S.texts = S'.texts) with
    | false =>
      rw [ht] at HT1
      have HX : Hid (x = false) := by show _ = _; rw [Hx2.out, ht, Bool.false_and]
      clear ht
      go_wp2_with fail
      refine HT1.out.mono ?_
      rintro _ w3 ⟨rfl, hb3⟩
      have HB3 : Hid (Below w.heap.size w w3) := (HC1.out.call hb3).below
      clear hb3
      go_wp2_with fail
      go_ret
      exact ⟨by rw [HX.out]; rfl, HB3.out⟩
    | true =>
      rw [ht] at HT1
      have HX : Hid (x = decide (S.steps = S'.steps)) := by show _ = _; rw [Hx2.out, ht, Bool.true_and]
      clear ht
      go_wp2_with fail
      refine HT1.out.mono ?_
      rintro _ w3 ⟨rfl, hb3⟩
      have HC3 := Lib.hid (HC1.out.call hb3)
      have HC4 := Lib.hid (HC2.out.call hb3)
      have HS1 := Lib.hid (HS.out _ HC3.out.below)
      clear hb3 z0 z1 z2 z3 z4 z5 z6 z7 y0 y1 y2 y3 y4 y5 y6 y7
      obtain ⟨⟨z0, z1, z2, z3, z4, z5⟩, z6, z7⟩ := HC3.out.cells
      obtain ⟨⟨y0, y1, y2, y3, y4, y5⟩, y6, y7⟩ := HC4.out.cells
      go_wp2_with fail
      refine HS1.out.mono ?_
      rintro _ w4 ⟨rfl, hb4⟩
      have HB4 : Hid (Below w.heap.size w w4) := (HC3.out.call hb4).below
      rw [← HX.out]
      clear hb4
      go_wp2_with fail
      go_ret
      exact ⟨by cases x <;> rfl, HB4.out⟩
  · have HX : Hid (x = false) := by
      show _ = _
      rw [Hx.out, decide_eq_false, Bool.false_and]
      rw [Hcfg.out.1, Hcfg.out.2]
      exact fun h => h0 (by simpa using h)
    have H0 := Lib.hid h0
    clear h0
    go_wp2_with fail
    all_goals first
      | (go_ret; exact ⟨by rw [HX.out]; rfl, HC1.out.below⟩)
      | exact absurd ⟨by assumption, by assumption, by assumption, by assumption, by assumption, by assumption⟩ H0.out
end Go.Proofs.YtdfhbnfhkckkbaaGreatDoor
