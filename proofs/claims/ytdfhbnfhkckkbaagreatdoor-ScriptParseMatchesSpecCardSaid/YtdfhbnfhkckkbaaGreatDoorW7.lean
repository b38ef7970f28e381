/-
  The walks of isKind, Name, Arity, fits, numbers and config.
-/
import Derived.Test.YtdfhbnfhkckkbaaGreatDoorH0
import Derived.Deep.MidRow
import Derived.BigRegion
namespace Go.Proofs.YtdfhbnfhkckkbaaGreatDoor
open Go Go.RowKit Go.Walks

def ValR (v : Value) (w : World) (e : Ending) (w' : World) : Prop := e = .returned v ∧ w' = w
theorem flat_get {α : Type} {f : α → List Value} {s : Nat} (hf : ∀ x, (f x).length = s) : ∀ (l : List α) (i j : Nat) (x : α), l[i]? = some x → j < s → (l.flatMap f)[i * s + j]? = (f x)[j]?
  | [], i, j, x, h, _ => by simp at h
  | y :: l, 0, j, x, h, hj => by
    have : y = x := by simpa using h
    subst this
    rw [List.flatMap_cons, Nat.zero_mul, Nat.zero_add, List.getElem?_append_left (by rw [hf]; exact hj)]
  | y :: l, i + 1, j, x, h, hj => by
    rw [List.flatMap_cons, List.getElem?_append_right (by rw [hf, Nat.add_mul]; omega), hf, ← flat_get hf l i j x (by simpa using h) hj]
    congr 1
    rw [Nat.add_mul]; omega
theorem kind_cell {w : World} (h : Gl w) {k : Nat} {x : Bytes × Nat} (hk : kindsB[k]? = some x) : w.cell? ⟨0, k * 2, none⟩ = some (.string ⟨x.1.toArray⟩) ∧ w.cell? ⟨0, k * 2 + 1, none⟩ = some (.int .i64 (x.2 : Int)) := by
  obtain ⟨t, fz, hr⟩ := h.kin
  have h0 := flat_get (f := kindCs) (s := 2) (fun x => rfl) kindsB k 0 x hk (by omega)
  have h1 := flat_get (f := kindCs) (s := 2) (fun x => rfl) kindsB k 1 x hk (by omega)
  constructor
  · rw [cell_of_row w 0 _ _ t fz hr]; simpa [kindCells, kindCs, strV] using h0
  · rw [cell_of_row w 0 _ _ t fz hr]; simpa [kindCells, kindCs, intC] using h1
theorem isKind_any (n : Int) (w : World) : Calls Tryz.prog 57 #[.int .i64 n] w (ValR (.bool (isKindB n)) w) := by
  obtain ⟨v, hv⟩ : ∃ v, v = isKindB n := ⟨_, rfl⟩
  rw [← hv]
  unfold isKindB at hv
  have Hv := Lib.hid hv
  clear hv
  by_cases h1 : 1 ≤ n
  · go_enter Tryz.func57, Tryz.ntmps57
    go_wp2_with fail
    go_ret
    exact ⟨by rw [Hv.out, decide_eq_true h1, Bool.true_and]; rfl, rfl⟩
  · go_enter Tryz.func57, Tryz.ntmps57
    go_wp2_with fail
    go_ret
    exact ⟨by rw [Hv.out, show decide (1 ≤ n) = false from decide_eq_false (by omega), Bool.false_and]; rfl, rfl⟩
theorem kind_get {n : Int} (h : isKindB n = true) : 1 ≤ n ∧ n ≤ 27 ∧ ∃ x, kindsB[(n - 1).toNat]? = some x ∧ nameB n = x.1 ∧ arityB n = x.2 := by
  have hb : 1 ≤ n ∧ n ≤ 27 := by simpa [isKindB] using h
  obtain ⟨x, hx⟩ : ∃ x, kindsB[(n - 1).toNat]? = some x := ⟨kindsB[(n - 1).toNat]'(by show _ < 27; omega), List.getElem?_eq_getElem _⟩
  exact ⟨hb.1, hb.2, x, hx, by unfold nameB; rw [if_pos h, hx]; rfl, by unfold arityB; rw [if_pos h, hx]; rfl⟩
set_option maxRecDepth 100000 in
theorem name_any (n : Int) (w : World) (Hg : Hid (Gl w)) : Calls Tryz.prog 19 #[.int .i64 n] w (ValR (strV (nameB n)) w) := by
  have HK := Lib.hid (isKind_any n w)
  cases hk : isKindB n with
  | false =>
    have Hv : Hid (nameB n = []) := by show _ = _; unfold nameB; rw [hk]; rfl
    rw [hk] at HK
    clear hk
    go_enter Tryz.func19, Tryz.ntmps19
    go_wp2_with fail
    refine HK.out.mono ?_
    rintro e w1 ⟨rfl, hw⟩
    obtain rfl := hw.symm
    go_wp2_with fail
    go_ret
    exact ⟨by rw [Hv.out]; rfl, rfl⟩
  | true =>
    obtain ⟨h1, h27, x, hx, hn, ha⟩ := kind_get hk
    obtain ⟨c0, c1⟩ := kind_cell Hg.out hx
    rw [hk] at HK
    obtain ⟨k, hkn⟩ : ∃ k : Nat, n = (k : Int) + 1 := ⟨(n - 1).toNat, by omega⟩
    rw [show (n - 1).toNat = k by omega] at c0
    have Hn := Lib.hid hn
    have HK' : Hid (Calls Tryz.prog 57 #[.int .i64 n] w (ValR (.bool true) w)) := HK
    have hkI : n - 1 = (k : Int) := by omega
    have hk2 : (n - 1).toNat = k := by omega
    clear hx hn ha c1 hk HK hkn
    go_enter Tryz.func19, Tryz.ntmps19
    go_wp2_with fail
    refine HK'.out.mono ?_
    rintro e w1 ⟨rfl, hw⟩
    obtain rfl := hw.symm
    go_wp2_with fail
    go_ret
    exact ⟨by rw [Hn.out]; rfl, rfl⟩
set_option maxRecDepth 100000 in
theorem arity_any (n : Int) (w : World) (Hg : Hid (Gl w)) : Calls Tryz.prog 21 #[.int .i64 n] w (ValR (.int .i64 (arityB n)) w) := by
  have HK := Lib.hid (isKind_any n w)
  cases hk : isKindB n with
  | false =>
    have Hv : Hid (arityB n = -1) := by show _ = _; unfold arityB; rw [hk]; rfl
    rw [hk] at HK
    clear hk
    go_enter Tryz.func21, Tryz.ntmps21
    go_wp2_with fail
    refine HK.out.mono ?_
    rintro e w1 ⟨rfl, hw⟩
    obtain rfl := hw.symm
    go_wp2_with fail
    go_ret
    exact ⟨by rw [Hv.out]; rfl, rfl⟩
  | true =>
    obtain ⟨h1, h27, x, hx, hn, ha⟩ := kind_get hk
    obtain ⟨c0, c1⟩ := kind_cell Hg.out hx
    rw [hk] at HK
    obtain ⟨k, hkn⟩ : ∃ k : Nat, n = (k : Int) + 1 := ⟨(n - 1).toNat, by omega⟩
    rw [show (n - 1).toNat = k by omega] at c1
    have Hn := Lib.hid ha
    have HK' : Hid (Calls Tryz.prog 57 #[.int .i64 n] w (ValR (.bool true) w)) := HK
    have hkI : n - 1 = (k : Int) := by omega
    have hk2 : (n - 1).toNat = k := by omega
    clear hx hn ha c0 hk HK hkn
    go_enter Tryz.func21, Tryz.ntmps21
    go_wp2_with fail
    refine HK'.out.mono ?_
    rintro e w1 ⟨rfl, hw⟩
    obtain rfl := hw.symm
    go_wp2_with fail
    go_ret
    exact ⟨by rw [Hn.out]; rfl, rfl⟩
theorem bne_int {a b : Int} (h : a ≠ b) : (a == b) = false := beq_eq_false_iff_ne.2 h
set_option maxRecDepth 100000 in
theorem fits_any (n : Int) (k : Nat) (w : World) (Hg : Hid (Gl w)) : Calls Tryz.prog 42 #[.int .i64 n, .int .i64 (k : Int)] w (ValR (.bool (fitsB n k)) w) := by
  have HK := Lib.hid (isKind_any n w)
  have HA := Lib.hid (arity_any n w Hg)
  obtain ⟨v, hv⟩ : ∃ v, v = fitsB n k := ⟨_, rfl⟩
  rw [← hv]
  unfold fitsB at hv
  obtain ⟨a, ha⟩ : ∃ a, a = arityB n := ⟨_, rfl⟩
  rw [← ha] at hv HA
  clear ha
  cases hk : isKindB n with
  | false =>
    rw [hk] at HK hv
    have Hv := Lib.hid hv
    clear hk hv
    go_enter Tryz.func42, Tryz.ntmps42
    go_wp2_with fail
    refine HK.out.mono ?_
    rintro e w1 ⟨rfl, hw⟩
    obtain rfl := hw.symm
    go_wp2_with fail
    go_ret
    exact ⟨by rw [Hv.out]; rfl, rfl⟩
  | true =>
    rw [hk] at HK hv
    rw [Bool.true_and] at hv
    clear hk
    by_cases h1 : (k : Int) = a
    · have q1 : ((k : Int) == a) = true := beq_iff_eq.2 h1
      rw [decide_eq_true h1, Bool.true_or] at hv
      have Hv := Lib.hid hv
      clear hv h1
      go_enter Tryz.func42, Tryz.ntmps42
      go_wp2_with fail
      refine HK.out.mono ?_
      rintro e w1 ⟨rfl, hw⟩
      obtain rfl := hw.symm
      go_wp2_with fail
      refine HA.out.mono ?_
      rintro e w1 ⟨rfl, hw⟩
      obtain rfl := hw.symm
      go_wp2_with fail
      go_ret
      exact ⟨by rw [Hv.out]; rfl, rfl⟩
    · have q1 : ((k : Int) == a) = false := bne_int h1
      rw [decide_eq_false h1, Bool.false_or] at hv
      clear h1
      by_cases h2 : n = 19
      · rw [decide_eq_true h2, Bool.true_and] at hv
        have q2 : (n == 19) = true := beq_iff_eq.2 h2
        have Hv := Lib.hid hv
        clear hv h2
        go_enter Tryz.func42, Tryz.ntmps42
        go_wp2_with fail
        refine HK.out.mono ?_
        rintro e w1 ⟨rfl, hw⟩
        obtain rfl := hw.symm
        go_wp2_with fail
        refine HA.out.mono ?_
        rintro e w1 ⟨rfl, hw⟩
        obtain rfl := hw.symm
        go_wp2_with fail
        refine HA.out.mono ?_
        rintro e w1 ⟨rfl, hw⟩
        obtain rfl := hw.symm
        go_wp2_with fail
        go_ret
        exact ⟨by rw [Hv.out]; rfl, rfl⟩
      · rw [decide_eq_false h2, Bool.false_and] at hv
        have q2 : (n == 19) = false := bne_int h2
        have Hv := Lib.hid hv
        clear hv h2
        go_enter Tryz.func42, Tryz.ntmps42
        go_wp2_with fail
        refine HK.out.mono ?_
        rintro e w1 ⟨rfl, hw⟩
        obtain rfl := hw.symm
        go_wp2_with fail
        refine HA.out.mono ?_
        rintro e w1 ⟨rfl, hw⟩
        obtain rfl := hw.symm
        go_wp2_with fail
        go_ret
        exact ⟨by rw [Hv.out]; rfl, rfl⟩
set_option maxRecDepth 100000 in
theorem numbers_any (a b c d e f : Int) (w : World) : Calls Tryz.prog 36 #[.agg #[.int .i64 a, .int .i64 b, .int .i64 c, .int .i64 d, .int .i64 e, .int .i64 f]] w fun en w' => ∃ A, en = .returned (.slice A 6 6) ∧ OS w 3 1 A 6 6 ([a, b, c, d, e, f].map intC) w' := by
  obtain ⟨g, hg⟩ : ∃ g, g = w.heap.size := ⟨_, rfl⟩
  obtain ⟨W1, hW1⟩ : ∃ W, W = w.alloc (.cells #[.int .i64 a, .int .i64 b, .int .i64 c, .int .i64 d, .int .i64 e, .int .i64 f] 23) := ⟨_, rfl⟩
  have hr : W1.heap[g]? = some (.cells #[.int .i64 a, .int .i64 b, .int .i64 c, .int .i64 d, .int .i64 e, .int .i64 f] 23) := by rw [hW1, hg]; exact heap_new _ _
  obtain ⟨c0, -⟩ := cell_at hr 0 rfl
  obtain ⟨c1, -⟩ := cell_at hr 1 rfl
  obtain ⟨c2, -⟩ := cell_at hr 2 rfl
  obtain ⟨c3, -⟩ := cell_at hr 3 rfl
  obtain ⟨c4, -⟩ := cell_at hr 4 rfl
  obtain ⟨c5, -⟩ := cell_at hr 5 rfl
  have hb1 : Below w.heap.size w W1 := by rw [hW1]; exact (Below.refl _ _).alloc (Nat.le_refl _) _
  have HB := Lib.hid hb1
  clear hb1 hr
  go_enter Tryz.func36, Tryz.ntmps36
  go_upto_region 1 with fail
  rw [← hW1, ← hg]
  clear hW1 hg
  go_wp2_with fail
  go_ret
  refine ⟨_, rfl, HB.out.alloc HB.out.size _, ?_⟩
  exact own_new W1 (cs := [a, b, c, d, e, f].map intC) rfl HB.out.size (by unfold maxLen; omega)
theorem heap_drew (w : World) : w.drew.heap = w.heap := rfl
theorem six_set {w : World} {g : Nat} {t : TypeId} {a b c d e f : Value} (h : w.heap[g]? = some (.cells #[a, b, c, d, e, f] t)) (p q r s u v : Value) : ((((((w.setCell ⟨g, 0, none⟩ p).setCell ⟨g, 1, none⟩ q).setCell ⟨g, 2, none⟩ r).setCell ⟨g, 3, none⟩ s).setCell ⟨g, 4, none⟩ u).setCell ⟨g, 5, none⟩ v).heap[g]? = some (.cells #[p, q, r, s, u, v] t) := by
  simp [World.setCell, Array.getElem?_modify, h]
theorem six_below {w W : World} {B g : Nat} (h : Below B w W) (hg : B ≤ g) (p q r s u v : Value) : Below B w ((((((W.setCell ⟨g, 0, none⟩ p).setCell ⟨g, 1, none⟩ q).setCell ⟨g, 2, none⟩ r).setCell ⟨g, 3, none⟩ s).setCell ⟨g, 4, none⟩ u).setCell ⟨g, 5, none⟩ v).drew := ((((((h.setCell hg _).setCell hg _).setCell hg _).setCell hg _).setCell hg _).setCell hg _).drew
theorem info23 : (Tryz.prog.info? 23).map (·.size) = some 6 := by kernel_rfl
theorem res67 (tmps : Array Value) (w : World) (g : Nat) (cs : Array Value) (hs : cs.size = 6) (hp : tmps.getD 2 undef = .pointer (some ⟨g, 0, none⟩)) (hg : w.heap[g]? = some (.cells cs 23)) :
    (results Tryz.f67 tmps).run Tryz.prog w = .ok (.agg cs) w := by
  obtain ⟨a, b, c, d, e, f, rfl⟩ : ∃ a b c d e f, cs = #[a, b, c, d, e, f] := by
    obtain ⟨l⟩ := cs
    match l, hs with
    | [a, b, c, d, e, f], _ => exact ⟨a, b, c, d, e, f, rfl⟩
  exact results_cell_row (p := 2) (ty := 23) rfl tmps w g 23 #[a, b, c, d, e, f] (0, 0) _ hp hg Tryz.underlying23 rfl info23
set_option maxRecDepth 100000 in
set_option maxHeartbeats 1000000 in
theorem config_any (a b c d e f : Int) (A : Option Addr) (cap : Nat) (w : World) (Hs : Hid (Sl w w.heap.size A ([a, b, c, d, e, f].map intC))) : Calls Tryz.prog 67 #[.slice A 6 cap] w fun en w' => en = .returned (.agg #[.int .i64 a, .int .i64 b, .int .i64 c, .int .i64 d, .int .i64 e, .int .i64 f]) ∧ Below w.heap.size w w' := by
  obtain ⟨g, o, hA, hgw, c0⟩ := int_at Hs.out (k := 0) (x := a) rfl
  subst hA
  have hcs : ∀ k x, [a, b, c, d, e, f][k]? = some x → w.cell? ⟨g, o + k, none⟩ = some (.int .i64 x) := fun k x hx => by
    obtain ⟨g', o', hA, -, h⟩ := int_at Hs.out hx
    obtain ⟨rfl, rfl⟩ : g = g' ∧ o = o' := by simpa using hA
    exact h
  obtain ⟨r, hr⟩ : ∃ r, r = w.heap.size := ⟨_, rfl⟩
  obtain ⟨W1, hW1⟩ : ∃ W, W = w.alloc (.cells #[.int .i64 0, .int .i64 0, .int .i64 0, .int .i64 0, .int .i64 0, .int .i64 0] 23) := ⟨_, rfl⟩
  have hb1 : Below w.heap.size w W1 := by rw [hW1]; exact (Below.refl _ _).alloc (Nat.le_refl _) _
  have hr1 : W1.heap[r]? = some (.cells #[.int .i64 0, .int .i64 0, .int .i64 0, .int .i64 0, .int .i64 0, .int .i64 0] 23) := by rw [hW1, hr]; exact heap_new _ _
  have hk : ∀ k x, [a, b, c, d, e, f][k]? = some x → W1.cell? ⟨g, o + k, none⟩ = some (.int .i64 x) := fun k x hx => (hb1.cell (p := ⟨g, o + k, none⟩) hgw).trans (hcs k x hx)
  have d0 := hk 0 a rfl
  have d1 := hk 1 b rfl
  have d2 := hk 2 c rfl
  have d3 := hk 3 d rfl
  have d4 := hk 4 e rfl
  have d5 := hk 5 f rfl
  rw [Nat.add_zero] at d0
  have HB := Lib.hid hb1
  have HR := Lib.hid hr1
  have Hr : Hid (r = w.heap.size) := hr
  obtain ⟨z0, y0⟩ := cell_at hr1 0 rfl
  obtain ⟨z1, y1⟩ := cell_at hr1 1 rfl
  obtain ⟨z2, y2⟩ := cell_at hr1 2 rfl
  obtain ⟨z3, y3⟩ := cell_at hr1 3 rfl
  obtain ⟨z4, y4⟩ := cell_at hr1 4 rfl
  obtain ⟨z5, y5⟩ := cell_at hr1 5 rfl
  clear hk hcs c0 hb1 hr1
  go_enter Tryz.func67, Tryz.ntmps67
  go_upto_region 1 with fail
  rw [← hW1, ← hr]
  clear hW1 hr
  go_region
  obtain ⟨W2, hW2⟩ : ∃ W, W = ((((((W1.setCell ⟨r, 0, none⟩ (.int .i64 a)).setCell ⟨r, 1, none⟩ (.int .i64 b)).setCell ⟨r, 2, none⟩ (.int .i64 c)).setCell ⟨r, 3, none⟩ (.int .i64 d)).setCell ⟨r, 4, none⟩ (.int .i64 e)).setCell ⟨r, 5, none⟩ (.int .i64 f)).drew := ⟨_, rfl⟩
  have HR6 : Hid (W2.heap[r]? = some (.cells #[.int .i64 a, .int .i64 b, .int .i64 c, .int .i64 d, .int .i64 e, .int .i64 f] 23)) := by
    rw [hW2, heap_drew]
    exact six_set HR.out _ _ _ _ _ _
  have HB6 : Hid (Below w.heap.size w W2) := by
    rw [hW2]
    exact six_below HB.out (by rw [Hr.out]; exact Nat.le_refl _) _ _ _ _ _ _
  rw [← hW2]
  clear hW2
  clear z0 z1 z2 z3 z4 z5 y0 y1 y2 y3 y4 y5
  go_wp2_with fail
  refine bodyPost_ret (res67 _ _ _ _ rfl rfl HR6.out) rfl ?_
  exact ⟨rfl, HB6.out⟩
end Go.Proofs.YtdfhbnfhkckkbaaGreatDoor
