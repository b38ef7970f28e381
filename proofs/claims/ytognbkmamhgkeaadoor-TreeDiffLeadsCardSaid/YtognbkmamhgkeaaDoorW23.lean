/-
  The walks of the reference's Equal, Path and Same.
-/
import Derived.Test.YtognbkmamhgkeaaDoorW22
namespace Go.Proofs.YtognbkmamhgkeaaDoor
open Go Go.RowKit Go.Walks

set_option maxHeartbeats 400000 in
theorem requal_any (l1 l2 : List (Int × Int)) (A1 A2 : Option Addr) (c1 c2 : Nat) (w : World) (hl1 : l1.length ≤ 1000) (hl2 : l2.length ≤ 1000) (Hs1 : Hid (Sl w w.heap.size A1 (entCells l1))) (Hs2 : Hid (Sl w w.heap.size A2 (entCells l2))) :
    Calls Tryd.prog 17 #[.agg #[.slice A1 l1.length c1], .agg #[.slice A2 l2.length c2]] w (fun e w' => e = .returned (.bool (diffL l1 l2).isEmpty) ∧ Below w.heap.size w w') := by
  have hb0 : Below w.heap.size w ((w.alloc (.cells #[.slice A1 l1.length c1] 35)).alloc (.cells #[.slice A2 l2.length c2] 35)) := ((Below.refl _ _).alloc (Nat.le_refl _) _).alloc (by simp) _
  have Hb0 := Lib.hid hb0
  clear hb0
  go_enter Tryd.func17, Tryd.ntmps17
  go_wp2_with (go_at_call 21; refine (rdiff_any l1 l2 A1 A2 c1 c2 _ hl1 hl2 ((Hs1.out.below Hb0.out).more Hb0.out.size) ((Hs2.out.below Hb0.out).more Hb0.out.size)).mono ?_; rintro e w1 ⟨v, rfl, ho, hb⟩; obtain ⟨A, c, rfl, _, _, _⟩ := Sl.of_own ho; have HB := Lib.hid hb; clear ho hb)
  go_ret
  refine ⟨?_, Hb0.out.trans (HB.out.mono Hb0.out.size)⟩
  have e : (diffL l1 l2).isEmpty = (((diffL l1 l2).length : Int) == 0) := by
    cases diffL l1 l2 with
    | nil => rfl
    | cons x l => simp; omega
  rw [e]; rfl

def in1 (l : List (Int × Int)) (b d : Int) : Nat := if 0 < (rangeL l (b / d * d) (b / d * d + d)).length then 1 else 0
def pathL (l : List (Int × Int)) (b : Int) : Nat := if l.length = 0 then 0 else 1 + in1 l b 256 + in1 l b 16

set_option maxHeartbeats 1000000 in
theorem path_any (l : List (Int × Int)) (A : Option Addr) (c : Nat) (b : Int) (w : World) (hl : l.length ≤ 1000) (h0 : 0 ≤ b) (h1 : b ≤ 4095) (Hsl : Hid (Sl w w.heap.size A (entCells l))) :
    Calls Tryd.prog 18 #[.agg #[.slice A l.length c], .int .i64 b] w (fun e w' => e = .returned (.int .i64 (pathL l b : Nat)) ∧ Below w.heap.size w w') := by
  have hb0 : Below w.heap.size w (w.alloc (.cells #[.slice A l.length c] 35)) := (Below.refl _ _).alloc (Nat.le_refl _) _
  have Hb0 := Lib.hid hb0
  clear hb0
  by_cases hz : l.length = 0
  · have Hz := Lib.hid hz
    have hp : pathL l b = 0 := by unfold pathL; rw [if_pos hz]
    have Hp := Lib.hid hp
    clear hp
    go_enter Tryd.func18, Tryd.ntmps18
    rw [hz]
    clear hz
    go_wp2_with fail
    go_ret
    exact ⟨by rw [Hp.out]; rfl, by rw [Hz.out] at Hb0; exact Hb0.out⟩
  · have hz' : ((l.length : Int) == 0) = false := by simp; intro h; exact hz (by rw [h]; rfl)
    have hp : pathL l b = 1 + in1 l b 256 + in1 l b 16 := by unfold pathL; rw [if_neg hz]
    have Hp := Lib.hid hp
    have r256 := rangeL_len l (b / 256 * 256) (b / 256 * 256 + 256)
    have r16 := rangeL_len l (b / 16 * 16) (b / 16 * 16 + 16)
    clear hp hz
    by_cases g1 : 0 < (rangeL l (b / 256 * 256) (b / 256 * 256 + 256)).length <;> by_cases g2 : 0 < (rangeL l (b / 16 * 16) (b / 16 * 16 + 16)).length
    all_goals
      have hq : pathL l b = 1 + (if 0 < (rangeL l (b / 256 * 256) (b / 256 * 256 + 256)).length then 1 else 0) + (if 0 < (rangeL l (b / 16 * 16) (b / 16 * 16 + 16)).length then 1 else 0) := Hp.out
      simp only [g1, g2, if_true, if_false] at hq
      have Hq := Lib.hid hq
      clear hq
      go_enter Tryd.func18, Tryd.ntmps18
      go_wp2_with fail
      refine (rrange_any l A c (b / 256 * 256) (b / 256 * 256 + 256) _ hl ((Hsl.out.below Hb0.out).more Hb0.out.size)).mono ?_
      rintro e w1 ⟨v, rfl, ho, hb⟩
      obtain ⟨A1, c1, rfl, _, _, _⟩ := Sl.of_own ho
      have HB := Lib.hid (Hb0.out.trans (hb.mono Hb0.out.size))
      have r0 : w1.heap[w.heap.size]? = some (.cells #[.slice A l.length c] 35) := (hb.block _ (by simp)).trans (heap_alloc_new _ _)
      have R0 := Lib.hid r0
      obtain ⟨c00, _⟩ := one_cell r0
      clear ho hb r0
      go_wp2_with fail
      refine (rrange_any l A c (b / 16 * 16) (b / 16 * 16 + 16) _ hl ((Hsl.out.below HB.out).more HB.out.size)).mono ?_
      rintro e w2 ⟨v, rfl, ho, hb⟩
      obtain ⟨A2, c2, rfl, _, _, _⟩ := Sl.of_own ho
      have HB2 := Lib.hid (HB.out.trans (hb.mono HB.out.size))
      clear ho hb
      go_wp2_with fail
      go_ret
      exact ⟨by rw [Hq.out]; rfl, HB2.out⟩

theorem take_next {α : Type} {l : List α} {k : Nat} {x : α} (h : l[k]? = some x) : l.take (k + 1) = l.take k ++ [x] := by
  obtain ⟨hlt, e⟩ := List.getElem?_eq_some_iff.1 h
  rw [List.take_succ_eq_append_getElem hlt, e]

theorem intCells_at {xs : List Int} {k : Nat} {x : Int} (h : xs[k]? = some x) : (intCells xs)[k]? = some (.int .i64 x) := by simp [intCells, h]
theorem intCells_len (xs : List Int) : (intCells xs).length = xs.length := by simp [intCells]

def SameP (w : World) (xs ys : List Int) (e : Ending) (w' : World) : Prop := e = .returned (.bool (decide (xs = ys))) ∧ Below w.heap.size w w'

set_option maxHeartbeats 1000000 in
theorem same_any (xs ys : List Int) (A1 A2 : Option Addr) (c1 c2 : Nat) (w : World) (hl1 : xs.length ≤ 10000) (hl2 : ys.length ≤ 10000) (Hs1 : Hid (Sl w w.heap.size A1 (intCells xs))) (Hs2 : Hid (Sl w w.heap.size A2 (intCells ys))) :
    Calls Tryd.prog 19 #[.slice A1 xs.length c1, .slice A2 ys.length c2] w (SameP w xs ys) := by
  by_cases hne : xs.length = ys.length
  · have Hne := Lib.hid hne
    have hb : ((xs.length : Int) != (ys.length : Int)) = false := by simp [hne]
    have hb' : (xs.length != ys.length) = false := by simp [hne]
    clear hne
    go_enter Tryd.func19, Tryd.ntmps19
    go_wp2_with fail
    go_loopw [5] (fun ix wr => ∃ k : Nat, k ≤ xs.length ∧ ix = .int .i64 k ∧ Hid (Below w.heap.size w wr) ∧ Hid (xs.take k = ys.take k)) (fun ix _ => xs.length - (intOf ix).toNat)
    case atStart => exact ⟨0, by omega, rfl, Below.refl _ _, rfl⟩
    case round =>
      obtain ⟨k, hk, rfl, HB, HT⟩ := hrel
      by_cases hlt : k < xs.length
      · have hlt2 : k < ys.length := by have := Hne.out; omega
        obtain ⟨g1, o1, rfl, hg1, hc1⟩ := Hs1.out.at_ (k := k) (by rw [intCells_len]; omega)
        obtain ⟨g2, o2, rfl, hg2, hc2⟩ := Hs2.out.at_ (k := k) (by rw [intCells_len]; omega)
        obtain ⟨x, hx⟩ : ∃ x, xs[k]? = some x := ⟨_, List.getElem?_eq_getElem hlt⟩
        obtain ⟨y, hy⟩ : ∃ y, ys[k]? = some y := ⟨_, List.getElem?_eq_getElem hlt2⟩
        have d1 : wr.cell? ⟨g1, o1 + k, none⟩ = some (.int .i64 x) := by rw [HB.out.cell hg1]; exact hc1 _ _ (intCells_at hx)
        have d2 : wr.cell? ⟨g2, o2 + k, none⟩ = some (.int .i64 y) := by rw [HB.out.cell hg2]; exact hc2 _ _ (intCells_at hy)
        have Hx := Lib.hid hx
        have Hy := Lib.hid hy
        have hI0 : (0 : Int) ≤ (k : Int) := by omega
        have hI1 : (k : Int) < (xs.length : Int) := by omega
        have hI2 : (k : Int) < (ys.length : Int) := by omega
        clear hx hy hc1 hc2
        by_cases e : x = y
        · have e' : (x != y) = false := by simp [e]
          have He := Lib.hid e
          clear e
          go_wp2_with fail
          go_quiet (fail)
          go_wp2_with fail
          refine ⟨⟨k + 1, by omega, by go_num, below_drewN HB.out _, ?_⟩, by simp [intOf]; omega⟩
          show xs.take (k + 1) = ys.take (k + 1)
          rw [take_next Hx.out, take_next Hy.out, HT.out, He.out]
        · have e' : (x != y) = true := by simp [e]
          have hd : decide (xs = ys) = false := by
            rw [decide_eq_false_iff_not]
            rintro rfl
            have := Hx.out.symm.trans Hy.out
            injection this with this; exact e this
          have Hd := Lib.hid hd
          clear e hd
          go_wp2_with fail
          go_quiet (fail)
          go_wp2_with fail
          go_ret
          exact ⟨by rw [Hd.out]; rfl, below_drewN HB.out _⟩
      · go_wp2_with fail
        go_ret
        have hd : decide (xs = ys) = true := by
          rw [decide_eq_true_iff]
          have := HT.out
          have h2 := Hne.out
          rwa [List.take_of_length_le (by omega), List.take_of_length_le (by omega)] at this
        exact ⟨by rw [hd]; rfl, HB.out⟩
  · have hb : ((xs.length : Int) != (ys.length : Int)) = true := by simp; omega
    have hb' : (xs.length != ys.length) = true := by simp [hne]
    have hd : decide (xs = ys) = false := by
      rw [decide_eq_false_iff_not]
      rintro rfl
      exact hne rfl
    have Hd := Lib.hid hd
    clear hd hne
    go_enter Tryd.func19, Tryd.ntmps19
    go_wp2_with fail
    go_ret
    exact ⟨by rw [Hd.out]; rfl, Below.refl _ _⟩
end Go.Proofs.YtognbkmamhgkeaaDoor
