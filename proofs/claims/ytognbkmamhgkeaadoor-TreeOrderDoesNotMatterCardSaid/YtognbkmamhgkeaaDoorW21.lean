/-
  The walk of the reference's Range and All: the entries of a range, in a slice of the call's own.
-/
import Derived.Test.YtognbkmamhgkeaaDoorW15
namespace Go.Proofs.YtognbkmamhgkeaaDoor
open Go Go.RowKit Go.Walks

def rangeL (l : List (Int × Int)) (f t : Int) : List (Int × Int) := l.filter fun e => decide (f ≤ e.1) && decide (e.1 < t)

/-- An append to a row of one's own leaves what lies below. -/
theorem own_grown {w0 wr w2 : World} {B n size : Nat} {e : TypeId} {v : Value} {xs : List Value} {o : Obj} (hb : Below B w0 wr) (hB : B ≤ wr.heap.size) (ho : wr.ownsRow B e size v n xs) (hg : (wr.alloc o).grownBy w2 v.ownBlock) : Below B w0 w2 := by
  refine (hb.alloc hB o).grown hg (by simp; omega) (fun k e => ?_)
  rcases ho.2 with ⟨rfl, _⟩ | ⟨g', cap, cur, rfl, hle, _⟩
  · simp [Value.ownBlock] at e
  · have : g' = k := by simpa [Value.ownBlock] using e
    subst this; exact hle

theorem rangeL_snoc {l : List (Int × Int)} {k : Nat} {x : Int × Int} (hx : l[k]? = some x) (f t : Int) :
    rangeL (l.take (k + 1)) f t = rangeL (l.take k) f t ++ (if decide (f ≤ x.1) && decide (x.1 < t) then [x] else []) := by
  obtain ⟨hlt, he⟩ := List.getElem?_eq_some_iff.1 hx
  unfold rangeL
  rw [List.take_succ_eq_append_getElem hlt, List.filter_append, he, List.filter_cons, List.filter_nil]
theorem rangeL_len (l : List (Int × Int)) (f t : Int) : (rangeL l f t).length ≤ l.length := List.length_filter_le _ _

def LPost (w : World) (l' : List (Int × Int)) (e : Ending) (w' : World) : Prop := ∃ v, e = .returned v ∧ w'.ownsRow w.heap.size 59 2 v l'.length (entCells l') ∧ Below w.heap.size w w'

theorem own_less {w : World} {B B' n size : Nat} {e : TypeId} {v : Value} {xs : List Value} (h : w.ownsRow B e size v n xs) (hB : B' ≤ B) : w.ownsRow B' e size v n xs := by
  refine ⟨h.1, ?_⟩
  rcases h.2 with h2 | ⟨g, cap, cur, e1, hle, rest⟩
  · exact .inl h2
  · exact .inr ⟨g, cap, cur, e1, Nat.le_trans hB hle, rest⟩

set_option maxHeartbeats 1000000 in
theorem rrange_any (l : List (Int × Int)) (A : Option Addr) (c : Nat) (f t : Int) (w : World) (hl : l.length ≤ 1000) (Hsl : Hid (Sl w w.heap.size A (entCells l))) :
    Calls Tryd.prog 26 #[.agg #[.slice A l.length c], .int .i64 f, .int .i64 t] w (LPost w (rangeL l f t)) := by
  go_enter Tryd.func26, Tryd.ntmps26
  go_wp2_with fail
  go_loopw [7, 8] (fun v ix wr => ∃ k : Nat, k ≤ l.length ∧ ix = .int .i64 k ∧ Hid (Below (w.heap.size + 1) (w.alloc (.cells #[.slice A l.length c] 35)) wr) ∧ Hid (wr.ownsRow (w.heap.size + 1) 59 2 v (rangeL (l.take k) f t).length (entCells (rangeL (l.take k) f t)))) (fun _ ix _ => l.length - (intOf ix).toNat)
  case atStart => exact ⟨0, by omega, rfl, Below.refl _ _, World.ownsRow_nil _ _ _ _⟩
  case round =>
    obtain ⟨k, hk, rfl, HB, HO⟩ := hrel
    have hBs : w.heap.size + 1 ≤ wr.heap.size := by have := HB.out.size; simpa using this
    have r0 : wr.heap[w.heap.size]? = some (.cells #[.slice A l.length c] 35) := (HB.out.block _ (by omega)).trans (heap_alloc_new _ _)
    obtain ⟨c00, _⟩ := one_cell r0
    clear r0
    have HBw : Hid (Below w.heap.size w wr) := ((Below.refl _ _).alloc (Nat.le_refl _) _).trans (HB.out.mono (by omega))
    by_cases hlt : k < l.length
    · obtain ⟨g, o, rfl, hg, hc⟩ := Hsl.out.at_ (k := k * 2) (by rw [entCells_len]; omega)
      obtain ⟨x, hx⟩ : ∃ x, l[k]? = some x := ⟨_, List.getElem?_eq_getElem hlt⟩
      have hc0 : wr.cell? ⟨g, o + k * 2, none⟩ = some (.int .i64 x.1) := by rw [HBw.out.cell hg]; exact hc _ _ (entCells_at l k x hx).1
      have hc1 : wr.cell? ⟨g, o + k * 2 + 1, none⟩ = some (.int .i64 x.2) := by rw [HBw.out.cell hg]; exact hc _ _ (entCells_at l k x hx).2
      have hrl : (rangeL (l.take k) f t).length ≤ 1000 := by
        have := rangeL_len (l.take k) f t
        have h2 := List.length_take_le k l
        omega
      have Hsn := Lib.hid (rangeL_snoc hx f t)
      clear hc hx
      have hI1 : (0 : Int) ≤ (k : Int) := by omega
      have hI2 : (k : Int) < (l.length : Int) := by omega
      by_cases e1 : f ≤ x.1 <;> by_cases e2 : x.1 < t
      · go_wp2_with (at_builtin; refine wpList_append_sl rfl _ _ 33 rfl rfl rfl so33 (HO.out.alloc _) (m := 1) (news := [.int .i64 x.1, .int .i64 x.2]) rfl (Sl.new _ _ _) (fun u hu => by simp at hu; rcases hu with rfl | rfl <;> rfl) (by unfold maxLen; omega) (by omega) (by simp; omega) ?_; intro A2 c2 w2 ho2 hg2; have HO2 := Lib.hid ho2; have HB2 := Lib.hid (own_grown HB.out hBs HO.out hg2); clear ho2 hg2)
        refine ⟨⟨k + 1, by omega, by go_num, HB2, ?_⟩, by simp [intOf]; omega⟩
        have e : rangeL (l.take (k + 1)) f t = rangeL (l.take k) f t ++ [x] := by rw [Hsn.out, if_pos (by simp [e1, e2])]
        show World.ownsRow _ _ _ _ _ _ _
        rw [e, entCells_append, List.length_append]
        exact HO2.out
      all_goals
        go_wp2_with fail
        refine ⟨⟨k + 1, by omega, by go_num, HB, ?_⟩, by simp [intOf]; omega⟩
        have e : rangeL (l.take (k + 1)) f t = rangeL (l.take k) f t := by rw [Hsn.out, if_neg (by simp; omega), List.append_nil]
        show World.ownsRow _ _ _ _ _ _ _
        rw [e]
        exact HO.out
    · go_wp2_with fail
      go_ret
      have hk' : l.take k = l := List.take_of_length_le (by omega)
      have ho := HO.out
      rw [hk'] at ho
      exact ⟨_, rfl, own_less ho (by omega), HBw.out⟩

set_option maxHeartbeats 400000 in
theorem rall_any (l : List (Int × Int)) (A : Option Addr) (c : Nat) (w : World) (hl : l.length ≤ 1000) (Hsl : Hid (Sl w w.heap.size A (entCells l))) :
    Calls Tryd.prog 25 #[.agg #[.slice A l.length c]] w (LPost w (rangeL l 0 4096)) := by
  have hb : Below w.heap.size w (w.alloc (.cells #[.slice A l.length c] 35)) := (Below.refl _ _).alloc (Nat.le_refl _) _
  have Hb := Lib.hid hb
  clear hb
  go_enter Tryd.func25, Tryd.ntmps25
  go_wp2_with (go_at_call 26; refine (rrange_any l A c 0 4096 _ hl ((Hsl.out.below Hb.out).more Hb.out.size)).mono ?_; rintro e w1 ⟨v, rfl, ho, hb1⟩; have HO := Lib.hid ho; have HB := Lib.hid hb1; clear ho hb1)
  go_ret
  exact ⟨_, rfl, own_less HO.out (by simp), Hb.out.trans (HB.out.mono Hb.out.size)⟩

set_option maxHeartbeats 400000 in
theorem rlen_any (l : List (Int × Int)) (A : Option Addr) (c : Nat) (w : World) :
    Calls Tryd.prog 28 #[.agg #[.slice A l.length c]] w (fun e w' => e = .returned (.int .i64 l.length) ∧ Below w.heap.size w w') := by
  go_enter Tryd.func28, Tryd.ntmps28
  go_wp2_with fail
  go_ret
  exact ⟨rfl, (Below.refl _ _).alloc (Nat.le_refl _) _⟩
end Go.Proofs.YtognbkmamhgkeaaDoor
