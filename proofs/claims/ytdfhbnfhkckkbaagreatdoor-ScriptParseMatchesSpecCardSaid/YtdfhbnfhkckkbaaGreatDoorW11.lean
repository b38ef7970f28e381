/-
  The walk of Unit.
-/
import Derived.Test.YtdfhbnfhkckkbaaGreatDoorW4
namespace Go.Proofs.YtdfhbnfhkckkbaaGreatDoor
open Go Go.RowKit Go.Walks

def StrR (s : Bytes) (w : World) (e : Ending) (w' : World) : Prop := e = .returned (strV s) ∧ Below w.heap.size w w'
/-- Eight bytes of which the first i are filled in. -/
def eightB (l : Bytes) (i : Nat) : Bytes := l.take i ++ List.replicate (8 - i) 0
theorem eight_set {l : Bytes} {i : Nat} (hl : l.length = 8) {x : UInt8} (hx : l[i]? = some x) : (Lib.byteCells (eightB l i)).toArray.setIfInBounds i (.int .u8 (x.toNat : Int)) = (Lib.byteCells (eightB l (i + 1))).toArray := by
  have hi : i < 8 := by rw [← hl]; exact (List.getElem?_eq_some_iff.1 hx).1
  have e1 : eightB l i = l.take i ++ 0 :: List.replicate (8 - (i + 1)) 0 := by
    unfold eightB
    rw [show 8 - i = (8 - (i + 1)) + 1 by omega, List.replicate_succ]
  have e2 : eightB l (i + 1) = l.take i ++ x :: List.replicate (8 - (i + 1)) 0 := by
    unfold eightB
    rw [List.take_add_one, hx]
    simp
  have hlen : (Lib.byteCells (l.take i)).length = i := by rw [byteCells_length, List.length_take]; omega
  rw [e1, e2, byteCells_append, byteCells_append]
  apply Array.ext'
  rw [Array.toList_setIfInBounds]
  show (Lib.byteCells (l.take i) ++ (.int .u8 ((0 : UInt8).toNat : Int)) :: Lib.byteCells _).set i _ = Lib.byteCells (l.take i) ++ (.int .u8 (x.toNat : Int)) :: Lib.byteCells _
  rw [List.set_append_right _ _ (by omega), hlen, Nat.sub_self, List.set_cons_zero]

theorem eight_zero {l : Bytes} {i : Nat} (hl : l.length = 8) (hi : i < 8) : (Lib.byteCells (eightB l i)).toArray[i]? = some (.int .u8 0) := by
  have hlen : (Lib.byteCells (l.take i)).length = i := by rw [byteCells_length, List.length_take]; omega
  unfold eightB
  rw [show 8 - i = (8 - (i + 1)) + 1 by omega, List.replicate_succ, byteCells_append, List.getElem?_toArray, List.getElem?_append_right (by omega), hlen, Nat.sub_self]
  rfl
theorem eight_all {l : Bytes} (hl : l.length = 8) : eightB l 8 = l := by
  unfold eightB
  rw [List.take_of_length_le (by omega)]
  simp
set_option maxRecDepth 100000 in
set_option maxHeartbeats 400000 in
theorem unit_any (k : Int) (w : World) (Hk : Hid (I64 k)) : Calls Tryz.prog 26 #[.int .i64 k] w (StrR (unitB k) w) := by
  have hk1 := Hk.out.1
  have hk2 := Hk.out.2
  obtain ⟨m, hm⟩ : ∃ m, m = (k % 18446744073709551616).toNat := ⟨_, rfl⟩
  have hw : IntKind.u64.wrap k = (m : Int) := by rw [IntKind.wrap_u64, hm]; omega
  have hm64 : m < 18446744073709551616 := by omega
  obtain ⟨l, hl⟩ : ∃ l, l = bigB m 8 := ⟨_, rfl⟩
  have Hl8 : Hid (l.length = 8) := by show _ = _; rw [hl, bigB_length]
  have Hget : Hid (∀ i, i < 8 → l[i]? = some (UInt8.ofNat (m / 256 ^ (7 - i)))) := fun i hi => by rw [hl, bigB_get m 8 i hi]
  have Hout : Hid (unitB k = l ++ (l ++ (l ++ (l ++ [])))) := by show _ = _; unfold unitB; rw [hl, hm]; rfl
  obtain ⟨g, hg⟩ : ∃ g, g = w.heap.size := ⟨_, rfl⟩
  obtain ⟨W1, hW1⟩ : ∃ W, W = w.alloc (.cells #[.int .u8 0, .int .u8 0, .int .u8 0, .int .u8 0, .int .u8 0, .int .u8 0, .int .u8 0, .int .u8 0] 91) := ⟨_, rfl⟩
  have HB1 : Hid (Below w.heap.size w W1) := by rw [hW1]; exact (Below.refl _ _).alloc (Nat.le_refl _) _
  have HR1 : Hid (W1.heap[g]? = some (.cells (Lib.byteCells (eightB l 0)).toArray 91)) := by rw [hW1, hg]; exact heap_new _ _
  have hgw : w.heap.size ≤ g := by omega
  clear hm hl Hk
  go_enter Tryz.func26, Tryz.ntmps26
  go_upto_region 2 with fail
  rw [← hg, ← hW1]
  clear hg hW1
  go_wp2_with fail
  go_loopg [5] 8 (fun gh s5 wr => ∃ i : Nat, s5 = .int .i64 (i : Int) ∧ gh = 8 - i ∧ i ≤ 8 ∧ Hid (Below w.heap.size w wr) ∧ Hid (wr.heap[g]? = some (.cells (Lib.byteCells (eightB l i)).toArray 91)))
  case atStart => exact ⟨0, rfl, rfl, Nat.zero_le _, HB1, HR1⟩
  case round =>
    obtain ⟨i, rfl, hgh, hi, HB, HR⟩ := hrel
    by_cases hlt : i < 8
    · have hI1 : (0 : Int) ≤ (i : Int) := by omega
      have hI2 : (i : Int) < 8 := by omega
      have hx := Hget.out i hlt
      have hset := eight_set Hl8.out hx
      obtain ⟨j, hj⟩ : ∃ j, j = 7 - i := ⟨_, rfl⟩
      rw [← hj] at hx hset
      obtain ⟨y, hy⟩ : ∃ y, y = ((UInt8.ofNat (m / 256 ^ j)).toNat : Int) := ⟨_, rfl⟩
      have hbyte : (m : Int) / 2 ^ (8 * j) % 256 = y := by
        rw [hy, pow_256', UInt8.toNat_ofNat']
      have hsub : (56 : Int) - 8 * (i : Int) = ((8 * j : Nat) : Int) := by omega
      have hsub2 : (56 : Int) - 8 * (i : Int) = 8 * (j : Int) := by omega
      obtain ⟨c0, f0⟩ := cell_at HR.out i (eight_zero Hl8.out hlt)
      have HR2 : Hid ((wr.setCell ⟨g, i, none⟩ (.int .u8 y)).heap[g]? = some (.cells (Lib.byteCells (eightB l (i + 1))).toArray 91)) := by
        rw [hy, ← hset]
        exact set_at HR.out i _
      have HB2 : Hid (Below w.heap.size w (wr.setCell ⟨g, i, none⟩ (.int .u8 y))) := HB.out.setCell (p := ⟨g, i, none⟩) hgw _
      clear hj hy hx hset
      go_wp2_with fail
      go_roundg (8 - (i + 1))
      case measure => omega
      case rel => exact ⟨i + 1, by go_num, rfl, by omega, HB2, HR2⟩
    · obtain rfl : i = 8 := by omega
      have hsl : Sl wr wr.heap.size (some ⟨g, 0, none⟩) (Lib.byteCells l) := by
        refine .inr ⟨g, 0, rfl, (Array.getElem?_eq_some_iff.1 HR.out).1, fun j u hu => ?_⟩
        have := (cell_at HR.out j (u := u) (by rw [eight_all Hl8.out]; simpa using hu)).1
        rw [Nat.zero_add]
        exact this
      have hconv : ∀ c', (convert 38 9 (.slice (some ⟨g, 0, none⟩) 8 c')).run Tryz.prog wr = .ok (.string ⟨l.toArray⟩) wr := fun c' => by
        have := conv_bytes (c := c') hsl
        rw [Hl8.out] at this
        exact this
      have hrep := Tryz.strings_Repeat ⟨l.toArray⟩ 4 wr (by omega) (by rw [strBytes_size, Hl8.out]; omega)
      have Hrep := Lib.hid hrep
      clear hrep hsl
      go_wp2_with fail
      refine Hrep.out.mono ?_
      rintro e w2 ⟨rfl, hb2⟩
      have HB2 : Hid (Below w.heap.size w w2) := HB.out.trans (hb2.mono HB.out.size)
      clear hb2
      go_wp2_with fail
      go_ret
      exact ⟨by rw [Hout.out]; rfl, HB2.out⟩
end Go.Proofs.YtdfhbnfhkckkbaaGreatDoor
