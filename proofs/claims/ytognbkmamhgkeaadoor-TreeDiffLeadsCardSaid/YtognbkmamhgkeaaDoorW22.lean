/-
  The walk of the reference's Diff and Equal: the merge of two lists of entries.
-/
import Derived.Test.YtognbkmamhgkeaaDoorW21
import Derived.Test.YtognbkmamhgkeaaDoorMr

namespace Go.Proofs.YtognbkmamhgkeaaDoor
open Go Go.RowKit Go.Walks

theorem so46 : SliceOf Tryd.prog 46 3 1 8 := SliceOf.mk (z := .int .i64 0) Tryd.underlying46 (by omega) (by kernel_rfl) rfl
def intCells (xs : List Int) : List Value := xs.map fun x => Value.int .i64 x
def IPost (w : World) (xs : List Int) (e : Ending) (w' : World) : Prop := ∃ v, e = .returned v ∧ w'.ownsRow w.heap.size 3 1 v xs.length (intCells xs) ∧ Below w.heap.size w w'
theorem own_drewN {w : World} {B n size : Nat} {e : TypeId} {v : Value} {xs : List Value} (h : w.ownsRow B e size v n xs) (k : Nat) : (w.drewN k).ownsRow B e size v n xs := h
theorem intCells_snoc (xs : List Int) (x : Int) : intCells (xs ++ [x]) = intCells xs ++ [.int .i64 x] := by simp [intCells]

set_option maxRecDepth 100000 in
set_option maxHeartbeats 4000000 in
theorem rdiff_any (l1 l2 : List (Int × Int)) (A1 A2 : Option Addr) (c1 c2 : Nat) (w : World) (hl1 : l1.length ≤ 1000) (hl2 : l2.length ≤ 1000) (Hs1 : Hid (Sl w w.heap.size A1 (entCells l1))) (Hs2 : Hid (Sl w w.heap.size A2 (entCells l2))) :
    Calls Tryd.prog 21 #[.agg #[.slice A1 l1.length c1], .agg #[.slice A2 l2.length c2]] w (IPost w (diffL l1 l2)) := by
  have hW0 : Below w.heap.size w ((w.alloc (.cells #[.slice A1 l1.length c1] 35)).alloc (.cells #[.slice A2 l2.length c2] 35)) := ((Below.refl _ _).alloc (Nat.le_refl _) _).alloc (by simp) _
  have HW0 := Lib.hid hW0
  clear hW0
  go_enter Tryd.func21, Tryd.ntmps21
  go_wp2_with fail
  go_loopw [5, 6, 7] (fun v ix kx wr => ∃ (i k : Nat) (pre : List Int), i ≤ l1.length ∧ k ≤ l2.length ∧ ix = .int .i64 i ∧ kx = .int .i64 k ∧ pre.length ≤ i + k ∧ Hid (Below (w.heap.size + 2) ((w.alloc (.cells #[.slice A1 l1.length c1] 35)).alloc (.cells #[.slice A2 l2.length c2] 35)) wr) ∧ Hid (wr.ownsRow (w.heap.size + 2) 3 1 v pre.length (intCells pre)) ∧ Hid (pre ++ diffL (l1.drop i) (l2.drop k) = diffL l1 l2)) (fun _ ix kx _ => (l1.length - (intOf ix).toNat) + (l2.length - (intOf kx).toNat))
  case atStart => exact ⟨0, 0, [], by omega, by omega, rfl, rfl, by simp, Below.refl _ _, World.ownsRow_nil _ _ _ _, rfl⟩
  case round =>
    obtain ⟨i, k, pre, hi, hk, rfl, rfl, hpre, HB, HO, HD⟩ := hrel
    have hBs : w.heap.size + 2 ≤ wr.heap.size := by have := HB.out.size; simpa using this
    have r0 : wr.heap[w.heap.size]? = some (.cells #[.slice A1 l1.length c1] 35) := (HB.out.block _ (by omega)).trans (heap_alloc2_old _ _ _)
    have r1 : wr.heap[w.heap.size + 1]? = some (.cells #[.slice A2 l2.length c2] 35) := (HB.out.block _ (by omega)).trans (heap_alloc2_new _ _ _)
    obtain ⟨c00, _⟩ := one_cell r0
    obtain ⟨c10, _⟩ := one_cell r1
    clear r0 r1
    have HBw : Hid (Below w.heap.size w wr) := HW0.out.trans (HB.out.mono (by omega))
    have hI1 : (0 : Int) ≤ (i : Int) := by omega
    have hK1 : (0 : Int) ≤ (k : Int) := by omega
    by_cases hlt1 : i < l1.length
    · obtain ⟨g1, o1, rfl, hg1, hc1⟩ := Hs1.out.at_ (k := i * 2) (by rw [entCells_len]; omega)
      obtain ⟨x, hx⟩ : ∃ x, l1[i]? = some x := ⟨_, List.getElem?_eq_getElem hlt1⟩
      have hx0 : wr.cell? ⟨g1, o1 + i * 2, none⟩ = some (.int .i64 x.1) := by rw [HBw.out.cell hg1]; exact hc1 _ _ (entCells_at l1 i x hx).1
      have hx1 : wr.cell? ⟨g1, o1 + i * 2 + 1, none⟩ = some (.int .i64 x.2) := by rw [HBw.out.cell hg1]; exact hc1 _ _ (entCells_at l1 i x hx).2
      have hI2 : (i : Int) < (l1.length : Int) := by omega
      have Hx := Lib.hid hx
      clear hc1 hx
      have ti1 : decide ((i : Int) < (l1.length : Int)) = true := by simp; omega
      have ti1' : decide (i < l1.length) = true := by simp; omega
      have ti2 : ((i : Int) == (l1.length : Int)) = false := by simp; omega
      have ti2' : (i == l1.length) = false := by simp; omega
      by_cases hlt2 : k < l2.length
      · obtain ⟨g2, o2, rfl, hg2, hc2⟩ := Hs2.out.at_ (k := k * 2) (by rw [entCells_len]; omega)
        obtain ⟨y, hy⟩ : ∃ y, l2[k]? = some y := ⟨_, List.getElem?_eq_getElem hlt2⟩
        have hy0 : wr.cell? ⟨g2, o2 + k * 2, none⟩ = some (.int .i64 y.1) := by rw [HBw.out.cell hg2]; exact hc2 _ _ (entCells_at l2 k y hy).1
        have hy1 : wr.cell? ⟨g2, o2 + k * 2 + 1, none⟩ = some (.int .i64 y.2) := by rw [HBw.out.cell hg2]; exact hc2 _ _ (entCells_at l2 k y hy).2
        have hK2 : (k : Int) < (l2.length : Int) := by omega
        have Hy := Lib.hid hy
        clear hc2 hy
        have tk1 : decide ((k : Int) < (l2.length : Int)) = true := by simp; omega
        have tk1' : decide (k < l2.length) = true := by simp; omega
        have tk2 : ((k : Int) == (l2.length : Int)) = false := by simp; omega
        have tk2' : (k == l2.length) = false := by simp; omega
        by_cases h1 : x.1 < y.1
        · have b1 : decide (x.1 < y.1) = true := by simp [h1]
          have Hd := Lib.hid (diffL_lt Hx.out Hy.out h1)
          go_wp2_with fail
          go_quiet (fail)
          go_wp2_with (at_builtin; refine wpList_append_sl rfl _ _ 46 rfl rfl rfl so46 ((own_drewN HO.out _).alloc _) (m := 1) (news := [.int .i64 x.1]) rfl (Sl.new _ _ _) (fun u hu => by simp at hu; subst hu; rfl) (by unfold maxLen; omega) (by omega) (by simp; omega) ?_; intro A3 c3 w2 ho2 hg2; have HO2 := Lib.hid ho2; have HB2 := Lib.hid (own_grown (below_drewN HB.out _) hBs (own_drewN HO.out _) hg2); clear ho2 hg2)
          refine ⟨⟨i + 1, k, pre ++ [x.1], by omega, by omega, by go_num, by go_num, by simp; omega, HB2, ?_, ?_⟩, by simp [intOf]; omega⟩
          · show World.ownsRow _ _ _ _ _ _ _
            rw [intCells_snoc, List.length_append]
            exact HO2.out
          · show pre ++ [_] ++ _ = _
            rw [← HD.out, Hd.out, List.append_assoc]
            rfl
        · by_cases h2 : y.1 < x.1
          · have b1 : decide (x.1 < y.1) = false := by simp; omega
            have b2 : decide (y.1 < x.1) = true := by simp [h2]
            have Hd := Lib.hid (diffL_gt Hx.out Hy.out h2)
            go_wp2_with fail
            go_quiet (fail)
            go_wp2_with fail
            go_quiet (fail)
            go_wp2_with (at_builtin; refine wpList_append_sl rfl _ _ 46 rfl rfl rfl so46 ((own_drewN HO.out _).alloc _) (m := 1) (news := [.int .i64 y.1]) rfl (Sl.new _ _ _) (fun u hu => by simp at hu; subst hu; rfl) (by unfold maxLen; omega) (by omega) (by simp; omega) ?_; intro A3 c3 w2 ho2 hg2; have HO2 := Lib.hid ho2; have HB2 := Lib.hid (own_grown (below_drewN HB.out _) hBs (own_drewN HO.out _) hg2); clear ho2 hg2)
            refine ⟨⟨i, k + 1, pre ++ [y.1], by omega, by omega, by go_num, by go_num, by simp; omega, HB2, ?_, ?_⟩, by simp [intOf]; omega⟩
            · show World.ownsRow _ _ _ _ _ _ _
              rw [intCells_snoc, List.length_append]
              exact HO2.out
            · show pre ++ [_] ++ _ = _
              rw [← HD.out, Hd.out, List.append_assoc]
              rfl
          · have he : x.1 = y.1 := by omega
            have He := Lib.hid he
            have b1 : decide (x.1 < y.1) = false := by simp; omega
            have b2 : decide (y.1 < x.1) = false := by simp; omega
            clear he
            by_cases h3 : x.2 = y.2
            · have b3 : (x.2 != y.2) = false := by simp [h3]
              have Hd := Lib.hid (diffL_same Hx.out Hy.out He.out h3)
              clear h3
              go_wp2_with fail
              go_quiet (fail)
              go_wp2_with fail
              go_quiet (fail)
              go_wp2_with fail
              go_quiet (fail)
              go_wp2_with fail
              refine ⟨⟨i + 1, k + 1, pre, by omega, by omega, by go_num, by go_num, by omega, (below_drewN HB.out _), HO.out, ?_⟩, by simp [intOf]; omega⟩
              show pre ++ _ = _
              rw [← HD.out, Hd.out]
            · have b3 : (x.2 != y.2) = true := by simp [h3]
              have Hd := Lib.hid (diffL_other Hx.out Hy.out He.out h3)
              clear h3
              go_wp2_with fail
              go_quiet (fail)
              go_wp2_with fail
              go_quiet (fail)
              go_wp2_with fail
              go_quiet (fail)
              go_wp2_with (at_builtin; refine wpList_append_sl rfl _ _ 46 rfl rfl rfl so46 ((own_drewN HO.out _).alloc _) (m := 1) (news := [.int .i64 x.1]) rfl (Sl.new _ _ _) (fun u hu => by simp at hu; subst hu; rfl) (by unfold maxLen; omega) (by omega) (by simp; omega) ?_; intro A3 c3 w2 ho2 hg2; have HO2 := Lib.hid ho2; have HB2 := Lib.hid (own_grown (below_drewN HB.out _) hBs (own_drewN HO.out _) hg2); clear ho2 hg2)
              refine ⟨⟨i + 1, k + 1, pre ++ [x.1], by omega, by omega, by go_num, by go_num, by simp; omega, HB2, ?_, ?_⟩, by simp [intOf]; omega⟩
              · show World.ownsRow _ _ _ _ _ _ _
                rw [intCells_snoc, List.length_append]
                exact HO2.out
              · show pre ++ [_] ++ _ = _
                rw [← HD.out, Hd.out, List.append_assoc]
                rfl
      · have hkl : k = l2.length := by omega
        subst hkl
        have tk1 : decide ((l2.length : Int) < (l2.length : Int)) = false := by simp
        have Hd := Lib.hid (diffL_one (l2 := l2) Hx.out (Nat.le_refl _))
        go_wp2_with fail
        go_quiet (fail)
        go_wp2_with (at_builtin; refine wpList_append_sl rfl _ _ 46 rfl rfl rfl so46 ((own_drewN HO.out _).alloc _) (m := 1) (news := [.int .i64 x.1]) rfl (Sl.new _ _ _) (fun u hu => by simp at hu; subst hu; rfl) (by unfold maxLen; omega) (by omega) (by simp; omega) ?_; intro A3 c3 w2 ho2 hg2; have HO2 := Lib.hid ho2; have HB2 := Lib.hid (own_grown (below_drewN HB.out _) hBs (own_drewN HO.out _) hg2); clear ho2 hg2)
        refine ⟨⟨i + 1, l2.length, pre ++ [x.1], by omega, by omega, by go_num, by go_num, by simp; omega, HB2, ?_, ?_⟩, by simp [intOf]; omega⟩
        · show World.ownsRow _ _ _ _ _ _ _
          rw [intCells_snoc, List.length_append]
          exact HO2.out
        · show pre ++ [_] ++ _ = _
          rw [← HD.out, Hd.out, List.append_assoc]
          rfl
    · have ti1 : decide ((i : Int) < (l1.length : Int)) = false := by simp; omega
      have ti1' : decide (i < l1.length) = false := by simp; omega
      have hil : i = l1.length := by omega
      subst hil
      by_cases hlt2 : k < l2.length
      · obtain ⟨g2, o2, rfl, hg2, hc2⟩ := Hs2.out.at_ (k := k * 2) (by rw [entCells_len]; omega)
        obtain ⟨y, hy⟩ : ∃ y, l2[k]? = some y := ⟨_, List.getElem?_eq_getElem hlt2⟩
        have hy0 : wr.cell? ⟨g2, o2 + k * 2, none⟩ = some (.int .i64 y.1) := by rw [HBw.out.cell hg2]; exact hc2 _ _ (entCells_at l2 k y hy).1
        have hy1 : wr.cell? ⟨g2, o2 + k * 2 + 1, none⟩ = some (.int .i64 y.2) := by rw [HBw.out.cell hg2]; exact hc2 _ _ (entCells_at l2 k y hy).2
        have hK2 : (k : Int) < (l2.length : Int) := by omega
        have Hy := Lib.hid hy
        clear hc2 hy
        have tk1 : decide ((k : Int) < (l2.length : Int)) = true := by simp; omega
        have tk1' : decide (k < l2.length) = true := by simp; omega
        have tk2 : ((k : Int) == (l2.length : Int)) = false := by simp; omega
        have tk2' : (k == l2.length) = false := by simp; omega
        have Hd := Lib.hid (diffL_two (l1 := l1) (Nat.le_refl _) Hy.out)
        go_wp2_with fail
        go_quiet (fail)
        go_wp2_with fail
        go_quiet (fail)
        go_wp2_with (at_builtin; refine wpList_append_sl rfl _ _ 46 rfl rfl rfl so46 ((own_drewN HO.out _).alloc _) (m := 1) (news := [.int .i64 y.1]) rfl (Sl.new _ _ _) (fun u hu => by simp at hu; subst hu; rfl) (by unfold maxLen; omega) (by omega) (by simp; omega) ?_; intro A3 c3 w2 ho2 hg2; have HO2 := Lib.hid ho2; have HB2 := Lib.hid (own_grown (below_drewN HB.out _) hBs (own_drewN HO.out _) hg2); clear ho2 hg2)
        refine ⟨⟨l1.length, k + 1, pre ++ [y.1], by omega, by omega, by go_num, by go_num, by simp; omega, HB2, ?_, ?_⟩, by simp [intOf]; omega⟩
        · show World.ownsRow _ _ _ _ _ _ _
          rw [intCells_snoc, List.length_append]
          exact HO2.out
        · show pre ++ [_] ++ _ = _
          rw [← HD.out, Hd.out, List.append_assoc]
          rfl
      · have hkl : k = l2.length := by omega
        subst hkl
        go_wp2_with fail
        go_ret
        have hd := HD.out
        rw [diffL_end (Nat.le_refl _) (Nat.le_refl _), List.append_nil] at hd
        rw [← hd]
        exact ⟨_, rfl, own_less HO.out (by omega), HBw.out⟩
end Go.Proofs.YtognbkmamhgkeaaDoor

