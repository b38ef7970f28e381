/-
  The walk of the reference's Count over a sorted list of entries.
-/
import Derived.Test.YtognbkmamhgkeaaDoorMq
namespace Go.Proofs.YtognbkmamhgkeaaDoor
open Go Go.RowKit Go.Walks

/-- Count behind i rounds. -/
def cU (l : List (Int × Int)) (i : Nat) : Nat := (if i = 0 then 0 else 1) + adjU (keys l 256) i + adjU (keys l 16) i

theorem adjU_le (ks : List Int) (i : Nat) : adjU ks i ≤ i := by
  induction i with
  | zero => exact Nat.le_refl _
  | succ i ih => rw [adjU]; split <;> omega

theorem cU_zero (l : List (Int × Int)) : cU l 1 = 3 := by simp [cU, adjU]
theorem cU_succ {l : List (Int × Int)} {i : Nat} {x y : Int × Int} (h0 : 0 < i) (hx : l[i]? = some x) (hy : l[i - 1]? = some y) :
    cU l (i + 1) = cU l i + (if x.1 / 256 ≠ y.1 / 256 then 1 else 0) + (if x.1 / 16 ≠ y.1 / 16 then 1 else 0) := by
  have hk : ∀ d, (keys l d)[i]? = some (x.1 / d) ∧ (keys l d)[i - 1]? = some (y.1 / d) := fun d => by simp [keys, hx, hy]
  have h : ∀ d, adjU (keys l d) (i + 1) = adjU (keys l d) i + if x.1 / d ≠ y.1 / d then 1 else 0 := by
    intro d
    rw [adjU, (hk d).1, (hk d).2]
    by_cases e : x.1 / d = y.1 / d
    · rw [if_neg (by simp [e]; omega), if_neg (by simp [e])]
    · rw [if_pos (by simp [e]), if_pos e]
  have hi : i ≠ 0 := by omega
  have hi1 : i + 1 ≠ 0 := by omega
  unfold cU
  rw [h, h]
  simp only [hi, hi1, if_false]
  omega

set_option maxHeartbeats 1000000 in
theorem count_any (l : List (Int × Int)) (A : Option Addr) (c : Nat) (w : World) (hl : l.length ≤ 1000) (Hs : Hid (Srt l)) (Hsl : Hid (Sl w w.heap.size A (entCells l))) :
    Calls Tryd.prog 13 #[.agg #[.slice A l.length c]] w (fun e w' => e = .returned (.int .i64 (countL l : Nat)) ∧ Below w.heap.size w w') := by
  go_enter Tryd.func13, Tryd.ntmps13
  go_wp2_with fail
  go_loopw [3, 4] (fun nn ix wr => ∃ k : Nat, k ≤ l.length ∧ ix = .int .i64 k ∧ nn = .int .i64 (cU l k : Nat) ∧ Hid (Below w.heap.size w wr) ∧ Hid (wr.heap[w.heap.size]? = some (.cells #[.slice A l.length c] 35))) (fun _ ix _ => l.length - (intOf ix).toNat)
  case atStart => exact ⟨0, by omega, rfl, rfl, (Below.refl _ _).alloc (Nat.le_refl _) _, heap_alloc_new _ _⟩
  case round =>
    obtain ⟨k, hk, rfl, rfl, HB, HR⟩ := hrel
    obtain ⟨c00, _⟩ := one_cell HR.out
    have hcu : cU l k ≤ 3 * k + 1 := by
      have h1 := adjU_le (keys l 256) k
      have h2 := adjU_le (keys l 16) k
      unfold cU; split <;> omega
    by_cases hlt : k < l.length
    · obtain ⟨g, o, rfl, hg, hc⟩ := Hsl.out.at_ (k := k * 2) (by rw [entCells_len]; omega)
      obtain ⟨x, hx⟩ : ∃ x, l[k]? = some x := ⟨_, List.getElem?_eq_getElem hlt⟩
      have hc0 : wr.cell? ⟨g, o + k * 2, none⟩ = some (.int .i64 x.1) := by rw [HB.out.cell hg]; exact hc _ _ (entCells_at l k x hx).1
      obtain ⟨hx0, hx1⟩ := Hs.out.rng x (List.mem_of_getElem? hx)
      have Hx := Lib.hid hx
      clear hx
      have hI1 : (0 : Int) ≤ (k : Int) := by omega
      have hI2 : (k : Int) < (l.length : Int) := by omega
      by_cases hk0 : k = 0
      · subst hk0
        clear hc
        go_wp2_with fail
        go_quiet (fail)
        go_wp2_with fail
        go_quiet (fail)
        go_wp2_with fail
        refine ⟨⟨1, by omega, by go_num, by rw [cU_zero]; rfl, below_drewN HB.out _, HR.out⟩, by simp [intOf]; omega⟩
      · have hk0' : ((k : Int) == 0) = false := by simp; omega
        obtain ⟨j, rfl⟩ : ∃ j, k = j + 1 := ⟨k - 1, by omega⟩
        obtain ⟨y, hy⟩ : ∃ y, l[j]? = some y := ⟨_, List.getElem?_eq_getElem (by omega)⟩
        have hc1 : wr.cell? ⟨g, o + j * 2, none⟩ = some (.int .i64 y.1) := by rw [HB.out.cell hg]; exact hc _ _ (entCells_at l j y hy).1
        obtain ⟨hy0, hy1⟩ := Hs.out.rng y (List.mem_of_getElem? hy)
        have Hy := Lib.hid hy
        clear hy hc
        by_cases e1 : x.1 / 256 = y.1 / 256 <;> by_cases e2 : x.1 / 16 = y.1 / 16
        · have hcs : cU l (j + 1 + 1) = cU l (j + 1) + 0 := by
            rw [cU_succ (by omega) Hx.out Hy.out, if_neg (by simp [e1]), if_neg (by simp [e2])]
          have Hcs := Lib.hid hcs
          have b1 : (x.1 / 256 != y.1 / 256) = false := by simp [e1]
          have b2 : (x.1 / 16 != y.1 / 16) = false := by simp [e2]
          clear hcs e1 e2
          go_wp2_with fail
          go_quiet (fail)
          go_wp2_with fail
          go_quiet (fail)
          go_wp2_with fail
          refine ⟨⟨j + 1 + 1, by omega, by go_num, by rw [Hcs.out]; go_num, below_drewN HB.out _, HR.out⟩, by simp [intOf]; omega⟩
        · have hcs : cU l (j + 1 + 1) = cU l (j + 1) + 1 := by
            rw [cU_succ (by omega) Hx.out Hy.out, if_neg (by simp [e1]), if_pos e2]
          have Hcs := Lib.hid hcs
          have b1 : (x.1 / 256 != y.1 / 256) = false := by simp [e1]
          have b2 : (x.1 / 16 != y.1 / 16) = true := by simp [e2]
          clear hcs e1 e2
          go_wp2_with fail
          go_quiet (fail)
          go_wp2_with fail
          go_quiet (fail)
          go_wp2_with fail
          refine ⟨⟨j + 1 + 1, by omega, by go_num, by rw [Hcs.out]; go_num, below_drewN HB.out _, HR.out⟩, by simp [intOf]; omega⟩
        · exfalso; omega
        · have hcs : cU l (j + 1 + 1) = cU l (j + 1) + 2 := by
            rw [cU_succ (by omega) Hx.out Hy.out, if_pos e1, if_pos e2]
          have Hcs := Lib.hid hcs
          have b1 : (x.1 / 256 != y.1 / 256) = true := by simp [e1]
          have b2 : (x.1 / 16 != y.1 / 16) = true := by simp [e2]
          clear hcs e1 e2
          go_wp2_with fail
          go_quiet (fail)
          go_wp2_with fail
          go_quiet (fail)
          go_wp2_with fail
          refine ⟨⟨j + 1 + 1, by omega, by go_num, by rw [Hcs.out]; go_num, below_drewN HB.out _, HR.out⟩, by simp [intOf]; omega⟩
    · go_wp2_with fail
      go_ret
      have hkl : k = l.length := by omega
      exact ⟨ret_int (by rw [hkl]; rfl), HB.out⟩
end Go.Proofs.YtognbkmamhgkeaaDoor
