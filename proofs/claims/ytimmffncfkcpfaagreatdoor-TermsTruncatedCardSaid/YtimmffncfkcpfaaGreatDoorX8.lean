/-
  The walks of the reference's Few and Same (printed by gen_few.py).
-/
import Derived.Test.YtimmffncfkcpfaaGreatDoorX5
import Derived.Test.YtimmffncfkcpfaaGreatDoorP1
namespace Go.Proofs.YtimmffncfkcpfaaGreatDoor
open Go Go.RowKit Go.Walks

def fewC (C : ClassD) : Bool := decide (C.name.length ≤ 20) && decide (C.code.length ≤ 20)
def fewD (D : ContrD) : Bool := decide (D.tenant.length ≤ 20) && decide (D.cls.length ≤ 20)
def fewB (T : TermsD) : Bool := decide (T.classes.length ≤ 12) && decide (T.contracts.length ≤ 20) && T.classes.all fewC && T.contracts.all fewD
/-- In the reference: the terms' block. -/
structure RW (w : World) (v : Array Value) (W : World) : Prop where
  below : Below w.heap.size w W
  x1 : W.heap[w.heap.size]? = some (.cells v 26)
theorem RW.start (w : World) (v : Array Value) : RW w v (w.alloc (.cells v 26)) := ⟨(Below.refl _ _).alloc (Nat.le_refl _) _, heap_new _ _⟩

set_option maxRecDepth 100000 in
set_option maxHeartbeats 8000000 in
theorem few_any (T : TermsD) (v : Value) (w : World) (Hv : Hid (TermsV w T v)) (HL : Hid (NamesL T)) : Calls Tryz.prog 9 #[v] w (BoolR (fewB T) w) := by
  obtain ⟨A, c, A', d, rfl, hs1, hs2, hc1, hc2, hc3, hc4⟩ := Hv.out
  obtain ⟨n, hn⟩ : ∃ n, n = T.classes.length := ⟨_, rfl⟩
  obtain ⟨m, hm⟩ : ∃ m, m = T.contracts.length := ⟨_, rfl⟩
  rw [← hn] at hc1 ⊢
  rw [← hm] at hc2 ⊢
  have Hn := Lib.hid hn
  have Hm := Lib.hid hm
  have Hs1 := Lib.hid hs1
  have Hs2 := Lib.hid hs2
  have S0 := Lib.hid (RW.start w #[.slice A n c, .slice A' m d])
  unfold maxLen at hc3 hc4
  clear hs1 hs2 Hv hn hm
  obtain ⟨x0, x1, -⟩ := two_cells S0.out.x1
  by_cases h12 : 12 < n
  · have hi : (12 : Int) < (n : Int) := by omega
    have Hno : Hid (fewB T = false) := by show _ = _; unfold fewB; rw [decide_eq_false (by have := Hn.out; omega)]; rfl
    go_enter Tryz.func9, Tryz.ntmps9
    go_wp2_with fail
    go_ret
    exact ⟨by rw [Hno.out] <;> rfl, S0.out.below⟩
  have hi : ¬ (12 : Int) < (n : Int) := by omega
  by_cases h20 : 20 < m
  · have hi2 : (20 : Int) < (m : Int) := by omega
    have Hno : Hid (fewB T = false) := by show _ = _; unfold fewB; rw [decide_eq_false (show ¬ T.contracts.length ≤ 20 by have := Hm.out; omega)]; simp
    go_enter Tryz.func9, Tryz.ntmps9
    go_wp2_with fail
    go_ret
    exact ⟨by rw [Hno.out] <;> rfl, S0.out.below⟩
  have hi2 : ¬ (20 : Int) < (m : Int) := by omega
  have Hfew : Hid (fewB T = (T.classes.all fewC && T.contracts.all fewD)) := by show _ = _; unfold fewB; rw [decide_eq_true (by have := Hn.out; omega), decide_eq_true (by have := Hm.out; omega)]; simp
  go_enter Tryz.func9, Tryz.ntmps9
  go_wp2_with fail
  clear x0 x1
  go_loopg [3] n (fun g s wr => ∃ k : Nat, s = .int .i64 (k : Int) ∧ g = n - k ∧ k ≤ n ∧ Hid (RW w #[.slice A n c, .slice A' m d] wr) ∧ Hid (∀ (j : Nat) (x : ClassD), j < k → T.classes[j]? = some x → fewC x = true))
  case atStart => exact ⟨0, rfl, rfl, Nat.zero_le _, S0.out, fun j x h => absurd h (by omega)⟩
  case round =>
    obtain ⟨k, rfl, hg, hkk, HSk, HQk⟩ := hrel
    have Hgk := Lib.hid hg
    clear hg
    obtain ⟨x0, x1, -⟩ := two_cells HSk.out.x1
    by_cases hlt : k < n
    · have hI1 : (0 : Int) ≤ (k : Int) := by omega
      have hI2 : (k : Int) < (n : Int) := by omega
      obtain ⟨C, hC⟩ : ∃ x, T.classes[k]? = some x := ⟨_, List.getElem?_eq_getElem (by have := Hn.out; omega)⟩
      obtain ⟨bb, o, hA, hb, hcells⟩ := sl_at cls_len Hs1.out hC (by omega)
      subst hA
      have k0 := (HSk.out.below.cell (p := ⟨bb, o + (k * 4 + 0), none⟩) hb).trans (hcells 0 _ rfl)
      have k1 := (HSk.out.below.cell (p := ⟨bb, o + (k * 4 + 1), none⟩) hb).trans (hcells 1 _ rfl)
      rw [Nat.add_zero] at k0
      rw [← Nat.add_assoc] at k1
      have hnl := HL.out.cls C (List.mem_of_getElem? hC)
      have HC := Lib.hid hC
      obtain ⟨nm, cd, ls, wh⟩ := C
      dsimp only at k0 k1 hnl
      unfold maxLen at hnl
      clear hC hcells
      by_cases h1 : 20 < nm.length
      · have hI3 : (20 : Int) < (nm.length : Int) := by omega
        have Hno : Hid (fewB T = false) := by
          have : T.classes.all fewC = false := all_no HC.out (by unfold fewC; rw [decide_eq_false (by dsimp only; omega)]; rfl)
          show _ = _
          rw [Hfew.out, this]; simp
        go_wp2_with fail
        go_ret
        exact ⟨by rw [Hno.out] <;> rfl, HSk.out.below⟩
      · have hI3 : ¬ (20 : Int) < (nm.length : Int) := by omega
        by_cases h2 : 20 < cd.length
        · have hI4 : (20 : Int) < (cd.length : Int) := by omega
          have Hno : Hid (fewB T = false) := by
            have : T.classes.all fewC = false := all_no HC.out (by unfold fewC; rw [decide_eq_false (show ¬ cd.length ≤ 20 by omega)]; simp)
            show _ = _
            rw [Hfew.out, this]; simp
          go_wp2_with fail
          go_ret
          exact ⟨by rw [Hno.out] <;> rfl, HSk.out.below⟩
        · have hI4 : ¬ (20 : Int) < (cd.length : Int) := by omega
          have HQ2 : Hid (∀ (j : Nat) (x : ClassD), j < k + 1 → T.classes[j]? = some x → fewC x = true) := fun j x hj hx => by
            rcases Nat.lt_or_ge j k with h | h
            · exact HQk.out j x h hx
            · obtain rfl : j = k := by omega
              rw [HC.out] at hx
              injection hx with hx
              subst hx
              unfold fewC
              rw [decide_eq_true (show nm.length ≤ 20 by omega), decide_eq_true (show cd.length ≤ 20 by omega)]; rfl
          go_wp2_with fail
          go_roundg (n - (k + 1))
          case measure => rw [Hgk.out]; omega
          case rel => exact ⟨k + 1, by go_num, rfl, by omega, HSk.out, HQ2.out⟩
    · have hke : ¬ (k : Int) < (n : Int) := by omega
      have HAk : Hid (T.classes.all fewC = true) := by
        show _ = _
        rw [List.all_eq_true]
        intro x hx
        obtain ⟨j, hj⟩ := List.mem_iff_getElem?.1 hx
        exact HQk.out j x (by have := (List.getElem?_eq_some_iff.1 hj).1; have := Hn.out; omega) hj
      go_wp2_with fail
      clear x0 x1
      go_loopg [4] m (fun g s wr => ∃ i : Nat, s = .int .i64 (i : Int) ∧ g = m - i ∧ i ≤ m ∧ Hid (RW w #[.slice A n c, .slice A' m d] wr) ∧ Hid (∀ (j : Nat) (x : ContrD), j < i → T.contracts[j]? = some x → fewD x = true))
      case atStart => exact ⟨0, rfl, rfl, Nat.zero_le _, HSk.out, fun j x h => absurd h (by omega)⟩
      case round =>
        obtain ⟨i, rfl, hg, hki, HSi, HQi⟩ := hrel
        have Hgi := Lib.hid hg
        clear hg
        obtain ⟨x0, x1, -⟩ := two_cells HSi.out.x1
        by_cases hlt : i < m
        · have hI1 : (0 : Int) ≤ (i : Int) := by omega
          have hI2 : (i : Int) < (m : Int) := by omega
          obtain ⟨C, hC⟩ : ∃ x, T.contracts[i]? = some x := ⟨_, List.getElem?_eq_getElem (by have := Hm.out; omega)⟩
          obtain ⟨bb, o, hA, hb, hcells⟩ := sl_at ctr_len Hs2.out hC (by omega)
          subst hA
          have k0 := (HSi.out.below.cell (p := ⟨bb, o + (i * 6 + 0), none⟩) hb).trans (hcells 0 _ rfl)
          have k1 := (HSi.out.below.cell (p := ⟨bb, o + (i * 6 + 5), none⟩) hb).trans (hcells 5 _ rfl)
          rw [Nat.add_zero] at k0
          rw [← Nat.add_assoc] at k1
          have hnl := HL.out.ctr C (List.mem_of_getElem? hC)
          have HC := Lib.hid hC
          obtain ⟨nm, gu, sn, bu, rk, cd⟩ := C
          dsimp only at k0 k1 hnl
          unfold maxLen at hnl
          clear hC hcells
          by_cases h1 : 20 < nm.length
          · have hI3 : (20 : Int) < (nm.length : Int) := by omega
            have Hno : Hid (fewB T = false) := by
              have : T.contracts.all fewD = false := all_no HC.out (by unfold fewD; rw [decide_eq_false (by dsimp only; omega)]; rfl)
              show _ = _
              rw [Hfew.out, this]; simp
            go_wp2_with fail
            go_ret
            exact ⟨by rw [Hno.out] <;> rfl, HSi.out.below⟩
          · have hI3 : ¬ (20 : Int) < (nm.length : Int) := by omega
            by_cases h2 : 20 < cd.length
            · have hI4 : (20 : Int) < (cd.length : Int) := by omega
              have Hno : Hid (fewB T = false) := by
                have : T.contracts.all fewD = false := all_no HC.out (by unfold fewD; rw [decide_eq_false (show ¬ cd.length ≤ 20 by omega)]; simp)
                show _ = _
                rw [Hfew.out, this]; simp
              go_wp2_with fail
              go_ret
              exact ⟨by rw [Hno.out] <;> rfl, HSi.out.below⟩
            · have hI4 : ¬ (20 : Int) < (cd.length : Int) := by omega
              have HQ2 : Hid (∀ (j : Nat) (x : ContrD), j < i + 1 → T.contracts[j]? = some x → fewD x = true) := fun j x hj hx => by
                rcases Nat.lt_or_ge j i with h | h
                · exact HQi.out j x h hx
                · obtain rfl : j = i := by omega
                  rw [HC.out] at hx
                  injection hx with hx
                  subst hx
                  unfold fewD
                  rw [decide_eq_true (show nm.length ≤ 20 by omega), decide_eq_true (show cd.length ≤ 20 by omega)]; rfl
              go_wp2_with fail
              go_roundg (m - (i + 1))
              case measure => rw [Hgi.out]; omega
              case rel => exact ⟨i + 1, by go_num, rfl, by omega, HSi.out, HQ2.out⟩
        · have hke : ¬ (i : Int) < (m : Int) := by omega
          have HAi : Hid (T.contracts.all fewD = true) := by
            show _ = _
            rw [List.all_eq_true]
            intro x hx
            obtain ⟨j, hj⟩ := List.mem_iff_getElem?.1 hx
            exact HQi.out j x (by have := (List.getElem?_eq_some_iff.1 hj).1; have := Hm.out; omega) hj
          go_wp2_with fail
          go_ret
          exact ⟨by rw [Hfew.out, HAk.out, HAi.out] <;> rfl, HSi.out.below⟩
end Go.Proofs.YtimmffncfkcpfaaGreatDoor
