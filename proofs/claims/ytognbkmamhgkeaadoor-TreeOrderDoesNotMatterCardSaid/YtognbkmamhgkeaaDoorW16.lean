/-
  Tree.Set, Tree.Clear and Tree.Get of a good tree: one contract each, for every block.
-/
import Derived.Test.YtognbkmamhgkeaaDoorMg
import Derived.Test.YtognbkmamhgkeaaDoorW4
namespace Go.Proofs.YtognbkmamhgkeaaDoor
open Go Go.RowKit

/-- What a change of a tree leaves: a good tree that maps m', and either it is the same tree, or its new nodes lie on the block's way. -/
def TPost (w : World) (T : TV) (m' : Nat → Option Int) (k : Nat) (e : Ending) (w' : World) : Prop :=
  ∃ T' n', e = .returned (TreeV T' n') ∧ Good w' T' n' ∧ T'.m = m' ∧ Below w.heap.size w w' ∧
    ((T' = T ∧ m' = T.m) ∨ (k < 4096 ∧ m' ≠ T.m ∧ ∃ B, w.heap.size ≤ B ∧ ∀ l p, T'.adr l p = if l ≤ 2 ∧ p = k / 16 ^ (l + 1) then (if (T'.adr l p).isSome then some (B + (2 - l)) else none) else T.adr l p))

theorem vld_iff (b : Int) : vldB b = true ↔ 0 ≤ b ∧ b < 4096 := by simp [vldB]

theorem tset_any (T : TV) (n b c : Int) (w : World) (h : Good w T n) : Calls Tryd.prog 14 #[TreeV T n, .int .i64 b, .int .i64 c] w (TPost w T (setM T.m b c) b.toNat) := by
  by_cases hb : 0 ≤ b ∧ b < 4096
  · have hv := (vld_iff b).2 hb
    obtain ⟨k, rfl⟩ := Int.eq_ofNat_of_zero_le hb.1
    have hk : k < 4096 := by omega
    have hat : atI T.m (k : Int) = T.m k := by simp only [atI]; rw [if_pos hb]; rfl
    have hsm : setM T.m (k : Int) c = putM T.m k c := by unfold setM; rw [if_pos hb]; rfl
    have hadr : ∀ B l p, (T.set B 2 k c).adr l p = if l ≤ 2 ∧ p = k / 16 ^ (l + 1) then (if ((T.set B 2 k c).adr l p).isSome then some (B + (2 - l)) else none) else T.adr l p := by
      intro B l p
      simp only [TV.set]
      split <;> simp
    have hnew : ∀ n', n' = (if (T.m k).isSome then n else n + 1) → T.m k ≠ some c → Calls Tryd.prog 14 #[TreeV T n, .int .i64 (k : Int), .int .i64 c] w (SetNew w T k c n') → Calls Tryd.prog 14 #[TreeV T n, .int .i64 (k : Int), .int .i64 c] w (TPost w T (setM T.m k c) k) := by
      intro n' hn' hne hc
      refine hc.mono ?_
      rintro e w' ⟨B, hB, rfl, hbl, hs⟩
      refine ⟨T.set B 2 k c, n', rfl, by rw [hn']; exact h.set hB hk hs, by rw [hsm]; rfl, hbl, .inr ⟨hk, ?_, B, hB, hadr B⟩⟩
      intro e
      rw [hsm] at e
      have := congrFun e k
      simp only [putM, if_true] at this
      exact hne this.symm
    have e0 : ((k : Int)).toNat = k := rfl
    rw [e0]
    have hnle : n ≤ 4096 ∧ 0 ≤ n := by have := h.num; have := cnt_le T.m; omega
    cases hm : T.m k with
    | none => exact hnew (n + 1) (by rw [hm]; rfl) (by rw [hm]; simp) (set_new0 T n c k w hk hnle.2 hnle.1 h.sub hm)
    | some o =>
      by_cases ho : o = c
      · subst ho
        refine (set_same T n (k : Int) o w h.sub ?_).mono ?_
        · rw [hat, hm, hv]; simp
        · rintro e w' ⟨rfl, hbl⟩
          have hid : setM T.m (k : Int) o = T.m := by
            rw [hsm]; funext x; simp only [putM]
            by_cases e : x = k
            · subst e; rw [if_pos rfl, hm]
            · rw [if_neg e]
          exact ⟨T, n, rfl, h.below hbl, hid.symm, hbl, .inl ⟨rfl, hid⟩⟩
      · exact hnew n (by rw [hm]; rfl) (by rw [hm]; simpa using ho) (set_new1 T n c k w hk h.sub o hm (by simp [ho]))
  · have hv : vldB b = false := by
      cases e : vldB b with
      | false => rfl
      | true => exact absurd ((vld_iff b).1 e) hb
    refine (set_same T n b c w h.sub (by rw [hv]; rfl)).mono ?_
    rintro e w' ⟨rfl, hbl⟩
    have hid : setM T.m b c = T.m := by unfold setM; rw [if_neg hb]
    exact ⟨T, n, rfl, h.below hbl, hid.symm, hbl, .inl ⟨rfl, hid⟩⟩

theorem tclr_any (T : TV) (n b : Int) (w : World) (h : Good w T n) : Calls Tryd.prog 15 #[TreeV T n, .int .i64 b] w (TPost w T (delM T.m b) b.toNat) := by
  have hsame : atI T.m b = none → Calls Tryd.prog 15 #[TreeV T n, .int .i64 b] w (TPost w T (delM T.m b) b.toNat) := by
    intro hat
    refine (clear_same T n b w h.sub hat).mono ?_
    rintro e w' ⟨rfl, hbl⟩
    have hid : delM T.m b = T.m := by
      unfold delM
      by_cases h0 : 0 ≤ b
      · rw [if_pos h0]
        funext x
        simp only [clrM]
        by_cases e : x = b.toNat
        · rw [if_pos e, e]
          by_cases h1 : b < 4096
          · simp only [atI] at hat; rw [if_pos ⟨h0, h1⟩] at hat; exact hat.symm
          · exact (h.out _ (by omega)).symm
        · rw [if_neg e]
      · rw [if_neg h0]
    exact ⟨T, n, rfl, h.below hbl, hid.symm, hbl, .inl ⟨rfl, hid⟩⟩
  by_cases hb : 0 ≤ b ∧ b < 4096
  · cases hm : T.m b.toNat with
    | none => exact hsame (by simp only [atI]; rw [if_pos hb]; exact hm)
    | some o =>
      obtain ⟨k, rfl⟩ := Int.eq_ofNat_of_zero_le hb.1
      have hk : k < 4096 := by omega
      have e0 : ((k : Int)).toNat = k := rfl
      rw [e0] at hm ⊢
      have hdm : delM T.m (k : Int) = clrM T.m k := by unfold delM; rw [if_pos hb.1]; rfl
      have hcl := cnt_clr hk (m := T.m) (by rw [hm]; rfl)
      have hnle : n ≤ 4096 ∧ 1 ≤ n := by have := h.num; have := cnt_le T.m; omega
      refine (clear_new T n k w hk hnle.2 hnle.1 h.sub o hm).mono ?_
      rintro e w' ⟨B, hB, rfl, hbl, hs⟩
      refine ⟨T.clr B 2 k, n - 1, rfl, h.clr hB hk (by rw [hm]; rfl) hs, by rw [hdm]; rfl, hbl, .inr ⟨hk, ?_, B, hB, ?_⟩⟩
      · intro e
        rw [hdm] at e
        have := congrFun e k
        simp only [clrM, if_true, hm] at this
        cases this
      · intro l p
        simp only [TV.clr]
        split
        · split <;> simp
        · rfl
  · exact hsame (by simp only [atI]; rw [if_neg hb])

theorem tget_any (T : TV) (n b : Int) (w : World) (h : Good w T n) : Calls Tryd.prog 23 #[TreeV T n, .int .i64 b] w (GetPost w (atI T.m b)) := get_any T n b w h.sub

end Go.Proofs.YtognbkmamhgkeaaDoor
