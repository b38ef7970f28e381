/-
  How many nodes two trees have together, where one came of the other by a change of one block. No program is run here.
-/
import Derived.Test.YtognbkmamhgkeaaDoorMn
namespace Go.Proofs.YtognbkmamhgkeaaDoor
open Go Go.RowKit

theorem adr_mem_al {w : World} {T : TV} : ∀ {L q : Nat}, Sub w T L q → ∀ l x b, l ≤ L → x / 16 ^ (L - l) = q → T.adr l x = some b → b ∈ al T L q
  | 0, q, _, l, x, b, hl, hx, hb => by
    obtain rfl : l = 0 := by omega
    have hxq : x = q := by simpa using hx
    subst hxq
    unfold al; rw [hb]; simp
  | L + 1, q, hs, l, x, b, hl, hx, hb => by
    by_cases hlL : l = L + 1
    · subst hlL
      have hxq : x = q := by simpa using hx
      subst hxq
      rw [al, hb]; exact List.mem_cons_self
    · have hx' : x / 16 ^ (L - l) / 16 = q := by rw [← div_succ, show (L - l) + 1 = L + 1 - l by omega]; exact hx
      have hi : x / 16 ^ (L - l) % 16 < 16 := Nat.mod_lt _ (by omega)
      have hm := adr_mem_al (hs.2 _ hi) l x b (by omega) (by omega) hb
      have hne : ∃ c, T.adr (L + 1) q = some c := by
        cases e : T.adr (L + 1) q with
        | some c => exact ⟨c, rfl⟩
        | none =>
          exfalso
          have ho := hs.1.1 e _ hi
          simp only [occ] at ho
          cases L with
          | zero =>
            unfold al at hm
            cases e2 : T.adr 0 (16 * q + x / 16 ^ (0 - l) % 16) with
            | none => rw [e2] at hm; simp at hm
            | some c => rw [e2] at ho; cases ho
          | succ L =>
            unfold al at hm
            cases e2 : T.adr (L + 1) (16 * q + x / 16 ^ (L + 1 - l) % 16) with
            | none => rw [e2] at hm; cases hm
            | some c => rw [e2] at ho; cases ho
      obtain ⟨c, hc⟩ := hne
      rw [al, hc]
      exact List.mem_cons_of_mem _ (List.mem_flatMap.2 ⟨_, List.mem_range.2 hi, hm⟩)

def one (x : Option Nat) : Nat := if x.isSome then 1 else 0

theorem gth_path {w w' : World} {T T' : TV} {n n' : Int} {B k : Nat} (h : Good w T n) (h' : Good w' T' n') (hk : k < 4096) (hB : w.heap.size ≤ B)
    (hadr : ∀ l p, T'.adr l p = if l ≤ 2 ∧ p = k / 16 ^ (l + 1) then (if (T'.adr l p).isSome then some (B + (2 - l)) else none) else T.adr l p) :
    (gthAll [(T, n), (T', n')]).length = (al T 2 0).length + (one (T'.adr 2 0) + one (T'.adr 1 (k / 256)) + one (T'.adr 0 (k / 16))) := by
  have hS : ∀ b, b ∈ al T 2 0 → b < w.heap.size := by
    intro b hb
    obtain ⟨l, x, hl, hx, ha⟩ := al_mem hb
    exact h.sub.within l hl x hx b ha
  have hold : ∀ l x b, l ≤ 2 → x / 16 ^ (2 - l) = 0 → x ≠ k / 16 ^ (l + 1) → T'.adr l x = some b → b ∈ al T 2 0 := by
    intro l x b hl hx hne hb
    rw [hadr l x, if_neg (fun e => hne e.2)] at hb
    exact adr_mem_al h.sub l x b hl hx hb
  have hnew : ∀ l b, l ≤ 2 → T'.adr l (k / 16 ^ (l + 1)) = some b → b = B + (2 - l) := by
    intro l b hl hb
    have := hadr l (k / 16 ^ (l + 1))
    rw [if_pos ⟨hl, rfl⟩, hb] at this
    simpa using this
  show (gth T' 2 0 (gth T 2 0 [])).length = _
  rw [gth_al [] h.injU (fun b hb => by cases hb), List.nil_append]
  have e256 : k / 16 ^ (1 + 1) = k / 256 := rfl
  have e16 : k / 16 ^ (0 + 1) = k / 16 := rfl
  have e4096 : k / 16 ^ (2 + 1) = 0 := Nat.div_eq_of_lt hk
  cases e2 : T'.adr 2 0 with
  | none =>
    have g : gth T' 2 0 (al T 2 0) = al T 2 0 := gth_old fun b hb => by rw [e2] at hb; cases hb
    have h1 : T'.adr 1 (k / 256) = none := by
      have := h'.sub.1.1 e2 (k / 256) (by omega)
      simp only [occ] at this
      cases e : T'.adr 1 (k / 256) with
      | none => rfl
      | some c => rw [show 16 * 0 + k / 256 = k / 256 by omega, e] at this; cases this
    have h0 : T'.adr 0 (k / 16) = none := by
      have hs1 := h'.sub.2 (k / 256) (by omega)
      have := hs1.1.1 (by rw [show 16 * 0 + k / 256 = k / 256 by omega]; exact h1) (k / 16 % 16) (by omega)
      simp only [occ] at this
      cases e : T'.adr 0 (k / 16) with
      | none => rfl
      | some c => rw [show 16 * (16 * 0 + k / 256) + k / 16 % 16 = k / 16 by omega, e] at this; cases this
    rw [g, h1, h0]; simp [one]
  | some b2 =>
    have hb2 : b2 = B := by have := hnew 2 b2 (Nat.le_refl _) (by rw [e4096]; exact e2); simpa using this
    subst hb2
    obtain ⟨N1, hN1, hl1⟩ : ∃ N1 : List Nat, N1.length = one (T'.adr 1 (k / 256)) + one (T'.adr 0 (k / 16)) ∧ ∀ S', (∀ b, b ∈ al T 2 0 ++ [b2] → b ∈ S') → (∀ b, b ∈ S' → b ∈ al T 2 0 ++ [b2]) → gth T' 1 (16 * 0 + k / 256) S' = S' ++ N1 := by
      rw [show 16 * 0 + k / 256 = k / 256 by omega]
      have hs1 := h'.sub.2 (k / 256) (by omega)
      rw [show 16 * 0 + k / 256 = k / 256 by omega] at hs1
      cases e1 : T'.adr 1 (k / 256) with
      | none =>
        have h0 : T'.adr 0 (k / 16) = none := by
          have := hs1.1.1 e1 (k / 16 % 16) (by omega)
          simp only [occ] at this
          cases e : T'.adr 0 (k / 16) with
          | none => rfl
          | some c => rw [show 16 * (k / 256) + k / 16 % 16 = k / 16 by omega, e] at this; cases this
        exact ⟨[], by rw [h0]; rfl, fun S' _ _ => by rw [List.append_nil]; exact gth_old fun b hb => by rw [e1] at hb; cases hb⟩
      | some b1 =>
        have hb1 : b1 = b2 + 1 := by have := hnew 1 b1 (by omega) e1; simpa using this
        subst hb1
        obtain ⟨N0, hN0, hl0⟩ : ∃ N0 : List Nat, N0.length = one (T'.adr 0 (k / 16)) ∧ ∀ S'', (∀ b, b ∈ S'' → b ∈ al T 2 0 ++ [b2] ++ [b2 + 1]) → gth T' 0 (16 * (k / 256) + k / 16 % 16) S'' = S'' ++ N0 := by
          rw [show 16 * (k / 256) + k / 16 % 16 = k / 16 by omega]
          cases e0 : T'.adr 0 (k / 16) with
          | none => exact ⟨[], rfl, fun S'' _ => by rw [List.append_nil]; exact gth_old fun b hb => by rw [e0] at hb; cases hb⟩
          | some b0 =>
            have hb0 : b0 = b2 + 2 := by have := hnew 0 b0 (by omega) e0; simpa using this
            subst hb0
            refine ⟨[b2 + 2], rfl, fun S'' hS'' => ?_⟩
            unfold gth
            rw [e0]
            simp only
            rw [if_neg]
            intro hb
            rcases List.mem_append.1 (hS'' _ hb) with hb | hb
            · rcases List.mem_append.1 hb with hb | hb
              · have := hS _ hb; omega
              · simp at hb
            · simp at hb
        refine ⟨(b2 + 1) :: N0, by rw [List.length_cons, hN0]; simp [one]; omega, fun S' h1 h2 => ?_⟩
        unfold gth
        rw [e1]
        simp only
        rw [if_neg]
        · have := fold_one (T := T') (L := 0) (q := k / 256) (i := k / 16 % 16) (S := S' ++ [b2 + 1]) (N := N0) (by omega) (fun j hj hne b hb => ?_) (fun S'' h3 h4 => hl0 S'' fun b hb => ?_)
          · rw [this]; simp
          · exact List.mem_append.2 (.inl (h1 b (List.mem_append.2 (.inl (hold 0 _ b (by omega) (by simp; omega) (by rw [e16]; omega) hb)))))
          · rcases List.mem_append.1 (h4 b hb) with h | h
            · exact List.mem_append.2 (.inl (h2 b h))
            · exact List.mem_append.2 (.inr h)
        · intro hb
          rcases List.mem_append.1 (h2 _ hb) with hb | hb
          · have := hS _ hb; omega
          · simp at hb
    have hroot : gth T' 2 0 (al T 2 0) = al T 2 0 ++ [b2] ++ N1 := by
      show gth T' (1 + 1) 0 _ = _
      unfold gth
      rw [show T'.adr (1 + 1) 0 = some b2 from e2]
      simp only
      rw [if_neg (fun hb => by have := hS _ hb; omega)]
      exact fold_one (by omega) (fun j hj hne b hb => List.mem_append.2 (.inl (hold 1 _ b (by omega) (by simp; omega) (by rw [e256]; omega) hb))) hl1
    rw [hroot]
    simp [hN1, one]
    omega

end Go.Proofs.YtognbkmamhgkeaaDoor
