/-
  How many nodes: the set that gather builds, in plain words. No program is run here.
-/
import Derived.Test.YtognbkmamhgkeaaDoorW16
import Derived.Test.YtognbkmamhgkeaaDoorW6
namespace Go.Proofs.YtognbkmamhgkeaaDoor
open Go Go.RowKit

/-- The nodes of the range q of level L, each before those below it. -/
def al (T : TV) : Nat → Nat → List Nat
  | 0, q => (T.adr 0 q).toList
  | L + 1, q => match T.adr (L + 1) q with
    | none => []
    | some b => b :: (List.range 16).flatMap fun i => al T L (16 * q + i)

theorem al_mem {T : TV} : ∀ {L q b : Nat}, b ∈ al T L q → ∃ l x, l ≤ L ∧ x / 16 ^ (L - l) = q ∧ T.adr l x = some b
  | 0, q, b, h => ⟨0, q, Nat.le_refl _, by simp, by simpa [al] using h⟩
  | L + 1, q, b, h => by
    unfold al at h
    cases e : T.adr (L + 1) q with
    | none => rw [e] at h; cases h
    | some c =>
      rw [e] at h
      rcases List.mem_cons.1 h with rfl | h
      · exact ⟨L + 1, q, Nat.le_refl _, by simp, e⟩
      · obtain ⟨i, hi, hb⟩ := List.mem_flatMap.1 h
        have hi16 := List.mem_range.1 hi
        obtain ⟨l, x, hl, hx, ha⟩ := al_mem hb
        exact ⟨l, x, by omega, by rw [show L + 1 - l = (L - l) + 1 by omega, div_succ, hx]; omega, ha⟩

/-- Below the range q of level L each node lies at one place alone. -/
def InjU (T : TV) (L q : Nat) : Prop := ∀ l x l' x' b, l ≤ L → l' ≤ L → x / 16 ^ (L - l) = q → x' / 16 ^ (L - l') = q → T.adr l x = some b → T.adr l' x' = some b → l = l' ∧ x = x'

theorem InjU.kid {T : TV} {L q i : Nat} (h : InjU T (L + 1) q) (hi : i < 16) : InjU T L (16 * q + i) := by
  intro l x l' x' b hl hl' hx hx' ha ha'
  exact h l x l' x' b (by omega) (by omega) (by rw [show L + 1 - l = (L - l) + 1 by omega, div_succ, hx]; omega) (by rw [show L + 1 - l' = (L - l') + 1 by omega, div_succ, hx']; omega) ha ha'

theorem al_kids {T : TV} {L q : Nat} (h : InjU T (L + 1) q) {i j b : Nat} (hi : i < 16) (hj : j < 16) (hb : b ∈ al T L (16 * q + i)) (hb' : b ∈ al T L (16 * q + j)) : i = j := by
  obtain ⟨l, x, hl, hx, ha⟩ := al_mem hb
  obtain ⟨l', x', hl', hx', ha'⟩ := al_mem hb'
  obtain ⟨rfl, rfl⟩ := h l x l' x' b (by omega) (by omega) (by rw [show L + 1 - l = (L - l) + 1 by omega, div_succ, hx]; omega) (by rw [show L + 1 - l' = (L - l') + 1 by omega, div_succ, hx']; omega) ha ha'
  omega

theorem al_top {T : TV} {L q : Nat} (h : InjU T (L + 1) q) {i b c : Nat} (hi : i < 16) (hc : T.adr (L + 1) q = some c) (hb : b ∈ al T L (16 * q + i)) : b ≠ c := by
  rintro rfl
  obtain ⟨l, x, hl, hx, ha⟩ := al_mem hb
  have := (h l x (L + 1) q b (by omega) (Nat.le_refl _) (by rw [show L + 1 - l = (L - l) + 1 by omega, div_succ, hx]; omega) (by simp) ha hc).1
  omega

theorem gth_al {T : TV} : ∀ {L q : Nat} (S : List Nat), InjU T L q → (∀ b, b ∈ S → b ∉ al T L q) → gth T L q S = S ++ al T L q
  | 0, q, S, _, hd => by
    unfold gth al
    cases e : T.adr 0 q with
    | none => simp
    | some b =>
      simp only [Option.toList]
      rw [if_neg (fun hb => hd b hb (by unfold al; rw [e]; simp))]
  | L + 1, q, S, hi, hd => by
    unfold gth
    cases e : T.adr (L + 1) q with
    | none => simp [al, e]
    | some b =>
      have hal : al T (L + 1) q = b :: (List.range 16).flatMap fun i => al T L (16 * q + i) := by rw [al, e]
      simp only
      rw [if_neg (fun hb => hd b hb (by rw [hal]; exact List.mem_cons_self)), hal]
      have key : ∀ k, k ≤ 16 → (List.range k).foldl (fun S i => gth T L (16 * q + i) S) (S ++ [b]) = S ++ [b] ++ (List.range k).flatMap fun i => al T L (16 * q + i) := by
        intro k
        induction k with
        | zero => intro _; simp
        | succ k ih =>
          intro hk
          rw [List.range_succ, List.foldl_append, ih (by omega), List.flatMap_append]
          simp only [List.foldl_cons, List.foldl_nil, List.flatMap_cons, List.flatMap_nil, List.append_nil]
          rw [gth_al _ (hi.kid (by omega)) ?_, List.append_assoc]
          intro c hc hc'
          rcases List.mem_append.1 hc with hc | hc
          · rcases List.mem_append.1 hc with hc | hc
            · refine hd c hc ?_
              rw [hal]
              exact List.mem_cons_of_mem _ (List.mem_flatMap.2 ⟨k, List.mem_range.2 (by omega), hc'⟩)
            · have : c = b := by simpa using hc
              exact al_top hi (by omega) e hc' this
          · obtain ⟨j, hj, hcj⟩ := List.mem_flatMap.1 hc
            have hj' := List.mem_range.1 hj
            have := al_kids hi (by omega) (by omega) hcj hc'
            omega
      rw [key 16 (Nat.le_refl _)]
      simp

theorem Good.injU {w : World} {T : TV} {n : Int} (h : Good w T n) : InjU T 2 0 := h.inj

theorem nodes_one {w : World} {T : TV} {n : Int} (h : Good w T n) : gthAll [(T, n)] = al T 2 0 := by
  show gth T 2 0 [] = _
  rw [gth_al [] h.injU (fun b hb => by cases hb)]
  rfl

/-- All nodes of the range are there already. -/
theorem gth_old {T : TV} {L q : Nat} {S : List Nat} (h : ∀ b, T.adr L q = some b → b ∈ S) : gth T L q S = S := by
  cases L with
  | zero =>
    unfold gth
    cases e : T.adr 0 q with
    | none => rfl
    | some b => simp only; rw [if_pos (h b e)]
  | succ L =>
    unfold gth
    cases e : T.adr (L + 1) q with
    | none => rfl
    | some b => simp only; rw [if_pos (h b e)]

theorem nodes_same {w : World} {T : TV} {n n' : Int} (h : Good w T n) : gthAll [(T, n), (T, n')] = al T 2 0 := by
  show gth T 2 0 (gth T 2 0 []) = _
  rw [gth_al [] h.injU (fun b hb => by cases hb), List.nil_append]
  apply gth_old
  intro b hb
  show b ∈ al T (1 + 1) 0
  rw [al, hb]; exact List.mem_cons_self

/-- The fold over the kids where only one kid brings something. -/
theorem fold_one {T : TV} {L q i : Nat} {S : List Nat} {N : List Nat} (hi : i < 16) (hother : ∀ j, j < 16 → j ≠ i → ∀ b, T.adr L (16 * q + j) = some b → b ∈ S) (hone : ∀ S', (∀ b, b ∈ S → b ∈ S') → (∀ b, b ∈ S' → b ∈ S) → gth T L (16 * q + i) S' = S' ++ N) :
    (List.range 16).foldl (fun S j => gth T L (16 * q + j) S) S = S ++ N := by
  have key : ∀ k, k ≤ 16 → (List.range k).foldl (fun S j => gth T L (16 * q + j) S) S = if i < k then S ++ N else S := by
    intro k
    induction k with
    | zero => intro _; rw [if_neg (by omega)]; rfl
    | succ k ih =>
      intro hk
      rw [List.range_succ, List.foldl_append, ih (by omega)]
      simp only [List.foldl_cons, List.foldl_nil]
      by_cases e : k = i
      · subst e
        rw [if_neg (by omega), if_pos (by omega), hone S (fun _ h => h) (fun _ h => h)]
      · by_cases hlt : i < k
        · rw [if_pos hlt, if_pos (by omega)]
          exact gth_old fun b hb => List.mem_append.2 (.inl (hother k (by omega) e b hb))
        · rw [if_neg hlt, if_neg (by omega)]
          exact gth_old fun b hb => hother k (by omega) e b hb
  rw [key 16 (Nat.le_refl _), if_pos hi]

end Go.Proofs.YtognbkmamhgkeaaDoor
