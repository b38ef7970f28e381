/-
  The reference's reading of numbers, quotes and lines in plain words. No program is run here.
-/
import Derived.Test.YtdfhbnfhkckkbaaGreatDoorA4
namespace Go.Proofs.YtdfhbnfhkckkbaaGreatDoor
open Go

def isDigB (c : UInt8) : Bool := decide (48 ≤ c.toNat) && decide (c.toNat ≤ 57)
/-- What the reference takes for no number at first sight. -/
def offB (s : Bytes) : Bool := decide (s = []) || decide (10 < s.length) || (decide (s.head? = some 48) && decide (1 < s.length))
theorem valD_snoc (s : Bytes) (c : UInt8) : valD (s ++ [c]) = 10 * valD s + (c.toNat - 48) := by simp [valD]
theorem dig_of {c : UInt8} (h : isDigB c = true) : ∃ d, d < 10 ∧ c = UInt8.ofNat (48 + d) ∧ c.toNat = 48 + d := by
  unfold isDigB at h
  simp only [Bool.and_eq_true, decide_eq_true_eq] at h
  refine ⟨c.toNat - 48, by omega, ?_, by omega⟩
  rw [show 48 + (c.toNat - 48) = c.toNat by omega]
  exact UInt8.ofNat_toNat.symm
theorem head_app {a b : Bytes} (h : a ≠ []) : (a ++ b).head? = a.head? := by cases a with
  | nil => exact absurd rfl h
  | cons x xs => rfl
theorem dec_val : ∀ (n : Nat) (s : Bytes), s.length = n → s ≠ [] → s.head? ≠ some 48 → (∀ c ∈ s, isDigB c = true) → Lib.decDigits (valD s) = s ∧ 1 ≤ valD s := by
  intro n
  induction n with
  | zero => intro s h h0 _ _; exact absurd (List.eq_nil_of_length_eq_zero h) h0
  | succ n ih =>
    intro s hl _ hh hd
    obtain ⟨t, c, rfl⟩ : ∃ t c, s = t ++ [c] := by
      rcases List.eq_nil_or_concat s with rfl | ⟨t, c, rfl⟩
      · simp at hl
      · exact ⟨t, c, by simp⟩
    obtain ⟨d, hd1, hd2, hd3⟩ := dig_of (hd c (by simp))
    rw [valD_snoc, show c.toNat - 48 = d by omega]
    by_cases ht : t = []
    · subst ht
      have hd0 : d ≠ 0 := by
        rintro rfl
        apply hh
        rw [hd2]; rfl
      have hv : valD ([] : Bytes) = 0 := rfl
      rw [hv, Nat.mul_zero, Nat.zero_add, Lib.decDigits, dif_pos hd1, hd2]
      exact ⟨rfl, by omega⟩
    · have hh2 : t.head? ≠ some 48 := by
        rw [head_app ht] at hh; exact hh
      obtain ⟨h1, h2⟩ := ih t (by rw [List.length_append] at hl; simpa using hl) ht hh2 (fun c hc => hd c (by simp [hc]))
      refine ⟨?_, by omega⟩
      rw [Lib.decDigits, dif_neg (by omega), show (10 * valD t + d) / 10 = valD t by omega, show (10 * valD t + d) % 10 = d by omega, h1, hd2]
theorem dec_head : ∀ (n : Nat), 10 ≤ n → (Lib.decDigits n).head? ≠ some 48 ∧ 2 ≤ (Lib.decDigits n).length := by
  intro n
  induction n using Nat.strongRecOn with
  | _ n ih =>
    intro h
    rw [Lib.decDigits, dif_neg (by omega)]
    by_cases h2 : n / 10 < 10
    · rw [Lib.decDigits, dif_pos h2]
      refine ⟨?_, by simp⟩
      simp only [List.cons_append, List.nil_append, List.head?_cons, ne_eq, Option.some.injEq]
      intro he
      have := congrArg UInt8.toNat he
      rw [UInt8.toNat_ofNat'] at this
      have h48 : (48 : UInt8).toNat = 48 := rfl
      omega
    · obtain ⟨h3, h4⟩ := ih (n / 10) (by omega) (by omega)
      refine ⟨?_, by rw [List.length_append]; simp; omega⟩
      rw [head_app (by intro h; rw [h] at h4; simp at h4)]
      exact h3
theorem dec_len10 : ∀ (k n : Nat), n < 10 ^ (k + 1) → (Lib.decDigits n).length ≤ k + 1
  | 0, n, h => by rw [Lib.decDigits, dif_pos (by simpa using h)]; simp
  | k + 1, n, h => by
    by_cases h10 : n < 10
    · rw [Lib.decDigits, dif_pos h10]; simp
    · rw [Lib.decDigits, dif_neg h10, List.length_append]
      have := dec_len10 k (n / 10) (by rw [Nat.pow_succ] at h; omega)
      simp; omega
/-- A number as the reference reads it. -/
theorem num_ref (s : Bytes) : numB s = if offB s = true then none else if s.all isDigB = true then (if valD s ≤ 2147483647 then some (valD s : Int) else none) else none := by
  by_cases h1 : offB s = true
  · rw [if_pos h1]
    unfold numB
    rw [if_neg]
    rintro ⟨hv, hd⟩
    unfold offB at h1
    simp only [Bool.or_eq_true, Bool.and_eq_true, decide_eq_true_eq] at h1
    have hl := dec_len10 9 (valD s) (by omega)
    rcases h1 with (h1 | h1) | ⟨h1, h2⟩
    · rw [← hd] at h1
      by_cases h10 : valD s < 10
      · rw [Lib.decDigits, dif_pos h10] at h1; simp at h1
      · have := (dec_head _ (by omega : 10 ≤ valD s)).2
        rw [h1] at this; simp at this
    · rw [hd] at hl; omega
    · by_cases h10 : valD s < 10
      · rw [← hd, Lib.decDigits, dif_pos h10] at h2; simp at h2
      · have := (dec_head _ (by omega : 10 ≤ valD s)).1
        rw [hd] at this; exact this h1
  · rw [if_neg h1]
    by_cases h2 : s.all isDigB = true
    · rw [if_pos h2]
      have hall := List.all_eq_true.1 h2
      unfold offB at h1
      simp only [Bool.or_eq_true, Bool.and_eq_true, decide_eq_true_eq, not_or, not_and] at h1
      obtain ⟨⟨h1a, h1b⟩, h1c⟩ := h1
      have hdec : Lib.decDigits (valD s) = s := by
        by_cases hh : s.head? = some 48
        · have hl1 := h1c hh
          match s, h1a, hl1, hh with
          | [c], _, _, hh =>
            have : c = 48 := by simpa using hh
            subst this
            rw [show valD [48] = 0 from rfl, Lib.decDigits_one (by omega)]; rfl
          | a :: b :: r, _, hl1, _ => simp at hl1
        · exact (dec_val _ s rfl h1a hh hall).1
      unfold numB
      by_cases hv : valD s ≤ 2147483647
      · rw [if_pos hv, if_pos ⟨by omega, hdec⟩]
      · rw [if_neg hv, if_neg (fun h => hv (by omega))]
    · rw [if_neg h2]
      unfold numB
      rw [if_neg]
      rintro ⟨-, hd⟩
      apply h2
      rw [List.all_eq_true]
      intro c hc
      rw [← hd] at hc
      have := (decD_spec (valD s)).1 c hc
      unfold isDigB
      rw [decide_eq_true this.1, decide_eq_true this.2]; rfl
/-- The value of a hexadecimal digit as the reference reads it, at least 0. -/
def hexRf (c : UInt8) : Nat := if 48 ≤ c.toNat ∧ c.toNat ≤ 57 then c.toNat - 48 else if 97 ≤ c.toNat ∧ c.toNat ≤ 102 then c.toNat - 87 else 0
def hexW (a b : UInt8) : UInt8 := UInt8.ofNat (16 * hexRf a + hexRf b)
/-- What stands between the quotes, as the reference reads it. -/
def rawR : Bytes → Bytes
  | [] => []
  | [_] => []
  | 92 :: 120 :: a :: b :: c :: r => hexW a b :: rawR (c :: r)
  | 92 :: d :: r => d :: rawR r
  | c :: d :: r => c :: rawR (d :: r)
termination_by l => l.length
theorem rawR_hex (a b c : UInt8) (r : Bytes) : rawR (92 :: 120 :: a :: b :: c :: r) = hexW a b :: rawR (c :: r) := by rw [rawR]
theorem rawR_esc {d : UInt8} {r : Bytes} (h : d ≠ 120 ∨ r.length < 3) : rawR (92 :: d :: r) = d :: rawR r := by
  rw [rawR]
  intro a b c r' h1 h2
  rcases h with h | h
  · exact absurd h1 h
  · rw [h2] at h; simp at h; omega
theorem rawR_other {c d : UInt8} {r : Bytes} (h : c ≠ 92) : rawR (c :: d :: r) = c :: rawR (d :: r) := by
  rw [rawR]
  · intro a b c' r' h1 h2
    exact absurd h1 h
  · intro h1
    exact absurd h1 h
theorem hexRf_D {n : Nat} (h : n < 16) : hexRf (hexD n) = n := by
  unfold hexRf
  rw [hexD_toNat h]
  by_cases h1 : n < 10
  · rw [if_pos h1, if_pos (by omega)]; omega
  · rw [if_neg h1, if_neg (by omega), if_pos (by omega)]; omega
theorem hexW_D (c : UInt8) : hexW (hexD (c.toNat / 16)) (hexD (c.toNat % 16)) = c := by
  have hc : c.toNat < 256 := c.toNat_lt
  unfold hexW
  rw [hexRf_D (by omega), hexRf_D (by omega), Nat.div_add_mod]
  exact UInt8.ofNat_toNat
theorem rawR_quote : ∀ t : Bytes, rawR (t.flatMap qc ++ [34]) = t
  | [] => by simp [rawR]
  | c :: t => by
    rw [List.flatMap_cons, List.append_assoc]
    have ih := rawR_quote t
    obtain ⟨d, r, hr⟩ : ∃ d r, t.flatMap qc ++ [34] = d :: r := by cases h : t.flatMap qc ++ [34] with
      | nil => simp at h
      | cons d r => exact ⟨d, r, rfl⟩
    rw [hr] at ih ⊢
    unfold qc
    split
    · rename_i h
      rw [List.cons_append, List.cons_append, List.nil_append, rawR_esc (.inl (by rcases h with h | h <;> rw [h] <;> decide)), ih]
    · rename_i h
      split
      · rw [List.cons_append, List.cons_append, List.cons_append, List.cons_append, List.nil_append, rawR_hex, hexW_D, ih]
      · rw [List.cons_append, List.nil_append, rawR_other (fun h' => h (.inr h')), ih]
/-- What the reference reads between quotes, and whether it is what quoting gives. -/
def unqR (s : Bytes) : Bytes × Bool := if s.length < 2 ∨ s.head? ≠ some 34 then ([], false) else (rawR (s.drop 1), decide (quoteB (rawR (s.drop 1)) = s))
theorem unqR_iff (s : Bytes) : (unqR s).2 = true ↔ quoteB (rawL (s.drop 1)) = s := by
  constructor
  · intro h
    unfold unqR at h
    split at h
    · cases h
    · have h := of_decide_eq_true h
      have h2 : s.drop 1 = (rawR (s.drop 1)).flatMap qc ++ [34] := by
        have := congrArg (List.drop 1) h
        exact this.symm
      rw [h2, raw_quote]
      exact h
  · intro h
    have h2 : s.drop 1 = (rawL (s.drop 1)).flatMap qc ++ [34] := by
      have := congrArg (List.drop 1) h
      exact this.symm
    have h3 : rawR (s.drop 1) = rawL (s.drop 1) := by rw [h2, rawR_quote, raw_quote]
    unfold unqR
    rw [if_neg]
    · exact decide_eq_true (by rw [h3]; exact h)
    · rw [← h]
      unfold quoteB
      simp
theorem unqR_val {s : Bytes} (h : (unqR s).2 = true) : (unqR s).1 = rawL (s.drop 1) := by
  have h1 := (unqR_iff s).1 h
  have h2 : s.drop 1 = (rawL (s.drop 1)).flatMap qc ++ [34] := by
    have := congrArg (List.drop 1) h1
    exact this.symm
  unfold unqR at h ⊢
  split at h
  · cases h
  · rename_i hc
    rw [if_neg hc]
    show rawR (s.drop 1) = _
    rw [h2, rawR_quote, raw_quote]
/-- Splitting, one part after the other. -/
theorem splitB_hit (c : UInt8) : ∀ (a r : Bytes), (∀ x ∈ a, x ≠ c) → splitB c (a ++ c :: r) = a :: splitB c r
  | [], r, _ => by rw [List.nil_append, splitB, if_pos rfl]
  | x :: a, r, h => by
    rw [List.cons_append, splitB, if_neg (h x (by simp)), splitB_hit c a r (fun y hy => h y (by simp [hy]))]
theorem splitB_last (c : UInt8) : ∀ (a : Bytes), (∀ x ∈ a, x ≠ c) → splitB c a = [a]
  | [], _ => rfl
  | x :: a, h => by
    rw [splitB, if_neg (h x (by simp)), splitB_last c a (fun y hy => h y (by simp [hy]))]
end Go.Proofs.YtdfhbnfhkckkbaaGreatDoor
