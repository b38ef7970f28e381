/-
  The lowest bit of a number below 65536: plain arithmetic.
-/
namespace Go.Walks

/-- i is the lowest bit of x. -/
def Low (x i : Nat) : Prop := ∃ y, x = 2 ^ i * (2 * y + 1)

theorem low_ex : ∀ (x : Nat), 0 < x → ∃ i, Low x i := by
  intro x
  induction x using Nat.strongRecOn with
  | _ x ih =>
    intro hx
    by_cases h : x % 2 = 1
    · exact ⟨0, x / 2, by simp; omega⟩
    · obtain ⟨i, y, hy⟩ := ih (x / 2) (by omega) (by omega)
      refine ⟨i + 1, y, ?_⟩
      have : x = 2 * (x / 2) := by omega
      rw [this, hy, Nat.pow_succ, Nat.mul_comm (2 ^ i) 2, Nat.mul_assoc]

theorem low_split {x i y : Nat} (h : x = 2 ^ i * (2 * y + 1)) : x = 2 ^ (i + 1) * y + 2 ^ i := by
  rw [h, Nat.mul_add, Nat.pow_succ, Nat.mul_one, Nat.mul_assoc]

theorem low_bit {x i : Nat} (h : Low x i) (j : Nat) : j ≤ i → x.testBit j = decide (j = i) := by
  obtain ⟨y, hy⟩ := h
  intro hj
  rw [low_split hy, Nat.testBit_two_pow_mul_add _ (Nat.pow_lt_pow_right (by omega) (by omega)), if_pos (by omega), Nat.testBit_two_pow]
  by_cases e : i = j
  · simp [e]
  · simp [e, Ne.symm e]

theorem low_pred {x i : Nat} (h : Low x i) (j : Nat) : (x - 1).testBit j = if j < i then true else if j = i then false else x.testBit j := by
  obtain ⟨y, hy⟩ := h
  have hp : 0 < 2 ^ i := Nat.pow_pos (by omega)
  have e : x - 1 = 2 ^ (i + 1) * y + (2 ^ i - 1) := by rw [low_split hy]; omega
  have hlt : 2 ^ i < 2 ^ (i + 1) := Nat.pow_lt_pow_right (by omega) (by omega)
  rw [e, Nat.testBit_two_pow_mul_add _ (by omega : 2 ^ i - 1 < 2 ^ (i + 1)), Nat.testBit_two_pow_sub_one]
  by_cases h1 : j < i
  · rw [if_pos (by omega), if_pos h1]; simp [h1]
  · rw [if_neg h1]
    by_cases h2 : j = i
    · rw [if_pos (by omega), if_pos h2]; simp [h2]
    · rw [if_neg (by omega), if_neg h2, low_split hy, Nat.testBit_two_pow_mul_add _ hlt, if_neg (by omega)]

theorem low_lt {x i : Nat} (h : Low x i) (hx : x < 65536) : i < 16 := by
  obtain ⟨y, hy⟩ := h
  rcases Nat.lt_or_ge i 16 with h | h
  · exact h
  · have : 2 ^ 16 ≤ 2 ^ i := Nat.pow_le_pow_right (by omega) h
    have h2 : 2 ^ i * 1 ≤ 2 ^ i * (2 * y + 1) := Nat.mul_le_mul_left _ (by omega)
    omega

theorem low_pos {x i : Nat} (h : Low x i) : 0 < x := by
  obtain ⟨y, rfl⟩ := h
  exact Nat.mul_pos (Nat.pow_pos (by omega)) (by omega)

/-- x & (x - 1): the lowest bit is gone. -/
theorem low_clear {x i : Nat} (h : Low x i) (j : Nat) : (x &&& (x - 1)).testBit j = (x.testBit j && !decide (j = i)) := by
  rw [Nat.testBit_and, low_pred h]
  by_cases h1 : j < i
  · rw [if_pos h1, low_bit h j (by omega)]; simp; omega
  · rw [if_neg h1]
    by_cases h2 : j = i
    · simp [h2]
    · rw [if_neg h2]; simp [h2]

/-- x & -x over sixteen bits. -/
theorem low_only {x i : Nat} (h : Low x i) (hx : x < 65536) : x &&& (65536 - x) = 2 ^ i := by
  have hp := low_pos h
  have hi := low_lt h hx
  apply Nat.eq_of_testBit_eq
  intro j
  have e : 65536 - x = 2 ^ 16 - ((x - 1) + 1) := by omega
  rw [Nat.testBit_and, e, Nat.testBit_two_pow_sub_succ (by omega), low_pred h, Nat.testBit_two_pow]
  by_cases h1 : j < i
  · rw [if_pos h1]; simp; omega
  · rw [if_neg h1]
    by_cases h2 : j = i
    · rw [if_pos h2, low_bit h j (by omega)]; simp [h2, hi]
    · rw [if_neg h2]
      have : decide (i = j) = false := by simp; omega
      rw [this]
      cases x.testBit j <;> simp

end Go.Walks
