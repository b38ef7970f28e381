/-
  The loop of differ in plain words: which bits are still to come, what has come. No program is run here.
-/
import Derived.Test.YtognbkmamhgkeaaDoorMd
import Derived.Test.YtognbkmamhgkeaaDoorMs
namespace Go.Proofs.YtognbkmamhgkeaaDoor
open Go Go.RowKit Go.Walks

/-- What is left of the bits H when all below k are done. -/
structure Left (H both k : Nat) : Prop where
  lt : both < 65536
  le : k ≤ 16
  bit : ∀ j, j < 16 → both.testBit j = (decide (k ≤ j) && H.testBit j)

theorem Left.start {H : Nat} (h : H < 65536) : Left H H 0 := ⟨h, by omega, fun j _ => by simp⟩

theorem Left.low {H both k i : Nat} (h : Left H both k) (hl : Low both i) : k ≤ i ∧ i < 16 ∧ H.testBit i = true ∧ ∀ j, k ≤ j → j < i → H.testBit j = false := by
  have hi := low_lt hl h.lt
  have h1 := low_bit hl i (Nat.le_refl _)
  rw [h.bit i hi] at h1
  simp at h1
  refine ⟨h1.1, hi, h1.2, fun j hk hj => ?_⟩
  have h2 := low_bit hl j (by omega)
  rw [h.bit j (by omega)] at h2
  have : decide (j = i) = false := by simp; omega
  rw [this] at h2
  simpa [hk] using h2

theorem Left.next {H both k i : Nat} (h : Left H both k) (hl : Low both i) : Left H (both &&& (both - 1)) (i + 1) := by
  obtain ⟨hk, hi, hb, hz⟩ := h.low hl
  refine ⟨Nat.lt_of_le_of_lt Nat.and_le_left h.lt, by omega, fun j hj => ?_⟩
  rw [low_clear hl, h.bit j hj]
  by_cases e : j = i
  · subst e; simp; omega
  · by_cases hlt : i + 1 ≤ j
    · have h1 : k ≤ j := by omega
      simp [hlt, h1, e]
    · by_cases hkj : k ≤ j
      · simp [hz j hkj (by omega)]
      · simp [hkj]; omega

theorem Left.lt_ {both i : Nat} (hl : Low both i) : both &&& (both - 1) < both := by
  have := low_pos hl
  have h2 : both &&& (both - 1) ≤ both - 1 := Nat.and_le_right
  omega

theorem Left.done {H k : Nat} (h : Left H 0 k) : ∀ j, k ≤ j → j < 16 → H.testBit j = false := by
  intro j hk hj
  have := h.bit j hj
  simp [hk] at this
  exact this

theorem occ_none {w : World} {T : TV} {L q j : Nat} (h : Sub w T L q) (hj : j < 16) (ho : occ T L (16 * q + j) = false) : ∀ x, x / 16 ^ L = 16 * q + j → T.m x = none := by
  intro x hx
  cases L with
  | zero =>
    simp only [Nat.pow_zero, Nat.div_one] at hx
    subst hx
    simp only [occ] at ho
    cases e : T.m (16 * q + j) <;> simp_all
  | succ L =>
    simp only [occ] at ho
    cases e : T.m x with
    | none => rfl
    | some c =>
      have := (h.2 j hj).iff.2 ⟨x, hx, by rw [e]; rfl⟩
      rw [ho] at this; cases this

/-- Children that neither tree has bring nothing. -/
theorem diff_gap {m1 m2 : Nat → Option Int} {L q k i lo : Nat} (hlo : lo = q * 16 ^ (L + 1)) (hk : k ≤ i)
    (h : ∀ j, k ≤ j → j < i → ∀ x, x / 16 ^ L = 16 * q + j → m1 x = m2 x) : diffR m1 m2 lo (i * 16 ^ L) = diffR m1 m2 lo (k * 16 ^ L) := by
  have hp : 0 < 16 ^ L := Nat.pow_pos (by omega)
  obtain ⟨d, rfl⟩ := Nat.exists_eq_add_of_le hk
  rw [Nat.add_mul, diffR_add]
  have : diffR m1 m2 (lo + k * 16 ^ L) (d * 16 ^ L) = [] := by
    apply diffR_nil
    intro x hx1 hx2
    have e : lo = 16 * q * 16 ^ L := by rw [hlo, Nat.pow_succ, Nat.mul_comm (16 ^ L) 16, ← Nat.mul_assoc, Nat.mul_comm q 16]
    have h1 : (16 * q + k) * 16 ^ L ≤ x := by rw [Nat.add_mul]; omega
    have h2 : x < (16 * q + k + d) * 16 ^ L := by rw [Nat.add_mul, Nat.add_mul]; omega
    have h3 : 16 * q + k ≤ x / 16 ^ L := (Nat.le_div_iff_mul_le hp).2 h1
    have h4 : x / 16 ^ L < 16 * q + k + d := (Nat.div_lt_iff_lt_mul hp).2 h2
    exact h (x / 16 ^ L - 16 * q) (by omega) (by omega) x (by omega)
  rw [this, List.append_nil]

theorem diff_child {m1 m2 : Nat → Option Int} {L lo i : Nat} : diffR m1 m2 lo ((i + 1) * 16 ^ L) = diffR m1 m2 lo (i * 16 ^ L) ++ diffR m1 m2 (lo + i * 16 ^ L) (16 ^ L) := by
  rw [Nat.add_mul, Nat.one_mul, diffR_add]

theorem diff_len_le {m1 m2 : Nat → Option Int} {lo n k : Nat} (h : n ≤ k) : (diffR m1 m2 lo n).length ≤ (diffR m1 m2 lo k).length := by
  obtain ⟨d, rfl⟩ := Nat.exists_eq_add_of_le h
  rw [diffR_add]; simp

theorem diff_prefix {m1 m2 : Nat → Option Int} {lo n k : Nat} (h : n ≤ k) : diffR m1 m2 lo n <+: diffR m1 m2 lo k := by
  obtain ⟨d, rfl⟩ := Nat.exists_eq_add_of_le h
  rw [diffR_add]; exact List.prefix_append _ _

end Go.Proofs.YtognbkmamhgkeaaDoor
