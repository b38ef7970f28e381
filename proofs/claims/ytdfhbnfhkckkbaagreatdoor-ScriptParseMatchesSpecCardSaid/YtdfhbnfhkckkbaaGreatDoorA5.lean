/-
  The library's cut of a text at a byte, in the words of A3. No program is run here.
-/
import Derived.Test.YtdfhbnfhkckkbaaGreatDoorA4
import Derived.Lib.SplitLaws
namespace Go.Proofs.YtdfhbnfhkckkbaaGreatDoor
open Go

theorem index_hit (c : UInt8) (l : Bytes) : Lib.index (c :: l) [c] = 0 := by
  unfold Lib.index
  rw [if_pos (by simp)]
theorem index_skip {b c : UInt8} (h : b ≠ c) (l : Bytes) : Lib.index (b :: l) [c] = if Lib.index l [c] == -1 then -1 else Lib.index l [c] + 1 := by
  conv => lhs; unfold Lib.index
  rw [if_neg (by simp [List.isPrefixOf]; exact fun e => h e.symm)]
theorem index_none {c : UInt8} : ∀ {l : Bytes}, l.count c = 0 → Lib.index l [c] = -1
  | [], _ => rfl
  | b :: l, h => by
    have hb : b ≠ c := fun e => by rw [e] at h; simp at h
    rw [List.count_cons_of_ne (by simpa using hb)] at h
    rw [index_skip hb, index_none h]; rfl
theorem index_some {c : UInt8} : ∀ {l : Bytes}, l.count c ≠ 0 → ∃ i : Nat, Lib.index l [c] = i
  | [], h => by simp at h
  | b :: l, h => by
    by_cases hb : b = c
    · subst hb; exact ⟨0, index_hit _ _⟩
    · rw [List.count_cons_of_ne (by simpa using hb)] at h
      obtain ⟨i, hi⟩ := index_some h
      refine ⟨i + 1, ?_⟩
      rw [index_skip hb, hi, if_neg (by simp <;> omega)]; omega
/-- A byte that is not the sought one goes to the first part. -/
theorem splitK_skip {b c : UInt8} (h : b ≠ c) (sv : Nat) (l : Bytes) {x : Bytes} {xs : List Bytes} (hl : Lib.splitK [c] sv (l.count c) l = x :: xs) : Lib.splitK [c] sv ((b :: l).count c) (b :: l) = (b :: x) :: xs := by
  rw [List.count_cons_of_ne (by simpa using h)]
  cases hk : l.count c with
  | zero =>
    rw [hk] at hl
    simp only [Lib.splitK] at hl ⊢
    injection hl with h1 h2
    rw [h1, h2]
  | succ k =>
    obtain ⟨i, hi⟩ := index_some (c := c) (l := l) (by omega)
    have hb : Lib.index (b :: l) [c] = ((i + 1 : Nat) : Int) := by
      rw [index_skip h, hi, if_neg (by simp <;> omega)]; omega
    rw [hk] at hl
    rw [Lib.splitK, hi, if_neg (by simp <;> omega)] at hl
    rw [Lib.splitK, hb, if_neg (by simp <;> omega)]
    injection hl with h1 h2
    rw [← h1, ← h2]
    simp only [Int.toNat_natCast, List.length_singleton]
    have e : i + 1 + sv = (i + sv) + 1 := by omega
    rw [e, List.take_succ_cons, List.drop_succ_cons]
theorem splitK_hit (c : UInt8) (sv : Nat) (l : Bytes) : Lib.splitK [c] sv ((c :: l).count c) (c :: l) = (c :: l).take sv :: Lib.splitK [c] sv (l.count c) l := by
  rw [List.count_cons_self, Lib.splitK, index_hit, if_neg (by decide)]
  simp
theorem splitK_split (c : UInt8) : ∀ l : Bytes, Lib.splitK [c] 0 (l.count c) l = splitB c l
  | [] => rfl
  | b :: l => by
    by_cases h : b = c
    · subst h
      rw [splitK_hit, splitK_split b l]
      show _ = splitB b (b :: l)
      rw [splitB, if_pos rfl]; rfl
    · cases hl : splitB c l with
      | nil => exact absurd hl (split_ne c l)
      | cons x xs =>
        rw [splitK_skip h 0 l ((splitK_split c l).trans hl)]
        show _ = splitB c (b :: l)
        rw [splitB, if_neg h, hl]
/-- The lines with their ends, and what stands behind them. -/
def pieces (l : Bytes) : List Bytes := (cutL l).1.map (· ++ [10]) ++ [(cutL l).2]
theorem splitK_after : ∀ l : Bytes, Lib.splitK [10] 1 (l.count 10) l = pieces l
  | [] => rfl
  | b :: l => by
    by_cases h : b = 10
    · subst h
      rw [splitK_hit, splitK_after l]
      unfold pieces
      rw [cutL, if_pos rfl]; rfl
    · cases hl : cutL l with
      | mk ls x =>
        cases ls with
        | nil =>
          have hp : pieces l = [x] := by unfold pieces; rw [hl]; rfl
          rw [splitK_skip h 1 l ((splitK_after l).trans hp)]
          unfold pieces
          rw [cutL, if_neg h, hl]; rfl
        | cons y ys =>
          have hp : pieces l = (y ++ [10]) :: (ys.map (· ++ [10]) ++ [x]) := by unfold pieces; rw [hl]; rfl
          rw [splitK_skip h 1 l ((splitK_after l).trans hp)]
          unfold pieces
          rw [cutL, if_neg h, hl]; rfl
end Go.Proofs.YtdfhbnfhkckkbaaGreatDoor
