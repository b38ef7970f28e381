/-
  The tokens of a text without their offsets, in plain words: blanks do not count, a word, a number and a sign give one each. No program is run here.
-/
import Derived.Test.YtimmffncfkcpfaaGreatDoorA3
namespace Go.Proofs.YtimmffncfkcpfaaGreatDoor
open Go

/-- A token without its offset; none: it stands at the end of the n bytes. -/
def key (n : Nat) (T : Tok) : Option Bytes := if n ≤ T.at_ then none else some T.text
theorem toksF_key : ∀ (f : Nat) (s : Bytes) (a b : Nat), (toksF f s a).map (key (a + s.length)) = (toksF f s b).map (key (b + s.length))
  | 0, _, _, _ => rfl
  | f + 1, s, a, b => by
    have hk : ∀ x : Bytes, key (a + s.length) ⟨x, a + skipS false s⟩ = key (b + s.length) ⟨x, b + skipS false s⟩ := fun x => by
      unfold key
      by_cases h : s.length ≤ skipS false s
      · rw [if_pos (show a + s.length ≤ a + skipS false s by omega), if_pos (show b + s.length ≤ b + skipS false s by omega)]
      · rw [if_neg (show ¬ a + s.length ≤ a + skipS false s by omega), if_neg (show ¬ b + s.length ≤ b + skipS false s by omega)]
    have h1 := skipS_le false s
    have h2 := lexS_le (s.drop (skipS false s))
    rw [List.length_drop] at h2
    simp only [toksF]
    split
    · rw [List.map_cons, List.map_cons, hk]; rfl
    · rw [List.map_cons, List.map_cons, hk]
      congr 1
      have := toksF_key f (s.drop (skipS false s + (lexS (s.drop (skipS false s))).length)) (a + skipS false s + (lexS (s.drop (skipS false s))).length) (b + skipS false s + (lexS (s.drop (skipS false s))).length)
      rw [List.length_drop, show a + skipS false s + (lexS (s.drop (skipS false s))).length + (s.length - (skipS false s + (lexS (s.drop (skipS false s))).length)) = a + s.length by omega,
        show b + skipS false s + (lexS (s.drop (skipS false s))).length + (s.length - (skipS false s + (lexS (s.drop (skipS false s))).length)) = b + s.length by omega] at this
      exact this
def keys (s : Bytes) : List (Option Bytes) := (toksF (s.length + 1) s 0).map (key s.length)
theorem toks_keys (l : Bytes) (a : Nat) (ha : a ≤ l.length) : (toks l a).map (key l.length) = keys (l.drop a) := by
  have h := toksF_key (l.length + 1) (l.drop a) a 0
  rw [List.length_drop, Nat.add_sub_cancel' ha, Nat.zero_add] at h
  unfold toks keys
  rw [h, toksF_more ((l.drop a).length + 1) (l.drop a) 0 (by omega) (l.length + 1) (by simp), List.length_drop]
theorem keys_eq (s : Bytes) : keys s = if lexS (s.drop (skipS false s)) = [] then [if s.length ≤ skipS false s then none else some []] else some (lexS (s.drop (skipS false s))) :: keys (s.drop (skipS false s + (lexS (s.drop (skipS false s))).length)) := by
  have h := toks_eq s 0
  have h2 := congrArg (List.map (key s.length)) h
  have h1 := skipS_le false s
  have h3 := lexS_le (s.drop (skipS false s))
  rw [List.length_drop] at h3
  rw [toks_keys s 0 (by omega), List.drop_zero] at h2
  rw [h2]
  simp only [nextT, Nat.zero_add, List.drop_zero]
  split
  · rename_i h4
    rw [List.map_cons, List.map_nil, key]
    simp only [h4]
  · rename_i h4
    have hp := List.length_pos_iff.2 h4
    rw [List.map_cons, toks_keys s _ (by omega), key, if_neg (by show ¬ s.length ≤ skipS false s; omega)]
/-- What may stand between tokens. -/
def Gap (g : Bytes) : Prop := ∀ s, skipS false (g ++ s) = g.length + skipS false s
theorem keys_gap {g : Bytes} (hg : Gap g) (s : Bytes) : keys (g ++ s) = keys s := by
  rw [keys_eq (g ++ s), keys_eq s, hg s]
  have e0 : (if (g ++ s).length ≤ g.length + skipS false s then none else some []) = (if s.length ≤ skipS false s then none else some [] : Option Bytes) := by
    rw [List.length_append]
    by_cases h : s.length ≤ skipS false s
    · rw [if_pos h, if_pos (by omega)]
    · rw [if_neg h, if_neg (by omega)]
  have e : ∀ k, (g ++ s).drop (g.length + k) = s.drop k := fun k => by rw [← List.drop_drop, List.drop_left]
  rw [Nat.add_assoc, e, e, e0]
theorem gap_nil : Gap [] := fun s => by simp
theorem gap_blank {c : UInt8} (hc : isB c = true) {g : Bytes} (hg : Gap g) : Gap (c :: g) := fun s => by
  rw [List.cons_append, skipS, if_pos hc, hg s, List.length_cons]
  omega
theorem gap_one {c : UInt8} (hc : isB c = true) : Gap [c] := gap_blank hc gap_nil
theorem keys_blank {c : UInt8} (hc : isB c = true) (s : Bytes) : keys (c :: s) = keys s := keys_gap (gap_one hc) s
theorem keys_nil : keys [] = [none] := by rw [keys_eq]; rfl
/-- No letter and no digit stands there. -/
def Free (s : Bytes) : Prop := ∀ c r, s = c :: r → isAN c = false
theorem free_cons {c : UInt8} (h : isAN c = false) (s : Bytes) : Free (c :: s) := fun d r e => by injection e with e _; rw [← e]; exact h
theorem free_nil : Free [] := fun c r e => by cases e
theorem run_free {x s : Bytes} (hx : ∀ c ∈ x, isAN c = true) (hs : Free s) : runT (x ++ s) = x := by
  unfold runT
  rw [List.takeWhile_append_of_pos hx]
  cases s with
  | nil => simp
  | cons c r =>
    have : ¬ isAN c = true := by rw [hs c r rfl]; simp
    rw [List.takeWhile_cons, if_neg this, List.append_nil]
theorem isL_range {c : UInt8} (h : isL c = true) : 97 ≤ c.toNat ∧ c.toNat ≤ 122 := by simpa [isL] using h
theorem isD_range {c : UInt8} (h : isD c = true) : 48 ≤ c.toNat ∧ c.toNat ≤ 57 := by simpa [isD] using h
theorem an_range {c : UInt8} (h : isAN c = true) : (97 ≤ c.toNat ∧ c.toNat ≤ 122) ∨ (48 ≤ c.toNat ∧ c.toNat ≤ 57) := by
  unfold isAN at h
  rw [Bool.or_eq_true] at h
  rcases h with h | h
  · exact .inl (isL_range h)
  · exact .inr (isD_range h)
theorem ne_of_nat {c d : UInt8} (h : c.toNat ≠ d.toNat) : (c == d) = false := by
  rw [beq_eq_false_iff_ne]
  intro e
  exact h (by rw [e])
theorem not_blank {c : UInt8} (h : isAN c = true ∨ isS c = true) : isB c = false ∧ (c == 35) = false := by
  have hr : c.toNat ≠ 32 ∧ c.toNat ≠ 9 ∧ c.toNat ≠ 10 ∧ c.toNat ≠ 35 := by
    rcases h with h | h
    · have := an_range h; omega
    · unfold isS at h
      simp only [Bool.or_eq_true, beq_iff_eq] at h
      rcases h with (rfl | rfl) | rfl <;> decide
  obtain ⟨h1, h2, h3, h4⟩ := hr
  unfold isB
  rw [ne_of_nat (d := 32) h1, ne_of_nat (d := 9) h2, ne_of_nat (d := 10) h3, ne_of_nat (d := 35) h4]
  exact ⟨rfl, rfl⟩
theorem an_not_sign {c : UInt8} (h : isAN c = true) : isS c = false := by
  have := an_range h
  unfold isS
  rw [ne_of_nat (d := 123) (show c.toNat ≠ 123 by omega), ne_of_nat (d := 125) (show c.toNat ≠ 125 by omega), ne_of_nat (d := 59) (show c.toNat ≠ 59 by omega)]
  rfl
theorem skip_not {c : UInt8} (h : isAN c = true ∨ isS c = true) (s : Bytes) : skipS false (c :: s) = 0 := by
  obtain ⟨h1, h2⟩ := not_blank h
  rw [skipS, h1, h2]; rfl
theorem keys_lex {x s : Bytes} (h0 : skipS false (x ++ s) = 0) (hx : x ≠ []) (hl : lexS (x ++ s) = x) : keys (x ++ s) = some x :: keys s := by
  rw [keys_eq, h0, List.drop_zero, hl, if_neg hx, Nat.zero_add, List.drop_left]
theorem keys_sign {c : UInt8} (hc : isS c = true) (s : Bytes) : keys (c :: s) = some [c] :: keys s := by
  refine keys_lex (x := [c]) (skip_not (.inr hc) s) (by simp) ?_
  show lexS (c :: s) = _
  rw [lexS_cons, if_pos hc]
theorem keys_an {x s : Bytes} (hx : wordB x = true ∨ numB x = true) (ha : ∀ c ∈ x, isAN c = true) (hs : Free s) : keys (x ++ s) = some x :: keys s := by
  cases x with
  | nil => rcases hx with h | h <;> cases h
  | cons c r =>
    have hc := ha c (by simp)
    refine keys_lex (skip_not (.inl hc) _) (by simp) ?_
    show lexS (c :: (r ++ s)) = _
    rw [lexS_cons, an_not_sign hc, ← List.cons_append, run_free ha hs, if_neg (by simp), if_pos (by rw [Bool.or_eq_true]; exact hx)]
theorem word_an {x : Bytes} (hx : wordB x = true) : ∀ c ∈ x, isAN c = true := by
  cases x with
  | nil => cases hx
  | cons c r =>
    unfold wordB at hx
    rw [Bool.and_eq_true, List.all_eq_true] at hx
    intro d hd
    rcases List.mem_cons.1 hd with rfl | hd
    · unfold isAN; rw [hx.1]; rfl
    · exact hx.2 d hd
theorem num_an {x : Bytes} (hx : numB x = true) : ∀ c ∈ x, isAN c = true := by
  cases x with
  | nil => cases hx
  | cons c r =>
    intro d hd
    unfold isAN; rw [(numB_cons.1 hx).1 d hd]; simp
theorem keys_word {x s : Bytes} (hx : wordB x = true) (hs : Free s) : keys (x ++ s) = some x :: keys s := keys_an (.inl hx) (word_an hx) hs
theorem keys_num {x s : Bytes} (hx : numB x = true) (hs : Free s) : keys (x ++ s) = some x :: keys s := keys_an (.inr hx) (num_an hx) hs
theorem decD_len8 {n : Nat} (h : n < 100000000) : (Lib.decDigits n).length ≤ 8 := by
  have hb : ∀ (k m : Nat), m < 10 ^ k → 1 ≤ k → Lib.nDigits m ≤ k := by
    intro k
    induction k with
    | zero => intro m _ h; omega
    | succ k ih =>
      intro m hm _
      by_cases h1 : m < 10
      · rw [Lib.nDigits_small h1]; omega
      · rw [Lib.nDigits_big h1]
        have hk : 1 ≤ k := by
          cases k with
          | zero => simp at hm; omega
          | succ k => omega
        have : m / 10 < 10 ^ k := by rw [Nat.pow_succ] at hm; exact Nat.div_lt_of_lt_mul (by rw [Nat.mul_comm]; exact hm)
        have := ih (m / 10) this hk
        omega
  rw [Lib.decDigits_length]
  exact hb 8 n (by simpa using h) (by omega)
theorem numB_dec {n : Nat} (h : n < 100000000) : numB (Lib.decDigits n) = true := by
  obtain ⟨h1, h2, h3, -, -⟩ := decD_spec n
  rw [num_dec h1 h2, h3]
  simp [decD_len8 h]
theorem keys_itoa {x : Int} (h0 : 0 ≤ x) (h : x < 100000000) {s : Bytes} (hs : Free s) : keys (Lib.itoa x ++ s) = some (Lib.itoa x) :: keys s := by
  obtain ⟨n, rfl⟩ : ∃ n : Nat, x = n := ⟨x.toNat, by omega⟩
  rw [itoa_nat, keys_num (numB_dec (by omega)) hs]
end Go.Proofs.YtimmffncfkcpfaaGreatDoor
