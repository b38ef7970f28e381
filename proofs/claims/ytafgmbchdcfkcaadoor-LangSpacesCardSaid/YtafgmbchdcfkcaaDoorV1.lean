/-
  The tokens of a text without their offsets, in plain words: blanks do not count, a word, a number and a sign give one each. No program is run here.
-/
import Derived.Test.YtafgmbchdcfkcaaDoorBq
import Derived.Test.YtafgmbchdcfkcaaDoorS8
import Derived.Lib.ItoaNum
namespace Go.Proofs.YtafgmbchdcfkcaaDoor
open Go

abbrev Key := Nat × Bytes × Nat
/-- A token without its offset. -/
def key (T : Tok) : Key := (T.kind, T.text, T.n)
theorem toksF_key : ∀ (f : Nat) (s : Bytes) (a b : Nat), (toksF f s a).map key = (toksF f s b).map key
  | 0, _, _, _ => rfl
  | f + 1, s, a, b => by
    simp only [toksF]
    by_cases h : 3 < kindL (List.drop (skipS false s) s)
    · rw [if_pos (show 3 < (lexT _ _).kind from h), if_pos (show 3 < (lexT _ _).kind from h)]; rfl
    · rw [if_neg (show ¬ 3 < (lexT _ _).kind from h), if_neg (show ¬ 3 < (lexT _ _).kind from h), List.map_cons, List.map_cons]
      congr 1
      exact toksF_key f _ _ _
def keys (s : Bytes) : List Key := (toksF (s.length + 1) s 0).map key
theorem toks_keys (l : Bytes) (a : Nat) : (toks l a).map key = keys (l.drop a) := by
  unfold toks keys
  rw [toksF_key _ _ a 0, toksF_more ((l.drop a).length + 1) (l.drop a) 0 (by omega) (l.length + 1) (by simp)]
theorem keys_eq (s : Bytes) : keys s =
    let r := s.drop (skipS false s)
    if 3 < kindL r then [(kindL r, [], 0)] else (kindL r, r.take (lexLen r), if kindL r = 2 then valD (r.take (lexLen r)) else 0) :: keys (r.drop (lexLen r)) := by
  have h := toks_eq s 0
  have h2 := congrArg (List.map key) h
  rw [toks_keys, List.drop_zero] at h2
  rw [h2]
  simp only [Nat.zero_add]
  have hlen := lexT_len (s.drop (skipS false s)) (skipS false s)
  by_cases h3 : 3 < kindL (s.drop (skipS false s))
  · rw [if_pos h3, if_pos (show 3 < (lexT (s.drop (skipS false s)) (skipS false s)).kind from h3)]
    have h4 : ¬ kindL (s.drop (skipS false s)) = 2 := by omega
    simp [key, lexT, lex0 h3, h4]
  · rw [if_neg h3, if_neg (show ¬ 3 < (lexT (s.drop (skipS false s)) (skipS false s)).kind from h3), List.map_cons, toks_keys, hlen, List.drop_drop]
    rfl
/-- What may stand between tokens. -/
def Gap (g : Bytes) : Prop := ∀ s, skipS false (g ++ s) = g.length + skipS false s
theorem keys_gap {g : Bytes} (hg : Gap g) (s : Bytes) : keys (g ++ s) = keys s := by
  rw [keys_eq (g ++ s), keys_eq s, hg s]
  dsimp only
  rw [← List.drop_drop, List.drop_left]
theorem gap_nil : Gap [] := fun s => by simp
theorem gap_blank {c : UInt8} (hc : isB c = true) {g : Bytes} (hg : Gap g) : Gap (c :: g) := fun s => by
  rw [List.cons_append, skipS, if_pos hc, hg s, List.length_cons]
  omega
theorem gap_one {c : UInt8} (hc : isB c = true) : Gap [c] := gap_blank hc gap_nil
theorem keys_blank {c : UInt8} (hc : isB c = true) (s : Bytes) : keys (c :: s) = keys s := keys_gap (gap_one hc) s
theorem keys_nil : keys [] = [(4, [], 0)] := by rw [keys_eq]; rfl
/-- No letter and no digit stands there. -/
def Free (s : Bytes) : Prop := ∀ c r, s = c :: r → isAN c = false
theorem free_cons {c : UInt8} (h : isAN c = false) (s : Bytes) : Free (c :: s) := fun d r e => by injection e with e _; rw [← e]; exact h
theorem free_nil : Free [] := fun c r e => by cases e
theorem free_app {a s : Bytes} (ha : Free a) (hs : Free s) : Free (a ++ s) := by
  cases a with
  | nil => exact hs
  | cons c r => exact free_cons (ha c r rfl) _
theorem takeWhile_free {p : UInt8 → Bool} (hp : ∀ c, p c = true → isAN c = true) {x s : Bytes} (hx : ∀ c ∈ x, p c = true) (hs : Free s) : (x ++ s).takeWhile p = x := by
  rw [List.takeWhile_append_of_pos hx]
  cases s with
  | nil => simp
  | cons c r =>
    have : ¬ p c = true := fun h => by have h1 := hp c h; rw [hs c r rfl] at h1; cases h1
    rw [List.takeWhile_cons, if_neg this, List.append_nil]
theorem isL_range {c : UInt8} (h : isL c = true) : 97 ≤ c.toNat ∧ c.toNat ≤ 122 := by simpa [isL] using h
theorem isD_range {c : UInt8} (h : isD c = true) : 48 ≤ c.toNat ∧ c.toNat ≤ 57 := by simpa [isD] using h
theorem not_blank {c : UInt8} (h : isAN c = true ∨ isS c = true) : isB c = false ∧ (c == 35) = false := by
  have hr : c.toNat ≠ 32 ∧ c.toNat ≠ 9 ∧ c.toNat ≠ 10 ∧ c.toNat ≠ 35 := by
    rcases h with h | h
    · unfold isAN at h
      rw [Bool.or_eq_true] at h
      rcases h with h | h
      · have := isL_range h; omega
      · have := isD_range h; omega
    · unfold isS at h
      simp only [Bool.or_eq_true, beq_iff_eq] at h
      rcases h with ((rfl | rfl) | rfl) | rfl <;> decide
  obtain ⟨h1, h2, h3, h4⟩ := hr
  have e : ∀ d : UInt8, c.toNat ≠ d.toNat → (c == d) = false := fun d hd => by
    rw [beq_eq_false_iff_ne]
    intro e
    exact hd (by rw [e])
  unfold isB
  rw [e 32 h1, e 9 h2, e 10 h3, e 35 h4]
  exact ⟨rfl, rfl⟩
theorem skip_not {c : UInt8} (h : isAN c = true ∨ isS c = true) (s : Bytes) : skipS false (c :: s) = 0 := by
  obtain ⟨h1, h2⟩ := not_blank h
  rw [skipS, h1, h2]; rfl
theorem keys_lex {x s : Bytes} {k : Nat} (h0 : skipS false (x ++ s) = 0) (hk : kindL (x ++ s) = k) (h3 : k ≤ 3) (hl : lexLen (x ++ s) = x.length) : keys (x ++ s) = (k, x, if k = 2 then valD x else 0) :: keys s := by
  rw [keys_eq, h0, List.drop_zero]
  dsimp only
  rw [hk, if_neg (by omega), hl, List.take_left, List.drop_left]
theorem keys_sign {c : UInt8} (hc : isS c = true) (s : Bytes) : keys (c :: s) = (3, [c], 0) :: keys s := by
  have hn : isL c = false ∧ isD c = false := by
    unfold isS at hc
    simp only [Bool.or_eq_true, beq_iff_eq] at hc
    rcases hc with ((rfl | rfl) | rfl) | rfl <;> exact ⟨rfl, rfl⟩
  have hk : kindL ([c] ++ s) = 3 := by
    show kindL (c :: s) = 3
    rw [kindL_cons, hn.1, hn.2, hc]; rfl
  exact keys_lex (x := [c]) (skip_not (.inr hc) s) hk (by omega) (by unfold lexLen; rw [hk]; rfl)
theorem keys_word {x s : Bytes} (hx : wordB x = true) (hs : Free s) : keys (x ++ s) = (1, x, 0) :: keys s := by
  cases x with
  | nil => cases hx
  | cons c r =>
    unfold wordB at hx
    rw [Bool.and_eq_true, List.all_eq_true] at hx
    have hk : kindL ((c :: r) ++ s) = 1 := kind1_iff.2 hx.1
    have hc : isAN c = true := by unfold isAN; rw [hx.1]; rfl
    refine keys_lex (skip_not (.inl hc) _) hk (by omega) ?_
    unfold lexLen
    rw [hk]
    show rawL (c :: (r ++ s)) = _
    rw [rawL_cons, if_pos hx.1, ← List.cons_append, takeWhile_free (fun _ h => h) (fun d hd => ?_) hs]
    rcases List.mem_cons.1 hd with rfl | hd
    · exact hc
    · exact hx.2 d hd
/-- A number as it is written: at most five digits, none too much. -/
def numB (x : Bytes) : Prop := x ≠ [] ∧ (∀ c ∈ x, isD c = true) ∧ x.length ≤ 5 ∧ (1 < x.length → x.head? ≠ some 48)
theorem keys_num {x s : Bytes} (hx : numB x) (hs : Free s) : keys (x ++ s) = (2, x, valD x) :: keys s := by
  obtain ⟨h0, h1, h2, h3⟩ := hx
  cases x with
  | nil => exact absurd rfl h0
  | cons c r =>
    have hc := h1 c (by simp)
    have hL : isL c = false := by
      cases hl : isL c with
      | false => rfl
      | true => rw [isL_not_D hl] at hc; cases hc
    have hraw : rawL ((c :: r) ++ s) = (c :: r).length := by
      show rawL (c :: (r ++ s)) = _
      rw [rawL_cons, hL, ← List.cons_append, takeWhile_free (fun d h => by unfold isAN; rw [h]; simp) h1 hs]
      rfl
    have hb : badN ((c :: r) ++ s) = false := by
      unfold badN
      rw [hraw]
      simp only [Bool.or_eq_false_iff, decide_eq_false_iff_not, Bool.and_eq_false_iff, beq_eq_false_iff_ne]
      refine ⟨by omega, ?_⟩
      by_cases hl : 1 < (c :: r).length
      · exact .inr (h3 hl)
      · exact .inl hl
    have hk : kindL ((c :: r) ++ s) = 2 := kind2_iff.2 ⟨hL, hc, hb⟩
    have := keys_lex (x := c :: r) (s := s) (k := 2) (skip_not (.inl (by unfold isAN; rw [hc]; simp)) _) hk (by omega) (by unfold lexLen; rw [hk]; exact hraw)
    rw [this]; rfl

theorem dig_toNat {d : Nat} (h : d < 10) : (UInt8.ofNat (48 + d)).toNat = 48 + d := by
  rw [UInt8.toNat_ofNat']
  omega
theorem decD_spec : ∀ (n : Nat), Lib.decDigits n ≠ [] ∧ (∀ c ∈ Lib.decDigits n, isD c = true) ∧ valD (Lib.decDigits n) = n ∧ (1 < (Lib.decDigits n).length → 10 ≤ n) ∧ (1 ≤ n → (Lib.decDigits n).head? ≠ some 48) := by
  intro n
  induction n using Nat.strongRecOn with
  | _ n ih =>
    have hdig : ∀ d, d < 10 → isD (UInt8.ofNat (48 + d)) = true := fun d hd => by
      unfold isD
      rw [dig_toNat hd]
      simp; omega
    by_cases h : n < 10
    · rw [Lib.decDigits_one h]
      refine ⟨by simp, fun c hc => ?_, ?_, fun h1 => by simp at h1, fun h1 e => ?_⟩
      · rw [List.mem_singleton] at hc; rw [hc]; exact hdig n h
      · simp only [valD, List.foldl]
        rw [dig_toNat h]; omega
      · simp only [List.head?_cons, Option.some.injEq] at e
        have := congrArg UInt8.toNat e
        rw [dig_toNat h] at this
        change 48 + n = 48 at this
        omega
    · obtain ⟨i1, i2, i3, i4, i5⟩ := ih (n / 10) (by omega)
      rw [Lib.decDigits, dif_neg h]
      refine ⟨by simp, fun c hc => ?_, ?_, fun _ => by omega, fun _ e => ?_⟩
      · rcases List.mem_append.1 hc with hc | hc
        · exact i2 c hc
        · rw [List.mem_singleton] at hc; rw [hc]; exact hdig _ (by omega)
      · unfold valD at i3 ⊢
        rw [List.foldl_append, i3]
        simp only [List.foldl]
        rw [dig_toNat (by omega)]
        omega
      · refine i5 (by omega) ?_
        cases hd : Lib.decDigits (n / 10) with
        | nil => exact absurd hd i1
        | cons c r => rw [hd] at e; exact e
theorem decD_len5 {n : Nat} (h : n < 100000) : (Lib.decDigits n).length ≤ 5 := by
  rw [Lib.decDigits_length]
  by_cases h1 : n < 10
  · rw [Lib.nDigits_small h1]; omega
  · rw [Lib.nDigits_big h1]
    by_cases h2 : n / 10 < 10
    · rw [Lib.nDigits_small h2]; omega
    · rw [Lib.nDigits_big h2]
      by_cases h3 : n / 10 / 10 < 10
      · rw [Lib.nDigits_small h3]; omega
      · rw [Lib.nDigits_big h3]
        by_cases h4 : n / 10 / 10 / 10 < 10
        · rw [Lib.nDigits_small h4]; omega
        · rw [Lib.nDigits_big h4, Lib.nDigits_small (by omega)]; omega
theorem numB_dec {n : Nat} (h : n < 100000) : numB (Lib.decDigits n) := by
  obtain ⟨h1, h2, -, h4, h5⟩ := decD_spec n
  exact ⟨h1, h2, decD_len5 h, fun hl => h5 (by have := h4 hl; omega)⟩
/-- The key of a number. -/
def nK (n : Nat) : Key := (2, Lib.decDigits n, n)
theorem keys_dec {n : Nat} (h : n < 100000) {s : Bytes} (hs : Free s) : keys (Lib.decDigits n ++ s) = nK n :: keys s := by
  rw [keys_num (numB_dec h) hs, (decD_spec n).2.2.1]; rfl
theorem itoa_nat (n : Nat) : Lib.itoa (n : Int) = Lib.decDigits n := by
  unfold Lib.itoa
  rw [if_neg (by omega)]; rfl
theorem keys_itoa {x : Int} (h0 : 0 ≤ x) (h : x < 100000) {s : Bytes} (hs : Free s) : keys (Lib.itoa x ++ s) = nK x.toNat :: keys s := by
  obtain ⟨n, rfl⟩ : ∃ n : Nat, x = n := ⟨x.toNat, by omega⟩
  rw [itoa_nat, keys_dec (by omega) hs]; rfl
end Go.Proofs.YtafgmbchdcfkcaaDoor
