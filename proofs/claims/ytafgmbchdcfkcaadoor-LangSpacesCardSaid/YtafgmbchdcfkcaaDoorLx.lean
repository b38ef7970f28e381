/-
  The tokens of the language of codes, in plain words: what stands between tokens, what a token is, the list of the tokens of a text. No program is run here.
  Bytes of a string and of a list; the first newline. No program is run here.
  Where a token's bytes end; what the reader's cuts of a text are as lists. No program is run here.
-/
import Derived.Lib.Bytealg
import Derived.Lib.Strings
namespace Go.Proofs.YtafgmbchdcfkcaaDoor

abbrev Bytes := List UInt8
def isL (c : UInt8) : Bool := decide (97 ≤ c.toNat) && decide (c.toNat ≤ 122)
def isD (c : UInt8) : Bool := decide (48 ≤ c.toNat) && decide (c.toNat ≤ 57)
def isAN (c : UInt8) : Bool := isL c || isD c
def isB (c : UInt8) : Bool := c == 32 || c == 9 || c == 10
def isS (c : UInt8) : Bool := c == 123 || c == 125 || c == 59 || c == 58

/-- How many bytes stand before the next token; true: inside a comment. -/
def skipS : Bool → Bytes → Nat
  | _, [] => 0
  | false, c :: s => if isB c then skipS false s + 1 else if c == 35 then skipS true s + 1 else 0
  | true, c :: s => if c == 10 then skipS false s + 1 else skipS true s + 1

theorem skipS_le : ∀ (b : Bool) (s : Bytes), skipS b s ≤ s.length
  | _, [] => Nat.le_refl _
  | false, c :: s => by
    rw [skipS]
    have h1 := skipS_le false s
    have h2 := skipS_le true s
    simp only [List.length_cons]
    split
    · omega
    · split <;> omega
  | true, c :: s => by
    rw [skipS]
    have h1 := skipS_le false s
    have h2 := skipS_le true s
    simp only [List.length_cons]
    split <;> omega

/-- What stands behind is a token's first byte, or the end. -/
theorem skipS_stop : ∀ (b : Bool) (s : Bytes) (c : UInt8) (r : Bytes), s.drop (skipS b s) = c :: r → isB c = false ∧ (c == 35) = false
  | _, [], c, r, h => by simp [skipS] at h
  | false, d :: s, c, r, h => by
    rw [skipS] at h
    split at h
    · rw [List.drop_succ_cons] at h; exact skipS_stop false s c r h
    · rename_i hb
      split at h
      · rw [List.drop_succ_cons] at h; exact skipS_stop true s c r h
      · rename_i hc
        rw [List.drop_zero] at h
        injection h with h1 _
        subst h1
        exact ⟨by simpa using hb, by simpa using hc⟩
  | true, d :: s, c, r, h => by
    rw [skipS] at h
    split at h
    · rw [List.drop_succ_cons] at h; exact skipS_stop false s c r h
    · rw [List.drop_succ_cons] at h; exact skipS_stop true s c r h

theorem skipS_idem (b : Bool) (s : Bytes) : skipS false (s.drop (skipS b s)) = 0 := by
  cases h : s.drop (skipS b s) with
  | nil => rfl
  | cons c r =>
    obtain ⟨h1, h2⟩ := skipS_stop b s c r h
    rw [skipS]
    simp [h1, h2]

/-- A comment goes on to the next newline, or to the end. -/
theorem skipS_comment : ∀ (s : Bytes), skipS true s = (s.takeWhile (· != 10)).length + skipS false (s.drop (s.takeWhile (· != 10)).length)
  | [] => rfl
  | c :: s => by
    rw [skipS]
    by_cases h : c = 10
    · subst h
      simp [skipS, isB]
    · have ih := skipS_comment s
      have h1 : (c == 10) = false := by simpa using h
      have h2 : (c != 10) = true := by simpa using h
      rw [if_neg (by simp [h1]), List.takeWhile_cons, if_pos h2]
      simp only [List.length_cons, List.drop_succ_cons]
      omega

/-- How many bytes of a kind stand there. -/
def rawL : Bytes → Nat
  | [] => 0
  | c :: s => if isL c then ((c :: s).takeWhile isAN).length else ((c :: s).takeWhile isD).length

def badN (s : Bytes) : Bool := decide (5 < rawL s) || decide (1 < rawL s) && s.head? == some 48
/-- The kind of the token that stands there: 1 a word, 2 a number, 3 a sign, 4 the end, 5 none. -/
def kindL : Bytes → Nat
  | [] => 4
  | c :: s => if isL c then 1 else if isD c then (if badN (c :: s) then 5 else 2) else if isS c then 3 else 5
theorem rawL_cons (c : UInt8) (s : Bytes) : rawL (c :: s) = if isL c then ((c :: s).takeWhile isAN).length else ((c :: s).takeWhile isD).length := rfl
theorem kindL_cons (c : UInt8) (s : Bytes) : kindL (c :: s) = if isL c then 1 else if isD c then (if badN (c :: s) then 5 else 2) else if isS c then 3 else 5 := rfl
def lexLen (s : Bytes) : Nat := match kindL s with
  | 1 => rawL s
  | 2 => rawL s
  | 3 => 1
  | _ => 0
def valD (s : Bytes) : Nat := s.foldl (fun n c => 10 * n + (c.toNat - 48)) 0

structure Tok where
  at_ : Nat
  kind : Nat
  text : Bytes
  n : Nat

def lexT (s : Bytes) (a : Nat) : Tok := ⟨a, kindL s, s.take (lexLen s), if kindL s = 2 then valD (s.take (lexLen s)) else 0⟩

def toksF : Nat → Bytes → Nat → List Tok
  | 0, _, _ => []
  | f + 1, s, a =>
    let k := skipS false s
    let T := lexT (s.drop k) (a + k)
    if 3 < T.kind then [T] else T :: toksF f (s.drop (k + T.text.length)) (a + k + T.text.length)
/-- The tokens of the text l from the offset a on. -/
def toks (l : Bytes) (a : Nat) : List Tok := toksF (l.length + 1) (l.drop a) a

theorem rawL_le (s : Bytes) : rawL s ≤ s.length := by
  cases s with
  | nil => exact Nat.le_refl _
  | cons c s =>
    rw [rawL_cons]
    split
    · exact (List.takeWhile_sublist _).length_le
    · exact (List.takeWhile_sublist _).length_le

theorem rawL_pos {c : UInt8} {s : Bytes} (h : isAN c = true) : 0 < rawL (c :: s) := by
  rw [rawL_cons]
  by_cases hl : isL c = true
  · rw [if_pos hl, List.takeWhile_cons, if_pos h]; simp
  · have hd : isD c = true := by unfold isAN at h; simpa [hl] using h
    rw [if_neg hl, List.takeWhile_cons, if_pos hd]; simp

theorem kind_cases (s : Bytes) : kindL s = 1 ∨ kindL s = 2 ∨ kindL s = 3 ∨ kindL s = 4 ∨ kindL s = 5 := by
  cases s with
  | nil => right; right; right; left; rfl
  | cons c s =>
    rw [kindL_cons]
    split
    · left; rfl
    · split
      · split
        · simp
        · simp
      · split <;> simp

theorem lexLen_le (s : Bytes) : lexLen s ≤ s.length := by
  have hr := rawL_le s
  unfold lexLen
  cases s with
  | nil => simp [kindL]
  | cons c s =>
    rcases kind_cases (c :: s) with h | h | h | h | h <;> rw [h] <;> simp only [List.length_cons] at hr ⊢ <;> omega

theorem lexLen_pos {s : Bytes} (h : kindL s ≤ 3) : 0 < lexLen s := by
  cases s with
  | nil => simp [kindL] at h
  | cons c s =>
    unfold lexLen
    rcases kind_cases (c :: s) with h1 | h1 | h1 | h1 | h1
    · rw [h1]
      have : isL c = true := by
        rw [kindL_cons] at h1
        split at h1
        · assumption
        · split at h1
          · split at h1 <;> omega
          · split at h1 <;> omega
      exact rawL_pos (by simp [isAN, this])
    · rw [h1]
      have : isD c = true := by
        rw [kindL_cons] at h1
        split at h1
        · omega
        · split at h1
          · assumption
          · split at h1 <;> omega
      exact rawL_pos (by simp [isAN, this])
    · rw [h1]; exact Nat.one_pos
    · omega
    · omega

theorem lexLen_zero {s : Bytes} (h : 3 < kindL s) : lexLen s = 0 := by
  unfold lexLen
  rcases kind_cases s with h1 | h1 | h1 | h1 | h1 <;> rw [h1] <;> first | rfl | omega

theorem lexT_len (s : Bytes) (a : Nat) : (lexT s a).text.length = lexLen s := by
  have := lexLen_le s
  simp only [lexT, List.length_take]
  omega

theorem toksF_more : ∀ (f : Nat) (s : Bytes) (a : Nat), s.length < f → ∀ g, f ≤ g → toksF g s a = toksF f s a
  | 0, s, a, h, g, hg => by omega
  | f + 1, s, a, h, 0, hg => by omega
  | f + 1, s, a, h, g + 1, hg => by
    have hk := skipS_le false s
    simp only [toksF]
    split
    · rfl
    · rename_i h3
      have hp := lexLen_pos (s := s.drop (skipS false s)) (by simp only [lexT] at h3; omega)
      have hl := lexT_len (s.drop (skipS false s)) (a + skipS false s)
      have hle := lexLen_le (s.drop (skipS false s))
      rw [List.length_drop] at hle
      congr 1
      exact toksF_more f _ _ (by rw [List.length_drop]; omega) g (by omega)

/-- The tokens from an offset on: the next one, and those behind it. -/
theorem toks_eq (l : Bytes) (a : Nat) : toks l a =
    let k := skipS false (l.drop a)
    let T := lexT (l.drop (a + k)) (a + k)
    if 3 < T.kind then [T] else T :: toks l (a + k + T.text.length) := by
  unfold toks
  rw [toksF]
  simp only [List.drop_drop]
  split
  · rfl
  · rename_i h3
    congr 1
    have hp := lexLen_pos (s := l.drop (a + skipS false (l.drop a))) (by simp only [lexT] at h3; omega)
    have hl := lexT_len (l.drop (a + skipS false (l.drop a))) (a + skipS false (l.drop a))
    have hle := lexLen_le (l.drop (a + skipS false (l.drop a)))
    rw [List.length_drop] at hle
    rw [show a + (skipS false (l.drop a) + (lexT (l.drop (a + skipS false (l.drop a))) (a + skipS false (l.drop a))).text.length) = a + skipS false (l.drop a) + (lexT (l.drop (a + skipS false (l.drop a))) (a + skipS false (l.drop a))).text.length by omega]
    exact (toksF_more l.length _ _ (by rw [List.length_drop]; omega) (l.length + 1) (by omega)).symm

theorem toks_skip (l : Bytes) (a : Nat) : toks l (a + skipS false (l.drop a)) = toks l a := by
  rw [toks_eq l a, toks_eq l (a + skipS false (l.drop a))]
  have h0 : skipS false (l.drop (a + skipS false (l.drop a))) = 0 := by rw [← List.drop_drop]; exact skipS_idem _ _
  simp only [h0, Nat.add_zero]
end Go.Proofs.YtafgmbchdcfkcaaDoor
namespace Go.Proofs.YtafgmbchdcfkcaaDoor
open Go

theorem byte_get {t : ByteArray} {m : Nat} (h : m < t.size) : t.data.toList[m]? = some t[m] := by
  obtain ⟨⟨l⟩⟩ := t
  have h' : m < l.length := h
  simp only [List.getElem?_eq_getElem h']
  rfl
theorem drop_byte {t : ByteArray} {m : Nat} (h : m < t.size) : t.data.toList.drop m = t[m] :: t.data.toList.drop (m + 1) := by
  have hl : m < t.data.toList.length := by rw [← Lib.size_eq]; exact h
  rw [List.drop_eq_getElem_cons hl]
  have h1 := List.getElem?_eq_getElem hl
  rw [byte_get h] at h1
  injection h1 with h1
  rw [h1]
theorem drop_end {t : ByteArray} {m : Nat} (h : t.size ≤ m) : t.data.toList.drop m = [] := List.drop_of_length_le (by rw [← Lib.size_eq]; exact h)
theorem byte_eq (c d : UInt8) : ((c.toNat : Int) == (d.toNat : Int)) = (c == d) := by
  rw [Bool.eq_iff_iff]
  simp only [beq_iff_eq]
  constructor
  · intro h; exact UInt8.toNat_inj.1 (by omega)
  · rintro rfl; rfl

/-- The first byte c, or -1. -/
theorem indexByte_eq (c : UInt8) : ∀ l : Bytes, Lib.indexByte l c = if c ∈ l then (((l.takeWhile (· != c)).length : Nat) : Int) else -1
  | [] => rfl
  | x :: l => by
    have ih := indexByte_eq c l
    rw [Lib.indexByte]
    by_cases h : x = c
    · subst h; simp
    · have h' : ¬ c = x := fun e => h e.symm
      rw [ih]
      by_cases hm : c ∈ l
      · simp [h, h', hm]
      · simp [h, h', hm]
theorem takeWhile_all {c : UInt8} : ∀ {l : Bytes}, c ∉ l → l.takeWhile (· != c) = l
  | [], _ => rfl
  | x :: l, h => by
    have hx : (x != c) = true := by
      have : x ≠ c := fun e => h (by simp [e])
      simpa using this
    rw [List.takeWhile_cons, if_pos hx, takeWhile_all (fun hm => h (List.mem_cons_of_mem _ hm))]
end Go.Proofs.YtafgmbchdcfkcaaDoor
namespace Go.Proofs.YtafgmbchdcfkcaaDoor
open Go

def inT (c0 c : UInt8) : Bool := isD c || (isL c0 && isL c)
theorem isL_not_D {c : UInt8} (h : isL c = true) : isD c = false := by
  unfold isL at h; unfold isD
  simp at h ⊢; omega
theorem rawL_inT (c0 : UInt8) (s : Bytes) : rawL (c0 :: s) = ((c0 :: s).takeWhile (inT c0)).length := by
  rw [rawL_cons]
  by_cases h : isL c0 = true
  · rw [if_pos h]
    congr 2
    funext c
    simp only [isAN, inT, h, Bool.true_and]
    exact Bool.or_comm _ _
  · rw [if_neg h]
    congr 2
    funext c
    simp [inT, h]
theorem takeWhile_at {p : UInt8 → Bool} : ∀ (s : Bytes) (i : Nat), i < (s.takeWhile p).length → ∃ c, s[i]? = some c ∧ p c = true
  | [], i, h => by simp at h
  | x :: s, i, h => by
    rw [List.takeWhile_cons] at h
    by_cases hx : p x = true
    · rw [if_pos hx] at h
      cases i with
      | zero => exact ⟨x, rfl, hx⟩
      | succ i => exact takeWhile_at s i (by simpa using h)
    · rw [if_neg hx] at h; simp at h
theorem takeWhile_end {p : UInt8 → Bool} : ∀ (s : Bytes) (c : UInt8), s[(s.takeWhile p).length]? = some c → p c = false
  | [], c, h => by simp at h
  | x :: s, c, h => by
    rw [List.takeWhile_cons] at h
    by_cases hx : p x = true
    · rw [if_pos hx] at h
      exact takeWhile_end s c (by simpa using h)
    · rw [if_neg hx] at h
      have : x = c := by simpa using h
      subst this; simpa using hx
theorem raw_at {c0 : UInt8} {s : Bytes} {i : Nat} (h : i < rawL (c0 :: s)) : ∃ c, (c0 :: s)[i]? = some c ∧ inT c0 c = true := by
  rw [rawL_inT] at h; exact takeWhile_at _ _ h
theorem raw_end {c0 c : UInt8} {s : Bytes} (h : (c0 :: s)[rawL (c0 :: s)]? = some c) : inT c0 c = false := by
  rw [rawL_inT] at h; exact takeWhile_end _ _ h

theorem raw_zero {c0 : UInt8} {s : Bytes} (h1 : isL c0 = false) (h2 : isD c0 = false) : rawL (c0 :: s) = 0 := by
  rw [rawL_cons, h1]; simp [h2]

/-- The list behind a cut. -/
theorem cut_list {t : ByteArray} {a : Nat} : (t.extract a t.size).data.toList = t.data.toList.drop a := by
  rw [Lib.extract_data, List.take_of_length_le (by rw [List.length_drop, ← Lib.size_eq]; omega)]
theorem bytes_eta (t : ByteArray) : (⟨t.data.toList.toArray⟩ : ByteArray) = t := rfl
theorem bytes_ext {s t : ByteArray} (h : s.data.toList = t.data.toList) : s = t := by
  rw [← bytes_eta s, ← bytes_eta t, h]
theorem isEmpty_list (t : ByteArray) : t.toList.isEmpty = t.data.toList.isEmpty := by rw [Lib.toList_data]
theorem sign_index (c : UInt8) : decide (0 ≤ Lib.indexByte [123, 125, 59, 58] c) = isS c := by
  rw [indexByte_eq]
  unfold isS
  by_cases h : c ∈ ([123, 125, 59, 58] : Bytes)
  · rw [if_pos h]
    have h1 : (c == 123 || c == 125 || c == 59 || c == 58) = true := by simpa [or_assoc] using h
    rw [h1]; simp
  · rw [if_neg h]
    have h1 : (c == 123 || c == 125 || c == 59 || c == 58) = false := by
      rw [Bool.eq_false_iff]
      intro e
      exact h (by simpa [or_assoc] using e)
    rw [h1]; rfl
end Go.Proofs.YtafgmbchdcfkcaaDoor
