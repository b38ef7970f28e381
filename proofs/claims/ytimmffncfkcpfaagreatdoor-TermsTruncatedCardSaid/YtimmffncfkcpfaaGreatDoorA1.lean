/-
  The tokens of the language of contracts, in plain words; bytes of strings and of lists. No program is run here.
-/
import Derived.Lib.Bytealg
import Derived.Lib.Strings
namespace Go.Proofs.YtimmffncfkcpfaaGreatDoor
open Go

abbrev Bytes := List UInt8
def isL (c : UInt8) : Bool := decide (97 ≤ c.toNat) && decide (c.toNat ≤ 122)
def isD (c : UInt8) : Bool := decide (48 ≤ c.toNat) && decide (c.toNat ≤ 57)
def isAN (c : UInt8) : Bool := isL c || isD c
def isB (c : UInt8) : Bool := c == 32 || c == 9 || c == 10
def isS (c : UInt8) : Bool := c == 123 || c == 125 || c == 59

/-- How many bytes stand before the next token; true: inside a comment. -/
def skipS : Bool → Bytes → Nat
  | _, [] => 0
  | false, c :: s => if isB c then skipS false s + 1 else if c == 35 then skipS true s + 1 else 0
  | true, c :: s => if c == 10 then skipS false s + 1 else skipS true s + 1

theorem skipS_le : ∀ (b : Bool) (s : Bytes), skipS b s ≤ s.length
  | _, [] => Nat.le_refl _
  | false, c :: s => by
    rw [skipS]
    have h1 := skipS_le false s
    have h2 := skipS_le true s
    simp only [List.length_cons]
    split
    · omega
    · split <;> omega
  | true, c :: s => by
    rw [skipS]
    have h1 := skipS_le false s
    have h2 := skipS_le true s
    simp only [List.length_cons]
    split <;> omega

/-- What stands behind is a token's first byte, or the end. -/
theorem skipS_stop : ∀ (b : Bool) (s : Bytes) (c : UInt8) (r : Bytes), s.drop (skipS b s) = c :: r → isB c = false ∧ (c == 35) = false
  | _, [], c, r, h => by simp [skipS] at h
  | false, d :: s, c, r, h => by
    rw [skipS] at h
    split at h
    · rw [List.drop_succ_cons] at h; exact skipS_stop false s c r h
    · rename_i hb
      split at h
      · rw [List.drop_succ_cons] at h; exact skipS_stop true s c r h
      · rename_i hc
        rw [List.drop_zero] at h
        injection h with h1 _
        subst h1
        exact ⟨by simpa using hb, by simpa using hc⟩
  | true, d :: s, c, r, h => by
    rw [skipS] at h
    split at h
    · rw [List.drop_succ_cons] at h; exact skipS_stop false s c r h
    · rw [List.drop_succ_cons] at h; exact skipS_stop true s c r h

theorem skipS_idem (b : Bool) (s : Bytes) : skipS false (s.drop (skipS b s)) = 0 := by
  cases h : s.drop (skipS b s) with
  | nil => rfl
  | cons c r =>
    obtain ⟨h1, h2⟩ := skipS_stop b s c r h
    rw [skipS]
    simp [h1, h2]

/-- A comment goes on to the next newline, or to the end. -/
theorem skipS_comment : ∀ (s : Bytes), skipS true s = (s.takeWhile (· != 10)).length + skipS false (s.drop (s.takeWhile (· != 10)).length)
  | [] => rfl
  | c :: s => by
    rw [skipS]
    by_cases h : c = 10
    · subst h
      simp [skipS, isB]
    · have ih := skipS_comment s
      have h1 : (c == 10) = false := by simpa using h
      have h2 : (c != 10) = true := by simpa using h
      rw [if_neg (by simp [h1]), List.takeWhile_cons, if_pos h2]
      simp only [List.length_cons, List.drop_succ_cons]
      omega

theorem byte_get {t : ByteArray} {m : Nat} (h : m < t.size) : t.data.toList[m]? = some t[m] := by
  obtain ⟨⟨l⟩⟩ := t
  have h' : m < l.length := h
  simp only [List.getElem?_eq_getElem h']
  rfl
theorem drop_byte {t : ByteArray} {m : Nat} (h : m < t.size) : t.data.toList.drop m = t[m] :: t.data.toList.drop (m + 1) := by
  have hl : m < t.data.toList.length := by rw [← Lib.size_eq]; exact h
  rw [List.drop_eq_getElem_cons hl]
  have h1 := List.getElem?_eq_getElem hl
  rw [byte_get h] at h1
  injection h1 with h1
  rw [h1]
theorem drop_end {t : ByteArray} {m : Nat} (h : t.size ≤ m) : t.data.toList.drop m = [] := List.drop_of_length_le (by rw [← Lib.size_eq]; exact h)
theorem byte_eq (c d : UInt8) : ((c.toNat : Int) == (d.toNat : Int)) = (c == d) := by
  rw [Bool.eq_iff_iff]
  simp only [beq_iff_eq]
  constructor
  · intro h; exact UInt8.toNat_inj.1 (by omega)
  · rintro rfl; rfl

/-- The first byte c, or -1. -/
theorem indexByte_eq (c : UInt8) : ∀ l : Bytes, Lib.indexByte l c = if c ∈ l then (((l.takeWhile (· != c)).length : Nat) : Int) else -1
  | [] => rfl
  | x :: l => by
    have ih := indexByte_eq c l
    rw [Lib.indexByte]
    by_cases h : x = c
    · subst h; simp
    · have h' : ¬ c = x := fun e => h e.symm
      rw [ih]
      by_cases hm : c ∈ l
      · simp [h, h', hm]
      · simp [h, h', hm]
theorem takeWhile_all {c : UInt8} : ∀ {l : Bytes}, c ∉ l → l.takeWhile (· != c) = l
  | [], _ => rfl
  | x :: l, h => by
    have hx : (x != c) = true := by
      have : x ≠ c := fun e => h (by simp [e])
      simpa using this
    rw [List.takeWhile_cons, if_pos hx, takeWhile_all (fun hm => h (List.mem_cons_of_mem _ hm))]
theorem isL_not_D {c : UInt8} (h : isL c = true) : isD c = false := by
  unfold isL at h; unfold isD
  simp at h ⊢; omega
theorem takeWhile_at {p : UInt8 → Bool} : ∀ (s : Bytes) (i : Nat), i < (s.takeWhile p).length → ∃ c, s[i]? = some c ∧ p c = true
  | [], i, h => by simp at h
  | x :: s, i, h => by
    rw [List.takeWhile_cons] at h
    by_cases hx : p x = true
    · rw [if_pos hx] at h
      cases i with
      | zero => exact ⟨x, rfl, hx⟩
      | succ i => exact takeWhile_at s i (by simpa using h)
    · rw [if_neg hx] at h; simp at h
theorem takeWhile_end {p : UInt8 → Bool} : ∀ (s : Bytes) (c : UInt8), s[(s.takeWhile p).length]? = some c → p c = false
  | [], c, h => by simp at h
  | x :: s, c, h => by
    rw [List.takeWhile_cons] at h
    by_cases hx : p x = true
    · rw [if_pos hx] at h
      exact takeWhile_end s c (by simpa using h)
    · rw [if_neg hx] at h
      have : x = c := by simpa using h
      subst this; simpa using hx
/-- The list behind a cut. -/
theorem cut_list {t : ByteArray} {a : Nat} : (t.extract a t.size).data.toList = t.data.toList.drop a := by
  rw [Lib.extract_data, List.take_of_length_le (by rw [List.length_drop, ← Lib.size_eq]; omega)]
theorem bytes_eta (t : ByteArray) : (⟨t.data.toList.toArray⟩ : ByteArray) = t := rfl
theorem bytes_ext {s t : ByteArray} (h : s.data.toList = t.data.toList) : s = t := by
  rw [← bytes_eta s, ← bytes_eta t, h]
theorem isEmpty_list (t : ByteArray) : t.toList.isEmpty = t.data.toList.isEmpty := by rw [Lib.toList_data]

def wordB : Bytes → Bool
  | [] => false
  | c :: r => isL c && r.all isAN
def numB : Bytes → Bool
  | [] => false
  | c :: r => (c :: r).all isD && decide (r.length ≤ 7) && (r.isEmpty || c != 48)
def runT (s : Bytes) : Bytes := s.takeWhile isAN
/-- The text of the token that stands there; none: no text. -/
def lexS : Bytes → Bytes
  | [] => []
  | c :: s => if isS c then [c] else if wordB (runT (c :: s)) || numB (runT (c :: s)) then runT (c :: s) else []
structure Tok where
  text : Bytes
  at_ : Nat
def nextT (l : Bytes) (a : Nat) : Tok := ⟨lexS (l.drop (a + skipS false (l.drop a))), a + skipS false (l.drop a)⟩
def toksF : Nat → Bytes → Nat → List Tok
  | 0, _, _ => []
  | f + 1, s, a => if lexS (s.drop (skipS false s)) = [] then [⟨[], a + skipS false s⟩] else
    ⟨lexS (s.drop (skipS false s)), a + skipS false s⟩ :: toksF f (s.drop (skipS false s + (lexS (s.drop (skipS false s))).length)) (a + skipS false s + (lexS (s.drop (skipS false s))).length)
/-- The tokens of the text l from the offset a on; the last one has no text. -/
def toks (l : Bytes) (a : Nat) : List Tok := toksF (l.length + 1) (l.drop a) a
theorem lexS_cons (c : UInt8) (s : Bytes) : lexS (c :: s) = if isS c then [c] else if wordB (runT (c :: s)) || numB (runT (c :: s)) then runT (c :: s) else [] := rfl
theorem runT_le (s : Bytes) : (runT s).length ≤ s.length := (List.takeWhile_sublist _).length_le
theorem lexS_le (s : Bytes) : (lexS s).length ≤ s.length := by
  cases s with
  | nil => exact Nat.le_refl _
  | cons c s =>
    have := runT_le (c :: s)
    rw [lexS_cons]
    split
    · simp
    · split
      · exact this
      · simp
theorem lexS_take (s : Bytes) : lexS s = s.take (lexS s).length := by
  cases s with
  | nil => rfl
  | cons c s =>
    rw [lexS_cons]
    split
    · rfl
    · split
      · exact List.prefix_iff_eq_take.1 (List.takeWhile_prefix isAN)
      · rfl
theorem toksF_more : ∀ (f : Nat) (s : Bytes) (a : Nat), s.length < f → ∀ g, f ≤ g → toksF g s a = toksF f s a
  | 0, s, a, h, g, hg => by omega
  | f + 1, s, a, h, 0, hg => by omega
  | f + 1, s, a, h, g + 1, hg => by
    rw [toksF, toksF]
    split
    · rfl
    · rename_i h3
      have hk := skipS_le false s
      have hp : 0 < (lexS (s.drop (skipS false s))).length := List.length_pos_iff.2 h3
      have hle := lexS_le (s.drop (skipS false s))
      rw [List.length_drop] at hle
      congr 1
      exact toksF_more f _ _ (by rw [List.length_drop]; omega) g (by omega)
/-- The tokens from an offset on: the next one, and those behind it. -/
theorem toks_eq (l : Bytes) (a : Nat) : toks l a = if (nextT l a).text = [] then [nextT l a] else nextT l a :: toks l ((nextT l a).at_ + (nextT l a).text.length) := by
  unfold toks
  rw [toksF]
  simp only [List.drop_drop]
  by_cases h : lexS (l.drop (a + skipS false (l.drop a))) = []
  · rw [if_pos h, if_pos (show (nextT l a).text = [] from h)]
    simp only [nextT, h]
  · rw [if_neg h, if_neg (show ¬ (nextT l a).text = [] from h)]
    have hp : 0 < (lexS (l.drop (a + skipS false (l.drop a)))).length := List.length_pos_iff.2 h
    have hle := lexS_le (l.drop (a + skipS false (l.drop a)))
    rw [List.length_drop] at hle
    show _ :: _ = _ :: _
    congr 1
    rw [Nat.add_assoc]
    show _ = toksF (l.length + 1) (l.drop (a + skipS false (l.drop a) + (lexS (l.drop (a + skipS false (l.drop a)))).length)) (a + skipS false (l.drop a) + (lexS (l.drop (a + skipS false (l.drop a)))).length)
    rw [Nat.add_assoc]
    exact (toksF_more l.length _ _ (by rw [List.length_drop]; omega) (l.length + 1) (by omega)).symm
theorem nextT_le {l : Bytes} {a : Nat} (ha : a ≤ l.length) : (nextT l a).at_ + (nextT l a).text.length ≤ l.length := by
  have hk := skipS_le false (l.drop a)
  have hle := lexS_le (l.drop (a + skipS false (l.drop a)))
  rw [List.length_drop] at hk hle
  show a + skipS false (l.drop a) + _ ≤ _
  simp only [nextT]
  omega
end Go.Proofs.YtimmffncfkcpfaaGreatDoor
