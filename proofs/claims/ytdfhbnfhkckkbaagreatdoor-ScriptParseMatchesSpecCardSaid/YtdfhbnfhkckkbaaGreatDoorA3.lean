/-
  The text of scripts in plain words: printing, parsing line by line. No program is run here.
-/
import Derived.Test.YtdfhbnfhkckkbaaGreatDoorA2
import Derived.Lib.ItoaNum
namespace Go.Proofs.YtdfhbnfhkckkbaaGreatDoor
open Go

def arrayW : Bytes := [97, 114, 114, 97, 121]
def textW : Bytes := [116, 101, 120, 116, 32]
def hexD (n : Nat) : UInt8 := UInt8.ofNat (if n < 10 then 48 + n else 87 + n)
/-- A byte in quotes. -/
def qc (c : UInt8) : Bytes := if c = 34 ∨ c = 92 then [92, c] else if c.toNat < 32 ∨ 126 < c.toNat then [92, 120, hexD (c.toNat / 16), hexD (c.toNat % 16)] else [c]
def quoteB (t : Bytes) : Bytes := 34 :: (t.flatMap qc ++ [34])
def hex1 (c : UInt8) : Option Nat := if 48 ≤ c.toNat ∧ c.toNat ≤ 57 then some (c.toNat - 48) else if 97 ≤ c.toNat ∧ c.toNat ≤ 102 then some (c.toNat - 87) else if 65 ≤ c.toNat ∧ c.toNat ≤ 70 then some (c.toNat - 55) else none
/-- The byte with two digits, or 0. -/
def hexV (a b : UInt8) : UInt8 := match hex1 a, hex1 b with
  | some x, some y => UInt8.ofNat (16 * x + y)
  | _, _ => 0
/-- What stands between the quotes, read as bytes; the last byte is not read as one. -/
def rawL : Bytes → Bytes
  | [] => []
  | [_] => []
  | 92 :: 120 :: a :: b :: r => hexV a b :: rawL r
  | 92 :: d :: r => d :: rawL r
  | c :: d :: r => c :: rawL (d :: r)
termination_by l => l.length
def wordsB (w : Bytes) (l : List Int) : Bytes := w ++ l.flatMap fun n => 32 :: Lib.itoa n
def lineT (t : Bytes) : Bytes := textW ++ quoteB t
def lineX (x : StepD) : Bytes := wordsB (nameB x.kind) x.args
/-- The lines of a script. -/
def linesT (s : ScriptD) : List Bytes := wordsB arrayW s.cfg :: (s.texts.map lineT ++ s.steps.map lineX)
def joinT (l : List Bytes) : Bytes := l.flatMap (· ++ [10])
def printT (s : ScriptD) : Bytes := joinT (linesT s)
/-- The text, and the error. -/
def printB (s : ScriptD) : Bytes × Nat := if (checkB s).2 ≠ 0 then ([], (checkB s).2) else if 200000 < (printT s).length then ([], 2) else (printT s, 0)

/-- The parts between the bytes s. -/
def splitB (s : UInt8) : Bytes → List Bytes
  | [] => [[]]
  | c :: r => if c = s then [] :: splitB s r else match splitB s r with
    | [] => [[c]]
    | x :: xs => (c :: x) :: xs
/-- The lines that end, and what stands behind them. -/
def cutL : Bytes → List Bytes × Bytes
  | [] => ([], [])
  | c :: r => if c = 10 then ([] :: (cutL r).1, (cutL r).2) else match cutL r with
    | ([], x) => ([], c :: x)
    | (l :: ls, x) => ((c :: l) :: ls, x)
def valD (s : Bytes) : Nat := s.foldl (fun n c => 10 * n + (c.toNat - 48)) 0
/-- The number that is written so. -/
def numB (s : Bytes) : Option Int := if valD s < 2147483648 ∧ Lib.decDigits (valD s) = s then some (valD s : Int) else none
def numsB : List Bytes → Option (List Int)
  | [] => some []
  | s :: l => match numB s with
    | none => none
    | some n => match numsB l with
      | none => none
      | some r => some (n :: r)
def fieldsB (x : Bytes) : Option (Bytes × List Int) := match splitB 32 x with
  | [] => none
  | w :: l => match numsB l with
    | none => none
    | some r => some (w, r)
def idxB (w : Bytes) : List (Bytes × Nat) → Nat → Nat
  | [], _ => 0
  | x :: l, k => if x.1 = w then k + 1 else idxB w l (k + 1)
def kindOf (w : Bytes) : Nat := idxB w kindsB 0
/-- A script with one more line. -/
def lineB (s : ScriptD) (n : Nat) (x : Bytes) : Option ScriptD :=
  if 0 < n ∧ x.take 5 = textW then
    (if quoteB (rawL (x.drop 6)) = x.drop 5 ∧ s.steps = [] then some ⟨s.cfg, s.texts ++ [rawL (x.drop 6)], s.steps⟩ else none)
  else match fieldsB x with
    | none => none
    | some (w, l) => if n = 0 then (if w = arrayW ∧ l.length = 6 then some ⟨l, s.texts, s.steps⟩ else none)
      else if fitsB (kindOf w) l.length = true then some ⟨s.cfg, s.texts, s.steps ++ [⟨kindOf w, l⟩]⟩ else none
def linesB : ScriptD → Nat → List Bytes → Except Nat ScriptD
  | s, _, [] => .ok s
  | s, n, x :: l => match lineB s n x with
    | none => .error n
    | some s' => linesB s' (n + 1) l
/-- The script with a text, or the line and the error. -/
def parseB (t : Bytes) : Except (Nat × Nat) ScriptD :=
  if 200000 < t.length then .error (0, 2)
  else match linesB emptyS 0 (cutL t).1 with
    | .error n => .error (n, 3)
    | .ok s => if (cutL t).1 = [] ∨ (cutL t).2 ≠ [] then .error ((cutL t).1.length, 3) else if (checkB s).2 ≠ 0 then .error (0, (checkB s).2) else .ok s
/-- The content with a number. -/
def unitB (k : Int) : Bytes := (List.replicate 4 (bigB (k % 18446744073709551616).toNat 8)).flatten

theorem hexD_toNat {n : Nat} (h : n < 16) : (hexD n).toNat = if n < 10 then 48 + n else 87 + n := by
  unfold hexD
  rw [UInt8.toNat_ofNat']
  split <;> omega
theorem hex1_D {n : Nat} (h : n < 16) : hex1 (hexD n) = some n := by
  unfold hex1
  rw [hexD_toNat h]
  by_cases h1 : n < 10
  · rw [if_pos h1, if_pos (by omega)]; congr 1; omega
  · rw [if_neg h1, if_neg (by omega), if_pos (by omega)]; congr 1; omega
theorem hexV_D (c : UInt8) : hexV (hexD (c.toNat / 16)) (hexD (c.toNat % 16)) = c := by
  have hc : c.toNat < 256 := c.toNat_lt
  unfold hexV
  rw [hex1_D (by omega), hex1_D (by omega)]
  dsimp only
  rw [Nat.div_add_mod]
  exact UInt8.ofNat_toNat
theorem raw_esc {c : UInt8} {r : Bytes} (h : c ≠ 120) : rawL (92 :: c :: r) = c :: rawL r := by
  rw [rawL]
  intro a b r' h1 h2
  exact absurd h1 h
theorem raw_hex (a b : UInt8) (r : Bytes) : rawL (92 :: 120 :: a :: b :: r) = hexV a b :: rawL r := by rw [rawL]
theorem raw_other {c d : UInt8} {r : Bytes} (h : c ≠ 92) : rawL (c :: d :: r) = c :: rawL (d :: r) := by
  rw [rawL]
  · intro a b r' h1 h2
    exact absurd h1 h
  · intro h1
    exact absurd h1 h
/-- What is quoted is read back. -/
theorem raw_quote : ∀ t : Bytes, rawL (t.flatMap qc ++ [34]) = t
  | [] => by simp [rawL]
  | c :: t => by
    rw [List.flatMap_cons, List.append_assoc]
    have ih := raw_quote t
    obtain ⟨d, r, hr⟩ : ∃ d r, t.flatMap qc ++ [34] = d :: r := by cases h : t.flatMap qc ++ [34] with
      | nil => simp at h
      | cons d r => exact ⟨d, r, rfl⟩
    rw [hr] at ih ⊢
    unfold qc
    split
    · rename_i h
      rw [List.cons_append, List.cons_append, List.nil_append, raw_esc (by rcases h with h | h <;> rw [h] <;> decide), ih]
    · rename_i h
      split
      · rw [List.cons_append, List.cons_append, List.cons_append, List.cons_append, List.nil_append, raw_hex, hexV_D, ih]
      · rw [List.cons_append, List.nil_append, raw_other (fun h' => h (.inr h')), ih]
theorem unq_quote (t : Bytes) : rawL ((quoteB t).drop 1) = t := raw_quote t

theorem dig_toNat {d : Nat} (h : d < 10) : (UInt8.ofNat (48 + d)).toNat = 48 + d := by
  rw [UInt8.toNat_ofNat']
  omega
theorem decD_spec : ∀ (n : Nat), (∀ c ∈ Lib.decDigits n, 48 ≤ c.toNat ∧ c.toNat ≤ 57) ∧ valD (Lib.decDigits n) = n := by
  intro n
  induction n using Nat.strongRecOn with
  | _ n ih =>
    have hdig : ∀ d, d < 10 → 48 ≤ (UInt8.ofNat (48 + d)).toNat ∧ (UInt8.ofNat (48 + d)).toNat ≤ 57 := fun d hd => by
      rw [dig_toNat hd]; omega
    by_cases h : n < 10
    · rw [Lib.decDigits_one h]
      refine ⟨fun c hc => ?_, ?_⟩
      · rw [List.mem_singleton] at hc; rw [hc]; exact hdig n h
      · simp only [valD, List.foldl]
        rw [dig_toNat h]; omega
    · obtain ⟨i2, i3⟩ := ih (n / 10) (by omega)
      rw [Lib.decDigits, dif_neg h]
      refine ⟨fun c hc => ?_, ?_⟩
      · rcases List.mem_append.1 hc with hc | hc
        · exact i2 c hc
        · rw [List.mem_singleton] at hc; rw [hc]; exact hdig _ (by omega)
      · unfold valD at i3 ⊢
        rw [List.foldl_append, i3]
        simp only [List.foldl]
        rw [dig_toNat (by omega)]
        omega
theorem itoa_nat (n : Nat) : Lib.itoa (n : Int) = Lib.decDigits n := by
  unfold Lib.itoa
  rw [if_neg (by omega)]; rfl
theorem num_itoa {n : Int} (h0 : 0 ≤ n) (h1 : n ≤ 2147483647) : numB (Lib.itoa n) = some n := by
  obtain ⟨k, rfl⟩ : ∃ k : Nat, n = k := ⟨n.toNat, by omega⟩
  rw [itoa_nat, numB, (decD_spec k).2, if_pos ⟨by omega, rfl⟩]
theorem num_can {s : Bytes} {n : Int} (h : numB s = some n) : s = Lib.itoa n ∧ 0 ≤ n ∧ n ≤ 2147483647 := by
  unfold numB at h
  split at h
  · rename_i g
    obtain rfl : (valD s : Int) = n := by simpa using h
    rw [itoa_nat]
    exact ⟨g.2.symm, by omega, by omega⟩
  · cases h
theorem itoa_free {n : Int} (h0 : 0 ≤ n) {c : UInt8} (hc : c.toNat < 48) : c ∉ Lib.itoa n := by
  obtain ⟨k, rfl⟩ : ∃ k : Nat, n = k := ⟨n.toNat, by omega⟩
  rw [itoa_nat]
  intro h
  have := (decD_spec k).1 c h
  omega
theorem split_ne (s : UInt8) : ∀ x : Bytes, splitB s x ≠ []
  | [] => by simp [splitB]
  | c :: r => by
    rw [splitB]
    split
    · simp
    · split <;> simp
theorem split_free (s : UInt8) : ∀ (x r : Bytes), s ∉ x → splitB s (x ++ s :: r) = x :: splitB s r
  | [], r, _ => by rw [List.nil_append, splitB, if_pos rfl]
  | c :: x, r, h => by
    rw [List.cons_append, splitB, if_neg (fun e => h (by simp [e])), split_free s x r fun h' => h (by simp [h'])]
theorem split_last (s : UInt8) : ∀ x : Bytes, s ∉ x → splitB s x = [x]
  | [], _ => rfl
  | c :: x, h => by
    rw [splitB, if_neg (fun e => h (by simp [e])), split_last s x fun h' => h (by simp [h'])]
theorem split_join (s : UInt8) : ∀ (l : List Bytes) (x : Bytes), s ∉ x → (∀ y ∈ l, s ∉ y) → splitB s (x ++ l.flatMap fun y => s :: y) = x :: l
  | [], x, h, _ => by rw [List.flatMap_nil, List.append_nil, split_last s x h]
  | y :: l, x, h, hl => by
    rw [List.flatMap_cons, List.cons_append, split_free s x _ h, split_join s l y (hl y (by simp)) fun z hz => hl z (by simp [hz])]
theorem join_split (s : UInt8) : ∀ (x : Bytes) (w : Bytes) (l : List Bytes), splitB s x = w :: l → x = w ++ l.flatMap (fun y => s :: y) ∧ s ∉ w
  | [], w, l, h => by
    obtain ⟨rfl, rfl⟩ : [] = w ∧ [] = l := by simpa [splitB] using h
    exact ⟨rfl, by simp⟩
  | c :: r, w, l, h => by
    rw [splitB] at h
    split at h
    · rename_i hc
      obtain ⟨rfl, rfl⟩ : [] = w ∧ splitB s r = l := by simpa using h
      cases hr : splitB s r with
      | nil => exact absurd hr (split_ne s r)
      | cons v l' => rw [hc, (join_split s r v l' hr).1]; simp
    · rename_i hc
      split at h
      · rename_i hr; exact absurd hr (split_ne s r)
      · rename_i v l' hr
        obtain ⟨rfl, rfl⟩ : c :: v = w ∧ l' = l := by simpa using h
        obtain ⟨h1, h2⟩ := join_split s r v l' hr
        refine ⟨by rw [List.cons_append, ← h1], fun h' => ?_⟩
        rcases List.mem_cons.1 h' with h' | h'
        · exact hc h'.symm
        · exact h2 h'
theorem nums_itoa : ∀ l : List Int, (∀ n ∈ l, 0 ≤ n ∧ n ≤ 2147483647) → numsB (l.map Lib.itoa) = some l
  | [], _ => rfl
  | n :: l, h => by
    rw [List.map_cons, numsB, num_itoa (h n (by simp)).1 (h n (by simp)).2]
    dsimp only
    rw [nums_itoa l fun m hm => h m (by simp [hm])]
theorem nums_can : ∀ (l : List Bytes) (r : List Int), numsB l = some r → l = r.map Lib.itoa ∧ ∀ n ∈ r, 0 ≤ n ∧ n ≤ 2147483647
  | [], r, h => by
    obtain rfl : [] = r := by simpa [numsB] using h
    exact ⟨rfl, fun n hn => by cases hn⟩
  | s :: l, r, h => by
    rw [numsB] at h
    split at h
    · cases h
    · rename_i n hn
      split at h
      · cases h
      · rename_i r' hr
        obtain rfl : n :: r' = r := by simpa using h
        obtain ⟨h1, h2⟩ := nums_can l r' hr
        obtain ⟨g1, g2⟩ := num_can hn
        refine ⟨by rw [List.map_cons, ← h1, ← g1], fun m hm => ?_⟩
        rcases List.mem_cons.1 hm with rfl | hm
        · exact g2
        · exact h2 m hm
theorem fields_words {w : Bytes} {l : List Int} (hw : 32 ∉ w) (hl : ∀ n ∈ l, 0 ≤ n ∧ n ≤ 2147483647) : fieldsB (wordsB w l) = some (w, l) := by
  have e : wordsB w l = w ++ (l.map Lib.itoa).flatMap fun y => 32 :: y := by unfold wordsB; rw [List.flatMap_map]
  rw [fieldsB, e, split_join 32 _ w hw]
  · dsimp only
    rw [nums_itoa l hl]
  · intro y hy
    obtain ⟨n, hn, rfl⟩ := List.mem_map.1 hy
    exact itoa_free (hl n hn).1 (by decide)
theorem fields_can {x w : Bytes} {l : List Int} (h : fieldsB x = some (w, l)) : x = wordsB w l ∧ 32 ∉ w ∧ ∀ n ∈ l, 0 ≤ n ∧ n ≤ 2147483647 := by
  unfold fieldsB at h
  split at h
  · cases h
  · rename_i w' l' hs
    split at h
    · cases h
    · rename_i r hr
      obtain ⟨rfl, rfl⟩ : w' = w ∧ r = l := by simpa using h
      obtain ⟨h1, h2⟩ := join_split 32 x _ _ hs
      obtain ⟨h3, h4⟩ := nums_can _ _ hr
      refine ⟨?_, h2, h4⟩
      rw [h1, h3, List.flatMap_map, wordsB]
theorem cut_free : ∀ (x r : Bytes), 10 ∉ x → cutL (x ++ 10 :: r) = (x :: (cutL r).1, (cutL r).2)
  | [], r, _ => by rw [List.nil_append, cutL, if_pos rfl]
  | c :: x, r, h => by
    rw [List.cons_append, cutL, if_neg (fun e => h (by simp [e])), cut_free x r fun h' => h (by simp [h'])]
theorem cut_last : ∀ x : Bytes, 10 ∉ x → cutL x = ([], x)
  | [], _ => rfl
  | c :: x, h => by
    rw [cutL, if_neg (fun e => h (by simp [e])), cut_last x fun h' => h (by simp [h'])]
theorem cut_join : ∀ (l : List Bytes) (r : Bytes), (∀ y ∈ l, 10 ∉ y) → 10 ∉ r → cutL (joinT l ++ r) = (l, r)
  | [], r, _, h => by rw [joinT, List.flatMap_nil, List.nil_append, cut_last r h]
  | y :: l, r, hl, h => by
    have := cut_join l r (fun z hz => hl z (by simp [hz])) h
    rw [joinT] at this
    rw [joinT, List.flatMap_cons, List.append_assoc, List.append_assoc, List.cons_append, List.nil_append, cut_free y _ (hl y (by simp)), this]
theorem join_cut : ∀ (x : Bytes), x = joinT (cutL x).1 ++ (cutL x).2 ∧ (∀ y ∈ (cutL x).1, 10 ∉ y) ∧ 10 ∉ (cutL x).2
  | [] => ⟨rfl, (fun y hy => by cases hy), by simp [cutL]⟩
  | c :: r => by
    obtain ⟨h1, h2, h3⟩ := join_cut r
    rw [cutL]
    split
    · rename_i hc
      refine ⟨?_, fun y hy => ?_, h3⟩
      · dsimp only
        rw [joinT, List.flatMap_cons, List.append_assoc, List.nil_append, List.cons_append, List.nil_append, hc]
        exact congrArg _ h1
      · rcases List.mem_cons.1 hy with rfl | hy
        · simp
        · exact h2 y hy
    · rename_i hc
      split
      · rename_i x hx
        rw [hx] at h1 h3
        refine ⟨by rw [joinT, List.flatMap_nil, List.nil_append, h1]; rfl, (fun y hy => by cases hy), fun h => ?_⟩
        rcases List.mem_cons.1 h with h | h
        · exact hc h.symm
        · exact h3 h
      · rename_i l ls x hx
        rw [hx] at h1 h2 h3
        refine ⟨?_, fun y hy => ?_, h3⟩
        · rw [h1]; rfl
        · rcases List.mem_cons.1 hy with rfl | hy
          · intro h
            rcases List.mem_cons.1 h with h | h
            · exact hc h.symm
            · exact h2 l (by simp) h
          · exact h2 y (by simp [hy])
end Go.Proofs.YtdfhbnfhkckkbaaGreatDoor
