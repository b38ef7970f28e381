/-
  The head of the list of tokens; the parser of the language on tokens, in plain words. No program is run here.
  What the checks of a code come to, in plain words: a row's numbers, a code. No program is run here.
-/
import Derived.Test.YtafgmbchdcfkcaaDoorLa
namespace Go.Proofs.YtafgmbchdcfkcaaDoor
open Go

theorem kind1_iff {c : UInt8} {s : Bytes} : kindL (c :: s) = 1 ↔ isL c = true := by
  rw [kindL_cons]
  constructor
  · intro h
    split at h
    · assumption
    · split at h
      · split at h <;> omega
      · split at h <;> omega
  · intro h; rw [if_pos h]
theorem kind2_iff {c : UInt8} {s : Bytes} : kindL (c :: s) = 2 ↔ isL c = false ∧ isD c = true ∧ badN (c :: s) = false := by
  rw [kindL_cons]
  constructor
  · intro h
    split at h
    · omega
    · rename_i h1
      split at h
      · rename_i h2
        split at h
        · omega
        · rename_i h3
          exact ⟨by simpa using h1, h2, by simpa using h3⟩
      · split at h <;> omega
  · rintro ⟨h1, h2, h3⟩
    rw [h1, h2, h3]; rfl

theorem takeWhile_get {p : UInt8 → Bool} : ∀ (s : Bytes) (i : Nat), i < (s.takeWhile p).length → (s.takeWhile p)[i]? = s[i]?
  | [], i, h => by simp at h
  | x :: s, i, h => by
    by_cases hx : p x = true
    · rw [List.takeWhile_cons, if_pos hx] at h ⊢
      cases i with
      | zero => rfl
      | succ i =>
        rw [List.getElem?_cons_succ, List.getElem?_cons_succ]
        exact takeWhile_get s i (by simpa using h)
    · rw [List.takeWhile_cons, if_neg hx] at h; simp at h

/-- What a number's text is. -/
theorem lex2 {s : Bytes} (h : kindL s = 2) : ∃ c r, s.take (lexLen s) = c :: r ∧ isD c = true ∧ (∀ x ∈ c :: r, isD x = true) ∧ (c :: r).length ≤ 5 := by
  cases s with
  | nil => simp [kindL] at h
  | cons c s =>
    obtain ⟨h1, h2, h3⟩ := kind2_iff.1 h
    have hl : lexLen (c :: s) = rawL (c :: s) := by unfold lexLen; rw [h]; rfl
    have hraw : rawL (c :: s) = ((c :: s).takeWhile isD).length := by rw [rawL_cons, h1]; rfl
    have ht : (c :: s).take (lexLen (c :: s)) = (c :: s).takeWhile isD := by
      rw [hl, hraw]
      exact (List.prefix_iff_eq_take.1 (List.takeWhile_prefix isD)).symm
    have hc : (c :: s).takeWhile isD = c :: s.takeWhile isD := by rw [List.takeWhile_cons, if_pos h2]
    refine ⟨c, s.takeWhile isD, ht.trans hc, h2, ?_, ?_⟩
    · intro x hx
      rw [← hc] at hx
      obtain ⟨i, hi, rfl⟩ := List.mem_iff_getElem.1 hx
      obtain ⟨d, hd, hp⟩ := takeWhile_at (c :: s) i hi
      have e : (c :: s)[i]? = ((c :: s).takeWhile isD)[i]? := (takeWhile_get (c :: s) i hi).symm
      rw [e, List.getElem?_eq_getElem hi] at hd
      injection hd with hd
      rw [hd]; exact hp
    · have : ¬ 5 < rawL (c :: s) := by
        intro h5
        unfold badN at h3
        simp [h5] at h3
      rw [hraw, hc] at this
      omega
theorem lex1 {s : Bytes} (h : kindL s = 1) : ∃ c r, s.take (lexLen s) = c :: r ∧ isL c = true := by
  cases s with
  | nil => simp [kindL] at h
  | cons c s =>
    have hp := lexLen_pos (s := c :: s) (by omega)
    obtain ⟨k, hk⟩ : ∃ k, lexLen (c :: s) = k + 1 := ⟨lexLen (c :: s) - 1, by omega⟩
    exact ⟨c, s.take k, by rw [hk]; rfl, kind1_iff.1 h⟩
theorem lex0 {s : Bytes} (h : 3 < kindL s) : s.take (lexLen s) = [] := by rw [lexLen_zero h]; rfl
/-- A token's first byte tells a number and a word. -/
theorem lex_head {s : Bytes} {c : UInt8} {r : Bytes} (h : s.take (lexLen s) = c :: r) : kindL s ≤ 3 ∧ (kindL s = 2 ↔ isD c = true) ∧ (kindL s = 1 ↔ isL c = true) := by
  have hk : kindL s ≤ 3 := by
    rcases Nat.lt_or_ge 3 (kindL s) with h3 | h3
    · rw [lex0 h3] at h; cases h
    · exact h3
  cases s with
  | nil => simp at h
  | cons d s =>
    have hd : d = c := by
      obtain ⟨k, hk⟩ : ∃ k, lexLen (d :: s) = k + 1 := ⟨lexLen (d :: s) - 1, by have := lexLen_pos hk; omega⟩
      rw [hk, List.take_succ_cons] at h
      injection h
    subst hd
    refine ⟨hk, ?_, kind1_iff⟩
    rw [kind2_iff]
    constructor
    · exact fun h => h.2.1
    · intro hD
      have hL : isL d = false := by
        cases hl : isL d with
        | false => rfl
        | true => rw [isL_not_D hl] at hD; cases hD
      refine ⟨hL, hD, ?_⟩
      cases hb : badN (d :: s) with
      | false => rfl
      | true =>
        rw [kindL_cons, hL, hD, hb] at hk
        simp at hk

/-- The list of tokens from an offset on, its head taken apart. -/
structure HeadT (l : Bytes) (a : Nat) (T : Tok) (rest : List Tok) : Prop where
  eq : toks l a = T :: rest
  at_ : T.at_ = a + skipS false (l.drop a)
  kind : T.kind = kindL (l.drop T.at_)
  text : T.text = (l.drop T.at_).take (lexLen (l.drop T.at_))
  num : T.n = if T.kind = 2 then valD T.text else 0
  next : T.kind ≤ 3 → rest = toks l (T.at_ + T.text.length)
  stop : 3 < T.kind → rest = [] ∧ T.text = []
  le : T.at_ + T.text.length ≤ l.length

theorem toks_head {l : Bytes} {a : Nat} (ha : a ≤ l.length) : ∃ T rest, HeadT l a T rest := by
  have h := toks_eq l a
  simp only at h
  have hk := skipS_le false (l.drop a)
  rw [List.length_drop] at hk
  have hlen := lexT_len (l.drop (a + skipS false (l.drop a))) (a + skipS false (l.drop a))
  have hle := lexLen_le (l.drop (a + skipS false (l.drop a)))
  rw [List.length_drop] at hle
  by_cases h3 : 3 < (lexT (l.drop (a + skipS false (l.drop a))) (a + skipS false (l.drop a))).kind
  · rw [if_pos h3] at h
    exact ⟨_, _, h, rfl, rfl, rfl, rfl, fun h' => absurd h3 (by omega), fun _ => ⟨rfl, lex0 h3⟩, by rw [hlen]; simp only [lexT]; omega⟩
  · rw [if_neg h3] at h
    exact ⟨_, _, h, rfl, rfl, rfl, rfl, fun _ => rfl, fun h' => absurd h' h3, by rw [hlen]; simp only [lexT]; omega⟩

/-- How a part of the parser ends: with a result and the tokens behind it, or with a syntax error at an offset. -/
inductive PR (α : Type) where
  | ok (a : α) (ts : List Tok)
  | bad (p : Nat)
def PR.next {α β : Type} (x : PR α) (f : α → List Tok → PR β) : PR β := match x with
  | .ok a ts => f a ts
  | .bad p => .bad p
theorem PR.next_ok {α β : Type} (a : α) (ts : List Tok) (f : α → List Tok → PR β) : (PR.ok a ts).next f = f a ts := rfl
theorem PR.next_bad {α β : Type} (p : Nat) (f : α → List Tok → PR β) : (PR.bad p : PR α).next f = .bad p := rfl

def mustT (s : Bytes) : List Tok → PR Nat
  | T :: ts => if T.text == s then .ok T.at_ ts else .bad T.at_
  | [] => .bad 0
def kindT (k : Nat) : List Tok → PR Tok
  | T :: ts => if T.kind = k then .ok T ts else .bad T.at_
  | [] => .bad 0
def isN (T : Tok) : Bool := T.kind == 2
def numsT (ts : List Tok) : PR (List Tok) := (kindT 2 ts).next fun T a => .ok (T :: a.takeWhile isN) (a.dropWhile isN)
def headAt : List Tok → Nat
  | T :: _ => T.at_
  | [] => 0
def headIs (s : Bytes) : List Tok → Bool
  | T :: _ => T.text == s
  | [] => false

def kCode : Bytes := [99, 111, 100, 101]
def kField : Bytes := [102, 105, 101, 108, 100]
def kData : Bytes := [100, 97, 116, 97]
def kParity : Bytes := [112, 97, 114, 105, 116, 121]
def kLocal : Bytes := [108, 111, 99, 97, 108]
def kDomain : Bytes := [100, 111, 109, 97, 105, 110]
def kOpen : Bytes := [123]
def kClose : Bytes := [125]
def kSemi : Bytes := [59]
def kColon : Bytes := [58]

def oneT (key : Bytes) (ts : List Tok) : PR Tok :=
  (mustT key ts).next fun _ a => (kindT 2 a).next fun N b => (mustT kSemi b).next fun _ c => .ok N c

structure Row where
  at_ : Nat
  loc : Bool
  idx : List Tok
  coefs : List Tok

def rowEnd (a : Nat) (loc : Bool) (idx : List Tok) (ts : List Tok) : PR Row :=
  (numsT ts).next fun cs d => (mustT kSemi d).next fun _ e => .ok ⟨a, loc, idx, cs⟩ e
def rowT (ts : List Tok) : PR Row :=
  if headIs kLocal ts then
    (mustT kLocal ts).next fun _ a => (numsT a).next fun is b => (mustT kColon b).next fun _ c => rowEnd (headAt ts) true is c
  else
    (mustT kParity ts).next fun _ a => rowEnd (headAt ts) false [] a

def moreR (ts : List Tok) : Bool := headIs kParity ts || headIs kLocal ts
/-- Further rows, as long as one stands there. -/
def rowsT : Nat → List Tok → PR (List Row)
  | 0, ts => .ok [] ts
  | f + 1, ts => if moreR ts then (rowT ts).next fun R a => (rowsT f a).next fun Rs b => .ok (R :: Rs) b else .ok [] ts

structure Src where
  name : Tok
  field : Tok
  data : Tok
  rows : List Row
  dom : Option Tok

def domT (ts : List Tok) : PR (Option Tok) := if headIs kDomain ts then (oneT kDomain ts).next fun d a => .ok (some d) a else .ok none ts
def codeT (ts : List Tok) : PR Src :=
  (mustT kCode ts).next fun _ a => (kindT 1 a).next fun nm b => (mustT kOpen b).next fun _ c => (oneT kField c).next fun fl d => (oneT kData d).next fun dt e =>
    (rowT e).next fun R f => (rowsT f.length f).next fun Rs g => (domT g).next fun dm h => (mustT kClose h).next fun _ i => .ok ⟨nm, fl, dt, R :: Rs, dm⟩ i
end Go.Proofs.YtafgmbchdcfkcaaDoor
namespace Go.Proofs.YtafgmbchdcfkcaaDoor
open Go

/-- How a check ends: with a result, or with an error at an offset. -/
inductive BR (α : Type) where
  | ok (a : α)
  | bad (p e : Nat)

def BR.next {α β : Type} (x : BR α) (f : α → BR β) : BR β := match x with
  | .ok a => f a
  | .bad p e => .bad p e
def idxBad (data : Nat) : Int → List Tok → Option Nat
  | _, [] => none
  | last, T :: ts => if T.n < data ∧ last < (T.n : Int) then idxBad data T.n ts else some T.at_
def coefBad (loc : Bool) (top : Nat) : List Tok → Option Nat
  | [] => none
  | T :: ts => if T.n ≤ top ∧ ¬ (loc = true ∧ T.n = 0) then coefBad loc top ts else some T.at_
def atJ (loc : Bool) (idx : List Tok) (j : Nat) : Nat := if loc then (idx[j]?.map Tok.n).getD 0 else j
def fillL (loc : Bool) (idx : List Tok) : Nat → List Tok → List Int → List Int
  | _, [], row => row
  | j, T :: ts, row => fillL loc idx (j + 1) ts (row.set (atJ loc idx j) (T.n : Int))
def sumN : List Tok → Nat
  | [] => 0
  | T :: ts => T.n + sumN ts
def wantN (R : Row) (data : Nat) : Nat := if R.loc then R.idx.length else data
def buildRow (R : Row) (data top : Nat) : BR (List Int) :=
  match idxBad data (-1) R.idx with
  | some p => .bad p 1
  | none => if R.coefs.length ≠ wantN R data then .bad R.at_ 1 else
    match coefBad R.loc top R.coefs with
    | some p => .bad p 1
    | none => if sumN R.coefs = 0 then .bad R.at_ 1 else .ok (fillL R.loc R.idx 0 R.coefs (List.replicate data 0))

theorem idxBad_none {data : Nat} : ∀ {ts : List Tok} {last : Int}, idxBad data last ts = none → ∀ T ∈ ts, T.n < data
  | [], _, _, T, h => by cases h
  | T :: ts, last, h, U, hU => by
    rw [idxBad] at h
    split at h
    · rename_i hc
      rcases List.mem_cons.1 hU with rfl | hU
      · exact hc.1
      · exact idxBad_none h U hU
    · cases h
theorem fillL_len {loc : Bool} {idx : List Tok} : ∀ (ts : List Tok) (j : Nat) (row : List Int), (fillL loc idx j ts row).length = row.length
  | [], _, _ => rfl
  | T :: ts, j, row => by rw [fillL, fillL_len ts]; simp

structure Code where
  name : Bytes
  field : Int
  data : Int
  par : List (List Int)
  dom : Int

def topN (f : Nat) : Nat := if f = 8 then 255 else 65535
def buildRows (data top : Nat) : List (List Int) → List Row → BR (List (List Int))
  | acc, [] => .ok acc
  | acc, R :: Rs => if data + acc.length < 32 then
      (buildRow R data top).next fun row => buildRows data top (acc ++ [row]) Rs
    else .bad R.at_ 2
def buildDom (S : Src) (rows : List (List Int)) : BR Code := match S.dom with
  | none => .ok ⟨S.name.text, S.field.n, S.data.n, rows, ((S.data.n + rows.length : Nat) : Int)⟩
  | some d => if 1 ≤ d.n ∧ d.n ≤ S.data.n + rows.length then .ok ⟨S.name.text, S.field.n, S.data.n, rows, (d.n : Int)⟩ else .bad d.at_ 1
def buildS (S : Src) : BR Code :=
  if S.name.text.length ≤ 12 then
    if S.field.n = 8 ∨ S.field.n = 16 then
      if 1 ≤ S.data.n ∧ S.data.n ≤ 31 then
        (buildRows S.data.n (topN S.field.n) [] S.rows).next (buildDom S)
      else .bad S.data.at_ 1
    else .bad S.field.at_ 1
  else .bad S.name.at_ 2
end Go.Proofs.YtafgmbchdcfkcaaDoor
