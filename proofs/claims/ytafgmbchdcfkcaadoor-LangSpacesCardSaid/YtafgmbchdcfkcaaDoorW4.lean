/-
  The reader's functions by the list of the tokens that are still to come.
-/
import Derived.Test.YtafgmbchdcfkcaaDoorW3
import Derived.Test.YtafgmbchdcfkcaaDoorLt
namespace Go.Proofs.YtafgmbchdcfkcaaDoor
open Go Go.RowKit Go.Walks

/-- The reader stands before the tokens ts. -/
def PAt (w : World) (r : Nat) (t : ByteArray) (ts : List Tok) : Prop := ∃ n, n ≤ t.size ∧ Rd w r t n ∧ toks t.data.toList n = ts
/-- The reader stands at the first of the tokens ts. -/
def PH (w : World) (r : Nat) (t : ByteArray) (ts : List Tok) : Prop := headAt ts ≤ t.size ∧ Rd w r t (headAt ts) ∧ toks t.data.toList (headAt ts) = ts
theorem PH.at {w : World} {r : Nat} {t : ByteArray} {ts : List Tok} (h : PH w r t ts) : PAt w r t ts := ⟨_, h.1, h.2.1, h.2.2⟩

def OkP (t : ByteArray) (r : Nat) (v : Value) (ts : List Tok) (w : World) (e : Ending) (w' : World) : Prop := e = .returned v ∧ PAt w' r t ts ∧ RB r w w'
def BadP (r p : Nat) (w : World) (e : Ending) (w' : World) : Prop := e = wrongE p 3 ∧ RB r w w'

section
variable {t : ByteArray} {r : Nat} {w : World} {ts : List Tok}
theorem PAt.row {w' : World} (h : PAt w r t ts) (hb : w'.heap[r]? = w.heap[r]?) : PAt w' r t ts := by
  obtain ⟨n, h1, h2, h3⟩ := h
  exact ⟨n, h1, hb.trans h2, h3⟩
theorem PAt.lt (h : PAt w r t ts) : r < w.heap.size := by obtain ⟨n, _, h2, _⟩ := h; exact h2.lt
theorem PAt.alloc (h : PAt w r t ts) (o : Obj) : PAt (w.alloc o) r t ts := h.row (Below.heap_alloc _ _ _ h.lt)
theorem PAt.below {w' : World} (h : PAt w r t ts) (hb : Below w.heap.size w w') : PAt w' r t ts := h.row (hb.block _ h.lt)
theorem PAt.drew (h : PAt w r t ts) : PAt w.drew r t ts := h
theorem PAt.setNew (h : PAt w r t ts) {g o : Nat} {u : Value} (hg : r ≠ g) : PAt (w.setCell ⟨g, o, none⟩ u) r t ts := h.row (Below.heap_setCell _ _ _ _ hg)

/-- The head of what is still to come. -/
theorem PAt.head {n : Nat} (h1 : n ≤ t.size) (h3 : toks t.data.toList n = ts) : ∃ T rest, ts = T :: rest ∧ HeadT t.data.toList n T rest ∧ nxt t n = T.at_ ∧ tokS t n = T.text := by
  obtain ⟨T, rest, h⟩ := toks_head (l := t.data.toList) (a := n) (by rw [← Lib.size_eq]; exact h1)
  refine ⟨T, rest, by rw [← h3, h.eq], h, h.at_.symm, ?_⟩
  unfold tokS
  rw [show nxt t n = T.at_ from h.at_.symm, h.text]
theorem HeadT.here {n : Nat} {T : Tok} {rest : List Tok} (h : HeadT t.data.toList n T rest) : toks t.data.toList T.at_ = T :: rest := by
  rw [h.at_, toks_skip, h.eq]
theorem HeadT.after {n : Nat} {T : Tok} {rest : List Tok} (h : HeadT t.data.toList n T rest) (hk : T.kind ≤ 3) : toks t.data.toList (T.at_ + T.text.length) = rest := (h.next hk).symm
theorem HeadT.nonempty {n : Nat} {T : Tok} {rest : List Tok} (h : HeadT t.data.toList n T rest) (ht : T.text ≠ []) : T.kind ≤ 3 := by
  rcases Nat.lt_or_ge 3 T.kind with h3 | h3
  · exact absurd (h.stop h3).2 ht
  · exact h3

theorem skip_T (ht : t.size ≤ 2000) (h : PAt w r t ts) : Calls Tryd.prog 57 #[.pointer (some ⟨r, 0, none⟩)] w fun e w' => e = .returned (.tuple #[]) ∧ PH w' r t ts ∧ RB r w w' := by
  obtain ⟨n, h1, h2, h3⟩ := h
  obtain ⟨T, rest, rfl, hd, hx, _⟩ := PAt.head h1 h3
  refine (skip_any t r n w h1 ht h2).mono ?_
  rintro e w' ⟨rfl, hr, hb⟩
  have hr' : Rd w' r t T.at_ := by rw [← hx]; exact hr
  exact ⟨rfl, ⟨by show T.at_ ≤ _; rw [← hx]; exact nxt_le h1, hr', hd.here⟩, hb⟩

def headTx : List Tok → Bytes
  | T :: _ => T.text
  | [] => []
theorem headIs_tx (s : Bytes) (hs : s ≠ []) (ts : List Tok) : headIs s ts = (headTx ts == s) := by
  cases ts with
  | nil =>
    cases s with
    | nil => exact absurd rfl hs
    | cons c s => rfl
  | cons T ts => rfl

theorem token_T (ht : t.size ≤ 2000) (h : PAt w r t ts) : Calls Tryd.prog 79 #[.pointer (some ⟨r, 0, none⟩)] w fun e w' => e = .returned (strV (headTx ts)) ∧ PH w' r t ts ∧ RB r w w' := by
  obtain ⟨n, h1, h2, h3⟩ := h
  obtain ⟨T, rest, rfl, hd, hx, htx⟩ := PAt.head h1 h3
  refine (token_any t r n w h1 ht h2).mono ?_
  rintro e w' ⟨rfl, hr, hb⟩
  have hr' : Rd w' r t T.at_ := by rw [← hx]; exact hr
  exact ⟨by rw [htx]; rfl, ⟨by show T.at_ ≤ _; rw [← hx]; exact nxt_le h1, hr', hd.here⟩, hb⟩

theorem size_l : t.data.toList.length = t.size := (Lib.size_eq t).symm

theorem may_yes (s : Bytes) (ht : t.size ≤ 2000) (hs : s ≠ []) (hl : s.length ≤ 2000) (T : Tok) (h : PAt w r t (T :: ts)) (he : (T.text == s) = true) :
    Calls Tryd.prog 85 #[.pointer (some ⟨r, 0, none⟩), .string ⟨s.toArray⟩] w (OkP t r (.bool true) ts w) := by
  obtain ⟨n, h1, h2, h3⟩ := h
  obtain ⟨T', rest, e, hd, hx, htx⟩ := PAt.head h1 h3
  injection e with e1 e2
  subst e1; subst e2
  have hts : T.text = s := by simpa using he
  refine (may_any t r n s true w h1 ht hl h2 (show _ = _ by rw [htx]; exact he)).mono ?_
  rintro e w' ⟨rfl, hr, hb⟩
  rw [if_pos rfl, hx, ← hts] at hr
  have hk := hd.nonempty (by rw [hts]; exact hs)
  exact ⟨rfl, ⟨_, by have := hd.le; rw [size_l] at this; exact this, hr, hd.after hk⟩, hb⟩
theorem may_no (s : Bytes) (ht : t.size ≤ 2000) (hl : s.length ≤ 2000) (T : Tok) (h : PAt w r t (T :: ts)) (he : (T.text == s) = false) :
    Calls Tryd.prog 85 #[.pointer (some ⟨r, 0, none⟩), .string ⟨s.toArray⟩] w (OkP t r (.bool false) (T :: ts) w) := by
  obtain ⟨n, h1, h2, h3⟩ := h
  obtain ⟨T', rest, e, hd, hx, htx⟩ := PAt.head h1 h3
  injection e with e1 e2
  subst e1; subst e2
  refine (may_any t r n s false w h1 ht hl h2 (show _ = _ by rw [htx]; exact he)).mono ?_
  rintro e w' ⟨rfl, hr, hb⟩
  have hr' : Rd w' r t T.at_ := by rw [← hx]; exact hr
  exact ⟨rfl, ⟨_, by rw [← hx]; exact nxt_le h1, hr', hd.here⟩, hb⟩

/-- What a part of the parser comes to. -/
def PRes {α : Type} (t : ByteArray) (r : Nat) (x : PR α) (V : α → World → Ending → World → Prop) (w : World) (e : Ending) (w' : World) : Prop := match x with
  | .ok a ts => V a w e w' ∧ PAt w' r t ts ∧ RB r w w'
  | .bad p => e = wrongE p 3 ∧ RB r w w'

theorem must_T (s : Bytes) (ht : t.size ≤ 2000) (hs : s ≠ []) (hl : s.length ≤ 2000) (h : PAt w r t ts) :
    Calls Tryd.prog 75 #[.pointer (some ⟨r, 0, none⟩), .string ⟨s.toArray⟩] w (PRes t r (mustT s ts) (fun a _ e _ => e = .returned (.int .i64 (a : Nat))) w) := by
  obtain ⟨n, h1, h2, h3⟩ := h
  obtain ⟨T, rest, rfl, hd, hx, htx⟩ := PAt.head h1 h3
  cases he : (T.text == s) with
  | true =>
    have hts : T.text = s := by simpa using he
    have hk := hd.nonempty (by rw [hts]; exact hs)
    refine (must_ok t r n s w h1 ht hl h2 (show _ = _ by rw [htx]; exact he)).mono ?_
    rintro e w' ⟨rfl, hr, hb⟩
    rw [hx, ← hts] at hr
    simp only [PRes, mustT, if_pos he]
    exact ⟨by rw [hx], ⟨_, by have := hd.le; rw [size_l] at this; exact this, hr, hd.after hk⟩, hb⟩
  | false =>
    refine (must_bad t r n s w h1 ht hl h2 (show _ = _ by rw [htx]; exact he)).mono ?_
    rintro e w' ⟨rfl, hr, hb⟩
    simp only [PRes, mustT, he, Bool.false_eq_true, if_false]
    exact ⟨by rw [hx], hb⟩

def MarkIs (T : Tok) (_ : World) (e : Ending) (_ : World) : Prop := e = .returned (markV T.at_ T.n T.text)

theorem read2_T (ht : t.size ≤ 2000) (hr7 : 7 ≤ r) (hg : Gl w) (h : PAt w r t ts) :
    Calls Tryd.prog 76 #[.pointer (some ⟨r, 0, none⟩), .func (.func 52) #[] #[]] w (PRes t r (kindT 2 ts) MarkIs w) := by
  obtain ⟨n, h1, h2, h3⟩ := h
  obtain ⟨T, rest, rfl, hd, hx, htx⟩ := PAt.head h1 h3
  by_cases hk : T.kind = 2
  · obtain ⟨c, s, hcs, hdc, hall, hlen⟩ := lex2 (s := t.data.toList.drop T.at_) (by rw [← hd.kind]; exact hk)
    rw [← hd.text] at hcs
    obtain ⟨hv, _⟩ := atoi_digits (l := c :: s) (by simp) hall hlen
    refine (read_digit t r n w h1 ht hr7 h2 hg c s (show _ = _ by rw [htx, hcs]) hdc hv).mono ?_
    rintro e w' ⟨rfl, hr, hb⟩
    rw [hx, ← hcs] at hr
    have hnum := hd.num
    rw [if_pos hk, hcs] at hnum
    simp only [PRes, kindT, if_pos hk]
    exact ⟨by show _ = Ending.returned (markV T.at_ T.n T.text); rw [hx, hnum, hcs], ⟨_, by have := hd.le; rw [size_l] at this; exact this, hr, hd.after (by omega)⟩, hb⟩
  · simp only [kindT, if_neg hk]
    cases hcs : T.text with
    | nil =>
      refine (read_empty t r n w h1 ht h2 (show _ = _ by rw [htx, hcs]) _).mono ?_
      rintro e w' ⟨rfl, hr, hb⟩
      exact ⟨by rw [hx], hb⟩
    | cons c s =>
      have hh := lex_head (s := t.data.toList.drop T.at_) (c := c) (r := s) (by rw [← hd.text]; exact hcs)
      rw [← hd.kind] at hh
      have hdc : isD c = false := by
        cases hD : isD c with
        | false => rfl
        | true => exact absurd (hh.2.1.2 hD) hk
      refine (read_noDigit t r n w h1 ht h2 c s (show _ = _ by rw [htx, hcs]) hdc).mono ?_
      rintro e w' ⟨rfl, hr, hb⟩
      exact ⟨by rw [hx], hb⟩

theorem read1_T (ht : t.size ≤ 2000) (hr7 : 7 ≤ r) (hg : Gl w) (h : PAt w r t ts) :
    Calls Tryd.prog 76 #[.pointer (some ⟨r, 0, none⟩), .func (.func 51) #[] #[]] w (PRes t r (kindT 1 ts) MarkIs w) := by
  obtain ⟨n, h1, h2, h3⟩ := h
  obtain ⟨T, rest, rfl, hd, hx, htx⟩ := PAt.head h1 h3
  by_cases hk : T.kind = 1
  · obtain ⟨c, s, hcs, hdc⟩ := lex1 (s := t.data.toList.drop T.at_) (by rw [← hd.kind]; exact hk)
    rw [← hd.text] at hcs
    refine (read_word t r n w h1 ht hr7 h2 hg c s (show _ = _ by rw [htx, hcs]) hdc (atoi_word hdc)).mono ?_
    rintro e w' ⟨rfl, hr, hb⟩
    rw [hx, ← hcs] at hr
    have hnum := hd.num
    rw [if_neg (by omega)] at hnum
    simp only [PRes, kindT, if_pos hk]
    exact ⟨by show _ = Ending.returned (markV T.at_ T.n T.text); rw [hx, hnum, hcs], ⟨_, by have := hd.le; rw [size_l] at this; exact this, hr, hd.after (by omega)⟩, hb⟩
  · simp only [kindT, if_neg hk]
    cases hcs : T.text with
    | nil =>
      refine (read_empty t r n w h1 ht h2 (show _ = _ by rw [htx, hcs]) _).mono ?_
      rintro e w' ⟨rfl, hr, hb⟩
      exact ⟨by rw [hx], hb⟩
    | cons c s =>
      have hh := lex_head (s := t.data.toList.drop T.at_) (c := c) (r := s) (by rw [← hd.text]; exact hcs)
      rw [← hd.kind] at hh
      have hdc : isL c = false := by
        cases hD : isL c with
        | false => rfl
        | true => exact absurd (hh.2.2.2 hD) hk
      refine (read_noWord t r n w h1 ht h2 c s (show _ = _ by rw [htx, hcs]) hdc).mono ?_
      rintro e w' ⟨rfl, hr, hb⟩
      exact ⟨by rw [hx], hb⟩
end
end Go.Proofs.YtafgmbchdcfkcaaDoor
