/-
  The reference's lists of entries in plain words: sorted lists, what they map, how they change.
-/
import Derived.Test.YtognbkmamhgkeaaDoorW15
import Derived.Test.YtognbkmamhgkeaaDoorMg
namespace Go.Proofs.YtognbkmamhgkeaaDoor
open Go Go.RowKit Go.Walks

structure Srt (l : List (Int × Int)) : Prop where
  lt : l.Pairwise fun a b => a.1 < b.1
  rng : ∀ e, e ∈ l → 0 ≤ e.1 ∧ e.1 ≤ 4095

theorem Srt.nil : Srt [] := ⟨List.Pairwise.nil, fun _ h => by cases h⟩
theorem Srt.tail {x : Int × Int} {l : List (Int × Int)} (h : Srt (x :: l)) : Srt l := ⟨(List.pairwise_cons.1 h.lt).2, fun e he => h.rng e (List.mem_cons_of_mem _ he)⟩
theorem Srt.head {x : Int × Int} {l : List (Int × Int)} (h : Srt (x :: l)) : ∀ e, e ∈ l → x.1 < e.1 := (List.pairwise_cons.1 h.lt).1

theorem findI_cons_lt {x : Int × Int} {l : List (Int × Int)} {b : Int} (h : x.1 < b) : findI (x :: l) b = findI l b + 1 := by
  unfold findI; rw [List.takeWhile_cons, if_pos (by simpa using h)]; rfl
theorem findI_cons_ge {x : Int × Int} {l : List (Int × Int)} {b : Int} (h : ¬ x.1 < b) : findI (x :: l) b = 0 := by
  unfold findI; rw [List.takeWhile_cons, if_neg (by simpa using h)]; rfl
theorem foundB_cons_lt {x : Int × Int} {l : List (Int × Int)} {b : Int} (h : x.1 < b) : foundB (x :: l) b = foundB l b := by
  unfold foundB; rw [findI_cons_lt h]; simp
theorem foundB_cons_ge {x : Int × Int} {l : List (Int × Int)} {b : Int} (h : ¬ x.1 < b) : foundB (x :: l) b = (x.1 == b) := by
  unfold foundB; rw [findI_cons_ge h]; simp

def below (l : List (Int × Int)) (b : Int) : List (Int × Int) := l.filter fun e => decide (e.1 < b)
def above (l : List (Int × Int)) (b : Int) : List (Int × Int) := l.filter fun e => decide (b < e.1)

theorem filter_all {l : List (Int × Int)} {p : Int × Int → Bool} (h : ∀ e, e ∈ l → p e = true) : l.filter p = l := List.filter_eq_self.2 h
theorem filter_none {l : List (Int × Int)} {p : Int × Int → Bool} (h : ∀ e, e ∈ l → p e = false) : l.filter p = [] := List.filter_eq_nil_iff.2 fun e he => by rw [h e he]; simp

theorem take_find {l : List (Int × Int)} (h : Srt l) (b : Int) : l.take (findI l b) = below l b := by
  induction l with
  | nil => rfl
  | cons x l ih =>
    unfold below
    by_cases hx : x.1 < b
    · rw [findI_cons_lt hx, List.take_succ_cons, List.filter_cons_of_pos (by simpa using hx), ih h.tail]; rfl
    · rw [findI_cons_ge hx, List.take_zero]
      symm
      apply filter_none
      intro e he
      rcases List.mem_cons.1 he with rfl | he
      · simpa using hx
      · have := h.head e he; simp; omega

theorem drop_find {l : List (Int × Int)} (h : Srt l) (b : Int) : l.drop (if foundB l b then findI l b + 1 else findI l b) = above l b := by
  induction l with
  | nil => simp [above]
  | cons x l ih =>
    by_cases hx : x.1 < b
    · rw [foundB_cons_lt hx, findI_cons_lt hx]
      have e : (if foundB l b = true then findI l b + 1 + 1 else findI l b + 1) = (if foundB l b = true then findI l b + 1 else findI l b) + 1 := by split <;> rfl
      rw [e, List.drop_succ_cons, ih h.tail]
      unfold above
      rw [List.filter_cons_of_neg (by simp; omega)]
    · rw [foundB_cons_ge hx, findI_cons_ge hx]
      unfold above
      by_cases hb : x.1 = b
      · rw [if_pos (by simp [hb]), List.filter_cons_of_neg (by simp; omega)]
        show l.drop 0 = _
        rw [List.drop_zero]
        symm
        apply filter_all
        intro e he
        have := h.head e he; simp; omega
      · rw [if_neg (by simpa using hb), List.drop_zero]
        symm
        apply filter_all
        intro e he
        rcases List.mem_cons.1 he with rfl | he
        · simp; omega
        · have := h.head e he; simp; omega

theorem setIn_eq {l : List (Int × Int)} (h : Srt l) (b c : Int) : setIn l b c = below l b ++ [(b, c)] ++ above l b := by unfold setIn; rw [take_find h, drop_find h]

theorem found_iff {l : List (Int × Int)} (h : Srt l) (b : Int) : foundB l b = true ↔ ∃ c, (b, c) ∈ l := by
  induction l with
  | nil => simp [foundB]
  | cons x l ih =>
    by_cases hx : x.1 < b
    · rw [foundB_cons_lt hx, ih h.tail]
      constructor
      · rintro ⟨c, hc⟩; exact ⟨c, List.mem_cons_of_mem _ hc⟩
      · rintro ⟨c, hc⟩
        rcases List.mem_cons.1 hc with e | hc
        · subst e; omega
        · exact ⟨c, hc⟩
    · rw [foundB_cons_ge hx]
      constructor
      · intro e
        have : x.1 = b := by simpa using e
        exact ⟨x.2, by rw [← this]; exact List.mem_cons_self⟩
      · rintro ⟨c, hc⟩
        rcases List.mem_cons.1 hc with e | hc
        · subst e; simp
        · have := h.head _ hc; simp at this; omega

theorem clrL_eq {l : List (Int × Int)} (h : Srt l) (b : Int) : clrL l b = below l b ++ above l b := by
  unfold clrL
  have ht := take_find h b
  have hd := drop_find h b
  cases hf : foundB l b with
  | true => rw [hf, if_pos rfl] at hd; rw [if_pos rfl, ht, hd]
  | false =>
    rw [hf] at hd
    simp only [Bool.false_eq_true, if_false] at hd ⊢
    rw [← ht, ← hd, List.take_append_drop]

theorem getL_some {l : List (Int × Int)} (h : Srt l) (b c : Int) : getL l b = some c ↔ (b, c) ∈ l := by
  induction l with
  | nil => simp [getL, foundB]
  | cons x l ih =>
    unfold getL at ih ⊢
    by_cases hx : x.1 < b
    · rw [foundB_cons_lt hx, findI_cons_lt hx]
      simp only [List.getElem?_cons_succ]
      rw [ih h.tail]
      constructor
      · exact List.mem_cons_of_mem _
      · intro hc
        rcases List.mem_cons.1 hc with e | hc
        · subst e; omega
        · exact hc
    · rw [foundB_cons_ge hx, findI_cons_ge hx]
      simp only [List.getElem?_cons_zero, Option.map_some]
      constructor
      · intro e
        split at e
        · rename_i hb
          have hb' : x.1 = b := by simpa using hb
          injection e with e
          rw [← hb', ← e]; exact List.mem_cons_self
        · cases e
      · intro hc
        rcases List.mem_cons.1 hc with e | hc
        · subst e; simp
        · have := h.head _ hc; simp at this; omega

theorem opt_ext {a b : Option Int} (h : ∀ c, a = some c ↔ b = some c) : a = b := by
  cases a with
  | none =>
    cases b with
    | none => rfl
    | some c => exact absurd ((h c).2 rfl) (by simp)
  | some c => exact ((h c).1 rfl).symm

/-- What a list maps. -/
def mOf (l : List (Int × Int)) : Nat → Option Int := fun x => getL l (x : Int)

theorem mem_below {l : List (Int × Int)} {b : Int} {e : Int × Int} : e ∈ below l b ↔ e ∈ l ∧ e.1 < b := by simp [below]
theorem mem_above {l : List (Int × Int)} {b : Int} {e : Int × Int} : e ∈ above l b ↔ e ∈ l ∧ b < e.1 := by simp [above]

theorem Srt.filter {l : List (Int × Int)} (h : Srt l) (p : Int × Int → Bool) : Srt (l.filter p) := ⟨h.lt.filter p, fun e he => h.rng e (List.mem_filter.1 he).1⟩

theorem srt_setIn {l : List (Int × Int)} (h : Srt l) {b : Int} (c : Int) (h0 : 0 ≤ b) (h1 : b ≤ 4095) : Srt (setIn l b c) := by
  rw [setIn_eq h]
  refine ⟨?_, fun e he => ?_⟩
  · rw [List.pairwise_append, List.pairwise_append]
    refine ⟨⟨(h.filter _).lt, by simp, fun a ha e he => ?_⟩, (h.filter _).lt, fun a ha e he => ?_⟩
    · have : e = (b, c) := by simpa using he
      subst this
      exact (mem_below.1 ha).2
    · have h2 := (mem_above.1 he).2
      rcases List.mem_append.1 ha with ha | ha
      · have := (mem_below.1 ha).2; omega
      · have : a = (b, c) := by simpa using ha
        subst this; exact h2
  · rcases List.mem_append.1 he with he | he
    · rcases List.mem_append.1 he with he | he
      · exact h.rng e (mem_below.1 he).1
      · have : e = (b, c) := by simpa using he
        subst this; exact ⟨h0, h1⟩
    · exact h.rng e (mem_above.1 he).1

theorem inB_iff (b : Int) : inB b = true ↔ 0 ≤ b ∧ b ≤ 4095 := by simp [inB]

theorem srt_setL {l : List (Int × Int)} (h : Srt l) (b c : Int) : Srt (setL l b c) := by
  unfold setL
  split
  · rename_i hb; have := (inB_iff b).1 hb; exact srt_setIn h c this.1 this.2
  · exact h
theorem srt_clrL {l : List (Int × Int)} (h : Srt l) (b : Int) : Srt (clrL l b) := by
  rw [clrL_eq h]
  refine ⟨?_, fun e he => ?_⟩
  · rw [List.pairwise_append]
    exact ⟨(h.filter _).lt, (h.filter _).lt, fun a ha e he => by have h1 := (mem_below.1 ha).2; have h2 := (mem_above.1 he).2; omega⟩
  · rcases List.mem_append.1 he with he | he
    · exact h.rng e (mem_below.1 he).1
    · exact h.rng e (mem_above.1 he).1
theorem srt_doL {l : List (Int × Int)} (h : Srt l) (o : OpN) : Srt (doL l o) := by
  unfold doL
  split
  · exact srt_clrL h _
  · exact srt_setL h _ _

theorem mOf_setL {l : List (Int × Int)} (h : Srt l) (b c : Int) : mOf (setL l b c) = setM (mOf l) b c := by
  unfold setL setM
  by_cases hb : inB b = true
  · have hr := (inB_iff b).1 hb
    rw [if_pos hb, if_pos (by omega)]
    funext x
    apply opt_ext
    intro d
    unfold mOf
    rw [getL_some (srt_setIn h c hr.1 hr.2), setIn_eq h]
    simp only [List.mem_append, mem_below, mem_above, List.mem_singleton, putM]
    by_cases e : x = b.toNat
    · rw [if_pos e]
      have hxb : (x : Int) = b := by omega
      constructor
      · rintro ((⟨_, h1⟩ | h1) | ⟨_, h1⟩)
        · omega
        · injection h1 with _ h1; rw [h1]
        · omega
      · intro h1
        injection h1 with h1
        exact .inl (.inr (by rw [hxb, h1]))
    · rw [if_neg e, getL_some h]
      constructor
      · rintro ((⟨h1, _⟩ | h1) | ⟨h1, _⟩)
        · exact h1
        · injection h1 with h1 _; omega
        · exact h1
      · intro h1
        by_cases hlt : (x : Int) < b
        · exact .inl (.inl ⟨h1, hlt⟩)
        · exact .inr ⟨h1, by omega⟩
  · have hr : ¬ (0 ≤ b ∧ b ≤ 4095) := fun h => hb ((inB_iff b).2 h)
    rw [if_neg hb, if_neg (by omega)]

theorem mOf_clrL {l : List (Int × Int)} (h : Srt l) (b : Int) : mOf (clrL l b) = delM (mOf l) b := by
  funext x
  apply opt_ext
  intro d
  unfold mOf
  rw [getL_some (srt_clrL h b), clrL_eq h]
  simp only [List.mem_append, mem_below, mem_above, delM]
  by_cases h0 : 0 ≤ b
  · rw [if_pos h0]
    simp only [clrM]
    by_cases e : x = b.toNat
    · rw [if_pos e]
      constructor
      · rintro (⟨_, h1⟩ | ⟨_, h1⟩)
        · omega
        · omega
      · intro h1; cases h1
    · rw [if_neg e, getL_some h]
      constructor
      · rintro (⟨h1, _⟩ | ⟨h1, _⟩) <;> exact h1
      · intro h1
        by_cases hlt : (x : Int) < b
        · exact .inl ⟨h1, hlt⟩
        · exact .inr ⟨h1, by omega⟩
  · rw [if_neg h0, getL_some h]
    constructor
    · rintro (⟨h1, _⟩ | ⟨h1, _⟩) <;> exact h1
    · intro h1; exact .inr ⟨h1, by omega⟩

theorem srt_fold : ∀ (ops : List OpN) (Ls : List (List (Int × Int))), (∀ l, l ∈ Ls → Srt l) → ∀ l, l ∈ ops.foldl stepL Ls → Srt l
  | [], _, h, l, hl => h l hl
  | o :: ops, Ls, h, l, hl => by
    refine srt_fold ops (stepL Ls o) (fun l hl => ?_) l hl
    unfold stepL at hl
    rcases List.mem_append.1 hl with hl | hl
    · exact h l hl
    · have : l = doL (Ls.getD (fromI o Ls.length) []) o := by simpa using hl
      subst this
      refine srt_doL ?_ o
      rw [List.getD_eq_getElem?_getD]
      cases hc : Ls[fromI o Ls.length]? with
      | none => exact Srt.nil
      | some y => exact h y (List.mem_of_getElem? hc)
theorem srt_play (ops : List OpN) : ∀ l, l ∈ playL ops → Srt l := by
  refine srt_fold ops [[]] fun l hl => ?_
  have : l = [] := by simpa using hl
  subst this; exact Srt.nil

theorem mOf_out {l : List (Int × Int)} (h : Srt l) (x : Nat) (hx : 4096 ≤ x) : mOf l x = none := by
  cases e : mOf l x with
  | none => rfl
  | some c =>
    have := (getL_some h (x : Int) c).1 e
    have := (h.rng _ this).2
    simp at this; omega

end Go.Proofs.YtognbkmamhgkeaaDoor
