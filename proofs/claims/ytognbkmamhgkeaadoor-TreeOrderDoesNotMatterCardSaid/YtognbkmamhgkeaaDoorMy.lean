/-
  Setting entries in whatever order: the plain law of TreeOrderDoesNotMatter; and three trees and a reference tree in boxes. No program is run here.
-/
import Derived.Test.YtognbkmamhgkeaaDoorL1a
import Derived.Test.YtognbkmamhgkeaaDoorMw
namespace Go.Proofs.YtognbkmamhgkeaaDoor
open Go Go.RowKit Go.Walks

def noM : Nat → Option Int := fun _ => none
def setsM (m : Nat → Option Int) (es : List (Int × Int)) : Nat → Option Int := es.foldl (fun m e => setM m e.1 e.2) m
theorem setsM_snoc (m : Nat → Option Int) (es : List (Int × Int)) (e : Int × Int) : setsM m (es ++ [e]) = setM (setsM m es) e.1 e.2 := by simp [setsM]
theorem setsM_cons (m : Nat → Option Int) (es : List (Int × Int)) (e : Int × Int) : setsM m (e :: es) = setsM (setM m e.1 e.2) es := rfl

theorem setM_or (m : Nat → Option Int) (b c : Int) (x : Nat) : setM m b c x = (setM noM b c x).or (m x) := by
  unfold setM
  split
  · simp only [putM, noM]
    split <;> rfl
  · simp [noM]
theorem setsM_or (es : List (Int × Int)) : ∀ (m : Nat → Option Int) (x : Nat), setsM m es x = (setsM noM es x).or (m x) := by
  induction es with
  | nil => intro m x; simp [setsM, noM]
  | cons e es ih =>
    intro m x
    rw [setsM_cons, setsM_cons, ih, ih (setM noM e.1 e.2), setM_or m, Option.or_assoc]

def finL (es : List (Int × Int)) : List (Int × Int) := es.foldl (fun l e => setL l e.1 e.2) []
theorem finL_snoc (es : List (Int × Int)) (e : Int × Int) : finL (es ++ [e]) = setL (finL es) e.1 e.2 := by simp [finL]
theorem fin_fold : ∀ (es l : List (Int × Int)), Srt l → Srt (es.foldl (fun l e => setL l e.1 e.2) l) ∧ mOf (es.foldl (fun l e => setL l e.1 e.2) l) = setsM (mOf l) es ∧ (es.foldl (fun l e => setL l e.1 e.2) l).length ≤ l.length + es.length
  | [], l, h => ⟨h, rfl, Nat.le_refl _⟩
  | e :: es, l, h => by
    obtain ⟨h1, h2, h3⟩ := fin_fold es (setL l e.1 e.2) (srt_setL h _ _)
    refine ⟨h1, ?_, ?_⟩
    · rw [List.foldl_cons, h2, mOf_setL h, setsM_cons]
    · rw [List.foldl_cons]
      have := doL_len l ⟨0, false, e.1, e.2⟩
      simp only [doL, Bool.false_eq_true, if_false] at this
      simp only [List.length_cons]
      omega
theorem finL_srt (es : List (Int × Int)) : Srt (finL es) := (fin_fold es [] Srt.nil).1
theorem mOf_none : mOf [] = noM := by funext x; rfl
theorem finL_m (es : List (Int × Int)) : mOf (finL es) = setsM noM es := by rw [← mOf_none]; exact (fin_fold es [] Srt.nil).2.1
theorem finL_len (es : List (Int × Int)) : (finL es).length ≤ es.length := by have := (fin_fold es [] Srt.nil).2.2; simpa [finL] using this

/-- The others, each with its index. -/
def oth (xs : List Int) : List (Int × Int) := xs.zipIdx.map fun p => (p.1, (p.2 : Int))
theorem oth_snoc (xs : List Int) (x : Int) : oth (xs ++ [x]) = oth xs ++ [(x, (xs.length : Int))] := by simp [oth, List.zipIdx_append]
theorem setsM_in (es : List (Int × Int)) : ∀ (m : Nat → Option Int) (x : Nat), (setsM m es x).isSome = true → (m x).isSome = true ∨ ∃ c, ((x : Int), c) ∈ es := by
  induction es with
  | nil => intro m x h; exact .inl h
  | cons e es ih =>
    intro m x h
    rw [setsM_cons] at h
    rcases ih _ _ h with h | ⟨c, hc⟩
    · unfold setM at h
      split at h
      · rename_i hb
        simp only [putM] at h
        split at h
        · rename_i hx
          exact .inr ⟨e.2, by rw [show ((x : Int), e.2) = e by cases e; simp only [Prod.mk.injEq, and_true]; simp only at hx hb; omega]; simp⟩
        · exact .inl h
      · exact .inl h
    · exact .inr ⟨c, List.mem_cons_of_mem _ hc⟩
theorem oth_mem {xs : List Int} {x c : Int} (h : (x, c) ∈ oth xs) : x ∈ xs := by
  unfold oth at h
  obtain ⟨p, hp, e⟩ := List.mem_map.1 h
  simp only [Prod.mk.injEq] at e
  rw [← e.1]
  obtain ⟨y, i⟩ := p
  exact (List.mem_zipIdx hp).2.2 ▸ List.getElem_mem _

/-- What c maps when the others' first k have been cleared. -/
def clrd (ma m0 : Nat → Option Int) (xs : List Int) : Nat → Option Int := fun x => (ma x).or (if (x : Int) ∈ xs then none else m0 x)
theorem clrd_nil (es : List (Int × Int)) (m0 : Nat → Option Int) : clrd (setsM noM es) m0 [] = setsM m0 es := by funext x; rw [setsM_or]; simp [clrd]
theorem clrd_end {ma m0 : Nat → Option Int} {xs : List Int} (h : ∀ x, (m0 x).isSome = true → (x : Int) ∈ xs) : clrd ma m0 xs = ma := by
  funext x
  unfold clrd
  by_cases hx : (x : Int) ∈ xs
  · simp [hx]
  · rw [if_neg hx]
    cases hm : m0 x with
    | none => simp
    | some c => exact absurd (h x (by rw [hm]; rfl)) hx
theorem clrd_keep {ma m0 : Nat → Option Int} {xs : List Int} {b : Int} (h : (atI ma b).isSome = true) : clrd ma m0 (xs ++ [b]) = clrd ma m0 xs := by
  funext x
  unfold clrd
  by_cases hx : (x : Int) = b
  · subst hx
    unfold atI at h
    split at h
    · obtain ⟨c, hc⟩ := Option.isSome_iff_exists.1 h
      simp only [Int.toNat_natCast] at hc
      rw [hc]; rfl
    · cases h
  · have : ((x : Int) ∈ xs ++ [b]) ↔ (x : Int) ∈ xs := by simp [hx]
    simp only [this]
theorem clrd_del {ma m0 : Nat → Option Int} {xs : List Int} {b : Int} (ho : ∀ x, 4096 ≤ x → ma x = none) (h : (atI ma b).isSome = false) : delM (clrd ma m0 xs) b = clrd ma m0 (xs ++ [b]) := by
  funext x
  unfold delM
  by_cases hb : 0 ≤ b
  · rw [if_pos hb]
    unfold clrM
    by_cases hx : x = b.toNat
    · rw [if_pos hx]
      have hxb : (x : Int) = b := by omega
      have hma : ma x = none := by
        by_cases h4 : x < 4096
        · unfold atI at h
          rw [if_pos (by omega), ← hx] at h
          cases hc : ma x with
          | none => rfl
          | some c => rw [hc] at h; cases h
        · exact ho x (by omega)
      unfold clrd
      rw [hma]
      simp [hxb]
    · rw [if_neg hx]
      have hxb : (x : Int) ≠ b := by omega
      unfold clrd
      have : ((x : Int) ∈ xs ++ [b]) ↔ (x : Int) ∈ xs := by simp [hxb]
      simp only [this]
  · rw [if_neg hb]
    have hxb : (x : Int) ≠ b := by omega
    unfold clrd
    have : ((x : Int) ∈ xs ++ [b]) ↔ (x : Int) ∈ xs := by simp [hxb]
    simp only [this]

theorem setsM_out (es : List (Int × Int)) : ∀ (m : Nat → Option Int), (∀ x, 4096 ≤ x → m x = none) → ∀ x, 4096 ≤ x → setsM m es x = none := by
  induction es with
  | nil => intro m h x hx; exact h x hx
  | cons e es ih =>
    intro m h x hx
    rw [setsM_cons]
    refine ih _ (fun y hy => ?_) x hx
    unfold setM
    split
    · simp only [putM]
      rw [if_neg (by omega)]; exact h y hy
    · exact h y hy

/-- Backwards, where a block that is mapped already is passed by. -/
theorem back_keep {es : List (Int × Int)} {e : Int × Int} (h : (atI (setsM noM es) e.1).isSome = true) : setsM noM (e :: es) = setsM noM es := by
  funext x
  rw [setsM_cons, setsM_or]
  by_cases hx : (x : Int) = e.1
  · unfold atI at h
    split at h
    · obtain ⟨c, hc⟩ := Option.isSome_iff_exists.1 h
      rw [← hx] at hc
      simp only [Int.toNat_natCast] at hc
      rw [hc]; rfl
    · cases h
  · have : setM noM e.1 e.2 x = none := by
      unfold setM
      split
      · simp only [putM, noM]
        rw [if_neg (by omega)]
      · rfl
    rw [this]; simp
theorem back_set {es : List (Int × Int)} {e : Int × Int} (h : (atI (setsM noM es) e.1).isSome = false) : setM (setsM noM es) e.1 e.2 = setsM noM (e :: es) := by
  funext x
  rw [setsM_cons, setsM_or es (setM noM e.1 e.2)]
  unfold setM
  split
  · rename_i hb
    simp only [putM]
    by_cases hx : x = e.1.toNat
    · rw [if_pos hx, if_pos hx]
      unfold atI at h
      rw [if_pos hb, ← hx] at h
      cases hc : setsM noM es x with
      | none => rfl
      | some c => rw [hc] at h; cases h
    · rw [if_neg hx, if_neg hx]; simp [noM]
  · simp [noM]

/-- A box that holds a good tree which maps m. -/
def TB (wr : World) (b : Nat) (m : Nat → Option Int) : Prop := ∃ T n, wr.heap[b]? = some (.cells #[ptrV (T.adr 2 0), .int .i64 n] 31) ∧ Good wr T n ∧ T.m = m
def FB (wr : World) (b : Nat) (l : List (Int × Int)) : Prop := ∃ A c, wr.heap[b]? = some (.cells #[.slice A l.length c] 35) ∧ RefAt wr (.agg #[.slice A l.length c]) l

theorem TB.below {wr W : World} {b : Nat} {m : Nat → Option Int} (h : TB wr b m) (hb : Below wr.heap.size wr W) : TB W b m := by
  obtain ⟨T, n, h1, h2, h3⟩ := h
  exact ⟨T, n, (hb.block _ (Array.getElem?_eq_some_iff.1 h1).1).trans h1, h2.below hb, h3⟩
theorem FB.below {wr W : World} {b : Nat} {l : List (Int × Int)} (h : FB wr b l) (hb : Below wr.heap.size wr W) : FB W b l := by
  obtain ⟨A, c, h1, h2⟩ := h
  exact ⟨A, c, (hb.block _ (Array.getElem?_eq_some_iff.1 h1).1).trans h1, h2.below hb⟩
theorem TB.other {W : World} {b g : Nat} {m : Nat → Option Int} {x y u v : Value} (h : TB W b m) (hr : W.heap[g]? = some (.cells #[x, y] 31)) (hne : b ≠ g) : TB ((W.setCell ⟨g, 0, none⟩ u).setCell ⟨g, 1, none⟩ v) b m := by
  obtain ⟨T, n, h1, h2, h3⟩ := h
  exact ⟨T, n, (Below.heap_setCell _ _ _ _ hne).trans ((Below.heap_setCell _ _ _ _ hne).trans h1), h2.keep fun k cs hk => by
    have hk' : k ≠ g := by rintro rfl; rw [hr] at hk; injection hk with hk; injection hk with _ hk; cases hk
    exact (Below.heap_setCell _ _ _ _ hk').trans ((Below.heap_setCell _ _ _ _ hk').trans hk), h3⟩
theorem TB.set {W : World} {g : Nat} {m : Nat → Option Int} {T : TV} {n : Int} {x y : Value} (hr : W.heap[g]? = some (.cells #[x, y] 31)) (hg : Good W T n) (hm : T.m = m) : TB ((W.setCell ⟨g, 0, none⟩ (ptrV (T.adr 2 0))).setCell ⟨g, 1, none⟩ (.int .i64 n)) g m := by
  refine ⟨T, n, set_two1 (set_two0 hr _) _, hg.keep fun k cs hk => ?_, hm⟩
  have hk' : k ≠ g := by rintro rfl; rw [hr] at hk; injection hk with hk; injection hk with _ hk; cases hk
  exact (Below.heap_setCell _ _ _ _ hk').trans ((Below.heap_setCell _ _ _ _ hk').trans hk)
theorem FB.other {W : World} {b g : Nat} {l : List (Int × Int)} {x y u v : Value} (h : FB W b l) (hr : W.heap[g]? = some (.cells #[x, y] 31)) (hne : b ≠ g) : FB ((W.setCell ⟨g, 0, none⟩ u).setCell ⟨g, 1, none⟩ v) b l := by
  obtain ⟨A, c, h1, h2⟩ := h
  exact ⟨A, c, (Below.heap_setCell _ _ _ _ hne).trans ((Below.heap_setCell _ _ _ _ hne).trans h1), (h2.setCell (p := ⟨g, 0, none⟩) hr (by decide) u).setCell (p := ⟨g, 1, none⟩) (set_two0 hr u) (by decide) v⟩
theorem TB.otherF {W : World} {b g : Nat} {m : Nat → Option Int} {x u : Value} (h : TB W b m) (hr : W.heap[g]? = some (.cells #[x] 35)) (hne : b ≠ g) : TB (W.setCell ⟨g, 0, none⟩ u) b m := by
  obtain ⟨T, n, h1, h2, h3⟩ := h
  exact ⟨T, n, (Below.heap_setCell _ _ _ _ hne).trans h1, h2.keep fun k cs hk => by
    have hk' : k ≠ g := by rintro rfl; rw [hr] at hk; injection hk with hk; injection hk with _ hk; cases hk
    exact (Below.heap_setCell _ _ _ _ hk').trans hk, h3⟩
theorem FB.set {W : World} {g c : Nat} {A : Option Addr} {l : List (Int × Int)} {x : Value} (hr : W.heap[g]? = some (.cells #[x] 35)) (h : RefAt W (.agg #[.slice A l.length c]) l) : FB (W.setCell ⟨g, 0, none⟩ (.slice A l.length c)) g l :=
  ⟨A, c, set_one hr _, h.setCell (p := ⟨g, 0, none⟩) hr (by decide) _⟩

/-- Three boxes with trees. -/
structure Q3 (w1 : World) (ba bb bc : Nat) (ma mb mc : Nat → Option Int) (wr : World) : Prop where
  below : Below w1.heap.size w1 wr
  a : TB wr ba ma
  b : TB wr bb mb
  c : TB wr bc mc
/-- Three boxes with trees and one with a reference tree. -/
structure Q4 (w1 : World) (ba bb bc bf : Nat) (ma mb mc : Nat → Option Int) (l : List (Int × Int)) (wr : World) : Prop where
  q : Q3 w1 ba bb bc ma mb mc wr
  f : FB wr bf l

section
variable {w1 wr W : World} {ba bb bc bf : Nat} {ma mb mc m2 : Nat → Option Int} {l : List (Int × Int)} {T2 : TV} {n2 : Int} {x y : Value}
theorem Q3.next (h : Q3 w1 ba bb bc ma mb mc wr) (hb : Below wr.heap.size wr W) : Q3 w1 ba bb bc ma mb mc W := ⟨h.below.trans (hb.mono h.below.size), h.a.below hb, h.b.below hb, h.c.below hb⟩
theorem Q4.next (h : Q4 w1 ba bb bc bf ma mb mc l wr) (hb : Below wr.heap.size wr W) : Q4 w1 ba bb bc bf ma mb mc l W := ⟨h.q.next hb, h.f.below hb⟩
theorem Q3.setA (h : Q3 w1 ba bb bc ma mb mc W) (hr : W.heap[ba]? = some (.cells #[x, y] 31)) (hg : Good W T2 n2) (hm : T2.m = m2) (hl : w1.heap.size ≤ ba) (h1 : bb ≠ ba) (h2 : bc ≠ ba) : Q3 w1 ba bb bc m2 mb mc ((W.setCell ⟨ba, 0, none⟩ (ptrV (T2.adr 2 0))).setCell ⟨ba, 1, none⟩ (.int .i64 n2)) :=
  ⟨(h.below.setCell (p := ⟨ba, 0, none⟩) hl _).setCell (p := ⟨ba, 1, none⟩) hl _, TB.set hr hg hm, h.b.other hr h1, h.c.other hr h2⟩
theorem Q3.setB (h : Q3 w1 ba bb bc ma mb mc W) (hr : W.heap[bb]? = some (.cells #[x, y] 31)) (hg : Good W T2 n2) (hm : T2.m = m2) (hl : w1.heap.size ≤ bb) (h1 : ba ≠ bb) (h2 : bc ≠ bb) : Q3 w1 ba bb bc ma m2 mc ((W.setCell ⟨bb, 0, none⟩ (ptrV (T2.adr 2 0))).setCell ⟨bb, 1, none⟩ (.int .i64 n2)) :=
  ⟨(h.below.setCell (p := ⟨bb, 0, none⟩) hl _).setCell (p := ⟨bb, 1, none⟩) hl _, h.a.other hr h1, TB.set hr hg hm, h.c.other hr h2⟩
theorem Q3.setC (h : Q3 w1 ba bb bc ma mb mc W) (hr : W.heap[bc]? = some (.cells #[x, y] 31)) (hg : Good W T2 n2) (hm : T2.m = m2) (hl : w1.heap.size ≤ bc) (h1 : ba ≠ bc) (h2 : bb ≠ bc) : Q3 w1 ba bb bc ma mb m2 ((W.setCell ⟨bc, 0, none⟩ (ptrV (T2.adr 2 0))).setCell ⟨bc, 1, none⟩ (.int .i64 n2)) :=
  ⟨(h.below.setCell (p := ⟨bc, 0, none⟩) hl _).setCell (p := ⟨bc, 1, none⟩) hl _, h.a.other hr h1, h.b.other hr h2, TB.set hr hg hm⟩
theorem Q4.setF {A : Option Addr} {c : Nat} {l2 : List (Int × Int)} (h : Q4 w1 ba bb bc bf ma mb mc l W) (hr : W.heap[bf]? = some (.cells #[x] 35)) (hf : RefAt W (.agg #[.slice A l2.length c]) l2) (hl : w1.heap.size ≤ bf) (h1 : ba ≠ bf) (h2 : bb ≠ bf) (h3 : bc ≠ bf) : Q4 w1 ba bb bc bf ma mb mc l2 (W.setCell ⟨bf, 0, none⟩ (.slice A l2.length c)) :=
  ⟨⟨h.q.below.setCell (p := ⟨bf, 0, none⟩) hl _, h.q.a.otherF hr h1, h.q.b.otherF hr h2, h.q.c.otherF hr h3⟩, FB.set hr hf⟩
end
end Go.Proofs.YtognbkmamhgkeaaDoor
