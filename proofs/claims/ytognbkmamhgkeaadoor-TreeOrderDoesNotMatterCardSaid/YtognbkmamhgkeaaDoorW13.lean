/-
  The walks of the reference's find and Get over a list of entries.
-/
import Derived.Test.YtognbkmamhgkeaaDoorW3
import Derived.Test.YtognbkmamhgkeaaDoorSl
import Derived.Test.YtognbkmamhgkeaaDoorGe
namespace Go.Proofs.YtognbkmamhgkeaaDoor
open Go Go.RowKit Go.Walks

/-- The cells of a list of entries. -/
def entCells (l : List (Int × Int)) : List Value := l.flatMap fun x => [.int .i64 x.1, .int .i64 x.2]
theorem entCells_cons (x : Int × Int) (l : List (Int × Int)) : entCells (x :: l) = .int .i64 x.1 :: .int .i64 x.2 :: entCells l := rfl
theorem entCells_at : ∀ (l : List (Int × Int)) (k : Nat) (x : Int × Int), l[k]? = some x → (entCells l)[k * 2]? = some (.int .i64 x.1) ∧ (entCells l)[k * 2 + 1]? = some (.int .i64 x.2)
  | [], _, _, h => by simp at h
  | y :: l, 0, x, h => by
    have : y = x := by simpa using h
    subst this; exact ⟨rfl, rfl⟩
  | y :: l, k + 1, x, h => by
    have := entCells_at l k x (by simpa using h)
    rw [entCells_cons, show (k + 1) * 2 = k * 2 + 1 + 1 by omega]
    exact this
theorem entCells_len (l : List (Int × Int)) : (entCells l).length = l.length * 2 := by
  induction l with
  | nil => rfl
  | cons x l ih => rw [entCells_cons]; simp only [List.length_cons, ih]; omega

/-- The index of the first entry whose block is not less than b. -/
def findI (l : List (Int × Int)) (b : Int) : Nat := (l.takeWhile fun e => decide (e.1 < b)).length
def foundB (l : List (Int × Int)) (b : Int) : Bool := (l[findI l b]?).any fun e => e.1 == b

theorem findI_le (l : List (Int × Int)) (b : Int) : findI l b ≤ l.length := (List.takeWhile_sublist _).length_le
theorem findI_of {l : List (Int × Int)} {b : Int} {k : Nat} (h : ∀ j x, j < k → l[j]? = some x → x.1 < b) (hk : ∀ x, l[k]? = some x → ¬ x.1 < b) (hl : k ≤ l.length) : findI l b = k := by
  induction l generalizing k with
  | nil => simp at hl; subst hl; rfl
  | cons y l ih =>
    cases k with
    | zero =>
      have := hk y rfl
      simp [findI, this]
    | succ k =>
      have h0 := h 0 y (by omega) rfl
      have := ih (k := k) (fun j x hj hx => h (j + 1) x (by omega) (by simpa using hx)) (fun x hx => hk x (by simpa using hx)) (by simpa using hl)
      unfold findI at this ⊢
      rw [List.takeWhile_cons, if_pos (by simpa using h0)]
      simp [this]

def FindPost (w : World) (l : List (Int × Int)) (b : Int) (e : Ending) (w' : World) : Prop :=
  e = .returned (.tuple #[.int .i64 (findI l b : Nat), .bool (foundB l b)]) ∧ Below w.heap.size w w'

set_option maxHeartbeats 400000 in
theorem find_any (l : List (Int × Int)) (A : Option Addr) (c : Nat) (b : Int) (w : World) (hl : l.length ≤ 100000) (Hsl : Hid (Sl w w.heap.size A (entCells l))) :
    Calls Tryd.prog 40 #[.agg #[.slice A l.length c], .int .i64 b] w (FindPost w l b) := by
  go_enter Tryd.func40, Tryd.ntmps40
  go_wp2_with fail
  go_loopw [6] (fun ix wr => ∃ k : Nat, k ≤ l.length ∧ ix = .int .i64 k ∧ wr = w.alloc (.cells #[.slice A l.length c] 35) ∧ Hid (∀ j x, j < k → l[j]? = some x → x.1 < b)) (fun ix _ => l.length - (intOf ix).toNat)
  case atStart => exact ⟨0, by omega, rfl, rfl, fun j x h => by omega⟩
  case round =>
    obtain ⟨k, hk, rfl, rfl, hpre⟩ := hrel
    by_cases hlt : k < l.length
    · obtain ⟨g, o, rfl, hg, hc⟩ := Hsl.out.at_ (k := k * 2) (by rw [entCells_len]; omega)
      obtain ⟨x, hx⟩ : ∃ x, l[k]? = some x := ⟨_, List.getElem?_eq_getElem hlt⟩
      have hc0 : w.cell? ⟨g, o + k * 2, none⟩ = some (.int .i64 x.1) := hc _ _ (entCells_at l k x hx).1
      have Hx := Lib.hid hx
      clear hc hx
      by_cases hb : x.1 < b
      · go_wp2_with fail
        refine ⟨⟨k + 1, by omega, by go_num, trivial, fun j y hj hy => ?_⟩, by simp [intOf]; omega⟩
        by_cases e : j = k
        · subst e; rw [Hx.out] at hy; injection hy with hy; subst hy; exact hb
        · exact hpre.out j y (by omega) hy
      · have hb' : b ≤ x.1 := by omega
        clear hb
        go_wp2_with fail
        go_quiet (fail)
        go_wp2_with fail
        go_ret2
        have hfi : findI l b = k := findI_of hpre.out (fun y hy => by rw [Hx.out] at hy; injection hy with hy; subst hy; omega) hk
        have hfb : foundB l b = (x.1 == b) := by unfold foundB; rw [hfi, Hx.out]; rfl
        exact ⟨by rw [hfi, hfb]; rfl, below_drewN ((Below.refl _ _).alloc (Nat.le_refl _) _) _⟩
    · go_wp2_with fail
      go_ret2
      have hkl : k = l.length := by omega
      have hfi : findI l b = k := findI_of hpre.out (fun y hy => by rw [hkl, List.getElem?_eq_none (Nat.le_refl _)] at hy; cases hy) hk
      have hfb : foundB l b = false := by unfold foundB; rw [hfi, hkl, List.getElem?_eq_none (Nat.le_refl _)]; rfl
      exact ⟨by rw [hfi, hfb, hkl]; rfl, (Below.refl _ _).alloc (Nat.le_refl _) _⟩

/-- What the list maps at b. -/
def getL (l : List (Int × Int)) (b : Int) : Option Int := if foundB l b then (l[findI l b]?).map (·.2) else none

theorem found_lt {l : List (Int × Int)} {b : Int} (h : foundB l b = true) : findI l b < l.length := by
  rcases Nat.lt_or_ge (findI l b) l.length with h1 | h1
  · exact h1
  · unfold foundB at h; rw [List.getElem?_eq_none h1] at h; cases h

set_option maxHeartbeats 400000 in
theorem rget_any (l : List (Int × Int)) (A : Option Addr) (c : Nat) (b : Int) (w : World) (hl : l.length ≤ 100000) (Hsl : Hid (Sl w w.heap.size A (entCells l))) :
    Calls Tryd.prog 29 #[.agg #[.slice A l.length c], .int .i64 b] w (GetPost w (getL l b)) := by
  have hb0 : Below w.heap.size w (w.alloc (.cells #[.slice A l.length c] 35)) := (Below.refl _ _).alloc (Nat.le_refl _) _
  have hbx := Hsl.out.below hb0
  go_enter Tryd.func29, Tryd.ntmps29
  go_wp2_with fail
  refine (find_any l A c b _ hl (hbx.more (by simp))).mono ?_
  rintro e w1 ⟨rfl, hb1⟩
  have r0 : w1.heap[w.heap.size]? = some (.cells #[.slice A l.length c] 35) := (hb1.block _ (by simp)).trans (heap_alloc_new _ _)
  have c00 : w1.cell? ⟨w.heap.size, 0, none⟩ = some (.slice A l.length c) := by simp [World.cell?, r0]
  have hb2 : Below w.heap.size w w1 := hb0.trans (hb1.mono (by simp))
  have Hb2 := Lib.hid hb2
  clear r0 hb1 hb2 hb0 hbx
  cases hf : foundB l b with
  | false =>
    have hg : getL l b = none := by unfold getL; rw [hf]; rfl
    have Hg := Lib.hid hg
    clear hg hf
    go_wp2_with fail
    go_ret2
    exact ⟨by rw [Hg.out]; rfl, Hb2.out⟩
  | true =>
    have hlt := found_lt hf
    obtain ⟨g, o, rfl, hg, hc⟩ := Hsl.out.at_ (k := findI l b * 2) (by rw [entCells_len]; omega)
    obtain ⟨x, hx⟩ : ∃ x, l[findI l b]? = some x := ⟨_, List.getElem?_eq_getElem hlt⟩
    have hc1 : w1.cell? ⟨g, o + findI l b * 2 + 1, none⟩ = some (.int .i64 x.2) := by rw [Hb2.out.cell hg]; exact hc _ _ (entCells_at l _ x hx).2
    have hgl : getL l b = some x.2 := by unfold getL; rw [hf, hx]; rfl
    have Hgl := Lib.hid hgl
    clear hgl hf hc hx
    generalize findI l b = k at *
    go_wp2_with fail
    go_ret2
    exact ⟨by rw [Hgl.out]; rfl, Hb2.out⟩
end Go.Proofs.YtognbkmamhgkeaaDoor
