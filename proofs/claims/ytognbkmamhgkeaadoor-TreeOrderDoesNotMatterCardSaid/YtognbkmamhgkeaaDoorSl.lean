/-
  A slice that reads as a list of cells, nil let in: how it stays while other memory changes. Over every program.
-/
import Derived.Below
import Derived.Laws.OwnMore
import Derived.Deep.Draws
namespace Go.Walks
open Go Go.RowKit

/-- The slice's address A (or nil) holds the cells xs, in a block below B. -/
def Sl (w : World) (B : Nat) (A : Option Addr) (xs : List Value) : Prop :=
  xs = [] ∨ ∃ b o, A = some ⟨b, o, none⟩ ∧ b < B ∧ ∀ j u, xs[j]? = some u → w.cell? ⟨b, o + j, none⟩ = some u

section
variable {w w' : World} {B B' : Nat} {A : Option Addr} {xs : List Value}
theorem Sl.nil : Sl w B A [] := .inl rfl
theorem Sl.keep (h : Sl w B A xs) (hk : ∀ p : Addr, p.block < B → w'.cell? p = w.cell? p) : Sl w' B A xs := by
  rcases h with h | ⟨b, o, e, hb, hc⟩
  · exact .inl h
  · exact .inr ⟨b, o, e, hb, fun j u hu => (hk _ hb).trans (hc j u hu)⟩
theorem Sl.more (h : Sl w B A xs) (hB : B ≤ B') : Sl w B' A xs := by
  rcases h with h | ⟨b, o, e, hb, hc⟩
  · exact .inl h
  · exact .inr ⟨b, o, e, by omega, hc⟩
theorem Sl.below (h : Sl w B A xs) (hb : Below B w w') : Sl w' B A xs := h.keep fun _ hp => hb.cell hp
theorem Sl.at_ (h : Sl w B A xs) {k : Nat} (hk : k < xs.length) : ∃ b o, A = some ⟨b, o, none⟩ ∧ b < B ∧ ∀ j u, xs[j]? = some u → w.cell? ⟨b, o + j, none⟩ = some u := by
  rcases h with h | h
  · subst h; simp at hk
  · exact h
theorem Sl.take (h : Sl w B A xs) (k : Nat) : Sl w B A (xs.take k) := by
  rcases h with h | ⟨b, o, e, hb, hc⟩
  · subst h; simp [Sl]
  · refine .inr ⟨b, o, e, hb, fun j u hu => hc j u ?_⟩
    rw [List.getElem?_take] at hu
    split at hu
    · exact hu
    · cases hu
theorem Sl.drop (h : Sl w B A xs) {k n c : Nat} (hk : k ≤ n) (hn : n ≤ c) (size : Nat) (hl : xs.length = n * size) : Sl w B (if c = k then A else A.map (·.add (k * size))) (xs.drop (k * size)) := by
  by_cases hx : xs.drop (k * size) = []
  · exact .inl hx
  · rcases h with h | ⟨b, o, e, hb, hc⟩
    · subst h; simp at hx
    · have hlt : k * size < n * size := by
        rcases Nat.lt_or_ge (k * size) (n * size) with h | h
        · exact h
        · exact absurd (List.drop_of_length_le (by omega)) hx
      have hkn : k ≠ n := by rintro rfl; omega
      rw [if_neg (by omega), e]
      refine .inr ⟨b, o + k * size, ?_, hb, fun j u hu => ?_⟩
      · have hadd : (⟨b, o, none⟩ : Addr).add (k * size) = ⟨b, o + k * size, none⟩ := by unfold Addr.add; split <;> simp_all
        simp [hadd]
      · rw [List.getElem?_drop] at hu
        rw [show o + k * size + j = o + (k * size + j) by omega]
        exact hc _ u hu
theorem Sl.new (w : World) (cs : List Value) (t : TypeId) : Sl (w.alloc (.cells cs.toArray t)) (w.heap.size + 1) (some ⟨w.heap.size, 0, none⟩) cs := by
  by_cases hx : cs = []
  · exact .inl hx
  · refine .inr ⟨w.heap.size, 0, rfl, by omega, fun j u hu => ?_⟩
    have : (w.alloc (.cells cs.toArray t)).heap[w.heap.size]? = some (.cells cs.toArray t) := by
      show (w.heap.push _)[w.heap.size]? = _
      simp
    simp only [World.cell?, this]
    simpa using hu
theorem Sl.of_own {base n size : Nat} {e : TypeId} {v : Value} (h : w.ownsRow base e size v n xs) : ∃ A c, v = .slice A n c ∧ Sl w w.heap.size A xs ∧ n ≤ c ∧ c ≤ maxLen := by
  rcases h.2 with ⟨rfl, rfl⟩ | ⟨g, cap, cur, rfl, hg, hh, hn, hc, hs, ht⟩
  · refine ⟨none, 0, rfl, .inl ?_, Nat.le_refl _, Nat.zero_le _⟩
    have := h.1
    simpa using this
  · refine ⟨_, cap, rfl, .inr ⟨g, 0, rfl, ?_, fun j u hu => ?_⟩, hn, hc⟩
    · rcases Nat.lt_or_ge g w.heap.size with h | h
      · exact h
      · rw [Array.getElem?_eq_none h] at hh; cases hh
    · rw [← ht] at hu
      rw [List.getElem?_take] at hu
      split at hu
      · simp only [World.cell?, hh]
        simpa using hu
      · cases hu

/-- The same, and the block's cells are of type t. -/
def SlT (w : World) (B : Nat) (t : TypeId) (A : Option Addr) (xs : List Value) : Prop :=
  xs = [] ∨ ∃ b o cur fz, A = some ⟨b, o, none⟩ ∧ b < B ∧ w.heap[b]? = some (.cells cur t fz) ∧ ∀ (j : Nat) (u : Value), xs[j]? = some u → cur[o + j]? = some u

theorem SlT.sl {t : TypeId} (h : SlT w B t A xs) : Sl w B A xs := by
  rcases h with h | ⟨b, o, cur, fz, e, hb, hh, hc⟩
  · exact .inl h
  · exact .inr ⟨b, o, e, hb, fun j u hu => by simp only [World.cell?, hh]; simpa using hc j u hu⟩
theorem SlT.move {t : TypeId} (h : SlT w B t A xs) (hm : ∀ (k : Nat) (cur : Array Value) (fz : Nat × Nat), k < B → w.heap[k]? = some (.cells cur t fz) → w'.heap[k]? = some (.cells cur t fz)) (hB : B ≤ B') : SlT w' B' t A xs := by
  rcases h with h | ⟨b, o, cur, fz, e, hb, hh, hc⟩
  · exact .inl h
  · exact .inr ⟨b, o, cur, fz, e, by omega, hm b cur fz hb hh, hc⟩
theorem SlT.below {t : TypeId} (h : SlT w B t A xs) (hb : Below B w w') (hB : B ≤ B') : SlT w' B' t A xs :=
  h.move (fun k _ _ hk hh => (hb.block k hk).trans hh) hB
theorem SlT.setCell {t t' : TypeId} {cs : Array Value} {fz' : Nat × Nat} (h : SlT w B t A xs) {p : Addr} (hp : w.heap[p.block]? = some (.cells cs t' fz')) (ht : t' ≠ t) (u : Value) : SlT (w.setCell p u) B t A xs :=
  h.move (fun k _ _ _ hh => (Below.heap_setCell _ _ _ _ (fun e => by subst e; rw [hh] at hp; injection hp with hp; injection hp with _ hp; exact ht hp.symm)).trans hh) (Nat.le_refl _)
theorem SlT.of_own {base n size : Nat} {e : TypeId} {v : Value} (h : w.ownsRow base e size v n xs) : ∃ A c, v = .slice A n c ∧ SlT w w.heap.size e A xs ∧ n ≤ c ∧ c ≤ maxLen := by
  rcases h.2 with ⟨rfl, rfl⟩ | ⟨g, cap, cur, rfl, hg, hh, hn, hc, hs, ht⟩
  · refine ⟨none, 0, rfl, .inl ?_, Nat.le_refl _, Nat.zero_le _⟩
    have := h.1
    simpa using this
  · refine ⟨_, cap, rfl, .inr ⟨g, 0, cur, _, rfl, ?_, hh, fun j u hu => ?_⟩, hn, hc⟩
    · rcases Nat.lt_or_ge g w.heap.size with h | h
      · exact h
      · rw [Array.getElem?_eq_none h] at hh; cases hh
    · rw [← ht] at hu
      rw [List.getElem?_take] at hu
      split at hu
      · simpa using hu
      · cases hu
end
end Go.Walks
