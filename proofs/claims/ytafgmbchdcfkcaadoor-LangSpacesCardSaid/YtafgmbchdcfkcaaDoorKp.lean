/-
  What a part of the parser leaves as it was: blocks of one type; the two blocks that a function of the parser makes. No program is run here but by its contracts.
-/
import Derived.Test.YtafgmbchdcfkcaaDoorW6
namespace Go.Walks
open Go Go.RowKit

/-- All cells of type ty stay. -/
structure KeepT (ty : TypeId) (w w' : World) : Prop where
  size : w.heap.size ≤ w'.heap.size
  keep : ∀ (k : Nat) (cur : Array Value) (fz : Nat × Nat), w.heap[k]? = some (.cells cur ty fz) → w'.heap[k]? = some (.cells cur ty fz)

section
variable {ty : TypeId} {a b c w w' : World}
theorem KeepT.refl (ty : TypeId) (w : World) : KeepT ty w w := ⟨Nat.le_refl _, fun _ _ _ h => h⟩
theorem KeepT.trans (h : KeepT ty a b) (k : KeepT ty b c) : KeepT ty a c := ⟨Nat.le_trans h.size k.size, fun i cur fz hh => k.keep i cur fz (h.keep i cur fz hh)⟩
theorem KeepT.below (h : Below w.heap.size w w') : KeepT ty w w' := ⟨h.size, fun k _ _ hh => (h.block k (Array.getElem?_eq_some_iff.1 hh).1).trans hh⟩
theorem KeepT.alloc (w : World) (o : Obj) : KeepT ty w (w.alloc o) := KeepT.below ((Below.refl _ _).alloc (Nat.le_refl _) _)
theorem KeepT.drewN (w : World) (n : Nat) : KeepT ty w (w.drewN n) := ⟨Nat.le_refl _, fun _ _ _ h => h⟩
theorem cells_other {k g : Nat} {t : TypeId} {cur cs : Array Value} {fz fz' : Nat × Nat} (hh : w.heap[k]? = some (.cells cur ty fz)) (hg : w.heap[g]? = some (.cells cs t fz')) (ht : t ≠ ty) : k ≠ g := by
  intro e
  subst e
  rw [hh] at hg
  injection hg with hg
  injection hg with _ hg
  exact ht hg.symm
theorem KeepT.setCell {g : Nat} {t : TypeId} {cs : Array Value} {fz' : Nat × Nat} (hg : w.heap[g]? = some (.cells cs t fz')) (ht : t ≠ ty) (o : Nat) (u : Value) : KeepT ty w (w.setCell ⟨g, o, none⟩ u) :=
  ⟨by rw [World.size_setCell]; exact Nat.le_refl _, fun _ _ _ hh => (Below.heap_setCell _ _ _ _ (cells_other hh hg ht)).trans hh⟩
theorem KeepT.rb {r : Nat} {t : TypeId} {cs : Array Value} {fz' : Nat × Nat} (h : RB r w w') (hg : w.heap[r]? = some (.cells cs t fz')) (ht : t ≠ ty) : KeepT ty w w' :=
  ⟨h.size, fun k _ _ hh => (h.block k (Array.getElem?_eq_some_iff.1 hh).1 (cells_other hh hg ht)).trans hh⟩
theorem KeepT.grown {o : Option Nat} (h : w.grownBy w' o) (ho : ∀ k, o = some k → ∃ cs t fz, w.heap[k]? = some (.cells cs t fz) ∧ t ≠ ty) : KeepT ty w w' :=
  ⟨h.size, fun k _ _ hh => (h.block k (Array.getElem?_eq_some_iff.1 hh).1 (fun e => by
    obtain ⟨cs, t, fz, hg, ht⟩ := ho k e.symm
    exact cells_other hh hg ht rfl)).trans hh⟩
theorem SlT.keepT {B B' : Nat} {A : Option Addr} {xs : List Value} (h : SlT w B ty A xs) (k : KeepT ty w w') (hB : B ≤ B') : SlT w' B' ty A xs := h.move (fun i cur fz _ hh => k.keep i cur fz hh) hB
end
theorem four_cells {w : World} {g : Nat} {t : TypeId} {a b c d : Value} (h : w.heap[g]? = some (.cells #[a, b, c, d] t)) :
    w.cell? ⟨g, 0, none⟩ = some a ∧ w.cell? ⟨g, 1, none⟩ = some b ∧ w.cell? ⟨g, 2, none⟩ = some c ∧ w.cell? ⟨g, 3, none⟩ = some d ∧ w.frozen? ⟨g, 0, none⟩ = false ∧ w.frozen? ⟨g, 1, none⟩ = false ∧ w.frozen? ⟨g, 2, none⟩ = false ∧ w.frozen? ⟨g, 3, none⟩ = false := by
  simp [World.cell?, World.frozen?, h]
theorem set_four {w : World} {g : Nat} {t : TypeId} {a b c d : Value} (h : w.heap[g]? = some (.cells #[a, b, c, d] t)) (p q r s : Value) : ((((w.setCell ⟨g, 0, none⟩ p).setCell ⟨g, 1, none⟩ q).setCell ⟨g, 2, none⟩ r).setCell ⟨g, 3, none⟩ s).heap[g]? = some (.cells #[p, q, r, s] t) := by
  simp [World.setCell, Array.getElem?_modify, h]
theorem set_at {w : World} {g : Nat} {t : TypeId} {cs : Array Value} (h : w.heap[g]? = some (.cells cs t)) (o : Nat) (u : Value) : (w.setCell ⟨g, o, none⟩ u).heap[g]? = some (.cells (cs.setIfInBounds o u) t) := by
  simp [World.setCell, Array.getElem?_modify, h]
end Go.Walks
namespace Go.Proofs.YtafgmbchdcfkcaaDoor
open Go Go.RowKit Go.Walks

theorem PRes.step {α : Type} {P : Program} {f : FuncId} {args : Array Value} {t : ByteArray} {r : Nat} {x : PR α} {V : α → World → Ending → World → Prop} {w : World} {R : Ending → World → Prop}
    (h : Calls P f args w (PRes t r x V w)) (hok : ∀ a ts, x = .ok a ts → ∀ e w', V a w e w' → PAt w' r t ts → RB r w w' → R e w') (hbad : ∀ p, x = .bad p → ∀ w', RB r w w' → R (wrongE p 3) w') : Calls P f args w R := by
  refine h.mono ?_
  intro e w' hp
  cases x with
  | ok a ts => exact hok a ts rfl e w' hp.1 hp.2.1 hp.2.2
  | bad p =>
    obtain ⟨rfl, hb⟩ := hp
    exact hbad p rfl w' hb

/-- In a function of the reader that has made two blocks of type ty, the result's (still zero) and its own. -/
structure St2 (w : World) (r : Nat) (t : ByteArray) (ty : TypeId) (z cs : Array Value) (W : World) (ts : List Tok) : Prop where
  at_ : PAt W r t ts
  rb : RB r w W
  g0 : W.heap[w.heap.size]? = some (.cells z ty)
  g1 : W.heap[w.heap.size + 1]? = some (.cells cs ty)
  lt : r < w.heap.size

section
variable {w W W' : World} {r : Nat} {t : ByteArray} {ty : TypeId} {z cs : Array Value} {ts ts' : List Tok}
theorem St2.start (h : PAt w r t ts) : St2 w r t ty z cs ((w.alloc (.cells z ty)).alloc (.cells cs ty)) ts :=
  ⟨(h.alloc _).alloc _, ((RB.refl _ _).alloc _).alloc _, (Below.heap_alloc _ _ _ (by simp)).trans (heap_new w _), (by have := heap_new (w.alloc (.cells z ty)) (.cells cs ty); rwa [World.size_alloc] at this), h.lt⟩
theorem St2.call (h : St2 w r t ty z cs W ts) (hb : RB r W W') (hp : PAt W' r t ts') : St2 w r t ty z cs W' ts' :=
  ⟨hp, h.rb.trans hb, hb.row (by have := h.lt; omega) h.g0, hb.row (by have := h.lt; omega) h.g1, h.lt⟩
theorem St2.set (h : St2 w r t ty z cs W ts) (k : Nat) (u : Value) {cs' : Array Value} (hc : cs.setIfInBounds k u = cs') : St2 w r t ty z cs' (W.setCell ⟨w.heap.size + 1, k, none⟩ u) ts :=
  ⟨h.at_.setNew (by have := h.lt; omega), h.rb.setNew (by omega) _ _, (Below.heap_setCell _ _ _ _ (by simp)).trans h.g0, by rw [← hc]; exact set_at h.g1 k u, h.lt⟩
theorem St2.alloc (h : St2 w r t ty z cs W ts) (o : Obj) : St2 w r t ty z cs (W.alloc o) ts := h.call ((RB.refl _ _).alloc _) (h.at_.alloc _)
theorem St2.gl (h : St2 w r t ty z cs W ts) (hg : Gl w) (hr : 7 ≤ r) : Gl W := hg.rb h.rb hr
theorem St2.ne (h : St2 w r t ty z cs W ts) : r ≠ w.heap.size ∧ r ≠ w.heap.size + 1 := by have := h.lt; omega
end
end Go.Proofs.YtafgmbchdcfkcaaDoor
