/-
  The variables that the walks lean on, and how they stay. No program is run here.
-/
import Derived.Test.YtdfhbnfhkckkbaaGreatDoorA4
import Derived.Test.YtdfhbnfhkckkbaaGreatDoorM1
import Derived.Test.YtdfhbnfhkckkbaaGreatDoorShelf
import Derived.WalkSmall
import Derived.Lib.AtoiAll
import Derived.Lib.LaidTab
import Derived.KernelRfl
namespace Go.Proofs.YtdfhbnfhkckkbaaGreatDoor
open Go Go.RowKit Go.Walks

theorem powG : Tryz.prog.globalNamed "internal/strconv.uint64pow10" = some 2 := by kernel_rfl
def strV (s : Bytes) : Value := .string ⟨s.toArray⟩
def intC (n : Int) : Value := .int .i64 n
/-- The names of the kinds and their numbers of arguments, as they lie in memory. -/
def kindCs (x : Bytes × Nat) : List Value := [strV x.1, intC (x.2 : Int)]
def kindCells : List Value := kindsB.flatMap kindCs
/-- The program's and the library's variables lie as the program's text lays them. -/
structure Gl (w : World) : Prop where
  syn : ∃ ev, w.cell? ⟨5, 0, none⟩ = some ev ∧ (ev = .nilIface ∨ ∃ te pe, ev = .iface te pe)
  rng : ∃ ev, w.cell? ⟨6, 0, none⟩ = some ev ∧ (ev = .nilIface ∨ ∃ te pe, ev = .iface te pe)
  mx : ∃ m, w.cell? ⟨1, 0, none⟩ = some (.int .i64 m)
  pow : Lib.TabIs Tryz.prog w "internal/strconv.uint64pow10" .u64 Lib.pow10Tab
  kin : ∃ t fz, w.heap[0]? = some (.cells kindCells.toArray t fz)
  size : 9 ≤ w.heap.size
theorem Gl.keep {w w' : World} (h : Gl w) (hs : w.heap.size ≤ w'.heap.size) (hb : ∀ k : Nat, k < 9 → w'.heap[k]? = w.heap[k]?) : Gl w' := by
  have cell : ∀ (g j : Nat) (v : Value), g < 9 → w.cell? ⟨g, j, none⟩ = some v → w'.cell? ⟨g, j, none⟩ = some v := fun g j v hg hv => by
    have := hb g hg
    simp only [World.cell?] at hv ⊢
    rw [this]; exact hv
  refine ⟨?_, ?_, ?_, ?_, (by obtain ⟨t, fz, h1⟩ := h.kin; exact ⟨t, fz, (hb 0 (by omega)).trans h1⟩), Nat.le_trans h.size hs⟩
  · obtain ⟨ev, h1, h2⟩ := h.syn
    exact ⟨ev, cell 5 0 ev (by omega) h1, h2⟩
  · obtain ⟨ev, h1, h2⟩ := h.rng
    exact ⟨ev, cell 6 0 ev (by omega) h1, h2⟩
  · obtain ⟨m, h1⟩ := h.mx
    exact ⟨m, cell 1 0 _ (by omega) h1⟩
  · have hp := h.pow
    unfold Lib.TabIs at hp ⊢
    unfold World.var? at hp ⊢
    simp only [powG, Option.bind_some] at hp ⊢
    rw [hb 2 (by omega)]; exact hp
theorem Gl.below {w w' : World} (h : Gl w) (hb : Below w.heap.size w w') : Gl w' := h.keep hb.size (fun k hk => hb.block k (by have := h.size; omega))
theorem Gl.rb {w w' : World} {r : Nat} (h : Gl w) (hb : RB r w w') (hr : 9 ≤ r) : Gl w' := h.keep hb.size (fun k hk => hb.block k (by have := h.size; omega) (by omega))
theorem cell_at {w : World} {g : Nat} {t : TypeId} {cs : Array Value} (h : w.heap[g]? = some (.cells cs t)) (k : Nat) {u : Value} (hu : cs[k]? = some u) : w.cell? ⟨g, k, none⟩ = some u ∧ w.frozen? ⟨g, k, none⟩ = false := by
  constructor
  · rw [cell_of_row w g k cs t (0, 0) h]; exact hu
  · exact frozen_of_row w g k cs t h
theorem below_cells {w W : World} {g : Nat} {t : TypeId} {cs : Array Value} {fz : Nat × Nat} (h : w.heap[g]? = some (.cells cs t fz)) (hb : Below w.heap.size w W) : W.heap[g]? = some (.cells cs t fz) := (hb.block _ (Array.getElem?_eq_some_iff.1 h).1).trans h
end Go.Proofs.YtdfhbnfhkckkbaaGreatDoor
