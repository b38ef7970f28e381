/-
  Terms as a value of a world.
-/
import Derived.Test.YtimmffncfkcpfaaGreatDoorW11
namespace Go.Proofs.YtimmffncfkcpfaaGreatDoor
open Go Go.RowKit Go.Walks

/-- The value v says the terms T. -/
def TermsV (w : World) (T : TermsD) (v : Value) : Prop := ∃ A c A' d, v = .agg #[.slice A T.classes.length c, .slice A' T.contracts.length d] ∧ Sl w w.heap.size A (T.classes.flatMap clsCs) ∧ Sl w w.heap.size A' (T.contracts.flatMap ctrCs) ∧ T.classes.length ≤ c ∧ T.contracts.length ≤ d ∧ c ≤ maxLen ∧ d ≤ maxLen
theorem TermsV.below {w w' : World} {T : TermsD} {v : Value} (h : TermsV w T v) (hb : Below w.heap.size w w') : TermsV w' T v := by
  obtain ⟨A, c, A', d, e, h1, h2, h3⟩ := h
  exact ⟨A, c, A', d, e, (h1.below hb).more hb.size, (h2.below hb).more hb.size, h3⟩
theorem own_cap {w : World} {B n size c : Nat} {e : TypeId} {A : Option Addr} {xs : List Value} (h : w.ownsRow B e size (.slice A n c) n xs) : n ≤ c ∧ c ≤ maxLen := by
  obtain ⟨A', c', e', -, h1, h2⟩ := Sl.of_own h
  injection e' with _ _ e3
  subst e3
  exact ⟨h1, h2⟩
end Go.Proofs.YtimmffncfkcpfaaGreatDoor
