/-
  A slice of bytes among a law's arguments, opened.
-/
import Derived.Test.YtimmffncfkcpfaaDoorP1
import Derived.OpenShut
import Derived.ChangeSlices
namespace Go.Proofs.YtimmffncfkcpfaaDoor
open Go Go.ChangeShapes Go.WideShapes Go.ChangeAt Go.RowKit Go.Walks

section
variable {H : Type} {enc : TypeId × Value → H}
/-- A slice of bytes, opened. -/
theorem open_choice {W : World} {fuel len cap : Nat} {a : Option Addr} {x : DataW H × List MemPlace} (h : DataW.trod enc Tryd.prog W 0 (fun _ => true) true fuel 39 [.slice a len cap] = some x) :
    ∃ ch : List Nat, len = ch.length ∧ Sl W W.heap.size a (ch.map fun n : Nat => .int .u8 (n : Int)) ∧ (∀ n ∈ ch, n ≤ 255) ∧ ch.length ≤ maxLen := by
  rcases open_ints Tryd.underlying39 Tryd.underlying5 (by kernel_rfl) h with ⟨h0, _⟩ | ⟨a', len', cap', zs, hcs, _, hl, hm, hz, _, hat, hwf⟩
  · simp only [List.cons.injEq, Value.slice.injEq] at h0
    obtain ⟨⟨rfl, rfl, rfl⟩, -⟩ := h0
    exact ⟨[], rfl, .inl rfl, (fun n hn => by cases hn), Nat.zero_le _⟩
  · simp only [List.cons.injEq, Value.slice.injEq] at hcs
    obtain ⟨⟨rfl, rfl, rfl⟩, -⟩ := hcs
    simp only [if_true] at hz
    have hr : ∀ z ∈ zs, 0 ≤ z ∧ z ≤ 255 := fun z hz => by
      have := hwf z hz
      unfold Lit.wf at this
      rw [Bool.and_eq_true, decide_eq_true_eq, decide_eq_true_eq] at this
      have e1 : IntKind.min .u8 = 0 := rfl
      have e2 : IntKind.max .u8 = 255 := rfl
      rw [e1, e2] at this
      exact this
    refine ⟨(zs.take len).map Int.toNat, by simp; omega, sl_of_cells fun j u hu => ?_, fun n hn => ?_, by simp; omega⟩
    · rw [List.map_map, List.getElem?_map] at hu
      obtain ⟨z, hz1, rfl⟩ := Option.map_eq_some_iff.1 hu
      rw [List.getElem?_take] at hz1
      split at hz1
      · have hjz := (List.getElem?_eq_some_iff.1 hz1).1
        have := hat j hjz
        rw [this]
        have h0 := hr z (List.mem_of_getElem? hz1)
        have e1 : zs.getD j 0 = z := by simp [List.getD, hz1]
        rw [e1]
        show _ = some (Value.int .u8 ((z.toNat : Nat) : Int))
        rw [Int.toNat_of_nonneg h0.1]
      · cases hz1
    · obtain ⟨z, hz1, rfl⟩ := List.mem_map.1 hn
      have := hr z (List.mem_of_mem_take hz1)
      omega
end
end Go.Proofs.YtimmffncfkcpfaaDoor
