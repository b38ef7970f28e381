/-
  The walk of tree.Nodes: the number of different nodes of the trees of a slice.
-/
import Derived.Test.YtognbkmamhgkeaaDoorW5
import Derived.Test.YtognbkmamhgkeaaDoorSl
namespace Go.Proofs.YtognbkmamhgkeaaDoor
open Go Go.RowKit Go.Walks

/-- The cells of a list of trees. -/
def treeCells (Ts : List (TV × Int)) : List Value := Ts.flatMap fun x => [ptrV (x.1.adr 2 0), .int .i64 x.2]

theorem treeCells_at : ∀ (Ts : List (TV × Int)) (k : Nat) (x : TV × Int), Ts[k]? = some x → (treeCells Ts)[2 * k]? = some (ptrV (x.1.adr 2 0)) ∧ (treeCells Ts)[2 * k + 1]? = some (.int .i64 x.2)
  | [], _, _, h => by simp at h
  | y :: Ts, 0, x, h => by
    have : y = x := by simpa using h
    subst this; exact ⟨rfl, rfl⟩
  | y :: Ts, k + 1, x, h => by
    have := treeCells_at Ts k x (by simpa using h)
    have e : treeCells (y :: Ts) = ptrV (y.1.adr 2 0) :: .int .i64 y.2 :: treeCells Ts := rfl
    rw [e, show 2 * (k + 1) = 2 * k + 1 + 1 by omega]
    exact this
theorem treeCells_len (Ts : List (TV × Int)) : (treeCells Ts).length = 2 * Ts.length := by
  induction Ts with
  | nil => rfl
  | cons x Ts ih =>
    have e : treeCells (x :: Ts) = ptrV (x.1.adr 2 0) :: .int .i64 x.2 :: treeCells Ts := rfl
    rw [e]; simp only [List.length_cons, ih]; omega

/-- The nodes of the trees of a list, behind Nodes. -/
def gthAll (Ts : List (TV × Int)) : List Nat := Ts.foldl (fun S x => gth x.1 2 0 S) []

theorem MapAt.alloc {w : World} {M : Nat} {S : List Nat} (h : MapAt w M S) (o : Obj) : MapAt (w.alloc o) M S := by
  obtain ⟨es, clock, hh, he, hn⟩ := h
  have lt : ∀ {g : Nat} {x : Obj}, w.heap[g]? = some x → g < w.heap.size := by
    intro g x hx
    rcases Nat.lt_or_ge g w.heap.size with h | h
    · exact h
    · rw [Array.getElem?_eq_none h] at hx; cases hx
  refine ⟨es, clock, (Below.heap_alloc _ _ _ (lt hh)).trans hh, he, fun a ha => ?_⟩
  obtain ⟨cs, h1, h2⟩ := hn a ha
  exact ⟨cs, (Below.heap_alloc _ _ _ (lt h1)).trans h1, h2⟩

set_option maxHeartbeats 400000 in
theorem nodes_any (Ts : List (TV × Int)) (A : Option Addr) (c : Nat) (w : World) (hl : Ts.length ≤ 1000) (Hsl : Hid (Sl w w.heap.size A (treeCells Ts))) (Hs : Hid (∀ x, x ∈ Ts → Sub w x.1 2 0)) :
    Calls Tryd.prog 12 #[.slice A Ts.length c] w (fun e w' => e = .returned (.int .i64 (gthAll Ts).length) ∧ Below w.heap.size w w') := by
  have hmm := @run_makeMap Tryd.prog
  go_enter Tryd.func12, Tryd.ntmps12
  go_wp2_with fail
  go_loopw [9] (fun ix wr => ∃ k : Nat, k ≤ Ts.length ∧ ix = .int .i64 k ∧ Hid (Below w.heap.size w wr) ∧ Hid (MapAt wr w.heap.size ((Ts.take k).foldl (fun S x => gth x.1 2 0 S) []))) (fun ix _ => Ts.length - (intOf ix).toNat)
  case atStart => exact ⟨0, by omega, rfl, (Below.refl _ _).alloc (Nat.le_refl _) _, #[], 0, heap_alloc_new _ _, rfl, fun _ h => by cases h⟩
  case round =>
    obtain ⟨k, hk, rfl, Hb, Hm⟩ := hrel
    by_cases hlt : k < Ts.length
    · obtain ⟨b, o, rfl, hb, hc⟩ := Hsl.out.at_ (k := 2 * k) (by rw [treeCells_len]; omega)
      obtain ⟨x, hx⟩ : ∃ x, Ts[k]? = some x := ⟨_, List.getElem?_eq_getElem hlt⟩
      obtain ⟨h0, h1⟩ := treeCells_at Ts k x hx
      have hc0 : wr.cell? ⟨b, o + k * 2, none⟩ = some (ptrV (x.1.adr 2 0)) := by rw [Nat.mul_comm k 2, Hb.out.cell hb]; exact hc _ _ h0
      have hc1 : wr.cell? ⟨b, o + k * 2 + 1, none⟩ = some (.int .i64 x.2) := by rw [Nat.mul_comm k 2, Hb.out.cell hb]; exact hc _ _ h1
      have Hx := Lib.hid hx
      clear hc h0 h1 hx
      go_wp2_with fail
      have hbw := Hb.out.alloc Hb.out.size (Obj.cells #[Value.pointer (padr (x.fst.adr 2 0)), Value.int IntKind.i64 x.snd] 31)
      have hmem : x ∈ Ts := List.mem_of_getElem? Hx.out
      refine (gather_any 2 x.1 0 _ _ _ ((Hs.out x hmem).below hbw) (Hm.out.alloc _)).mono ?_
      rintro e w2 ⟨rfl, ho2, hm2⟩
      have Hb2 := Lib.hid (hbw.trans (ho2.below (Nat.le_refl _)))
      have Hm2 := Lib.hid hm2
      clear ho2 hm2 hbw hmem hc0 hc1
      go_wp2_with fail
      refine ⟨⟨k + 1, by omega, by go_num, Hb2, ?_⟩, by simp [intOf]; omega⟩
      show MapAt w2 _ _
      rw [List.take_succ_eq_append_getElem hlt, List.foldl_append]
      have : Ts[k] = x := by have := Hx.out; rw [List.getElem?_eq_getElem hlt] at this; injection this
      rw [this]
      exact Hm2.out
    · have hlen := len62 Hm.out 3
      go_wp2_with fail
      go_ret
      have hk16 : List.take k Ts = Ts := List.take_of_length_le (by omega)
      refine ⟨ret_int ?_, Hb.out⟩
      rw [hk16]; rfl
end Go.Proofs.YtognbkmamhgkeaaDoor
