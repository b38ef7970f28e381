/-
  The walk of the program's number and Print.
-/
import Derived.Test.YtimmffncfkcpfaaGreatDoorX1
import Derived.Test.YtimmffncfkcpfaaGreatDoorX2
import Derived.Test.YtimmffncfkcpfaaGreatDoorShelf
namespace Go.Proofs.YtimmffncfkcpfaaGreatDoor
open Go Go.RowKit Go.Walks

def preTx (wd : Bytes) : Bytes := [32] ++ wd ++ [32]
theorem pre_num (wd : Bytes) (n : Int) : preTx wd ++ Lib.itoa n = numTx wd n := rfl
def NumP (B b : Nat) (l s : Bytes) (g : Option Nat) (w : World) (e : Ending) (w' : World) : Prop :=
  e = .returned (.tuple #[]) ∧ ∃ g', BdAt w' B b (l ++ s) g' ∧ (g' = g ∨ ∃ k, g' = some k ∧ w.heap.size ≤ k) ∧ Wr b g w w'
theorem Wr.of_below {b : Nat} {g : Option Nat} {w w' : World} (h : Below w.heap.size w w') : Wr b g w w' := ⟨h.os, h.tape, h.output, h.size, fun k hk _ _ => h.block k hk⟩
theorem numTx_len (wd : Bytes) (n : Int) (h0 : -9223372036854775808 ≤ n) (h1 : n ≤ 9223372036854775807) : (numTx wd n).length ≤ wd.length + 23 := by
  have := itoa_len n h0 h1
  unfold numTx
  simp only [List.length_append, List.length_cons, List.length_nil]; omega

set_option maxRecDepth 100000 in
set_option maxHeartbeats 4000000 in
theorem number_any {B b : Nat} {l : Bytes} {g : Option Nat} (wd : Bytes) (n : Int) {w : World} (Hg : Hid (Gl w)) (Hh : Hid (BdAt w B b l g)) (h0 : -9223372036854775808 ≤ n) (h1 : n ≤ 9223372036854775807) (hw : wd.length ≤ 1000) (hl : l.length ≤ 140737488000000) (hB : B ≤ w.heap.size) :
    Calls Tryz.prog 28 #[.pointer (some ⟨b, 0, none⟩), .string ⟨wd.toArray⟩, .int .i64 n] w (NumP B b l (numTx wd n) g w) := by
  have hz := itoa_len n h0 h1
  have Hi := Lib.hid (fun (W : World) (hW : Gl W) => itoa_any n h0 h1 hW)
  have Hpl : Hid ((preTx wd).length = wd.length + 2) := by show _ = _; unfold preTx; simp
  have Hnl := Lib.hid (numTx_len wd n h0 h1)
  have q1 : ¬ 9223372036854775807 < 1 + wd.length := by omega
  have q2 : ¬ 9223372036854775807 < 1 + wd.length + 1 := by omega
  have q3 : ¬ 9223372036854775807 < wd.length + 1 + 1 := by omega
  have q4 : ¬ 9223372036854775807 < (preTx wd).length + (Lib.itoa n).length := by rw [Hpl.out]; omega
  have c1 : ((⟨#[32]⟩ : ByteArray) ++ ⟨wd.toArray⟩) = ⟨(32 :: wd).toArray⟩ := cat_eq [32] wd
  have c2 : ((⟨(32 :: wd).toArray⟩ : ByteArray) ++ ⟨#[32]⟩) = ⟨(preTx wd).toArray⟩ := cat_eq _ [32]
  have c3 : ((⟨(preTx wd).toArray⟩ : ByteArray) ++ ⟨(Lib.itoa n).toArray⟩) = ⟨(numTx wd n).toArray⟩ := cat_eq _ _
  go_enter Tryz.func28, Tryz.ntmps28
  go_wp2_with fail
  refine (Hi.out _ Hg.out).mono ?_
  unfold strV
  rintro e w1 ⟨rfl, hb1⟩
  have H1 := Lib.hid (Hh.out.below hb1)
  have HB1 := Lib.hid hb1
  clear hb1
  go_wp2_with fail
  refine (write_any (numTx wd n) H1.out (by have := Hnl.out; omega) (Nat.le_trans hB HB1.out.size)).mono ?_
  rintro e w2 ⟨rfl, g', hd, hg, hwr⟩
  have HN : Hid (NumP B b l (numTx wd n) g w (.returned (.tuple #[])) w2) := by
    refine ⟨rfl, g', hd, ?_, (Wr.of_below HB1.out).trans hwr (fun i e _ => e)⟩
    rcases hg with h | ⟨k, h, hk⟩
    · exact .inl h
    · exact .inr ⟨k, h, Nat.le_trans HB1.out.size hk⟩
  clear hd hg hwr
  go_wp2_with fail
  go_end0
  exact HN.out

/-- In Print: the terms' block and the builder. -/
structure PT (w : World) (ca : Array Value) (b : Nat) (l : Bytes) (g : Option Nat) (W : World) : Prop where
  below : Below w.heap.size w W
  x : W.heap[w.heap.size]? = some (.cells ca 26)
  bd : BdAt W b b l g
  lt : w.heap.size < b
section
variable {w W W' : World} {ca : Array Value} {b : Nat} {l s : Bytes} {g : Option Nat}
theorem PT.call (h : PT w ca b l g W) (hb : Below W.heap.size W W') : PT w ca b l g W' := ⟨h.below.trans (hb.mono h.below.size), below_cells h.x hb, h.bd.below hb, h.lt⟩
theorem PT.size (h : PT w ca b l g W) : b ≤ W.heap.size := Nat.le_of_lt h.bd.lt
theorem PT.from {l' : Bytes} {g' : Option Nat} (h : PT w ca b l g W) (hb : Below b W W') (hd : BdAt W' b b l' g') : PT w ca b l' g' W' :=
  ⟨h.below.trans (hb.mono (Nat.le_of_lt h.lt)), (hb.block _ h.lt).trans h.x, hd, h.lt⟩
/-- And the block x of a class or of a contract. -/
structure PC (w : World) (ca : Array Value) (b : Nat) (x : Nat) (cs : Array Value) (ty : TypeId) (l : Bytes) (g : Option Nat) (W : World) : Prop where
  pt : PT w ca b l g W
  row : W.heap[x]? = some (.cells cs ty)
  n54 : ty ≠ 87
  n5 : ty ≠ 5
variable {x : Nat} {cs : Array Value} {ty : TypeId}
theorem PC.start (h : PT w ca b l g W) (cs : Array Value) (ty : TypeId) (h1 : ty ≠ 87) (h2 : ty ≠ 5) : PC w ca b W.heap.size cs ty l g (W.alloc (.cells cs ty)) :=
  ⟨h.call ((Below.refl _ _).alloc (Nat.le_refl _) _), heap_new _ _, h1, h2⟩
theorem row_wr {t : TypeId} (h : BdAt W b b l g) (hw : Wr b g W W') (hr : W.heap[x]? = some (.cells cs t)) (h1 : t ≠ 87) (h2 : t ≠ 5) : W'.heap[x]? = some (.cells cs t) := by
  refine (hw.block x (Array.getElem?_eq_some_iff.1 hr).1 (fun e => ?_) (fun e => ?_)).trans hr
  · subst e
    obtain ⟨_, p, v, _, hb, _⟩ := h
    rw [hb] at hr
    injection hr with hr
    injection hr with _ hr
    exact h1 hr.symm
  · obtain ⟨cur', fz', h5⟩ := h.type e
    rw [h5] at hr
    injection hr with hr
    injection hr with _ hr
    exact h2 hr.symm
theorem PC.wrote {e : Ending} (h : PC w ca b x cs ty l g W) (hw : WroteP b b l s g W e W') : ∃ g', PC w ca b x cs ty (l ++ s) g' W' := by
  obtain ⟨-, g', hd, hg, hwr⟩ := hw
  exact ⟨g', h.pt.from (h.pt.bd.wr_below hwr h.pt.size) hd, row_wr h.pt.bd hwr h.row h.n54 h.n5, h.n54, h.n5⟩
theorem PC.num {e : Ending} (h : PC w ca b x cs ty l g W) (hw : NumP b b l s g W e W') : ∃ g', PC w ca b x cs ty (l ++ s) g' W' := by
  obtain ⟨-, g', hd, hg, hwr⟩ := hw
  exact ⟨g', h.pt.from (h.pt.bd.wr_below hwr h.pt.size) hd, row_wr h.pt.bd hwr h.row h.n54 h.n5, h.n54, h.n5⟩
end
end Go.Proofs.YtimmffncfkcpfaaGreatDoor
