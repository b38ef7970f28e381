/-
  What the statements' walks need: Nodes of one and of two trees in a world that has grown since the trees were read; slices of new blocks.
-/
import Derived.Test.YtognbkmamhgkeaaDoorW20
namespace Go.Proofs.YtognbkmamhgkeaaDoor
open Go Go.RowKit Go.Walks

def TrueP (w : World) (e : Ending) (w' : World) : Prop := e = .returned (.bool true) ∧ Below w.heap.size w w'

theorem bA {w X : World} {o : Obj} (h : Below w.heap.size w X) : Below w.heap.size w (X.alloc o) := h.alloc h.size _
theorem slN0 {X : World} {t : TypeId} (cs : List Value) : Sl (X.alloc (.cells cs.toArray t)) (X.alloc (.cells cs.toArray t)).heap.size (some ⟨X.heap.size, 0, none⟩) cs := (Sl.new X cs t).more (by simp)
theorem slN1 {X : World} {o : Obj} {t : TypeId} (cs : List Value) : Sl ((X.alloc o).alloc (.cells cs.toArray t)) ((X.alloc o).alloc (.cells cs.toArray t)).heap.size (some ⟨X.heap.size + 1, 0, none⟩) cs := by
  have := slN0 (X := X.alloc o) (t := t) cs
  simpa only [World.size_alloc] using this
theorem slB {X W : World} {A : Option Addr} {cs : List Value} (h : Sl X X.heap.size A cs) (hb : Below X.heap.size X W) : Sl W W.heap.size A cs := (h.below hb).more hb.size
theorem slA {X : World} {A : Option Addr} {o : Obj} {cs : List Value} (h : Sl X X.heap.size A cs) : Sl (X.alloc o) (X.alloc o).heap.size A cs := slB h ((Below.refl _ _).alloc (Nat.le_refl _) _)

def NP (wr W : World) (N : Nat) (e : Ending) (w' : World) : Prop := e = .returned (.int .i64 N) ∧ Below wr.heap.size wr w' ∧ Below W.heap.size W w'

theorem nodes1_w {wr W : World} {T : TV} {n : Int} {A : Option Addr} {c N : Nat} (hg : Good wr T n) (hN : (gthAll [(T, n)]).length = N) (hB : Below wr.heap.size wr W) (hsl : Sl W W.heap.size A [ptrV (T.adr 2 0), .int .i64 n]) :
    Calls Tryd.prog 12 #[.slice A 1 c] W (NP wr W N) := by
  refine (nodes_any [(T, n)] A c W (by simp) hsl (fun x hx => by simp at hx; subst hx; exact (hg.below hB).sub)).mono ?_
  rintro e w' ⟨rfl, hb⟩
  exact ⟨by rw [hN], hB.trans (hb.mono hB.size), hb⟩
theorem nodes2_w {wr W : World} {T T' : TV} {n n' : Int} {A : Option Addr} {c N : Nat} (hg : Good wr T n) (hg' : Good W T' n') (hN : (gthAll [(T, n), (T', n')]).length = N) (hB : Below wr.heap.size wr W) (hsl : Sl W W.heap.size A [ptrV (T.adr 2 0), .int .i64 n, ptrV (T'.adr 2 0), .int .i64 n']) :
    Calls Tryd.prog 12 #[.slice A 2 c] W (NP wr W N) := by
  refine (nodes_any [(T, n), (T', n')] A c W (by simp) hsl (fun x hx => by simp at hx; rcases hx with rfl | rfl; exact (hg.below hB).sub; exact hg'.sub)).mono ?_
  rintro e w' ⟨rfl, hb⟩
  exact ⟨by rw [hN], hB.trans (hb.mono hB.size), hb⟩

set_option maxHeartbeats 400000 in
theorem nodesCount_long (n c : Nat) (A : Option Addr) (w : World) (Ht : Hid (Tab w)) (hn : 60 < n) (hm : n ≤ maxLen) :
    Calls Tryd.prog 3 #[.slice A n c] w (TrueP w) := by
  unfold maxLen at hm
  go_enter Tryd.func3, Tryd.ntmps3
  go_wp2_with (go_at_call 9; refine (sanity_any _ Ht).mono ?_; rintro e w1 ⟨rfl, hb1⟩; have Hb1 := Lib.hid hb1; clear hb1)
  go_ret
  exact ⟨rfl, Hb1.out⟩
end Go.Proofs.YtognbkmamhgkeaaDoor
