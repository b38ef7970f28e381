/-
  The walk of tree.Equal.
-/
import Derived.Test.YtognbkmamhgkeaaDoorW11
import Derived.Test.YtognbkmamhgkeaaDoorSl
namespace Go.Proofs.YtognbkmamhgkeaaDoor
open Go Go.RowKit Go.Walks

def EqB (T1 T2 : TV) (n1 n2 : Int) : Bool := n1 == n2 && (diffR T1.m T2.m 0 4096).isEmpty

set_option maxHeartbeats 400000 in
theorem equal_any (T1 T2 : TV) (n1 n2 : Int) (w : World) (Ht : Hid (Tab w)) (Hs1 : Hid (Sub w T1 2 0)) (Hs2 : Hid (Sub w T2 2 0)) :
    Calls Tryd.prog 22 #[.agg #[ptrV (T1.adr 2 0), .int .i64 n1], .agg #[ptrV (T2.adr 2 0), .int .i64 n2]] w (fun e w' => e = .returned (.bool (EqB T1 T2 n1 n2)) ∧ Below w.heap.size w w') := by
  have hb0 : Below w.heap.size w ((w.alloc (Obj.cells #[ptrV (T1.adr 2 0), Value.int IntKind.i64 n1] 31)).alloc (Obj.cells #[ptrV (T2.adr 2 0), Value.int IntKind.i64 n2] 31)) := ((Below.refl _ _).alloc (Nat.le_refl _) _).alloc (by simp) _
  by_cases hn : n1 = n2
  · have hn' : (n1 == n2) = true := by simp [hn]
    have Hn := Lib.hid hn
    clear hn
    go_enter Tryd.func22, Tryd.ntmps22
    go_wp2_with (go_at_call 20; refine (diff_any T1 T2 n1 n2 _ (Ht.out.below hb0 Ht.out.1) (Sub.keep (Keeps76.of_below hb0 Ht.out.1) Hs1.out) (Sub.keep (Keeps76.of_below hb0 Ht.out.1) Hs2.out)).mono ?_; rintro e w2 ⟨v, rfl, hown, hb2⟩; obtain ⟨A, c, rfl, _, _, _⟩ := Sl.of_own hown; have Hb2 := Lib.hid hb2; clear hown hb2)
    go_ret
    refine ⟨?_, hb0.trans (Hb2.out.mono (by simp; omega))⟩
    have e : EqB T1 T2 n1 n2 = (((diffR T1.m T2.m 0 4096).length : Int) == 0) := by
      unfold EqB
      rw [hn']
      cases diffR T1.m T2.m 0 4096 with
      | nil => rfl
      | cons x l => simp; omega
    rw [e]; rfl
  · have hn' : (n1 == n2) = false := by simp [hn]
    clear hn
    go_enter Tryd.func22, Tryd.ntmps22
    go_wp2_with fail
    go_ret
    exact ⟨by unfold EqB; rw [hn']; rfl, hb0⟩
end Go.Proofs.YtognbkmamhgkeaaDoor
