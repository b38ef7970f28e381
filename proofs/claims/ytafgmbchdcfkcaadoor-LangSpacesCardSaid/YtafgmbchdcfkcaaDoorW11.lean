/-
  The walks of guard and of its deferred closure.
-/
import Derived.Test.YtafgmbchdcfkcaaDoorKq
import Derived.Defers
import Derived.Recover
import Derived.Laws.ResultCell
namespace Go.Proofs.YtafgmbchdcfkcaaDoor
open Go Go.RowKit Go.Walks

theorem assert_yes (p en : Int) (w : World) : (Instr.typeAssert (.iface 69 (.agg #[.int .i64 p, .int .i64 en])) 20 69 true).run Tryd.prog w = .ok (.tuple #[.agg #[.int .i64 p, .int .i64 en], .bool true]) w := by kernel_rfl
theorem assert_nil (w : World) : (Instr.typeAssert .nilIface 20 69 true).run Tryd.prog w = .ok (.tuple #[.agg #[.int .i64 0, .int .i64 0], .bool false]) w := by kernel_rfl

set_option maxRecDepth 100000 in
set_option maxHeartbeats 400000 in
theorem catch_panic (g : Nat) (p en x y : Int) (w : World) (hg : w.heap[g]? = some (.cells #[.int .i64 x, .int .i64 y] 69)) :
    CallsD Tryd.prog 74 #[.pointer (some ⟨g, 0, none⟩)] (.panicking [{ v := .iface 69 (.agg #[.int .i64 p, .int .i64 en]), recovered := false }]) w fun e u' w' =>
      e = .returned (.tuple #[]) ∧ u' = .panicking [{ v := .iface 69 (.agg #[.int .i64 p, .int .i64 en]), recovered := true }] ∧ RB g w w' ∧ w'.heap[g]? = some (.cells #[.int .i64 p, .int .i64 en] 69) := by
  have hlt := (Array.getElem?_eq_some_iff.1 hg).1
  have hg1 : (w.alloc (.cells #[.int .i64 p, .int .i64 en] 69)).heap[g]? = some (.cells #[.int .i64 x, .int .i64 y] 69) := (Below.heap_alloc _ _ _ hlt).trans hg
  obtain ⟨c0, c1, f0, f1⟩ := two_cells hg1
  have ha := assert_yes p en w
  have Hg1 := Lib.hid hg1
  have Hlt := Lib.hid hlt
  clear hg hg1 hlt
  refine callsD_of_wpS Tryd.func74 rfl fun c₀ cs hu => ?_
  apply wpS_seq
  apply wpS_region
  simp [wpOpsS, go_sem, recoverD, hu, Tryd.ntmps74, Exit.thenS]
  refine wpS_of_wp ?_
  generalize hQ : (fun (e : Exit) (a' : Act) (w' : World) => _) = Q
  have HQ := Lib.hid hQ
  clear hQ
  clear hu
  change Code.wp _ _ _ { tmps := #[.pointer (some ⟨g, 0, none⟩), .iface 69 (.agg #[.int .i64 p, .int .i64 en]), undef, undef, .iface 69 (.agg #[.int .i64 p, .int .i64 en]), undef, undef, undef, undef, undef, undef, undef, undef, undef, undef], defers := [] } _
  go_wp2_with fail
  rw [← HQ.out]
  refine ⟨rfl, _, rfl, _, results_none rfl _ _ _, rfl, rfl, ?_, ?_⟩
  · have hl := Hlt.out
    refine ⟨rfl, rfl, rfl, by simp, fun k hk hk' => ?_⟩
    exact (Below.heap_setCell _ _ _ _ hk').trans ((Below.heap_setCell _ _ _ _ hk').trans (Below.heap_alloc _ _ _ hk))
  · have h := set_at (set_at Hg1.out 0 (.int .i64 p)) 1 (.int .i64 en)
    exact h
set_option maxRecDepth 100000 in
set_option maxHeartbeats 400000 in
theorem catch_idle (g : Nat) (w : World) :
    CallsD Tryd.prog 74 #[.pointer (some ⟨g, 0, none⟩)] .returning w fun e u' w' => e = .returned (.tuple #[]) ∧ u' = .returning ∧ Below w.heap.size w w' := by
  have ha := assert_nil w
  refine callsD_of_wpS Tryd.func74 rfl fun c₀ cs hu => ?_
  apply wpS_seq
  apply wpS_region
  simp [wpOpsS, go_sem, recoverD, hu, Tryd.ntmps74, Exit.thenS]
  refine wpS_of_wp ?_
  generalize hQ : (fun (e : Exit) (a' : Act) (w' : World) => _) = Q
  have HQ := Lib.hid hQ
  clear hQ
  change Code.wp _ _ _ { tmps := #[.pointer (some ⟨g, 0, none⟩), .nilIface, undef, undef, .nilIface, undef, undef, undef, undef, undef, undef, undef, undef, undef, undef], defers := [] } _
  go_wp2_with fail
  rw [← HQ.out]
  have hc : c₀ = { c₀ with mode := .returning } := by cases c₀; cases hu; rfl
  exact ⟨rfl, .returning, by rw [← hc], _, results_none rfl _ _ _, rfl, rfl, (Below.refl _ _).alloc (Nat.le_refl _) _⟩

theorem info69 : (Tryd.prog.info? 69).map (·.size) = some 2 := by kernel_rfl
def GuardP (w : World) (R : Ending → World → Prop) (e : Ending) (w' : World) : Prop :=
  ∃ e0 w0, R e0 w0 ∧ RB w.heap.size w0 w' ∧ ((e0 = .returned (.tuple #[]) ∧ e = .returned (.agg #[.int .i64 0, .int .i64 0])) ∨ ∃ p en, e0 = wrongE p en ∧ e = .returned (.agg #[.int .i64 p, .int .i64 en]))
set_option maxRecDepth 100000 in
set_option maxHeartbeats 1000000 in
theorem guard_any (cap : Array Value) (w : World) (R : Ending → World → Prop) (h : Hid (Calls Tryd.prog 56 cap (w.alloc (.cells #[.int .i64 0, .int .i64 0] 69)) R))
    (hR : Hid (∀ e w', R e w' → w'.heap[w.heap.size]? = some (.cells #[.int .i64 0, .int .i64 0] 69) ∧ (e = .returned (.tuple #[]) ∨ ∃ p en, e = wrongE p en))) :
    Calls Tryd.prog 55 #[.func (.func 56) #[] cap] w (GuardP w R) := by
  have hmf : ∀ (fn : Fn) (first cap : Array Value) (w : World), (Instr.makeFunc fn first cap).run Tryd.prog w = .ok (.func fn first cap) w := fun _ _ _ _ => rfl
  go_enter_defers Tryd.func55, Tryd.ntmps55
  go_wp2_with fail
  refine h.out.mono ?_
  intro e w1 hr
  obtain ⟨hrow, hcase⟩ := hR.out e w1 hr
  have Hr := Lib.hid hr
  have Hrow := Lib.hid hrow
  obtain ⟨c0, c1, f0, f1⟩ := two_cells hrow
  clear hr hrow
  rcases hcase with rfl | ⟨p, en, rfl⟩
  · go_wp2_with fail
    refine leaves_cons (f := 74) (args := #[.pointer (some ⟨w.heap.size, 0, none⟩)]) (by simp) (by simp [go_sem]) ?_
    refine (catch_idle w.heap.size _).mono ?_
    rintro e u' w2 ⟨rfl, rfl, hb⟩
    have h1 := set_at (set_at Hrow.out 0 (.int .i64 0)) 1 (.int .i64 0)
    have h2 := (hb.block _ (Array.getElem?_eq_some_iff.1 h1).1).trans h1
    refine ⟨_, results_cell_row (p := 2) (ty := 69) rfl _ _ w.heap.size 69 #[.int .i64 0, .int .i64 0] (0, 0) _ rfl h2 Tryd.underlying69 rfl info69, ?_⟩
    exact ⟨_, w1, Hr.out, (((RB.refl w.heap.size w1).setCell 0 _).setCell 1 _).trans (RB.of_below hb), .inl ⟨rfl, rfl⟩⟩
  · unfold wrongE
    go_wp2_with fail
    refine leaves_cons (f := 74) (args := #[.pointer (some ⟨w.heap.size, 0, none⟩)]) (by simp) (by simp [go_sem]) ?_
    refine (catch_panic w.heap.size p en 0 0 _ Hrow.out).mono ?_
    rintro e u' w2 ⟨rfl, rfl, hb, h2⟩
    refine ⟨_, results_cell_row (p := 2) (ty := 69) rfl _ _ w.heap.size 69 #[.int .i64 p, .int .i64 en] (0, 0) _ rfl h2 Tryd.underlying69 rfl info69, ?_⟩
    exact ⟨_, w1, Hr.out, hb, .inr ⟨p, en, rfl, rfl⟩⟩
end Go.Proofs.YtafgmbchdcfkcaaDoor
