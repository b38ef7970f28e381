/-
  The laws of memory for the 33 cells of a tree node, over the program's own types (type 76): no condition but those of each theorem.
-/
import Derived.Test.YtognbkmamhgkeaaDoorProg
import Derived.WalkKit
import Derived.WalkSpells
import Derived.WalkLawsBesides
import Derived.BigQuiet
import Derived.Deep.QuietTactic
import Derived.KernelRfl
namespace Go.Proofs.YtognbkmamhgkeaaDoor
open Go Go.RowKit

def padr : Option Nat → Option Addr
  | none => none
  | some b => some ⟨b, 0, none⟩
/-- The pointer to a node, or nil. -/
abbrev ptrV (x : Option Nat) : Value := .pointer (padr x)
theorem padr_some (b : Nat) : padr (some b) = some ⟨b, 0, none⟩ := rfl
theorem padr_none : padr none = none := rfl

def zeroNode : Array Value := #[.int .u16 0] ++ (Array.replicate 16 (.pointer none)) ++ (Array.replicate 16 (.int .i64 0))

theorem build76 (w : World) : (Instr.build 76 #[]).run Tryd.prog w = .ok (.agg zeroNode) w := by kernel_rfl
theorem zero76 (w : World) : (zeroValue 76).run Tryd.prog w = .ok (.agg zeroNode) w := by kernel_rfl
theorem alloc76 (w : World) (v : Value) : (Instr.alloc 76 true v).run Tryd.prog w = .ok (.pointer (some ⟨w.heap.size, 0, none⟩)) (w.alloc (.cells zeroNode 76)) := by
  cases v <;> kernel_rfl
theorem info76 : (Tryd.prog.info? 76).map (·.size) = some 33 := by kernel_rfl
theorem load76 (w : World) (g : Nat) (cs : Array Value) (t : TypeId) (fr : Nat × Nat) (hg : w.heap[g]? = some (.cells cs t fr)) (hs : cs.size = 33) :
    (Instr.loadAt 76 (.pointer (some ⟨g, 0, none⟩))).run Tryd.prog w = .ok (.agg cs) w := by
  show (loadVar 76 ⟨g, 0, none⟩).run Tryd.prog w = _
  exact run_loadVar_row w g t 76 cs fr _ hg Tryd.underlying76 rfl (by rw [hs]; exact info76)
theorem setRow_alloc (w : World) (n : Nat) (cur cs : Array Value) (t : TypeId) (hn : n = w.heap.size) : (w.alloc (.cells cur t)).setRow n cs = w.alloc (.cells cs t) := by
  subst hn
  have h : (w.heap.push (.cells cur t)).modify w.heap.size (fun x => match x with | .cells _ elem frozen => .cells cs elem frozen | o => o) = w.heap.push (.cells cs t) := by
    apply Array.ext_getElem?
    intro i
    rw [Array.getElem?_modify, Array.getElem?_push, Array.getElem?_push]
    by_cases hi : i = w.heap.size
    · subst hi; simp
    · rw [if_neg (by omega), if_neg hi, if_neg hi]
  show World.mk _ _ _ _ _ = World.mk _ _ _ _ _
  congr 1
theorem store76 (w : World) (g : Nat) (cur cs : Array Value) (t : TypeId) (hg : w.heap[g]? = some (.cells cur t)) (hc : cur.size = 33) (hs : cs.size = 33)
    (h1 : ∀ v, v ∈ cs.toList → v.oneCell' = true) :
    (Instr.storeAt 76 (.pointer (some ⟨g, 0, none⟩)) (.agg cs)).run Tryd.prog w = .ok () (w.setRow g cs) := by
  obtain ⟨i, hi, hz⟩ : ∃ i, Tryd.prog.info? 76 = some i ∧ i.size = 33 := by
    have := info76
    cases h : Tryd.prog.info? 76 with
    | none => simp [h] at this
    | some i => exact ⟨i, rfl, by simpa [h] using this⟩
  have hst := run_storeCells_at Tryd.prog g 0 t cs.toList 0 cur w hg (by simp; omega) h1
  have e : (List.take (0 + 0) cur.toList ++ cs.toList ++ List.drop (0 + 0 + cs.toList.length) cur.toList).toArray = cs := by
    have : List.drop cs.toList.length cur.toList = [] := List.drop_of_length_le (by simp; omega)
    simp only [Nat.zero_add, List.take_zero, List.nil_append, this, List.append_nil]
  rw [e] at hst
  have : (storeVar 76 ⟨g, 0, none⟩ (.agg cs)).run Tryd.prog w = .ok () (w.setRow g cs) := by
    simp [storeVar, sizeOf, typeInfo, hi, hz, Value.cells, hs, hst]
  exact this
theorem zeroNode_size : zeroNode.size = 33 := by simp [zeroNode]
theorem zeroNode_one : ∀ v, v ∈ zeroNode.toList → v.oneCell' = true := by
  intro v hv; simp [zeroNode] at hv; rcases hv with rfl | rfl | rfl <;> rfl

section
variable {ops : Array Oper} {rest : List Oper} {o : Oper} {a : Act} {w : World} {Q : Exit → Act → World → Prop}

theorem wpList_build76 (hg : o.guard = none) (ho : o.op = .build 76 #[]) (h : wpList Tryd.prog ops Q rest (a.put o.dst (.agg zeroNode)) w) :
    wpList Tryd.prog ops Q (o :: rest) a w :=
  wpList_plain hg fun K hK => by
    have hb := build76 w
    unfold Oper.wp execOp
    simp only [ho]
    have e : Array.map (fun x : Nat × Operand => (x.fst, a.eval x.snd)) #[] = #[] := by simp
    rw [e, Sem.run_bind, hb]
    exact hK _ _ h

theorem wpList_alloc76 (hg : o.guard = none) (ho : o.op = .alloc 76) (h : wpList Tryd.prog ops Q rest (a.put o.dst (.pointer (some ⟨w.heap.size, 0, none⟩))) (w.alloc (.cells zeroNode 76))) :
    wpList Tryd.prog ops Q (o :: rest) a w :=
  wpList_plain hg fun K hK => by
    have hb := alloc76 w (.tuple #[])
    unfold Oper.wp execOp
    simp only [ho]
    show Oper.upon Tryd.prog o a K Q ((Instr.alloc 76 true (.tuple #[]) >>= fun x => pure (Next.value x) : Sem Next).run Tryd.prog w)
    rw [Sem.run_bind, hb]
    exact hK _ _ h

theorem wpList_load76 (hg : o.guard = none) (x : Operand) (ho : o.op = .load 76 x) (g : Nat) (hx : a.eval x = .pointer (some ⟨g, 0, none⟩))
    (cs : Array Value) (t : TypeId) (fr : Nat × Nat) (hr : w.heap[g]? = some (.cells cs t fr)) (hs : cs.size = 33)
    (h : wpList Tryd.prog ops Q rest (a.put o.dst (.agg cs)) w) :
    wpList Tryd.prog ops Q (o :: rest) a w :=
  wpList_plain hg fun K hK => by
    have hb := load76 w g cs t fr hr hs
    unfold Oper.wp execOp
    simp only [ho]
    show Oper.upon Tryd.prog o a K Q ((Instr.loadAt 76 (a.eval x) >>= fun x => pure (Next.value x) : Sem Next).run Tryd.prog w)
    rw [hx, Sem.run_bind, hb]
    exact hK _ _ h

theorem wpList_store76 (hg : o.guard = none) (x y : Operand) (ho : o.op = .store 76 x y) (hd : o.dst = none) (g : Nat) (hx : a.eval x = .pointer (some ⟨g, 0, none⟩))
    (cs : Array Value) (hy : a.eval y = .agg cs) (cur : Array Value) (t : TypeId) (hr : w.heap[g]? = some (.cells cur t)) (hc : cur.size = 33) (hs : cs.size = 33)
    (h1 : ∀ v, v ∈ cs.toList → v.oneCell' = true)
    (h : wpList Tryd.prog ops Q rest a (w.setRow g cs)) :
    wpList Tryd.prog ops Q (o :: rest) a w :=
  wpList_plain hg fun K hK => by
    have hb := store76 w g cur cs t hr hc hs h1
    unfold Oper.wp execOp
    simp only [ho]
    show Oper.upon Tryd.prog o a K Q ((Instr.storeAt 76 (a.eval x) (a.eval y) >>= fun _ => pure Next.skip : Sem Next).run Tryd.prog w)
    rw [hx, hy, Sem.run_bind, hb]
    have := hK _ _ h
    show K (a.put o.dst undef) _
    rw [hd]; exact this
end
end Go.Proofs.YtognbkmamhgkeaaDoor
