/-
  Small laws of the walk: an operation whose run is known by an equation. Over every program.
-/
import Derived.WalkKit
namespace Go.Walks
open Go
section
variable {P : Program} {ops : Array Oper} {rest : List Oper} {o : Oper} {a : Act} {w w' : World} {Q : Exit → Act → World → Prop}

theorem wpList_load_eq (hg : o.guard = none) (t : TypeId) (x : Operand) (ho : o.op = .load t x) (v : Value) (hr : (Instr.loadAt t (a.eval x)).run P w = .ok v w)
    (h : wpList P ops Q rest (a.put o.dst v) w) : wpList P ops Q (o :: rest) a w :=
  wpList_plain hg fun K hK => by
    unfold Oper.wp execOp
    simp only [ho]
    show Oper.upon P o a K Q ((Instr.loadAt t (a.eval x) >>= fun x => pure (Next.value x) : Sem Next).run P w)
    rw [Sem.run_bind, hr]
    exact hK _ _ h

theorem wpList_index_eq (hg : o.guard = none) (t : TypeId) (x y : Operand) (ho : o.op = .index t x y) (v : Value) (hr : (Instr.index t (a.eval x) (a.eval y)).run P w = .ok v w)
    (h : wpList P ops Q rest (a.put o.dst v) w) : wpList P ops Q (o :: rest) a w :=
  wpList_plain hg fun K hK => by
    unfold Oper.wp execOp
    simp only [ho]
    show Oper.upon P o a K Q ((Instr.index t (a.eval x) (a.eval y) >>= fun x => pure (Next.value x) : Sem Next).run P w)
    rw [Sem.run_bind, hr]
    exact hK _ _ h

theorem wpList_build_eq (hg : o.guard = none) (t : TypeId) (ps : Array (Nat × Operand)) (ho : o.op = .build t ps) (v : Value) (hr : (Instr.build t (ps.map fun x => (x.1, a.eval x.2))).run P w = .ok v w)
    (h : wpList P ops Q rest (a.put o.dst v) w) : wpList P ops Q (o :: rest) a w :=
  wpList_plain hg fun K hK => by
    unfold Oper.wp execOp
    simp only [ho]
    rw [Sem.run_bind, hr]
    exact hK _ _ h

theorem wpList_buildSlice_eq (hg : o.guard = none) (t : TypeId) (n : Nat) (ps : Array (Nat × Operand)) (ho : o.op = .buildSlice t n ps) (v : Value) (hr : (Instr.buildSlice t n (ps.map fun x => (x.1, a.eval x.2))).run P w = .ok v w')
    (h : wpList P ops Q rest (a.put o.dst v) w') : wpList P ops Q (o :: rest) a w :=
  wpList_plain hg fun K hK => by
    unfold Oper.wp execOp
    simp only [ho]
    rw [Sem.run_bind, hr]
    exact hK _ _ h

theorem wpList_store_eq (hg : o.guard = none) (t : TypeId) (x y : Operand) (ho : o.op = .store t x y) (hd : o.dst = none) (hr : (Instr.storeAt t (a.eval x) (a.eval y)).run P w = .ok () w')
    (h : wpList P ops Q rest a w') : wpList P ops Q (o :: rest) a w :=
  wpList_plain hg fun K hK => by
    unfold Oper.wp execOp
    simp only [ho]
    show Oper.upon P o a K Q ((Instr.storeAt t (a.eval x) (a.eval y) >>= fun _ => pure Next.skip : Sem Next).run P w)
    rw [Sem.run_bind, hr]
    have := hK _ _ h
    show K (a.put o.dst undef) _
    rw [hd]; exact this
end
end Go.Walks
