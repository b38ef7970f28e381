/-
  A slice that reads as a list of cells, nil let in: how it stays while other memory changes. Over every program.
  The law of append onto a slice of the call's own, from a source that reads as a list, nil and empty let in. Over every program.
  A block that a call writes while all other old blocks stay: how such changes join. Over every program.
-/
import Derived.Below
import Derived.Laws.OwnMore
import Derived.Deep.Draws
import Derived.Maps.AppendAt
import Derived.OwnWalk
namespace Go.Walks
open Go Go.RowKit

/-- The slice's address A (or nil) holds the cells xs, in a block below B. -/
def Sl (w : World) (B : Nat) (A : Option Addr) (xs : List Value) : Prop :=
  xs = [] ∨ ∃ b o, A = some ⟨b, o, none⟩ ∧ b < B ∧ ∀ j u, xs[j]? = some u → w.cell? ⟨b, o + j, none⟩ = some u

section
variable {w w' : World} {B B' : Nat} {A : Option Addr} {xs : List Value}
theorem Sl.nil : Sl w B A [] := .inl rfl
theorem Sl.keep (h : Sl w B A xs) (hk : ∀ p : Addr, p.block < B → w'.cell? p = w.cell? p) : Sl w' B A xs := by
  rcases h with h | ⟨b, o, e, hb, hc⟩
  · exact .inl h
  · exact .inr ⟨b, o, e, hb, fun j u hu => (hk _ hb).trans (hc j u hu)⟩
theorem Sl.more (h : Sl w B A xs) (hB : B ≤ B') : Sl w B' A xs := by
  rcases h with h | ⟨b, o, e, hb, hc⟩
  · exact .inl h
  · exact .inr ⟨b, o, e, by omega, hc⟩
theorem Sl.below (h : Sl w B A xs) (hb : Below B w w') : Sl w' B A xs := h.keep fun _ hp => hb.cell hp
theorem Sl.at_ (h : Sl w B A xs) {k : Nat} (hk : k < xs.length) : ∃ b o, A = some ⟨b, o, none⟩ ∧ b < B ∧ ∀ j u, xs[j]? = some u → w.cell? ⟨b, o + j, none⟩ = some u := by
  rcases h with h | h
  · subst h; simp at hk
  · exact h
theorem Sl.take (h : Sl w B A xs) (k : Nat) : Sl w B A (xs.take k) := by
  rcases h with h | ⟨b, o, e, hb, hc⟩
  · subst h; simp [Sl]
  · refine .inr ⟨b, o, e, hb, fun j u hu => hc j u ?_⟩
    rw [List.getElem?_take] at hu
    split at hu
    · exact hu
    · cases hu
theorem Sl.drop (h : Sl w B A xs) {k n c : Nat} (hk : k ≤ n) (hn : n ≤ c) (size : Nat) (hl : xs.length = n * size) : Sl w B (if c = k then A else A.map (·.add (k * size))) (xs.drop (k * size)) := by
  by_cases hx : xs.drop (k * size) = []
  · exact .inl hx
  · rcases h with h | ⟨b, o, e, hb, hc⟩
    · subst h; simp at hx
    · have hlt : k * size < n * size := by
        rcases Nat.lt_or_ge (k * size) (n * size) with h | h
        · exact h
        · exact absurd (List.drop_of_length_le (by omega)) hx
      have hkn : k ≠ n := by rintro rfl; omega
      rw [if_neg (by omega), e]
      refine .inr ⟨b, o + k * size, ?_, hb, fun j u hu => ?_⟩
      · have hadd : (⟨b, o, none⟩ : Addr).add (k * size) = ⟨b, o + k * size, none⟩ := by unfold Addr.add; split <;> simp_all
        simp [hadd]
      · rw [List.getElem?_drop] at hu
        rw [show o + k * size + j = o + (k * size + j) by omega]
        exact hc _ u hu
theorem Sl.new (w : World) (cs : List Value) (t : TypeId) : Sl (w.alloc (.cells cs.toArray t)) (w.heap.size + 1) (some ⟨w.heap.size, 0, none⟩) cs := by
  by_cases hx : cs = []
  · exact .inl hx
  · refine .inr ⟨w.heap.size, 0, rfl, by omega, fun j u hu => ?_⟩
    have : (w.alloc (.cells cs.toArray t)).heap[w.heap.size]? = some (.cells cs.toArray t) := by
      show (w.heap.push _)[w.heap.size]? = _
      simp
    simp only [World.cell?, this]
    simpa using hu
theorem Sl.of_own {base n size : Nat} {e : TypeId} {v : Value} (h : w.ownsRow base e size v n xs) : ∃ A c, v = .slice A n c ∧ Sl w w.heap.size A xs ∧ n ≤ c ∧ c ≤ maxLen := by
  rcases h.2 with ⟨rfl, rfl⟩ | ⟨g, cap, cur, rfl, hg, hh, hn, hc, hs, ht⟩
  · refine ⟨none, 0, rfl, .inl ?_, Nat.le_refl _, Nat.zero_le _⟩
    have := h.1
    simpa using this
  · refine ⟨_, cap, rfl, .inr ⟨g, 0, rfl, ?_, fun j u hu => ?_⟩, hn, hc⟩
    · rcases Nat.lt_or_ge g w.heap.size with h | h
      · exact h
      · rw [Array.getElem?_eq_none h] at hh; cases hh
    · rw [← ht] at hu
      rw [List.getElem?_take] at hu
      split at hu
      · simp only [World.cell?, hh]
        simpa using hu
      · cases hu

/-- The same, and the block's cells are of type t. -/
def SlT (w : World) (B : Nat) (t : TypeId) (A : Option Addr) (xs : List Value) : Prop :=
  xs = [] ∨ ∃ b o cur fz, A = some ⟨b, o, none⟩ ∧ b < B ∧ w.heap[b]? = some (.cells cur t fz) ∧ ∀ (j : Nat) (u : Value), xs[j]? = some u → cur[o + j]? = some u

theorem SlT.sl {t : TypeId} (h : SlT w B t A xs) : Sl w B A xs := by
  rcases h with h | ⟨b, o, cur, fz, e, hb, hh, hc⟩
  · exact .inl h
  · exact .inr ⟨b, o, e, hb, fun j u hu => by simp only [World.cell?, hh]; simpa using hc j u hu⟩
theorem SlT.move {t : TypeId} (h : SlT w B t A xs) (hm : ∀ (k : Nat) (cur : Array Value) (fz : Nat × Nat), k < B → w.heap[k]? = some (.cells cur t fz) → w'.heap[k]? = some (.cells cur t fz)) (hB : B ≤ B') : SlT w' B' t A xs := by
  rcases h with h | ⟨b, o, cur, fz, e, hb, hh, hc⟩
  · exact .inl h
  · exact .inr ⟨b, o, cur, fz, e, by omega, hm b cur fz hb hh, hc⟩
theorem SlT.below {t : TypeId} (h : SlT w B t A xs) (hb : Below B w w') (hB : B ≤ B') : SlT w' B' t A xs :=
  h.move (fun k _ _ hk hh => (hb.block k hk).trans hh) hB
theorem SlT.setCell {t t' : TypeId} {cs : Array Value} {fz' : Nat × Nat} (h : SlT w B t A xs) {p : Addr} (hp : w.heap[p.block]? = some (.cells cs t' fz')) (ht : t' ≠ t) (u : Value) : SlT (w.setCell p u) B t A xs :=
  h.move (fun k _ _ _ hh => (Below.heap_setCell _ _ _ _ (fun e => by subst e; rw [hh] at hp; injection hp with hp; injection hp with _ hp; exact ht hp.symm)).trans hh) (Nat.le_refl _)
theorem SlT.of_own {base n size : Nat} {e : TypeId} {v : Value} (h : w.ownsRow base e size v n xs) : ∃ A c, v = .slice A n c ∧ SlT w w.heap.size e A xs ∧ n ≤ c ∧ c ≤ maxLen := by
  rcases h.2 with ⟨rfl, rfl⟩ | ⟨g, cap, cur, rfl, hg, hh, hn, hc, hs, ht⟩
  · refine ⟨none, 0, rfl, .inl ?_, Nat.le_refl _, Nat.zero_le _⟩
    have := h.1
    simpa using this
  · refine ⟨_, cap, rfl, .inr ⟨g, 0, cur, _, rfl, ?_, hh, fun j u hu => ?_⟩, hn, hc⟩
    · rcases Nat.lt_or_ge g w.heap.size with h | h
      · exact h
      · rw [Array.getElem?_eq_none h] at hh; cases hh
    · rw [← ht] at hu
      rw [List.getElem?_take] at hu
      split at hu
      · simpa using hu
      · cases hu
end
end Go.Walks
namespace Go.Walks
open Go Go.RowKit

/-- t is a slice type of elements e, each of some cells and bytes. -/
def SliceOf (P : Program) (t e : TypeId) (size bytes : Nat) : Prop :=
  P.underlying t = some (.slice e) ∧ 0 < size ∧ ∃ i z, P.info? e = some i ∧ i.zero = some z ∧ i.size = size ∧ i.bytes = bytes ∧ z.cells.size = size

theorem SliceOf.mk {P : Program} {t e : TypeId} {size bytes : Nat} {z : Value} (ht : P.underlying t = some (.slice e)) (hs : 0 < size) (hi : (P.info? e).map (fun i => (i.zero, i.size, i.bytes)) = some (some z, size, bytes)) (hz : z.cells.size = size) :
    SliceOf P t e size bytes := by
  obtain ⟨i, h1, h2, h3, h4⟩ := info_parts hi
  exact ⟨ht, hs, i, z, h1, h2, h3, h4, hz⟩

section
variable {P : Program} {w : World}

theorem run_append_sl {base n m c size bytes B : Nat} {t e ty : TypeId} {v : Value} {xs news : List Value} {A : Option Addr} (ht : SliceOf P t e size bytes) (hown : w.ownsRow base e size v n xs) (hl : news.length = m * size) (hr : Sl w B A news)
    (h1 : ∀ u, u ∈ news → u.oneCell' = true) (h63 : n + m ≤ maxLen) (hbytes : (n + m) * bytes ≤ 140737488355328) (hbase : base ≤ w.heap.size) :
    ∃ A' c' w', (Builtin.append_ #[t, t] ty #[v, .slice A m c]).run P w = .ok (.slice A' (n + m) c') w' ∧ w'.ownsRow base e size (.slice A' (n + m) c') (n + m) (xs ++ news) ∧ w.grownBy w' v.ownBlock := by
  obtain ⟨ht, hs, i, z, hi, hz, hsz, hby, hzs⟩ := ht
  have fin : ∀ {v' w'}, (Builtin.append_ #[t, t] ty #[v, .slice A m c]).run P w = .ok v' w' → w'.ownsRow base e size v' (n + m) (xs ++ news) → w.grownBy w' v.ownBlock →
      ∃ A' c' w', (Builtin.append_ #[t, t] ty #[v, .slice A m c]).run P w = .ok (.slice A' (n + m) c') w' ∧ w'.ownsRow base e size (.slice A' (n + m) c') (n + m) (xs ++ news) ∧ w.grownBy w' v.ownBlock := by
    intro v' w' hrun ho hg
    obtain ⟨A', c', rfl, _⟩ := Sl.of_own ho
    exact ⟨A', c', w', hrun, ho, hg⟩
  have hm0 : news = [] → m = 0 := fun h => by
    subst h
    rcases Nat.eq_zero_or_pos m with h0 | h0
    · exact h0
    · have := Nat.mul_pos h0 hs
      simp at hl; omega
  cases A with
  | none =>
    have hn : news = [] := by
      rcases hr with h | ⟨b, o, h, _⟩
      · exact h
      · cases h
    have hm := hm0 hn
    subst hn; subst hm
    refine fin (v' := v) (w' := w) ?_ (by simpa using hown) (World.grownBy.refl w _)
    rcases hown.2 with ⟨rfl, rfl⟩ | ⟨g, cap, cur, rfl, _, _, hnc, _⟩
    · simp [Builtin.append_, run_underlying ht, sizeOf, typeInfo, hi, Builtin.lenOf, Builtin.firstCells]
    · simp [Builtin.append_, run_underlying ht, sizeOf, typeInfo, hi, Builtin.lenOf, Builtin.firstCells, hnc, storeCells]
  | some ad =>
    have hcells : ∀ j u, news[j]? = some u → w.cell? (ad.add j) = some u := by
      intro j u hu
      rcases hr with h | ⟨b, o, h, _, hc⟩
      · subst h; simp at hu
      · injection h with h
        subst h
        have hadd : (⟨b, o, none⟩ : Addr).add j = ⟨b, o + j, none⟩ := by unfold Addr.add; split <;> simp_all
        rw [hadd]; exact hc j u hu
    obtain ⟨v', w', hrun, h2, h3, _, _⟩ := run_append_own_at (P := P) w base t ty e i z size bytes ht hi hz hsz hby hzs hs v n xs hown ad m c news hl hcells h1 h63 hbytes hbase
    exact fin hrun h2 h3

theorem wpList_append_sl {ops : Array Oper} {rest : List Oper} {o : Oper} {a : Act} {Q : Exit → Act → World → Prop} (hgd : o.guard = none) (s x : Operand) (t : TypeId)
    (ho : o.op = .call { callee := .builtin .append, args := #[s, x], argTypes := #[t, t] })
    {base n m c size bytes B : Nat} {e : TypeId} {v : Value} {xs news : List Value} {A : Option Addr} (hs : a.eval s = v) (hx : a.eval x = .slice A m c)
    (ht : SliceOf P t e size bytes) (hown : w.ownsRow base e size v n xs) (hl : news.length = m * size) (hr : Sl w B A news)
    (h1 : ∀ u, u ∈ news → u.oneCell' = true) (h63 : n + m ≤ maxLen) (hbytes : (n + m) * bytes ≤ 140737488355328) (hbase : base ≤ w.heap.size)
    (h : ∀ A' c' w', w'.ownsRow base e size (.slice A' (n + m) c') (n + m) (xs ++ news) → w.grownBy w' v.ownBlock → wpList P ops Q rest (a.put o.dst (.slice A' (n + m) c')) w') : wpList P ops Q (o :: rest) a w :=
  wpList_plain hgd fun K hK => by
    obtain ⟨A', c', w', hrun, h2, h3⟩ := run_append_sl (ty := o.type) (c := c) ht hown hl hr h1 h63 hbytes hbase
    unfold Oper.wp execOp
    simp only [ho, resolve, invoke, builtin, Sem.run_bind, Sem.run_pure, Result.andThen_ok, List.map_toArray, List.map_cons, List.map_nil, hs, hx, hrun]
    exact hK _ _ (h A' c' w' h2 h3)

/-- The same in a region that draws its order. -/
theorem step_append_sl {ops : Array Oper} {o : Oper} {a : Act} {K : Act → World → Prop} {Q : Exit → Act → World → Prop} {E : Prop} (hgd : o.guard = none) (s x : Operand) (t : TypeId)
    (ho : o.op = .call { callee := .builtin .append, args := #[s, x], argTypes := #[t, t] })
    {base n m c size bytes B : Nat} {e : TypeId} {v : Value} {xs news : List Value} {A : Option Addr} (hs : a.eval s = v) (hx : a.eval x = .slice A m c)
    (ht : SliceOf P t e size bytes) (hown : w.ownsRow base e size v n xs) (hl : news.length = m * size) (hr : Sl w B A news)
    (h1 : ∀ u, u ∈ news → u.oneCell' = true) (h63 : n + m ≤ maxLen) (hbytes : (n + m) * bytes ≤ 140737488355328) (hbase : base ≤ w.heap.size)
    (h : ∀ A' c' w', w'.ownsRow base e size (.slice A' (n + m) c') (n + m) (xs ++ news) → w.grownBy w' v.ownBlock → K (a.put o.dst (.slice A' (n + m) c')) w') :
    if Region.wanted o (yielded ops a.tmps) = true then Oper.wp P o a w K Q else E := by
  have hw : Region.wanted o (yielded ops a.tmps) = true := by simp [Region.wanted, hgd]
  rw [if_pos hw]
  obtain ⟨A', c', w', hrun, h2, h3⟩ := run_append_sl (ty := o.type) (c := c) ht hown hl hr h1 h63 hbytes hbase
  unfold Oper.wp execOp
  simp only [ho, resolve, invoke, builtin, Sem.run_bind, Sem.run_pure, Result.andThen_ok, List.map_toArray, List.map_cons, List.map_nil, hs, hx, hrun]
  exact h A' c' w' h2 h3
end
end Go.Walks
namespace Go.Walks
open Go Go.RowKit

/-- All old blocks but r lie as they lay. -/
structure RB (r : Nat) (w w' : World) : Prop where
  os : w'.os = w.os
  tape : w'.tape = w.tape
  output : w'.output = w.output
  size : w.heap.size ≤ w'.heap.size
  block : ∀ k : Nat, k < w.heap.size → k ≠ r → w'.heap[k]? = w.heap[k]?

section
variable {r : Nat} {a b c w w' : World}
theorem RB.refl (r : Nat) (w : World) : RB r w w := ⟨rfl, rfl, rfl, Nat.le_refl _, fun _ _ _ => rfl⟩
theorem RB.trans (h : RB r a b) (k : RB r b c) : RB r a c :=
  ⟨k.os.trans h.os, k.tape.trans h.tape, k.output.trans h.output, Nat.le_trans h.size k.size, fun i hi hr => (k.block i (Nat.lt_of_lt_of_le hi h.size) hr).trans (h.block i hi hr)⟩
theorem RB.of_below (h : Below a.heap.size a b) : RB r a b := ⟨h.os, h.tape, h.output, h.size, fun k hk _ => h.block k hk⟩
theorem RB.below {B : Nat} (h : RB r a b) (hr : B ≤ r) (hB : B ≤ a.heap.size) : Below B a b := ⟨h.os, h.tape, h.output, h.size, fun k hk => h.block k (by omega) (by omega)⟩
theorem RB.drew (h : RB r a w) : RB r a w.drew := ⟨h.os, h.tape, h.output, h.size, h.block⟩
theorem RB.drewN (h : RB r a w) (n : Nat) : RB r a (w.drewN n) := ⟨h.os, h.tape, h.output, h.size, h.block⟩
theorem RB.alloc (h : RB r a w) (o : Obj) : RB r a (w.alloc o) := h.trans (RB.of_below ((Below.refl _ _).alloc (Nat.le_refl _) _))
theorem RB.setCell (h : RB r a w) (o : Nat) (u : Value) : RB r a (w.setCell ⟨r, o, none⟩ u) :=
  ⟨h.os, h.tape, h.output, by rw [World.size_setCell]; exact h.size, fun k hk hr => (Below.heap_setCell _ _ _ _ hr).trans (h.block k hk hr)⟩
/-- A store into a block that is younger than a. -/
theorem RB.setNew (h : RB r a w) {g : Nat} (hg : a.heap.size ≤ g) (o : Nat) (u : Value) : RB r a (w.setCell ⟨g, o, none⟩ u) :=
  ⟨h.os, h.tape, h.output, by rw [World.size_setCell]; exact h.size, fun k hk hr => (Below.heap_setCell _ _ _ _ (by simp; omega)).trans (h.block k hk hr)⟩
theorem RB.grown {row : Option Nat} (h : RB r a w) (hg : w.grownBy w' row) (hr : ∀ k, row = some k → a.heap.size ≤ k) : RB r a w' :=
  ⟨hg.os.trans h.os, hg.tape.trans h.tape, hg.output.trans h.output, Nat.le_trans h.size hg.size, fun k hk hk' => (hg.block k (Nat.lt_of_lt_of_le hk h.size) (fun e => by have := hr k e.symm; omega)).trans (h.block k hk hk')⟩
theorem RB.row {cs : Array Value} {t : TypeId} {fz : Nat × Nat} {k : Nat} (h : RB r a b) (hk : k ≠ r) (hh : a.heap[k]? = some (.cells cs t fz)) : b.heap[k]? = some (.cells cs t fz) :=
  (h.block k (Array.getElem?_eq_some_iff.1 hh).1 hk).trans hh
/-- A slice over blocks of another type than r's stays. -/
theorem SlT.rb {B B' : Nat} {t t' : TypeId} {A : Option Addr} {xs : List Value} {cs : Array Value} {fz : Nat × Nat} (h : SlT w B t A xs) (hb : RB r w w') (hr : w.heap[r]? = some (.cells cs t' fz)) (ht : t' ≠ t) (hB : B ≤ B') : SlT w' B' t A xs :=
  h.move (fun k cur fz' _ hh => hb.row (fun e => by subst e; rw [hr] at hh; injection hh with hh; injection hh with _ hh; exact ht hh) hh) hB
end
theorem heap_new (w : World) (o : Obj) : (w.alloc o).heap[w.heap.size]? = some o := by
  show (w.heap.push o)[w.heap.size]? = _
  simp
theorem two_cells {w : World} {g : Nat} {t : TypeId} {a b : Value} (h : w.heap[g]? = some (.cells #[a, b] t)) :
    w.cell? ⟨g, 0, none⟩ = some a ∧ w.cell? ⟨g, 1, none⟩ = some b ∧ w.frozen? ⟨g, 0, none⟩ = false ∧ w.frozen? ⟨g, 1, none⟩ = false := by
  simp [World.cell?, World.frozen?, h]
theorem set_two1 {w : World} {g : Nat} {t : TypeId} {a b : Value} (h : w.heap[g]? = some (.cells #[a, b] t)) (u : Value) : (w.setCell ⟨g, 1, none⟩ u).heap[g]? = some (.cells #[a, u] t) := by
  simp [World.setCell, Array.getElem?_modify, h]
end Go.Walks
namespace Go.Walks
open Go Go.RowKit

/-- All cells of type ty stay. -/
structure KeepT (ty : TypeId) (w w' : World) : Prop where
  size : w.heap.size ≤ w'.heap.size
  keep : ∀ (k : Nat) (cur : Array Value) (fz : Nat × Nat), w.heap[k]? = some (.cells cur ty fz) → w'.heap[k]? = some (.cells cur ty fz)

section
variable {ty : TypeId} {a b c w w' : World}
theorem KeepT.refl (ty : TypeId) (w : World) : KeepT ty w w := ⟨Nat.le_refl _, fun _ _ _ h => h⟩
theorem KeepT.trans (h : KeepT ty a b) (k : KeepT ty b c) : KeepT ty a c := ⟨Nat.le_trans h.size k.size, fun i cur fz hh => k.keep i cur fz (h.keep i cur fz hh)⟩
theorem KeepT.below (h : Below w.heap.size w w') : KeepT ty w w' := ⟨h.size, fun k _ _ hh => (h.block k (Array.getElem?_eq_some_iff.1 hh).1).trans hh⟩
theorem KeepT.alloc (w : World) (o : Obj) : KeepT ty w (w.alloc o) := KeepT.below ((Below.refl _ _).alloc (Nat.le_refl _) _)
theorem KeepT.drewN (w : World) (n : Nat) : KeepT ty w (w.drewN n) := ⟨Nat.le_refl _, fun _ _ _ h => h⟩
theorem cells_other {k g : Nat} {t : TypeId} {cur cs : Array Value} {fz fz' : Nat × Nat} (hh : w.heap[k]? = some (.cells cur ty fz)) (hg : w.heap[g]? = some (.cells cs t fz')) (ht : t ≠ ty) : k ≠ g := by
  intro e
  subst e
  rw [hh] at hg
  injection hg with hg
  injection hg with _ hg
  exact ht hg.symm
theorem KeepT.setCell {g : Nat} {t : TypeId} {cs : Array Value} {fz' : Nat × Nat} (hg : w.heap[g]? = some (.cells cs t fz')) (ht : t ≠ ty) (o : Nat) (u : Value) : KeepT ty w (w.setCell ⟨g, o, none⟩ u) :=
  ⟨by rw [World.size_setCell]; exact Nat.le_refl _, fun _ _ _ hh => (Below.heap_setCell _ _ _ _ (cells_other hh hg ht)).trans hh⟩
theorem KeepT.rb {r : Nat} {t : TypeId} {cs : Array Value} {fz' : Nat × Nat} (h : RB r w w') (hg : w.heap[r]? = some (.cells cs t fz')) (ht : t ≠ ty) : KeepT ty w w' :=
  ⟨h.size, fun k _ _ hh => (h.block k (Array.getElem?_eq_some_iff.1 hh).1 (cells_other hh hg ht)).trans hh⟩
theorem KeepT.grown {o : Option Nat} (h : w.grownBy w' o) (ho : ∀ k, o = some k → ∃ cs t fz, w.heap[k]? = some (.cells cs t fz) ∧ t ≠ ty) : KeepT ty w w' :=
  ⟨h.size, fun k _ _ hh => (h.block k (Array.getElem?_eq_some_iff.1 hh).1 (fun e => by
    obtain ⟨cs, t, fz, hg, ht⟩ := ho k e.symm
    exact cells_other hh hg ht rfl)).trans hh⟩
theorem SlT.keepT {B B' : Nat} {A : Option Addr} {xs : List Value} (h : SlT w B ty A xs) (k : KeepT ty w w') (hB : B ≤ B') : SlT w' B' ty A xs := h.move (fun i cur fz _ hh => k.keep i cur fz hh) hB
end
theorem four_cells {w : World} {g : Nat} {t : TypeId} {a b c d : Value} (h : w.heap[g]? = some (.cells #[a, b, c, d] t)) :
    w.cell? ⟨g, 0, none⟩ = some a ∧ w.cell? ⟨g, 1, none⟩ = some b ∧ w.cell? ⟨g, 2, none⟩ = some c ∧ w.cell? ⟨g, 3, none⟩ = some d ∧ w.frozen? ⟨g, 0, none⟩ = false ∧ w.frozen? ⟨g, 1, none⟩ = false ∧ w.frozen? ⟨g, 2, none⟩ = false ∧ w.frozen? ⟨g, 3, none⟩ = false := by
  simp [World.cell?, World.frozen?, h]
theorem set_four {w : World} {g : Nat} {t : TypeId} {a b c d : Value} (h : w.heap[g]? = some (.cells #[a, b, c, d] t)) (p q r s : Value) : ((((w.setCell ⟨g, 0, none⟩ p).setCell ⟨g, 1, none⟩ q).setCell ⟨g, 2, none⟩ r).setCell ⟨g, 3, none⟩ s).heap[g]? = some (.cells #[p, q, r, s] t) := by
  simp [World.setCell, Array.getElem?_modify, h]
theorem set_at {w : World} {g : Nat} {t : TypeId} {cs : Array Value} (h : w.heap[g]? = some (.cells cs t)) (o : Nat) (u : Value) : (w.setCell ⟨g, o, none⟩ u).heap[g]? = some (.cells (cs.setIfInBounds o u) t) := by
  simp [World.setCell, Array.getElem?_modify, h]
end Go.Walks
namespace Go.Walks
open Go Go.RowKit
theorem three_cells {w : World} {g : Nat} {t : TypeId} {a b c : Value} (h : w.heap[g]? = some (.cells #[a, b, c] t)) :
    w.cell? ⟨g, 0, none⟩ = some a ∧ w.cell? ⟨g, 1, none⟩ = some b ∧ w.cell? ⟨g, 2, none⟩ = some c ∧ w.frozen? ⟨g, 0, none⟩ = false ∧ w.frozen? ⟨g, 1, none⟩ = false ∧ w.frozen? ⟨g, 2, none⟩ = false := by
  simp [World.cell?, World.frozen?, h]
theorem set_three {w : World} {g : Nat} {t : TypeId} {a b c : Value} (h : w.heap[g]? = some (.cells #[a, b, c] t)) (x y z : Value) : (((w.setCell ⟨g, 0, none⟩ x).setCell ⟨g, 1, none⟩ y).setCell ⟨g, 2, none⟩ z).heap[g]? = some (.cells #[x, y, z] t) := by
  simp [World.setCell, Array.getElem?_modify, h]

theorem own_less {w : World} {B B' n size : Nat} {e : TypeId} {v : Value} {xs : List Value} (h : w.ownsRow B e size v n xs) (hB : B' ≤ B) : w.ownsRow B' e size v n xs := by
  refine ⟨h.1, ?_⟩
  rcases h.2 with h | ⟨g, cap, cur, e1, hg, h⟩
  · exact .inl h
  · exact .inr ⟨g, cap, cur, e1, by omega, h⟩
/-- What a slice owns stays while block r, of another type, is written. -/
theorem own_rb {w w' : World} {r B n size : Nat} {e t' : TypeId} {v : Value} {xs : List Value} {cs : Array Value} {fz : Nat × Nat} (h : w.ownsRow B e size v n xs) (hb : RB r w w') (hr : w.heap[r]? = some (.cells cs t' fz)) (ht : t' ≠ e) : w'.ownsRow B e size v n xs := by
  refine ⟨h.1, ?_⟩
  rcases h.2 with h | ⟨g, cap, cur, e1, hg, hh, h⟩
  · exact .inl h
  · refine .inr ⟨g, cap, cur, e1, hg, hb.row (fun e => ?_) hh, h⟩
    subst e
    rw [hr] at hh; injection hh with hh; injection hh with _ hh
    exact ht hh
theorem rb_grownOwn {w w4 w5 : World} {r n size : Nat} {e : TypeId} {v : Value} {xs : List Value} {o : Obj} (h : RB r w w4) (ho : w4.ownsRow w.heap.size e size v n xs) (hg : (w4.alloc o).grownBy w5 v.ownBlock) : RB r w w5 := by
  refine (h.alloc o).grown hg (fun k ek => ?_)
  rcases ho.2 with ⟨rfl, _⟩ | ⟨g', cap, cur, rfl, hle, _⟩
  · simp [Value.ownBlock] at ek
  · have : g' = k := by simpa [Value.ownBlock] using ek
    subst this; exact hle
theorem row_grownOwn {w4 w5 : World} {B r n size : Nat} {e t' : TypeId} {v : Value} {xs : List Value} {o : Obj} {cs : Array Value} (ho : w4.ownsRow B e size v n xs) (hg : (w4.alloc o).grownBy w5 v.ownBlock) (hr : w4.heap[r]? = some (.cells cs t')) (ht : t' ≠ e) : w5.heap[r]? = w4.heap[r]? := by
  have hlt := (Array.getElem?_eq_some_iff.1 hr).1
  refine (hg.block r (by simp; omega) (fun ek => ?_)).trans (Below.heap_alloc _ _ _ hlt)
  rcases ho.2 with ⟨rfl, _⟩ | ⟨g', cap, cur, rfl, hle, hh, _⟩
  · simp [Value.ownBlock] at ek
  · have : r = g' := by simpa [Value.ownBlock] using ek
    subst this
    rw [hr] at hh; injection hh with hh; injection hh with _ hh
    exact ht hh

end Go.Walks
