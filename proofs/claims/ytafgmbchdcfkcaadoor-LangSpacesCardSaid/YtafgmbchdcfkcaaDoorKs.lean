/-
  Codes and their parity rows in memory; the state of a source's build. No program is run here but by its contracts.
-/
import Derived.Test.YtafgmbchdcfkcaaDoorW9
namespace Go.Proofs.YtafgmbchdcfkcaaDoor
open Go Go.RowKit Go.Walks

/-- Slices of integers, one behind the other, in blocks of integers. -/
def MatT (w : World) : List (List Int) → List Value → Prop
  | [], cs => cs = []
  | row :: rows, cs => ∃ A c cs', cs = .slice A row.length c :: cs' ∧ SlT w w.heap.size 3 A (row.map intC) ∧ MatT w rows cs'
theorem MatT.keep {w w' : World} (k : KeepT 3 w w') : ∀ {rows : List (List Int)} {cs : List Value}, MatT w rows cs → MatT w' rows cs
  | [], _, h => h
  | _ :: _, _, ⟨A, c, cs', e, h1, h2⟩ => ⟨A, c, cs', e, h1.keepT k k.size, h2.keep k⟩
theorem MatT.snoc {w : World} {row : List Int} {A : Option Addr} {c n : Nat} (hn : n = row.length) (h : SlT w w.heap.size 3 A (row.map intC)) : ∀ {rows : List (List Int)} {cs : List Value}, MatT w rows cs → MatT w (rows ++ [row]) (cs ++ [.slice A n c])
  | [], _, hm => by
    have : _ = [] := hm
    subst this
    exact ⟨A, c, [], by simp [hn], h, rfl⟩
  | _ :: _, _, ⟨A', c', cs', e, h1, h2⟩ => ⟨A', c', cs' ++ [.slice A n c], by rw [e]; rfl, h1, h2.snoc hn h⟩
theorem MatT.len {w : World} : ∀ {rows : List (List Int)} {cs : List Value}, MatT w rows cs → cs.length = rows.length
  | [], _, h => by have : _ = [] := h; subst this; rfl
  | _ :: _, _, ⟨_, _, _, e, _, h2⟩ => by rw [e, List.length_cons, h2.len]; rfl
/-- A code in memory: its five cells. -/
def CodeT (w : World) (C : Code) (cs : List Value) : Prop := ∃ A c mc, cs = [strV C.name, intC C.field, intC C.data, .slice A C.par.length c, intC C.dom] ∧ SlT w w.heap.size 61 A mc ∧ MatT w C.par mc
theorem CodeT.keep {w w' : World} {C : Code} {cs : List Value} (h : CodeT w C cs) (k : KeepT 61 w w') (k3 : KeepT 3 w w') : CodeT w' C cs := by
  obtain ⟨A, c, mc, e, h1, h2⟩ := h
  exact ⟨A, c, mc, e, h1.keepT k k.size, h2.keep k3⟩
theorem RowsCs.at_ {w : World} {R : Row} : ∀ {Rs : List Row} {cs : List Value} {k : Nat}, RowsCs w Rs cs → Rs[k]? = some R → ∃ c1, RowCs w R c1 ∧ ∀ j u, c1[j]? = some u → cs[k * 4 + j]? = some u
  | [], _, _, _, hk => by simp at hk
  | _ :: _, _, 0, ⟨c1, c2, e, h1, _⟩, hk => by
    simp at hk
    subst hk
    refine ⟨c1, h1, fun j u hu => ?_⟩
    rw [e, List.getElem?_append_left (by simpa using (List.getElem?_eq_some_iff.1 hu).1)]
    simpa using hu
  | _ :: _, _, k + 1, ⟨c1, c2, e, h1, h2⟩, hk => by
    obtain ⟨c, hc, hat⟩ := h2.at_ (k := k) (by simpa using hk)
    refine ⟨c, hc, fun j u hu => ?_⟩
    rw [e, List.getElem?_append_right (by rw [h1.len]; omega), h1.len]
    have := hat j u hu
    rwa [show (k + 1) * 4 + j - 4 = k * 4 + j by omega]
/-- A row of a slice of rows, in a later world. -/
theorem row_cells {w W : World} {A : Option Addr} {rows : List Row} {rc : List Value} (h : SlT w w.heap.size 117 A rc) (hr : RowsCs w rows rc) (hb : Below w.heap.size w W) {k : Nat} {R : Row} (hk : rows[k]? = some R) :
    ∃ b o A1 c1 A2 c2, A = some ⟨b, o, none⟩ ∧ (W.cell? ⟨b, o + k * 4, none⟩ = some (.int .i64 (R.at_ : Int)) ∧ W.cell? ⟨b, o + k * 4 + 1, none⟩ = some (.bool R.loc) ∧ W.cell? ⟨b, o + k * 4 + 2, none⟩ = some (.slice A1 R.idx.length c1) ∧ W.cell? ⟨b, o + k * 4 + 3, none⟩ = some (.slice A2 R.coefs.length c2)) ∧
      SlT W W.heap.size 92 A1 (markCells R.idx) ∧ SlT W W.heap.size 92 A2 (markCells R.coefs) := by
  obtain ⟨c, ⟨A1, c1, A2, c2, rfl, s1, s2⟩, hat⟩ := hr.at_ hk
  have h0 := hat 0 _ rfl
  have h1 := hat 1 _ rfl
  have h2 := hat 2 _ rfl
  have h3 := hat 3 _ rfl
  rcases h.sl with he | ⟨b, o, e, hlt, hc⟩
  · rw [he] at h0; simp at h0
  · refine ⟨b, o, A1, c1, A2, c2, e, ⟨(hb.cell hlt).trans (hc _ _ h0), (hb.cell hlt).trans (by have := hc _ _ h1; rwa [← Nat.add_assoc] at this), (hb.cell hlt).trans (by have := hc _ _ h2; rwa [← Nat.add_assoc] at this), (hb.cell hlt).trans (by have := hc _ _ h3; rwa [← Nat.add_assoc] at this)⟩, s1.below hb hb.size, s2.below hb hb.size⟩
theorem buildRows_step {d t : Nat} {acc : List (List Int)} {rows : List Row} {k : Nat} {R : Row} (hR : rows[k]? = some R) : buildRows d t acc (rows.drop k) = if d + acc.length < 32 then (buildRow R d t).next fun row => buildRows d t (acc ++ [row]) (rows.drop (k + 1)) else .bad R.at_ 2 := by
  have hl := (List.getElem?_eq_some_iff.1 hR)
  rw [List.drop_eq_getElem_cons hl.1, hl.2, buildRows]
theorem so22 : SliceOf Tryd.prog 22 61 1 24 := SliceOf.mk (z := .slice none 0 0) Tryd.underlying22 (by omega) (by kernel_rfl) rfl
theorem info24 : (Tryd.prog.info? 24).map (·.size) = some 5 := by kernel_rfl

abbrev z5 : Array Value := #[.string ⟨#[]⟩, .int .i64 0, .int .i64 0, .slice none 0 0, .int .i64 0]
/-- In a source's build: the source, the result (still zero), the code with its rows so far. -/
structure SB (w : World) (xs : Array Value) (nm : Bytes) (f d : Nat) (A : Option Addr) (n c : Nat) (mc : List Value) (rows : List (List Int)) (W : World) : Prop where
  below : Below w.heap.size w W
  x : W.heap[w.heap.size]? = some (.cells xs 95)
  z : W.heap[w.heap.size + 1]? = some (.cells z5 24)
  gc : W.heap[w.heap.size + 2]? = some (.cells #[strV nm, .int .i64 (f : Int), .int .i64 (d : Int), .slice A n c, .int .i64 0] 24)
  own : W.ownsRow w.heap.size 61 1 (.slice A n c) n mc
  mat : MatT W rows mc

section
variable {w W W' : World} {xs : Array Value} {nm : Bytes} {f d : Nat} {A A' : Option Addr} {n c c' : Nat} {mc : List Value} {rows : List (List Int)}
theorem SB.lt (h : SB w xs nm f d A n c mc rows W) : w.heap.size + 2 < W.heap.size := (Array.getElem?_eq_some_iff.1 h.gc).1
theorem SB.call (h : SB w xs nm f d A n c mc rows W) (hb : Below W.heap.size W W') : SB w xs nm f d A n c mc rows W' := by
  have hl := h.lt
  refine ⟨h.below.trans (hb.mono h.below.size), (hb.block _ (by omega)).trans h.x, (hb.block _ (by omega)).trans h.z, (hb.block _ (by omega)).trans h.gc, ?_, h.mat.keep (KeepT.below hb)⟩
  refine ⟨h.own.1, ?_⟩
  rcases h.own.2 with h' | ⟨g, cap, cur, e, hg, hh, h'⟩
  · exact .inl h'
  · exact .inr ⟨g, cap, cur, e, hg, (hb.block _ (Array.getElem?_eq_some_iff.1 hh).1).trans hh, h'⟩
theorem SB.alloc (h : SB w xs nm f d A n c mc rows W) (o : Obj) : SB w xs nm f d A n c mc rows (W.alloc o) := h.call ((Below.refl _ _).alloc (Nat.le_refl _) _)
theorem SB.drew (h : SB w xs nm f d A n c mc rows W) : SB w xs nm f d A n c mc rows W.drew := h.call (Below.refl _ _).drew
theorem SB.cells (h : SB w xs nm f d A n c mc rows W) : (W.cell? ⟨w.heap.size + 2, 0, none⟩ = some (strV nm) ∧ W.cell? ⟨w.heap.size + 2, 1, none⟩ = some (.int .i64 (f : Int)) ∧ W.cell? ⟨w.heap.size + 2, 2, none⟩ = some (.int .i64 (d : Int)) ∧ W.cell? ⟨w.heap.size + 2, 3, none⟩ = some (.slice A n c) ∧ W.cell? ⟨w.heap.size + 2, 4, none⟩ = some (.int .i64 0)) ∧
    W.frozen? ⟨w.heap.size + 2, 3, none⟩ = false ∧ W.frozen? ⟨w.heap.size + 2, 4, none⟩ = false :=
  ⟨⟨(cell_at h.gc 0 rfl).1, (cell_at h.gc 1 rfl).1, (cell_at h.gc 2 rfl).1, (cell_at h.gc 3 rfl).1, (cell_at h.gc 4 rfl).1⟩, (cell_at h.gc 3 (u := .slice A n c) rfl).2, (cell_at h.gc 4 (u := .int .i64 0) rfl).2⟩
theorem SB.cell2 {o : Obj} (h : SB w xs nm f d A n c mc rows W) (hg : (W.alloc o).grownBy W' (Value.slice A n c).ownBlock) : W'.cell? ⟨w.heap.size + 2, 3, none⟩ = some (.slice A n c) ∧ W'.frozen? ⟨w.heap.size + 2, 3, none⟩ = false :=
  cell_at ((row_grownOwn h.own hg h.gc (by decide)).trans h.gc) 3 rfl
theorem SB.step {o : Obj} {row : List Int} {Ar : Option Addr} {m cr : Nat} (h : SB w xs nm f d A n c mc rows W) (hm : m = row.length) (hr : SlT W W.heap.size 3 Ar (row.map intC)) (ho : W'.ownsRow w.heap.size 61 1 (.slice A' (n + 1) c') (n + 1) (mc ++ [.slice Ar m cr])) (hg : (W.alloc o).grownBy W' (Value.slice A n c).ownBlock) :
    SB w xs nm f d A' (n + 1) c' (mc ++ [.slice Ar m cr]) (rows ++ [row]) (W'.setCell ⟨w.heap.size + 2, 3, none⟩ (.slice A' (n + 1) c')) := by
  have hx := (row_grownOwn h.own hg h.x (by decide)).trans h.x
  have hz := (row_grownOwn h.own hg h.z (by decide)).trans h.z
  have hc := (row_grownOwn h.own hg h.gc (by decide)).trans h.gc
  have k3 : KeepT 3 W W' := keep_append (by decide) h.own hg
  have k4 : KeepT 3 W' (W'.setCell ⟨w.heap.size + 2, 3, none⟩ (.slice A' (n + 1) c')) := KeepT.setCell hc (by decide) 3 _
  refine ⟨?_, (Below.heap_setCell _ _ _ _ (by simp)).trans hx, (Below.heap_setCell _ _ _ _ (by simp)).trans hz, set_at hc 3 (.slice A' (n + 1) c'), own_set ho hc (by decide) 3 _, ((h.mat.keep k3).snoc hm (hr.keepT k3 k3.size)).keep k4⟩
  refine Below.setCell (p := ⟨w.heap.size + 2, 3, none⟩) ?_ (by show w.heap.size ≤ w.heap.size + 2; omega) _
  have hb : Below w.heap.size w (W.alloc o) := h.below.alloc h.below.size o
  refine ⟨hg.os.trans hb.os, hg.tape.trans hb.tape, hg.output.trans hb.output, Nat.le_trans hb.size hg.size, fun k hk => (hg.block k (Nat.lt_of_lt_of_le hk hb.size) (fun e => ?_)).trans (hb.block k hk)⟩
  rcases h.own.2 with ⟨h', _⟩ | ⟨g, cap, cur, h', hle, _⟩
  · rw [h'] at e; simp [Value.ownBlock] at e
  · rw [h'] at e
    have : k = g := by simpa [Value.ownBlock] using e
    omega
theorem SB.slt (h : SB w xs nm f d A n c mc rows W) : SlT W W.heap.size 61 A mc := by
  obtain ⟨A', c', e, hs, _⟩ := SlT.of_own h.own
  injection e with e1 _ _
  subst e1
  exact hs
theorem SB.len (h : SB w xs nm f d A n c mc rows W) : n = rows.length := by
  have h1 := h.own.1
  have h2 := h.mat.len
  omega
theorem SB.start {W0 : World} (hB : Below w.heap.size w W0) (hX : W0.heap[w.heap.size]? = some (.cells xs 95)) (hZ : W0.heap[w.heap.size + 1]? = some (.cells z5 24)) (hsz : W0.heap.size = w.heap.size + 2) (q : Nat) (nm : Bytes) (f d : Nat) :
    SB w xs nm f d none 0 0 [] [] ((W0.drewN q).alloc (.cells #[strV nm, .int .i64 (f : Int), .int .i64 (d : Int), .slice none 0 0, .int .i64 0] 24)) := by
  have hd : (W0.drewN q).heap.size = w.heap.size + 2 := hsz
  refine ⟨(below_drewN hB q).alloc (by rw [hd]; omega) _, (Below.heap_alloc _ _ _ (by rw [hd]; omega)).trans hX, (Below.heap_alloc _ _ _ (by rw [hd]; omega)).trans hZ, ?_, own_nil _ _ _ _, rfl⟩
  have := heap_new (W0.drewN q) (.cells #[strV nm, .int .i64 (f : Int), .int .i64 (d : Int), .slice none 0 0, .int .i64 0] 24)
  rwa [hd] at this
/-- What the region of the append reads, as long as it stands. -/
def HeldS (g5 gc : Nat) (at_ : Nat) (loc : Bool) (v1 v2 : Value) (f d : Nat) (W : World) : Prop := ((W.cell? ⟨g5, 0, none⟩ = some (.int .i64 (at_ : Int)) ∧ W.cell? ⟨g5, 1, none⟩ = some (.bool loc)) ∧ W.cell? ⟨g5, 2, none⟩ = some v1 ∧ W.cell? ⟨g5, 3, none⟩ = some v2) ∧ W.cell? ⟨gc, 1, none⟩ = some (.int .i64 (f : Int)) ∧ W.cell? ⟨gc, 2, none⟩ = some (.int .i64 (d : Int))
theorem SB.held {g5 at_ : Nat} {loc : Bool} {v1 v2 : Value} (h : SB w xs nm f d A n c mc rows W) (h5 : W.heap[g5]? = some (.cells #[.int .i64 (at_ : Int), .bool loc, v1, v2] 117)) : HeldS g5 (w.heap.size + 2) at_ loc v1 v2 f d W := by
  obtain ⟨m0, m1, m2, m3, _⟩ := four_cells h5
  exact ⟨⟨⟨m0, m1⟩, m2, m3⟩, h.cells.1.2.1, h.cells.1.2.2.1⟩
theorem SB.held7 {g5 at_ : Nat} {loc : Bool} {v1 v2 : Value} {o : Obj} (h : SB w xs nm f d A n c mc rows W) (h5 : W.heap[g5]? = some (.cells #[.int .i64 (at_ : Int), .bool loc, v1, v2] 117)) (hg : (W.alloc o).grownBy W' (Value.slice A n c).ownBlock) (u : Value) :
    HeldS g5 (w.heap.size + 2) at_ loc v1 v2 f d W' ∧ HeldS g5 (w.heap.size + 2) at_ loc v1 v2 f d (W'.setCell ⟨w.heap.size + 2, 3, none⟩ u) := by
  have hc := (row_grownOwn h.own hg h.gc (by decide)).trans h.gc
  have h7 := (row_grownOwn h.own hg h5 (by decide)).trans h5
  obtain ⟨m0, m1, m2, m3, _⟩ := four_cells h7
  have hc' := set_at hc 3 u
  have h7' := (KeepT.setCell (ty := 117) hc (by decide) 3 u).keep _ _ _ h7
  obtain ⟨p0, p1, p2, p3, _⟩ := four_cells h7'
  exact ⟨⟨⟨⟨m0, m1⟩, m2, m3⟩, (cell_at hc 1 rfl).1, (cell_at hc 2 rfl).1⟩, ⟨⟨p0, p1⟩, p2, p3⟩, (cell_at hc' 1 rfl).1, (cell_at hc' 2 rfl).1⟩
theorem code_one (nm : Bytes) (f d u : Int) (A : Option Addr) (n c : Nat) : (#[strV nm, .int .i64 f, .int .i64 d, .slice A n c, .int .i64 u] : Array Value).all (·.oneCell') = true := by
  refine all_oneCell_toArray (cs := [strV nm, .int .i64 f, .int .i64 d, .slice A n c, .int .i64 u]) (fun v hv => ?_)
  simp at hv
  rcases hv with rfl | rfl | rfl | rfl | rfl <;> rfl
/-- Behind the last row: the domain is u. -/
structure SBo (w : World) (xs : Array Value) (nm : Bytes) (f d : Nat) (A : Option Addr) (c : Nat) (mc : List Value) (rows : List (List Int)) (u : Int) (W : World) : Prop where
  below : Below w.heap.size w W
  x : W.heap[w.heap.size]? = some (.cells xs 95)
  z : W.heap[w.heap.size + 1]? = some (.cells z5 24)
  gc : W.heap[w.heap.size + 2]? = some (.cells #[strV nm, .int .i64 (f : Int), .int .i64 (d : Int), .slice A rows.length c, .int .i64 u] 24)
  slt : SlT W W.heap.size 61 A mc
  mat : MatT W rows mc
theorem SBo.set {u : Int} (h : SBo w xs nm f d A c mc rows u W) (v : Int) : SBo w xs nm f d A c mc rows v (W.setCell ⟨w.heap.size + 2, 4, none⟩ (.int .i64 v)) := by
  have kk : ∀ ty : TypeId, 24 ≠ ty → KeepT ty W (W.setCell ⟨w.heap.size + 2, 4, none⟩ (.int .i64 v)) := fun ty hty => KeepT.setCell h.gc hty 4 _
  exact ⟨h.below.setCell (p := ⟨w.heap.size + 2, 4, none⟩) (by show w.heap.size ≤ w.heap.size + 2; omega) _, (Below.heap_setCell _ _ _ _ (by simp)).trans h.x, (Below.heap_setCell _ _ _ _ (by simp)).trans h.z, set_at h.gc 4 (.int .i64 v), h.slt.keepT (kk 61 (by decide)) (kk 61 (by decide)).size, h.mat.keep (kk 3 (by decide))⟩
theorem SB.o (h : SB w xs nm f d A n c mc rows W) : SBo w xs nm f d A c mc rows 0 W := ⟨h.below, h.x, h.z, by have := h.gc; rw [h.len] at this; exact this, h.slt, h.mat⟩
theorem SBo.cell {u : Int} (h : SBo w xs nm f d A c mc rows u W) : W.cell? ⟨w.heap.size + 2, 4, none⟩ = some (.int .i64 u) ∧ W.frozen? ⟨w.heap.size + 2, 4, none⟩ = false := cell_at h.gc 4 rfl
/-- What the store of the result leaves. -/
theorem SBo.out {u : Int} (h : SBo w xs nm f d A c mc rows u W) : CodeT (W.setCells (w.heap.size + 1) 0 [strV nm, .int .i64 (f : Int), .int .i64 (d : Int), .slice A rows.length c, .int .i64 u]) ⟨nm, f, d, rows, u⟩ [strV nm, .int .i64 (f : Int), .int .i64 (d : Int), .slice A rows.length c, .int .i64 u] ∧
    (W.setCells (w.heap.size + 1) 0 [strV nm, .int .i64 (f : Int), .int .i64 (d : Int), .slice A rows.length c, .int .i64 u]).heap[w.heap.size + 1]? = some (.cells #[strV nm, .int .i64 (f : Int), .int .i64 (d : Int), .slice A rows.length c, .int .i64 u] 24) ∧
    Below w.heap.size w (W.setCells (w.heap.size + 1) 0 [strV nm, .int .i64 (f : Int), .int .i64 (d : Int), .slice A rows.length c, .int .i64 u]) := by
  have kk : ∀ ty : TypeId, 24 ≠ ty → KeepT ty W (W.setCells (w.heap.size + 1) 0 [strV nm, .int .i64 (f : Int), .int .i64 (d : Int), .slice A rows.length c, .int .i64 u]) := fun ty hty => KeepT.setCells hty _ 0 h.z
  refine ⟨⟨A, c, mc, rfl, h.slt.keepT (kk 61 (by decide)) (kk 61 (by decide)).size, h.mat.keep (kk 3 (by decide))⟩, ?_, Below.setCells (by omega) _ _ h.below⟩
  have := heap_setCells (w := W) [strV nm, .int .i64 (f : Int), .int .i64 (d : Int), .slice A rows.length c, .int .i64 u] 0 h.z
  rw [this]
  rfl
end
end Go.Proofs.YtafgmbchdcfkcaaDoor
