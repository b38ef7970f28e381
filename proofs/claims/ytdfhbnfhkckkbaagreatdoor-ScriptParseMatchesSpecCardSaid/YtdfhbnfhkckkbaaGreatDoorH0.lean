/-
  Slices of a call's own: made, grown, read; shared by the walks. No program is run here.
-/
import Derived.Test.YtdfhbnfhkckkbaaGreatDoorG1
import Derived.Laws.BitsAllLaws
import Derived.Laws.Bits64
import Derived.Deep.LoopGhost
import Derived.IntWalk
import Derived.Lib.UnsafeStr
namespace Go.Proofs.YtdfhbnfhkckkbaaGreatDoor
open Go Go.RowKit Go.Walks

theorem so38 : SliceOf Tryz.prog 38 5 1 1 := SliceOf.mk (z := .int .u8 0) Tryz.underlying38 (by omega) (by kernel_rfl) rfl
theorem so65 : SliceOf Tryz.prog 65 3 1 8 := SliceOf.mk (z := .int .i64 0) Tryz.underlying65 (by omega) (by kernel_rfl) rfl
theorem so24 : SliceOf Tryz.prog 24 9 1 16 := SliceOf.mk (z := .string ⟨#[]⟩) Tryz.underlying24 (by omega) (by kernel_rfl) rfl
theorem so33 : SliceOf Tryz.prog 33 69 2 32 := SliceOf.mk (z := .agg #[.int .i64 0, .slice none 0 0]) Tryz.underlying33 (by omega) (by kernel_rfl) rfl
theorem so25 : SliceOf Tryz.prog 25 67 2 32 := SliceOf.mk (z := .agg #[.int .i64 0, .slice none 0 0]) Tryz.underlying25 (by omega) (by kernel_rfl) rfl
theorem own_nil (w : World) (B e size : Nat) : w.ownsRow B e size (.slice none 0 0) 0 [] := ⟨by simp, .inl ⟨rfl, rfl⟩⟩
theorem own_new (w : World) {cs : List Value} {e size n B : Nat} (hl : cs.length = n * size) (hB : B ≤ w.heap.size) (hn : n ≤ maxLen) : (w.alloc (.cells cs.toArray e)).ownsRow B e size (.slice (some ⟨w.heap.size, 0, none⟩) n n) n cs :=
  ⟨hl, .inr ⟨w.heap.size, n, cs.toArray, rfl, hB, heap_new _ _, Nat.le_refl _, hn, by simpa using hl, by rw [← hl]; simp⟩⟩
theorem below_append {w W W' : World} {e : TypeId} {size n : Nat} {v : Value} {xs : List Value} {o : Obj} (hb : Below w.heap.size w W) (ho : W.ownsRow w.heap.size e size v n xs) (hg : (W.alloc o).grownBy W' v.ownBlock) : Below w.heap.size w W' := by
  have ha := hb.alloc hb.size o
  refine ⟨hg.os.trans ha.os, hg.tape.trans ha.tape, hg.output.trans ha.output, Nat.le_trans ha.size hg.size, fun k hk => (hg.block k (Nat.lt_of_lt_of_le hk ha.size) (fun e => ?_)).trans (ha.block k hk)⟩
  rcases ho.2 with ⟨h', _⟩ | ⟨g, cap, cur, h', hle, _⟩
  · rw [h'] at e; simp [Value.ownBlock] at e
  · rw [h'] at e
    have : k = g := by simpa [Value.ownBlock] using e
    omega
/-- The same where no block is made for what is appended. -/
theorem below_append0 {w W W' : World} {e : TypeId} {size n : Nat} {v : Value} {xs : List Value} (hb : Below w.heap.size w W) (ho : W.ownsRow w.heap.size e size v n xs) (hg : W.grownBy W' v.ownBlock) : Below w.heap.size w W' := by
  refine ⟨hg.os.trans hb.os, hg.tape.trans hb.tape, hg.output.trans hb.output, Nat.le_trans hb.size hg.size, fun k hk => (hg.block k (Nat.lt_of_lt_of_le hk hb.size) (fun e => ?_)).trans (hb.block k hk)⟩
  rcases ho.2 with ⟨h', _⟩ | ⟨g, cap, cur, h', hle, _⟩
  · rw [h'] at e; simp [Value.ownBlock] at e
  · rw [h'] at e
    have : k = g := by simpa [Value.ownBlock] using e
    omega
theorem own_below {w w' : World} {B n size : Nat} {e : TypeId} {v : Value} {xs : List Value} (h : w.ownsRow B e size v n xs) (hb : Below w.heap.size w w') : w'.ownsRow B e size v n xs := by
  refine ⟨h.1, ?_⟩
  rcases h.2 with h | ⟨g, cap, cur, e1, hg, hh, h⟩
  · exact .inl h
  · exact .inr ⟨g, cap, cur, e1, hg, (hb.block _ (Array.getElem?_eq_some_iff.1 hh).1).trans hh, h⟩
theorem own_sl {w : World} {B n size c : Nat} {e : TypeId} {A : Option Addr} {xs : List Value} (h : w.ownsRow B e size (.slice A n c) n xs) : Sl w w.heap.size A xs := by
  obtain ⟨A', c', e', h1, -, -⟩ := Sl.of_own h
  injection e' with e1 _ _
  rw [e1]; exact h1
theorem own_slT {w : World} {B n size c : Nat} {e : TypeId} {A : Option Addr} {xs : List Value} (h : w.ownsRow B e size (.slice A n c) n xs) : SlT w w.heap.size e A xs := by
  obtain ⟨A', c', e', h1, -, -⟩ := SlT.of_own h
  injection e' with e1 _ _
  rw [e1]; exact h1
theorem own_keepT {w w' : World} {B n size : Nat} {e : TypeId} {v : Value} {xs : List Value} (h : w.ownsRow B e size v n xs) (k : KeepT e w w') : w'.ownsRow B e size v n xs := by
  refine ⟨h.1, ?_⟩
  rcases h.2 with h | ⟨g, cap, cur, e1, hg, hh, h⟩
  · exact .inl h
  · exact .inr ⟨g, cap, cur, e1, hg, k.keep _ _ _ hh, h⟩
theorem own_ge {w : World} {B n size j : Nat} {e : TypeId} {v : Value} {xs : List Value} (h : w.ownsRow B e size v n xs) (hj : v.ownBlock = some j) : B ≤ j := by
  rcases h.2 with ⟨rfl, _⟩ | ⟨g, cap, cur, rfl, hg, _⟩
  · simp [Value.ownBlock] at hj
  · have : g = j := by simpa [Value.ownBlock] using hj
    subst this; exact hg
/-- While a call builds a slice of its own. -/
structure OS (w : World) (e size : Nat) (A : Option Addr) (n c : Nat) (xs : List Value) (W : World) : Prop where
  below : Below w.heap.size w W
  o : W.ownsRow w.heap.size e size (.slice A n c) n xs
theorem OS.call {w W W' : World} {e size n c : Nat} {A : Option Addr} {xs : List Value} (h : OS w e size A n c xs W) (hb : Below W.heap.size W W') : OS w e size A n c xs W' := ⟨h.below.trans (hb.mono h.below.size), own_below h.o hb⟩
theorem OS.alloc {w W : World} {e size n c : Nat} {A : Option Addr} {xs : List Value} (h : OS w e size A n c xs W) (o : Obj) : OS w e size A n c xs (W.alloc o) := h.call ((Below.refl _ _).alloc (Nat.le_refl _) _)
theorem OS.nil (w : World) (e size : Nat) : OS w e size none 0 0 [] w := ⟨Below.refl _ _, own_nil _ _ _ _⟩
theorem OS.grow {w W W' : World} {e size n c : Nat} {A : Option Addr} {xs : List Value} {n' c' : Nat} {A' : Option Addr} {xs' : List Value} (h : OS w e size A n c xs W) (ho : W'.ownsRow w.heap.size e size (.slice A' n' c') n' xs') (hg : W.grownBy W' (Value.slice A n c).ownBlock) : OS w e size A' n' c' xs' W' :=
  ⟨below_append0 h.below h.o hg, ho⟩
theorem OS.len {w W : World} {e size n c : Nat} {A : Option Addr} {xs : List Value} (h : OS w e size A n c xs W) : xs.length = n * size := h.o.1
theorem byteCells_append (a b : Bytes) : Lib.byteCells (a ++ b) = Lib.byteCells a ++ Lib.byteCells b := by simp [Lib.byteCells]
theorem byteCells_length (a : Bytes) : (Lib.byteCells a).length = a.length := by simp [Lib.byteCells]
theorem byteCells_one (a : Bytes) : ∀ u ∈ Lib.byteCells a, u.oneCell' = true := by
  intro u hu
  obtain ⟨c, -, rfl⟩ := List.mem_map.1 hu
  rfl
/-- A call hands back bytes in a block of its own. -/
def BytesR (l : Bytes) (w : World) (e : Ending) (w' : World) : Prop := ∃ A c, e = .returned (.slice A l.length c) ∧ OS w 5 1 A l.length c (Lib.byteCells l) w'
theorem info5 : (Tryz.prog.info? 5).map (fun i => (i.zero, i.size, i.bytes)) = some (some (.int .u8 0), 1, 1) := by kernel_rfl
theorem info_parts {P : Program} {t : TypeId} {z : Option Value} {a b : Nat} (h : (P.info? t).map (fun i => (i.zero, i.size, i.bytes)) = some (z, a, b)) : ∃ i, P.info? t = some i ∧ i.zero = z ∧ i.size = a ∧ i.bytes = b := by
  obtain ⟨i, h1, h2⟩ := Option.map_eq_some_iff.1 h
  simp only [Prod.mk.injEq] at h2
  exact ⟨i, h1, h2.1, h2.2.1, h2.2.2⟩
theorem own_form {w : World} {B e size n : Nat} {v : Value} {xs : List Value} (h : w.ownsRow B e size v n xs) : ∃ A c, v = .slice A n c := by
  obtain ⟨A, c, e', -⟩ := Sl.of_own h
  exact ⟨A, c, e'⟩
theorem strCells_bytes (s : Bytes) : Lib.strCells ⟨s.toArray⟩ = Lib.byteCells s := by simp [Lib.strCells, Lib.byteCells]
theorem strBytes_size (s : Bytes) : (⟨s.toArray⟩ : ByteArray).size = s.length := by simp [ByteArray.size]
/-- A cell of a slice of numbers. -/
theorem int_at {w : World} {B : Nat} {A : Option Addr} {l : List Int} (h : Sl w B A (l.map intC)) {k : Nat} {x : Int} (hk : l[k]? = some x) : ∃ b o, A = some ⟨b, o, none⟩ ∧ b < B ∧ w.cell? ⟨b, o + k, none⟩ = some (.int .i64 x) := by
  have e : (l.map intC)[k]? = some (.int .i64 x) := by rw [List.getElem?_map, hk]; rfl
  obtain ⟨b, o, hA, hb, hc⟩ := h.at_ (k := k) (by rw [List.length_map]; exact (List.getElem?_eq_some_iff.1 hk).1)
  exact ⟨b, o, hA, hb, hc _ _ e⟩
theorem str_at {w : World} {B : Nat} {A : Option Addr} {l : List Bytes} (h : Sl w B A (l.map strV)) {k : Nat} {x : Bytes} (hk : l[k]? = some x) : ∃ b o, A = some ⟨b, o, none⟩ ∧ b < B ∧ w.cell? ⟨b, o + k, none⟩ = some (.string ⟨x.toArray⟩) := by
  have e : (l.map strV)[k]? = some (.string ⟨x.toArray⟩) := by rw [List.getElem?_map, hk]; rfl
  obtain ⟨b, o, hA, hb, hc⟩ := h.at_ (k := k) (by rw [List.length_map]; exact (List.getElem?_eq_some_iff.1 hk).1)
  exact ⟨b, o, hA, hb, hc _ _ e⟩
theorem byte_at {w : World} {B : Nat} {A : Option Addr} {l : Bytes} (h : Sl w B A (Lib.byteCells l)) {k : Nat} {x : UInt8} (hk : l[k]? = some x) : ∃ b o, A = some ⟨b, o, none⟩ ∧ b < B ∧ w.cell? ⟨b, o + k, none⟩ = some (.int .u8 (x.toNat : Int)) := by
  have e : (Lib.byteCells l)[k]? = some (.int .u8 (x.toNat : Int)) := by unfold Lib.byteCells; rw [List.getElem?_map, hk]; rfl
  obtain ⟨b, o, hA, hb, hc⟩ := h.at_ (k := k) (by rw [byteCells_length]; exact (List.getElem?_eq_some_iff.1 hk).1)
  exact ⟨b, o, hA, hb, hc _ _ e⟩
end Go.Proofs.YtdfhbnfhkckkbaaGreatDoor
