/-
  What add leans on: the terms' block, the class names, what a call leaves as it was.
-/
import Derived.Test.YtimmffncfkcpfaaGreatDoorW10
import Derived.Test.YtimmffncfkcpfaaGreatDoorW2
namespace Go.Proofs.YtimmffncfkcpfaaGreatDoor
open Go Go.RowKit Go.Walks Go.Maps

/-- The terms that are being built, in the block gt; what they own lies behind B. -/
structure TS (B gt : Nat) (T : TermsD) (A : Option Addr) (n c : Nat) (A' : Option Addr) (m d : Nat) (W : World) : Prop where
  row : W.heap[gt]? = some (.cells #[.slice A n c, .slice A' m d] 26)
  own1 : W.ownsRow B 38 4 (.slice A n c) n (T.classes.flatMap clsCs)
  own2 : W.ownsRow B 46 6 (.slice A' m d) m (T.contracts.flatMap ctrCs)
  len1 : n = T.classes.length
  len2 : m = T.contracts.length
  le : B ≤ gt
/-- What add leaves as it was. -/
structure AF (B : Nat) (w w' : World) : Prop where
  below : Below B w w'
  keep : ∀ ty : TypeId, ty ≠ 26 → ty ≠ 46 → ty ≠ 38 → KeepT ty w w'
def AddR (B gt : Nat) (x : BR TermsD) (w : World) (e : Ending) (w' : World) : Prop := match x with
  | .ok T => e = .returned (.tuple #[]) ∧ AF B w w' ∧ ∃ A n c A' m d, TS B gt T A n c A' m d w'
  | .bad p en => e = wrongE p en ∧ Below w.heap.size w w'
theorem own_below {w w' : World} {B n size : Nat} {e : TypeId} {v : Value} {xs : List Value} (h : w.ownsRow B e size v n xs) (hb : Below w.heap.size w w') : w'.ownsRow B e size v n xs := by
  refine ⟨h.1, ?_⟩
  rcases h.2 with h | ⟨g, cap, cur, e1, hg, hh, h⟩
  · exact .inl h
  · exact .inr ⟨g, cap, cur, e1, hg, (hb.block _ (Array.getElem?_eq_some_iff.1 hh).1).trans hh, h⟩
theorem own_sl {w : World} {B n size c : Nat} {e : TypeId} {A : Option Addr} {xs : List Value} (h : w.ownsRow B e size (.slice A n c) n xs) : Sl w w.heap.size A xs := by
  obtain ⟨A', c', e', h1, -, -⟩ := Sl.of_own h
  injection e' with e1 _ _
  rw [e1]; exact h1
theorem own_slT {w : World} {B n size c : Nat} {e : TypeId} {A : Option Addr} {xs : List Value} (h : w.ownsRow B e size (.slice A n c) n xs) : SlT w w.heap.size e A xs := by
  obtain ⟨A', c', e', h1, -, -⟩ := SlT.of_own h
  injection e' with e1 _ _
  rw [e1]; exact h1
theorem TS.below {B gt n c m d : Nat} {T : TermsD} {A A' : Option Addr} {W W' : World} (h : TS B gt T A n c A' m d W) (hb : Below W.heap.size W W') : TS B gt T A n c A' m d W' :=
  ⟨below_cells h.row hb, own_below h.own1 hb, own_below h.own2 hb, h.len1, h.len2, h.le⟩
theorem contains_s (names : List Bytes) (x : Bytes) (A : Option Addr) (c : Nat) (w : World) (hl : names.length ≤ 100000) (hs : Sl w w.heap.size A (names.map strV)) :
    Calls Tryz.prog 57 #[.slice A names.length c, .string ⟨x.toArray⟩] w fun e w' => e = .returned (.bool (decide (x ∈ names))) ∧ w' = w := by
  rcases hs with he | ⟨b, o, rfl, -, hc⟩
  · have hn : names = [] := List.map_eq_nil_iff.1 he
    subst hn
    refine (Tryz.slices_Contains_string_empty A c ⟨x.toArray⟩ w).mono ?_
    rintro e w' ⟨rfl, rfl⟩
    exact ⟨by simp, rfl⟩
  · refine (Tryz.slices_Contains_string b o names.length c (names.map fun n => ⟨n.toArray⟩) ⟨x.toArray⟩ w (by simp) (by omega) (fun j hj => ?_)).mono ?_
    · rw [List.length_map] at hj
      have := hc j (strV names[j]) (by rw [List.getElem?_map, List.getElem?_eq_getElem hj]; rfl)
      rw [this, List.getD, List.getElem?_map, List.getElem?_eq_getElem hj]
      rfl
    · rintro e w' ⟨rfl, rfl⟩
      refine ⟨?_, rfl⟩
      have hb : Lib.containsS (List.take names.length (names.map fun n => (⟨n.toArray⟩ : ByteArray))) ⟨x.toArray⟩ = decide (x ∈ names) := by
        rw [List.take_of_length_le (by simp), Bool.eq_iff_iff, Lib.containsS_iff, decide_eq_true_eq, List.mem_map]
        constructor
        · rintro ⟨y, hy, e⟩
          have : y = x := by
            have := congrArg (fun t : ByteArray => t.data.toList) e
            simpa using this
          rw [← this]; exact hy
        · intro h
          exact ⟨x, h, rfl⟩
      rw [hb]
/-- In add: its blocks. -/
structure AS (w : World) (tn : Bool) (nf : Nat) (Ax : Option Addr) (cx : Nat) (f1 fl : Field) (g0 g7 g8 : Nat) (W : World) : Prop where
  hb : Below w.heap.size w W
  x0 : W.heap[g0]? = some (.cells #[.bool tn, .slice Ax nf cx] 62)
  x7 : W.heap[g7]? = some (.cells #[.string ⟨f1.1.toArray⟩, .string ⟨f1.2.text.toArray⟩, .int .i64 (f1.2.at_ : Int)] 65)
  x8 : W.heap[g8]? = some (.cells #[.string ⟨fl.1.toArray⟩, .string ⟨fl.2.text.toArray⟩, .int .i64 (fl.2.at_ : Int)] 65)
  l0 : w.heap.size ≤ g0
  l7 : w.heap.size ≤ g7
  l8 : w.heap.size ≤ g8
theorem AS.call {w W W' : World} {tn : Bool} {nf : Nat} {Ax : Option Addr} {cx : Nat} {f1 fl : Field} {g0 g7 g8 : Nat} (h : AS w tn nf Ax cx f1 fl g0 g7 g8 W) (hb : Below W.heap.size W W') : AS w tn nf Ax cx f1 fl g0 g7 g8 W' :=
  ⟨h.hb.trans (hb.mono h.hb.size), below_cells h.x0 hb, below_cells h.x7 hb, below_cells h.x8 hb, h.l0, h.l7, h.l8⟩
theorem so22 : SliceOf Tryz.prog 23 38 4 48 := SliceOf.mk (z := .agg #[.string ⟨#[]⟩, .string ⟨#[]⟩, .int .i64 0, .int .i64 0]) Tryz.underlying23 (by omega) (by kernel_rfl) rfl
theorem so23 : SliceOf Tryz.prog 24 46 6 64 := SliceOf.mk (z := .agg #[.string ⟨#[]⟩, .int .i64 0, .int .i64 0, .int .i64 0, .int .i64 0, .string ⟨#[]⟩]) Tryz.underlying24 (by omega) (by kernel_rfl) rfl
theorem own_keepT {w w' : World} {B n size : Nat} {e : TypeId} {v : Value} {xs : List Value} (h : w.ownsRow B e size v n xs) (k : KeepT e w w') : w'.ownsRow B e size v n xs := by
  refine ⟨h.1, ?_⟩
  rcases h.2 with h | ⟨g, cap, cur, e1, hg, hh, h⟩
  · exact .inl h
  · exact .inr ⟨g, cap, cur, e1, hg, k.keep _ _ _ hh, h⟩
theorem own_ge {w : World} {B n size j : Nat} {e : TypeId} {v : Value} {xs : List Value} (h : w.ownsRow B e size v n xs) (hj : v.ownBlock = some j) : B ≤ j := by
  rcases h.2 with ⟨rfl, _⟩ | ⟨g, cap, cur, rfl, hg, _⟩
  · simp [Value.ownBlock] at hj
  · have : g = j := by simpa [Value.ownBlock] using hj
    subst this; exact hg
theorem MapIs.grown {W W' : World} {b B n size : Nat} {fs : List Field} {e : TypeId} {v : Value} {xs : List Value} {o : Obj} (h : MapIs W b fs) (ho : W.ownsRow B e size v n xs) (hg : (W.alloc o).grownBy W' v.ownBlock) : MapIs W' b fs := by
  obtain ⟨k, h⟩ := h
  refine ⟨k, (h.alloc o).kept hg (fun ek => ?_)⟩
  obtain ⟨es, clock, hb, -⟩ := h
  rcases ho.2 with ⟨rfl, _⟩ | ⟨g, cap, cur, rfl, _, hh, _⟩
  · simp [Value.ownBlock] at ek
  · have : b = g := by simpa [Value.ownBlock] using ek
    subst this
    rw [hb] at hh
    cases hh
theorem MapIs.setCell {W : World} {b gt : Nat} {fs : List Field} {cs : Array Value} {ty : TypeId} (h : MapIs W b fs) (hr : W.heap[gt]? = some (.cells cs ty)) (o : Nat) (u : Value) : MapIs (W.setCell ⟨gt, o, none⟩ u) b fs := by
  obtain ⟨k, h⟩ := h
  refine ⟨k, h.kept (row := some gt) ⟨rfl, rfl, rfl, by rw [World.size_setCell]; exact Nat.le_refl _, fun i hi hne => Below.heap_setCell _ _ _ _ (fun e => hne (by rw [e]))⟩ (fun ek => ?_)⟩
  obtain ⟨es, clock, hb, -⟩ := h
  injection ek with ek
  subst ek
  rw [hb] at hr
  cases hr
end Go.Proofs.YtimmffncfkcpfaaGreatDoor
