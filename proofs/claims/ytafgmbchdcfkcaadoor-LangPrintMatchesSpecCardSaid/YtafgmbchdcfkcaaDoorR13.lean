/-
  The reference's checks of a row in plain words; a row's block beside a line's. No program is run here but by its contracts.
-/
import Derived.Test.YtafgmbchdcfkcaaDoorR12
import Derived.Test.YtafgmbchdcfkcaaDoorKs
namespace Go.Proofs.YtafgmbchdcfkcaaDoor
open Go Go.RowKit Go.Walks

def parityB (at_ : Nat) (a : List Tok) (data top : Nat) : BR (List Int) :=
  if a.length ≠ data then .bad at_ 1 else match coefBad false top a with
    | some p => .bad p 1
    | none => if sumN a = 0 then .bad at_ 1 else .ok (a.map fun T => (T.n : Int))
def localB (at_ : Nat) (a b : List Tok) (data top : Nat) : BR (List Int) :=
  match idxBad data (-1) a with
  | some p => .bad p 1
  | none => if a.length ≠ b.length then .bad at_ 1 else match coefBad true top b with
    | some p => .bad p 1
    | none => .ok (fillL true a 0 b (List.replicate data 0))

theorem fillL_false (idx : List Tok) : ∀ (ts : List Tok) (j : Nat) (row : List Int), row.length = j + ts.length → fillL false idx j ts row = row.take j ++ ts.map fun T => (T.n : Int)
  | [], j, row, h => by
    rw [fillL, List.take_of_length_le (by simp at h; omega)]; simp
  | T :: ts, j, row, h => by
    have hj : j < row.length := by simp at h; omega
    rw [fillL, fillL_false idx ts (j + 1) _ (by simp at h ⊢; omega)]
    have : (row.set (atJ false idx j) (T.n : Int)).take (j + 1) = row.take j ++ [(T.n : Int)] := by
      show (row.set j _).take (j + 1) = _
      rw [List.take_succ_eq_append_getElem (by simpa using hj), List.take_set_of_le (Nat.le_refl _)]
      simp
    rw [this]
    simp
theorem parity_row {R : Row} (h : R.loc = false) (h2 : R.idx = []) (data top : Nat) : buildRow R data top = parityB R.at_ R.coefs data top := by
  unfold buildRow parityB wantN
  rw [h, h2]
  simp only [idxBad]
  by_cases hl : R.coefs.length = data
  · simp only [Bool.false_eq_true, if_false, hl, not_true, ne_eq]
    cases coefBad false top R.coefs with
    | some p => rfl
    | none =>
      simp only
      split
      · rfl
      · rw [fillL_false [] R.coefs 0 _ (by simp [hl])]; rfl
  · simp [hl]
theorem sumN_zero : ∀ {ts : List Tok}, sumN ts = 0 → ∀ T ∈ ts, T.n = 0
  | [], _, _, h => by cases h
  | T :: ts, h, U, hU => by
    rw [sumN] at h
    rcases List.mem_cons.1 hU with rfl | hU
    · omega
    · exact sumN_zero (by omega) U hU
theorem coefBad_none {loc : Bool} {top : Nat} : ∀ {ts : List Tok}, coefBad loc top ts = none → ∀ T ∈ ts, T.n ≤ top ∧ ¬ (loc = true ∧ T.n = 0)
  | [], _, _, h => by cases h
  | T :: ts, h, U, hU => by
    rw [coefBad] at h
    split at h
    · rename_i hc
      rcases List.mem_cons.1 hU with rfl | hU
      · exact hc
      · exact coefBad_none h U hU
    · cases h
theorem local_row {R : Row} (h : R.loc = true) (h2 : R.idx ≠ []) (data top : Nat) : buildRow R data top = localB R.at_ R.idx R.coefs data top := by
  unfold buildRow localB wantN
  rw [h]
  cases idxBad data (-1) R.idx with
  | some p => rfl
  | none =>
    simp only [if_true]
    by_cases hl : R.coefs.length = R.idx.length
    · rw [if_neg (show ¬ R.coefs.length ≠ R.idx.length from fun h => h hl), if_neg (show ¬ R.idx.length ≠ R.coefs.length from fun h => h hl.symm)]
      cases hc : coefBad true top R.coefs with
      | some p => rfl
      | none =>
        simp only
        rw [if_neg]
        intro h0
        have hne : R.coefs ≠ [] := fun e => by rw [e] at hl; exact h2 (List.eq_nil_of_length_eq_zero (by simpa using hl.symm))
        obtain ⟨T, hT⟩ := List.exists_mem_of_ne_nil _ hne
        exact (coefBad_none hc T hT).2 ⟨rfl, sumN_zero h0 T hT⟩
    · rw [if_pos hl, if_pos (fun e => hl e.symm)]

theorem so61 : SliceOf Tryd.prog 61 3 1 8 := SliceOf.mk (z := .int .i64 0) Tryd.underlying61 (by omega) info3 rfl
/-- A token of a slice of tokens, in a later world. -/
theorem tok_cells {w W : World} {A : Option Addr} {ts : List Tok} (h : SlT w w.heap.size 46 A (tokRs ts)) (hb : Below w.heap.size w W) {k : Nat} {T : Tok} (hk : ts[k]? = some T) :
    ∃ b o, A = some ⟨b, o, none⟩ ∧ W.cell? ⟨b, o + k * 4 + 1, none⟩ = some (.int .i64 (T.at_ : Int)) ∧ W.cell? ⟨b, o + k * 4 + 3, none⟩ = some (.int .i64 (T.n : Int)) := by
  have h1 := tokRs_at ts k T hk 1 _ rfl
  have h3 := tokRs_at ts k T hk 3 _ rfl
  rcases h.sl with he | ⟨b, o, e, hlt, hc⟩
  · rw [he] at h1; simp at h1
  · exact ⟨b, o, e, (hb.cell hlt).trans (by have := hc _ _ h1; rwa [← Nat.add_assoc] at this), (hb.cell hlt).trans (by have := hc _ _ h3; rwa [← Nat.add_assoc] at this)⟩
theorem below_grownOwn {w w4 w5 : World} {n size : Nat} {e : TypeId} {v : Value} {xs : List Value} {o : Obj} (h : Below w.heap.size w w4) (ho : w4.ownsRow w.heap.size e size v n xs) (hg : (w4.alloc o).grownBy w5 v.ownBlock) : Below w.heap.size w w5 := by
  have hb : Below w.heap.size w (w4.alloc o) := h.alloc h.size o
  refine ⟨hg.os.trans hb.os, hg.tape.trans hb.tape, hg.output.trans hb.output, Nat.le_trans hb.size hg.size, fun k hk => (hg.block k (Nat.lt_of_lt_of_le hk hb.size) (fun e => ?_)).trans (hb.block k hk)⟩
  rcases ho.2 with ⟨h', _⟩ | ⟨g, cap, cur, h', hle, _⟩
  · rw [h'] at e; simp [Value.ownBlock] at e
  · rw [h'] at e
    have : k = g := by simpa [Value.ownBlock] using e
    omega
/-- In the reference's parity: the line's block, the row so far. -/
structure PS (w : World) (cs : Array Value) (A : Option Addr) (n c : Nat) (xs : List Int) (W : World) : Prop where
  below : Below w.heap.size w W
  x : W.heap[w.heap.size]? = some (.cells cs 101)
  o : W.ownsRow w.heap.size 3 1 (.slice A n c) n (xs.map intC)
section
variable {w W W' : World} {cs : Array Value} {A A' : Option Addr} {n c c' : Nat} {xs : List Int}
theorem PS.start (w : World) (cs : Array Value) : PS w cs none 0 0 [] (w.alloc (.cells cs 101)) := ⟨(Below.refl _ _).alloc (Nat.le_refl _) _, heap_new _ _, own_nil _ _ _ _⟩
theorem PS.drewN (h : PS w cs A n c xs W) (q : Nat) : PS w cs A n c xs (W.drewN q) := ⟨below_drewN h.below q, h.x, h.o⟩
theorem PS.step {o : Obj} {u : Int} (h : PS w cs A n c xs W) (ho : W'.ownsRow w.heap.size 3 1 (.slice A' (n + 1) c') (n + 1) (xs.map intC ++ [.int .i64 u])) (hg : (W.alloc o).grownBy W' (Value.slice A n c).ownBlock) : PS w cs A' (n + 1) c' (xs ++ [u]) W' :=
  ⟨below_grownOwn h.below h.o hg, (row_grownOwn h.o hg h.x (by decide)).trans h.x, by rw [List.map_append]; exact ho⟩
theorem PS.slt (h : PS w cs A n c xs W) : SlT W W.heap.size 3 A (xs.map intC) := by
  obtain ⟨A', c', e, hs, _⟩ := SlT.of_own h.o
  injection e with e1 _ _
  subst e1
  exact hs
end
def RowR (x : BR (List Int)) (w : World) (e : Ending) (w' : World) : Prop := Below w.heap.size w w' ∧ match x with
  | .ok row => ∃ A c, e = .returned (.tuple #[.slice A row.length c, .int .i64 0, .int .i64 0]) ∧ SlT w' w'.heap.size 3 A (row.map intC)
  | .bad p en => e = .returned (.tuple #[.slice none 0 0, .int .i64 (p : Int), .int .i64 (en : Int)])
end Go.Proofs.YtafgmbchdcfkcaaDoor
