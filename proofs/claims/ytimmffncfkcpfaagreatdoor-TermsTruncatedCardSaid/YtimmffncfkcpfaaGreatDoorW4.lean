/-
  The parser by the list of the tokens that are still to come: the walks of take and must.
-/
import Derived.Test.YtimmffncfkcpfaaGreatDoorW3
namespace Go.Proofs.YtimmffncfkcpfaaGreatDoor
open Go Go.RowKit Go.Walks

def wrongE (a e : Int) : Ending := .panicked [{ v := .iface 48 (.agg #[.int .i64 a, .int .i64 e]), recovered := false }]
/-- The parser stands at the first of the tokens ts. -/
def PS (w : World) (r : Nat) (t : ByteArray) (ts : List Tok) : Prop := ∃ a, a ≤ t.size ∧ toks t.data.toList a = ts ∧ Ps w r t (nextT t.data.toList a)
def headTx : List Tok → Bytes
  | T :: _ => T.text
  | [] => []
theorem headIs_tx (s : Bytes) (hs : s ≠ []) (ts : List Tok) : headIs s ts = (headTx ts == s) := by
  cases ts with
  | nil =>
    cases s with
    | nil => exact absurd rfl hs
    | cons c s => rfl
  | cons T ts => rfl
/-- What a part of the parser comes to. -/
def PRes {α : Type} (t : ByteArray) (r : Nat) (x : PR α) (V : α → World → Ending → World → Prop) (w : World) (e : Ending) (w' : World) : Prop := match x with
  | .ok a ts => V a w e w' ∧ PS w' r t ts ∧ RB r w w'
  | .bad p => e = wrongE p 3 ∧ RB r w w'
section
variable {t : ByteArray} {r : Nat} {w w' : World} {ts : List Tok}
theorem PS.lt (h : PS w r t ts) : r < w.heap.size := by obtain ⟨_, _, _, h⟩ := h; exact (Array.getElem?_eq_some_iff.1 h).1
theorem PS.row (h : PS w r t ts) (hb : w'.heap[r]? = w.heap[r]?) : PS w' r t ts := by
  obtain ⟨n, h1, h2, h3⟩ := h
  exact ⟨n, h1, h2, hb.trans h3⟩
theorem PS.below (h : PS w r t ts) (hb : Below w.heap.size w w') : PS w' r t ts := h.row (hb.block _ h.lt)
theorem PS.alloc (h : PS w r t ts) (o : Obj) : PS (w.alloc o) r t ts := h.row (Below.heap_alloc _ _ _ h.lt)
theorem PS.setNew (h : PS w r t ts) {g o : Nat} {u : Value} (hg : r ≠ g) : PS (w.setCell ⟨g, o, none⟩ u) r t ts := h.row (Below.heap_setCell _ _ _ _ hg)
theorem toks_head {l : Bytes} {a : Nat} (ha : a ≤ l.length) : ∃ T rest, toks l a = T :: rest ∧ nextT l a = T ∧ T.at_ + T.text.length ≤ l.length ∧ (T.text ≠ [] → toks l (T.at_ + T.text.length) = rest) := by
  have h := toks_eq l a
  have hl := nextT_le ha
  by_cases h0 : (nextT l a).text = []
  · rw [if_pos h0] at h
    exact ⟨_, _, h, rfl, hl, fun h1 => absurd h0 h1⟩
  · rw [if_neg h0] at h
    exact ⟨_, _, h, rfl, hl, fun _ => rfl⟩
theorem PS.head (h : PS w r t ts) : ∃ T rest, ts = T :: rest ∧ Ps w r t T ∧ T.at_ + T.text.length ≤ t.size ∧ (T.text ≠ [] → toks t.data.toList (T.at_ + T.text.length) = rest) := by
  obtain ⟨a, h1, h2, h3⟩ := h
  obtain ⟨T, rest, e1, e2, e3, e4⟩ := toks_head (l := t.data.toList) (a := a) (by rw [size_l]; exact h1)
  rw [size_l] at e3
  exact ⟨T, rest, by rw [← h2, e1], by rw [← e2]; exact h3, e3, e4⟩
end
def TokV (T : Tok) : Value := .agg #[strV T.text, .int .i64 (T.at_ : Int)]
def TokIs (T : Tok) (_ : World) (e : Ending) (_ : World) : Prop := e = .returned (.agg #[strV T.text, .int .i64 (T.at_ : Int)])
theorem info72 : (Tryz.prog.info? 54).map (·.size) = some 2 := by kernel_rfl
theorem res58 (tmps : Array Value) (w : World) (g : Nat) (a b : Value) (hp : tmps.getD 4 undef = .pointer (some ⟨g, 0, none⟩)) (hg : w.heap[g]? = some (.cells #[a, b] 54)) :
    (results Tryz.f50 tmps).run Tryz.prog w = .ok (.agg #[a, b]) w :=
  results_cell_row (p := 4) (ty := 54) rfl tmps w g 54 #[a, b] (0, 0) _ hp hg Tryz.underlying54 rfl info72

set_option maxRecDepth 100000 in
set_option maxHeartbeats 2000000 in
theorem take_T (t : ByteArray) (r : Nat) (w : World) (ts : List Tok) (ok : Bytes → Bool) (hok : ok [] = false) (ht : t.size ≤ 2000) (hr7 : 7 ≤ r) (Hg : Hid (Gl w)) (Hp : Hid (PS w r t ts)) :
    Calls Tryz.prog 50 #[.pointer (some ⟨r, 0, none⟩), .bool (ok (headTx ts))] w (PRes t r (takeT ok ts) TokIs w) := by
  obtain ⟨T, rest, rfl, hps, hle, hrest⟩ := Hp.out.head
  have Hps := Lib.hid hps
  have Hrest := Lib.hid hrest
  have Hok := Lib.hid hok
  have hlt := Hp.out.lt
  clear hps hrest hok
  show Calls Tryz.prog 50 #[_, .bool (ok T.text)] _ _
  obtain ⟨c0, f0⟩ := cell_at Hps.out 0 (u := .string t) rfl
  obtain ⟨c1, f1⟩ := cell_at Hps.out 1 (u := strV T.text) rfl
  obtain ⟨c2, f2⟩ := cell_at Hps.out 2 (u := .int .i64 (T.at_ : Int)) rfl
  unfold strV at c1
  cases hv : ok T.text with
  | false =>
    have Hx : Hid (takeT ok (T :: rest) = .bad T.at_) := by show _ = _; rw [takeT, hv]; rfl
    clear hv
    go_enter Tryz.func50, Tryz.ntmps50
    go_wp2_with fail
    refine ⟨rfl, ?_⟩
    show PRes t r (takeT ok (T :: rest)) TokIs w _ _
    rw [Hx.out]
    exact ⟨rfl, ((RB.refl _ _).alloc _).alloc _⟩
  | true =>
    have Hx : Hid (takeT ok (T :: rest) = .ok T rest) := by show _ = _; rw [takeT, hv]; rfl
    have Hne : Hid (T.text ≠ []) := fun e => by rw [e, Hok.out] at hv; cases hv
    clear hv
    go_enter Tryz.func50, Tryz.ntmps50
    go_wp2_with fail
    have hB2 : Below w.heap.size w ((w.alloc (.cells #[.string ⟨#[]⟩, .int .i64 0] 54)).alloc (.cells #[.string ⟨T.text.toArray⟩, .int .i64 (T.at_ : Int)] 54)) := ((Below.refl _ _).alloc (Nat.le_refl _) _).alloc (by simp) _
    have hps2 := below_cells Hps.out hB2
    have hn1 : ((w.alloc (.cells #[.string ⟨#[]⟩, .int .i64 0] 54)).alloc (.cells #[.string ⟨T.text.toArray⟩, .int .i64 (T.at_ : Int)] 54)).heap[w.heap.size]? = some (.cells #[.string ⟨#[]⟩, .int .i64 0] 54) := (Below.heap_alloc _ _ _ (by simp)).trans (heap_new _ _)
    have hn2 := heap_new (w.alloc (.cells #[.string ⟨#[]⟩, .int .i64 0] 54)) (.cells #[.string ⟨T.text.toArray⟩, .int .i64 (T.at_ : Int)] 54)
    have hsz : (w.alloc (.cells #[.string ⟨#[]⟩, .int .i64 0] 54)).heap.size = w.heap.size + 1 := by simp
    rw [hsz] at hn2
    obtain ⟨W2, hW2⟩ : ∃ W2, W2 = (w.alloc (.cells #[.string ⟨#[]⟩, .int .i64 0] 54)).alloc (.cells #[.string ⟨T.text.toArray⟩, .int .i64 (T.at_ : Int)] 54) := ⟨_, rfl⟩
    rw [← hW2] at hB2 hps2 hn1 hn2
    rw [← hW2]
    have HB2 := Lib.hid hB2
    have hcall := advance_any t r (T.at_ + T.text.length) _ _ W2 hle ht hr7 (Hg.out.below hB2) hps2
    rw [Int.natCast_add] at hcall
    have Hcall := Lib.hid hcall
    have Hn1 := Lib.hid hn1
    have Hn2 := Lib.hid hn2
    clear hcall hn1 hn2 hB2 hps2 hW2 hsz c0 c1 c2 f0 f1 f2
    refine Hcall.out.mono ?_
    rintro e w3 ⟨rfl, hp3, hb3⟩
    have HR3 : Hid (w3.heap[w.heap.size]? = _) := hb3.row (by omega) Hn1.out
    obtain ⟨n0, g0⟩ := cell_at (hb3.row (by omega) Hn2.out) 0 (u := .string ⟨T.text.toArray⟩) rfl
    obtain ⟨n1, g1⟩ := cell_at (hb3.row (by omega) Hn2.out) 1 (u := .int .i64 (T.at_ : Int)) rfl
    obtain ⟨m0, h0⟩ := cell_at HR3.out 0 (u := .string ⟨#[]⟩) rfl
    obtain ⟨m1, h1⟩ := cell_at HR3.out 1 (u := .int .i64 0) rfl
    have HP3 := Lib.hid hp3
    have HB3 := Lib.hid ((RB.of_below HB2.out).trans hb3)
    have hrest := Hrest.out Hne.out
    have Hrest' := Lib.hid hrest
    clear hp3 hb3 hrest
    go_wp2_with fail
    refine bodyPost_ret (res58 _ _ w.heap.size _ _ rfl (set_at (set_at HR3.out 0 _) 1 _)) rfl ?_
    show PRes t r (takeT ok (T :: rest)) TokIs w _ _
    rw [Hx.out]
    refine ⟨rfl, ⟨T.at_ + T.text.length, hle, Hrest'.out, ?_⟩, (HB3.out.setNew (Nat.le_refl _) _ _).setNew (Nat.le_refl _) _ _⟩
    exact (Below.heap_setCell _ _ _ _ (by show r ≠ w.heap.size; omega)).trans ((Below.heap_setCell _ _ _ _ (by show r ≠ w.heap.size; omega)).trans HP3.out)
end Go.Proofs.YtimmffncfkcpfaaGreatDoor
