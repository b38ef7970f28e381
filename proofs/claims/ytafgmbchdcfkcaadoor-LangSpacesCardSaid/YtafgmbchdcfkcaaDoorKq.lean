/-
  Several blocks that a function of the parser has made, and how they stay; marks of a token have a text. No program is run here but by its contracts.
  Stores of several cells into one block; the state of the reader's code between its rows. No program is run here but by its contracts.
-/
import Derived.Test.YtafgmbchdcfkcaaDoorW7
import Derived.Deep.MidRow
namespace Go.Proofs.YtafgmbchdcfkcaaDoor
open Go Go.RowKit Go.Walks

/-- In a function of the reader that has made the blocks L since the world w. -/
structure StN (w : World) (r : Nat) (t : ByteArray) (L : List (Nat × Array Value × TypeId)) (W : World) (ts : List Tok) : Prop where
  at_ : PAt W r t ts
  rb : RB r w W
  lt : r < w.heap.size
  row : ∀ x ∈ L, w.heap.size ≤ x.1 ∧ W.heap[x.1]? = some (.cells x.2.1 x.2.2)

section
variable {w W W' : World} {r : Nat} {t : ByteArray} {L : List (Nat × Array Value × TypeId)} {g : Nat} {ty : TypeId} {cs : Array Value} {ts ts' : List Tok}
theorem StN.start (h : PAt w r t ts) : StN w r t [] w ts := ⟨h, RB.refl _ _, h.lt, fun _ hx => by cases hx⟩
theorem StN.call (h : StN w r t L W ts) (hb : RB r W W') (hp : PAt W' r t ts') : StN w r t L W' ts' :=
  ⟨hp, h.rb.trans hb, h.lt, fun x hx => ⟨(h.row x hx).1, hb.row (by have := (h.row x hx).1; have := h.lt; omega) (h.row x hx).2⟩⟩
theorem StN.alloc (h : StN w r t L W ts) (o : Obj) : StN w r t L (W.alloc o) ts := h.call ((RB.refl _ _).alloc _) (h.at_.alloc _)
theorem StN.drew (h : StN w r t L W ts) : StN w r t L W.drew ts := h.call (RB.refl _ _).drew h.at_.drew
theorem StN.new (h : StN w r t L W ts) (cs : Array Value) (ty : TypeId) : StN w r t ((W.heap.size, cs, ty) :: L) (W.alloc (.cells cs ty)) ts := by
  have k := h.alloc (.cells cs ty)
  refine ⟨k.at_, k.rb, k.lt, fun x hx => ?_⟩
  rcases List.mem_cons.1 hx with rfl | hx
  · exact ⟨h.rb.size, heap_new _ _⟩
  · exact k.row x hx
theorem StN.head (h : StN w r t ((g, cs, ty) :: L) W ts) : W.heap[g]? = some (.cells cs ty) := (h.row (g, cs, ty) (by simp)).2
theorem StN.le (h : StN w r t ((g, cs, ty) :: L) W ts) : w.heap.size ≤ g := (h.row (g, cs, ty) (by simp)).1
theorem StN.tail (h : StN w r t ((g, cs, ty) :: L) W ts) : StN w r t L W ts := ⟨h.at_, h.rb, h.lt, fun x hx => h.row x (List.mem_cons_of_mem _ hx)⟩
theorem StN.set (h : StN w r t ((g, cs, ty) :: L) W ts) (hne : ∀ x ∈ L, x.1 ≠ g) (k : Nat) (u : Value) {cs' : Array Value} (hc : cs.setIfInBounds k u = cs') : StN w r t ((g, cs', ty) :: L) (W.setCell ⟨g, k, none⟩ u) ts := by
  have hle := h.le
  refine ⟨h.at_.setNew (by have := h.lt; omega), h.rb.setNew hle _ _, h.lt, fun x hx => ?_⟩
  rcases List.mem_cons.1 hx with rfl | hx
  · exact ⟨hle, by rw [← hc]; exact set_at h.head k u⟩
  · exact ⟨(h.row x (List.mem_cons_of_mem _ hx)).1, (Below.heap_setCell _ _ _ _ (hne x hx)).trans (h.row x (List.mem_cons_of_mem _ hx)).2⟩
theorem StN.gl (h : StN w r t L W ts) (hg : Gl w) (hr : 7 ≤ r) : Gl W := hg.rb h.rb hr
end

/-- A token has a text, unless it is the end or none. -/
theorem toksF_text : ∀ (f : Nat) (s : Bytes) (a : Nat) (T : Tok), T ∈ toksF f s a → T.kind ≤ 3 → T.text ≠ []
  | 0, _, _, T, h, _ => by cases h
  | f + 1, s, a, T, h, hk => by
    simp only [toksF] at h
    have key : (lexT (s.drop (skipS false s)) (a + skipS false s)).kind ≤ 3 → (lexT (s.drop (skipS false s)) (a + skipS false s)).text ≠ [] := by
      intro h3 e
      have h1 := lexT_len (s.drop (skipS false s)) (a + skipS false s)
      have h2 := lexLen_pos (s := s.drop (skipS false s)) h3
      rw [e] at h1
      simp at h1
      omega
    split at h
    · have : T = lexT (s.drop (skipS false s)) (a + skipS false s) := by simpa using h
      subst this
      exact key hk
    · rcases List.mem_cons.1 h with rfl | h
      · exact key hk
      · exact toksF_text f _ _ T h hk
theorem PAt.text {w : World} {r : Nat} {t : ByteArray} {ts : List Tok} (h : PAt w r t ts) : ∀ T ∈ ts, T.kind ≤ 3 → T.text ≠ [] := by
  obtain ⟨n, _, _, rfl⟩ := h
  exact toksF_text _ _ _
theorem kindT_mem {k : Nat} {ts a : List Tok} {T : Tok} (h : kindT k ts = .ok T a) : ∃ r, ts = T :: r ∧ T.kind = k ∧ a = r := by
  cases ts with
  | nil => cases h
  | cons T' ts' =>
    simp only [kindT] at h
    split at h
    · rename_i hk
      injection h with h1 h2; subst h1; subst h2
      exact ⟨_, rfl, hk, rfl⟩
    · cases h
theorem mustT_mem {s : Bytes} {ts a : List Tok} {p : Nat} (h : mustT s ts = .ok p a) : ∃ T, ts = T :: a := by
  cases ts with
  | nil => cases h
  | cons T' ts' =>
    simp only [mustT] at h
    split at h
    · injection h with _ h2; subst h2; exact ⟨_, rfl⟩
    · cases h
theorem oneT_text {key : Bytes} {ts a : List Tok} {N : Tok} (hts : ∀ T ∈ ts, T.kind ≤ 3 → T.text ≠ []) (h : oneT key ts = .ok N a) : N.text ≠ [] ∧ a.length + 3 = ts.length := by
  unfold oneT at h
  cases h1 : mustT key ts with
  | bad p => rw [h1] at h; cases h
  | ok p b =>
    rw [h1, PR.next_ok] at h
    obtain ⟨T, rfl⟩ := mustT_mem h1
    cases h2 : kindT 2 b with
    | bad p => rw [h2] at h; cases h
    | ok N' c =>
      rw [h2, PR.next_ok] at h
      obtain ⟨q, rfl, hk, rfl⟩ := kindT_mem h2
      cases h3 : mustT kSemi c with
      | bad p => rw [h3] at h; cases h
      | ok p d =>
        rw [h3, PR.next_ok] at h
        injection h with h4 h5
        subst h4; subst h5
        obtain ⟨T3, rfl⟩ := mustT_mem h3
        exact ⟨hts _ (by simp) (by omega), by simp⟩
theorem rowT_len {ts a : List Tok} {R : Row} (h : rowT ts = .ok R a) : a.length + 3 ≤ ts.length := by
  have tail : ∀ {at_ : Nat} {loc : Bool} {idx : List Tok} {b : List Tok}, rowEnd at_ loc idx b = .ok R a → a.length + 2 ≤ b.length := by
    intro at_ loc idx b h
    unfold rowEnd at h
    cases h1 : numsT b with
    | bad p => rw [h1] at h; cases h
    | ok cs d =>
      rw [h1, PR.next_ok] at h
      have l1 := numsT_len h1
      have lp : 0 < cs.length := by
        unfold numsT at h1
        cases hk : kindT 2 b with
        | bad p => rw [hk] at h1; cases h1
        | ok T e => rw [hk, PR.next_ok] at h1; injection h1 with h1 _; subst h1; simp
      cases h2 : mustT kSemi d with
      | bad p => rw [h2] at h; cases h
      | ok p e =>
        rw [h2, PR.next_ok] at h
        injection h with _ h; subst h
        have l2 := mustT_len h2
        omega
  unfold rowT at h
  split at h
  · cases h1 : mustT kLocal ts with
    | bad p => rw [h1] at h; cases h
    | ok p b =>
      rw [h1, PR.next_ok] at h
      have l1 := mustT_len h1
      cases h2 : numsT b with
      | bad p => rw [h2] at h; cases h
      | ok is c =>
        rw [h2, PR.next_ok] at h
        have l2 := numsT_len h2
        cases h3 : mustT kColon c with
        | bad p => rw [h3] at h; cases h
        | ok p d =>
          rw [h3, PR.next_ok] at h
          have l3 := mustT_len h3
          have := tail h
          omega
  · cases h1 : mustT kParity ts with
    | bad p => rw [h1] at h; cases h
    | ok p b =>
      rw [h1, PR.next_ok] at h
      have l1 := mustT_len h1
      have := tail h
      omega
theorem StN.append {w W W' : World} {r : Nat} {t : ByteArray} {L : List (Nat × Array Value × TypeId)} {ts : List Tok} {e : TypeId} {size n : Nat} {v : Value} {xs : List Value} {o : Obj} (h : StN w r t L W ts) (hL : ∀ x ∈ L, x.2.2 ≠ e) (h88 : 88 ≠ e)
    (ho : W.ownsRow w.heap.size e size v n xs) (hg : (W.alloc o).grownBy W' v.ownBlock) : StN w r t L W' ts := by
  obtain ⟨cr, hcr⟩ := h.at_.cells
  exact ⟨h.at_.row (row_grownOwn ho hg hcr h88), rb_grownOwn h.rb ho hg, h.lt, fun x hx => ⟨(h.row x hx).1, (row_grownOwn ho hg (h.row x hx).2 (hL x hx)).trans (h.row x hx).2⟩⟩
theorem keep_append {W W' : World} {B : Nat} {ty e : TypeId} {size n : Nat} {v : Value} {xs : List Value} {o : Obj} (hne : e ≠ ty) (ho : W.ownsRow B e size v n xs) (hg : (W.alloc o).grownBy W' v.ownBlock) : KeepT ty W W' := by
  refine (KeepT.alloc W o).trans (KeepT.grown hg fun k hk => ?_)
  rcases ho.2 with ⟨rfl, _⟩ | ⟨g, cap, cur, rfl, _, hh, _⟩
  · simp [Value.ownBlock] at hk
  · have : g = k := by simpa [Value.ownBlock] using hk
    subst this
    exact ⟨cur, e, _, (Below.heap_alloc _ _ _ (Array.getElem?_eq_some_iff.1 hh).1).trans hh, hne⟩
theorem own_set {W : World} {B e size n g : Nat} {t' : TypeId} {v : Value} {xs : List Value} {cs : Array Value} {fz : Nat × Nat} (h : W.ownsRow B e size v n xs) (hg : W.heap[g]? = some (.cells cs t' fz)) (ht : t' ≠ e) (k : Nat) (u : Value) : (W.setCell ⟨g, k, none⟩ u).ownsRow B e size v n xs := by
  refine ⟨h.1, ?_⟩
  rcases h.2 with h | ⟨g', cap, cur, e1, hle, hh, h⟩
  · exact .inl h
  · exact .inr ⟨g', cap, cur, e1, hle, (Below.heap_setCell _ _ _ _ (cells_other hh hg ht)).trans hh, h⟩
theorem own_nil (w : World) (B e size : Nat) : w.ownsRow B e size (.slice none 0 0) 0 [] := ⟨by simp, .inl ⟨rfl, rfl⟩⟩

/-- The cells of rows, one behind the other. -/
def RowsCs (w : World) : List Row → List Value → Prop
  | [], cs => cs = []
  | R :: Rs, cs => ∃ c1 c2, cs = c1 ++ c2 ∧ RowCs w R c1 ∧ RowsCs w Rs c2
theorem RowsCs.keep {w w' : World} (k : KeepT 92 w w') : ∀ {Rs : List Row} {cs : List Value}, RowsCs w Rs cs → RowsCs w' Rs cs
  | [], _, h => h
  | _ :: _, _, ⟨c1, c2, e, h1, h2⟩ => ⟨c1, c2, e, h1.keep k, h2.keep k⟩
theorem RowsCs.snoc {w : World} {R : Row} {c : List Value} (hc : RowCs w R c) : ∀ {Rs : List Row} {cs : List Value}, RowsCs w Rs cs → RowsCs w (Rs ++ [R]) (cs ++ c)
  | [], _, h => by
    have : _ = [] := h
    subst this
    exact ⟨c, [], by simp, hc, rfl⟩
  | _ :: _, _, ⟨c1, c2, e, h1, h2⟩ => ⟨c1, c2 ++ c, by rw [e, List.append_assoc], h1, h2.snoc hc⟩
theorem RowCs.len {w : World} {R : Row} {c : List Value} (h : RowCs w R c) : c.length = 4 := by obtain ⟨_, _, _, _, rfl, _⟩ := h; rfl
theorem RowCs.one {w : World} {R : Row} {c : List Value} (h : RowCs w R c) : ∀ u ∈ c, u.oneCell' = true := by
  obtain ⟨_, _, _, _, rfl, _⟩ := h
  intro u hu
  simp at hu
  rcases hu with rfl | rfl | rfl | rfl <;> rfl

theorem rowsT_fuel : ∀ (f : Nat) (ts : List Tok), ts.length ≤ f → ∀ g, f ≤ g → rowsT g ts = rowsT f ts
  | 0, ts, h, g, _ => by
    have : ts = [] := by cases ts with
      | nil => rfl
      | cons a b => simp at h
    subst this
    cases g with
    | zero => rfl
    | succ g => simp [rowsT, moreR, headIs]
  | f + 1, ts, h, 0, hg => by omega
  | f + 1, ts, h, g + 1, hg => by
    simp only [rowsT]
    split
    · cases hr : rowT ts with
      | bad p => rfl
      | ok R a =>
        have := rowT_len hr
        rw [PR.next_ok, PR.next_ok, rowsT_fuel f a (by omega) g (by omega)]
    · rfl
theorem rowsT_eq (ts : List Tok) : rowsT ts.length ts = if moreR ts then (rowT ts).next fun R a => (rowsT a.length a).next fun Rs b => .ok (R :: Rs) b else .ok [] ts := by
  rw [← rowsT_fuel ts.length ts (Nat.le_refl _) (ts.length + 1) (by omega), rowsT]
  split
  · cases hr : rowT ts with
    | bad p => rfl
    | ok R a =>
      have := rowT_len hr
      rw [PR.next_ok, PR.next_ok, rowsT_fuel a.length a (Nat.le_refl _) ts.length (by omega)]
  · rfl

def codeK (nm fl dt : Tok) (Rs Rs' : List Row) (g : List Tok) : PR Src := (domT g).next fun dm h => (mustT kClose h).next fun _ i => .ok ⟨nm, fl, dt, Rs ++ Rs', dm⟩ i
theorem codeT_eq (ts : List Tok) : codeT ts = (mustT kCode ts).next fun _ a => (kindT 1 a).next fun nm b => (mustT kOpen b).next fun _ c => (oneT kField c).next fun fl d => (oneT kData d).next fun dt e =>
    (rowT e).next fun R f => (rowsT f.length f).next (codeK nm fl dt [R]) := rfl
theorem next_next {α β γ : Type} (x : PR α) (f : α → List Tok → PR β) (g : β → List Tok → PR γ) : (x.next f).next g = x.next fun a ts => (f a ts).next g := by cases x <;> rfl
theorem codeK_step (nm fl dt : Tok) (Rs : List Row) {R : Row} {a ts : List Tok} (hm : moreR ts = true) (hr : rowT ts = .ok R a) : (rowsT ts.length ts).next (codeK nm fl dt Rs) = (rowsT a.length a).next (codeK nm fl dt (Rs ++ [R])) := by
  rw [rowsT_eq ts, if_pos hm, hr, PR.next_ok, next_next]
  cases rowsT a.length a with
  | bad p => rfl
  | ok Rs' b => simp only [PR.next_ok, codeK, List.append_assoc, List.singleton_append]
theorem codeK_bad (nm fl dt : Tok) (Rs : List Row) {p : Nat} {ts : List Tok} (hm : moreR ts = true) (hr : rowT ts = .bad p) : (rowsT ts.length ts).next (codeK nm fl dt Rs) = .bad p := by
  rw [rowsT_eq ts, if_pos hm, hr]; rfl
theorem codeK_end (nm fl dt : Tok) (Rs : List Row) {ts : List Tok} (hm : moreR ts = false) : (rowsT ts.length ts).next (codeK nm fl dt Rs) = codeK nm fl dt Rs [] ts := by
  rw [rowsT_eq ts, hm]; rfl
end Go.Proofs.YtafgmbchdcfkcaaDoor
namespace Go.Walks
open Go Go.RowKit

def spl (cs : Array Value) : Nat → List Value → Array Value
  | _, [] => cs
  | o, v :: r => spl (cs.setIfInBounds o v) (o + 1) r
theorem heap_setCells {w : World} {g : Nat} {t : TypeId} : ∀ (vs : List Value) (o : Nat) {w : World} {cs : Array Value}, w.heap[g]? = some (.cells cs t) → (w.setCells g o vs).heap[g]? = some (.cells (spl cs o vs) t)
  | [], _, _, _, h => h
  | v :: r, o, _, _, h => heap_setCells (w := w) r (o + 1) (set_at h o v)
theorem heap_setCells_other {g k : Nat} (hk : k ≠ g) : ∀ (vs : List Value) (o : Nat) (w : World), (w.setCells g o vs).heap[k]? = w.heap[k]?
  | [], _, _ => rfl
  | v :: r, o, w => (heap_setCells_other hk r (o + 1) (w.setCell ⟨g, o, none⟩ v)).trans (Below.heap_setCell _ _ _ _ hk)
theorem size_setCells (g : Nat) : ∀ (vs : List Value) (o : Nat) (w : World), (w.setCells g o vs).heap.size = w.heap.size
  | [], _, _ => rfl
  | v :: r, o, w => (size_setCells g r (o + 1) (w.setCell ⟨g, o, none⟩ v)).trans (World.size_setCell _ _ _)
theorem RB.setCells {r g : Nat} {a : World} (hg : a.heap.size ≤ g) : ∀ (vs : List Value) (o : Nat) {w : World}, RB r a w → RB r a (w.setCells g o vs)
  | [], _, _, h => h
  | v :: rest, o, _, h => RB.setCells hg rest (o + 1) (h.setNew hg o v)
theorem Below.setCells {B g : Nat} {a : World} (hg : B ≤ g) : ∀ (vs : List Value) (o : Nat) {w : World}, Below B a w → Below B a (w.setCells g o vs)
  | [], _, _, h => h
  | v :: rest, o, _, h => Below.setCells hg rest (o + 1) (h.setCell (p := ⟨g, o, none⟩) hg v)
theorem KeepT.setCells {ty : TypeId} {g : Nat} {t : TypeId} (ht : t ≠ ty) : ∀ (vs : List Value) (o : Nat) {w : World} {cs : Array Value}, w.heap[g]? = some (.cells cs t) → KeepT ty w (w.setCells g o vs)
  | [], _, _, _, _ => KeepT.refl _ _
  | v :: r, o, _, _, h => (KeepT.setCell h ht o v).trans (KeepT.setCells ht r (o + 1) (set_at h o v))
theorem there_of_row {w : World} {g : Nat} {t : TypeId} {cs : Array Value} (h : w.heap[g]? = some (.cells cs t)) (o n : Nat) (hn : o + n ≤ cs.size) : w.there g o n := by
  intro j hj
  rw [cell_of_row w g (o + j) cs t (0, 0) h, frozen_of_row w g (o + j) cs t h]
  exact ⟨by simp; omega, rfl⟩
theorem cell_at {w : World} {g : Nat} {t : TypeId} {cs : Array Value} (h : w.heap[g]? = some (.cells cs t)) (k : Nat) {u : Value} (hu : cs[k]? = some u) : w.cell? ⟨g, k, none⟩ = some u ∧ w.frozen? ⟨g, k, none⟩ = false := by
  constructor
  · rw [cell_of_row w g k cs t (0, 0) h]; exact hu
  · exact frozen_of_row w g k cs t h
end Go.Walks
namespace Go.Proofs.YtafgmbchdcfkcaaDoor
open Go Go.RowKit Go.Walks

section
variable {w W W' : World} {r : Nat} {t : ByteArray} {L : List (Nat × Array Value × TypeId)} {g : Nat} {ty : TypeId} {cs : Array Value} {ts ts' : List Tok}
theorem StN.sets (h : StN w r t ((g, cs, ty) :: L) W ts) (hne : ∀ x ∈ L, x.1 ≠ g) (k : Nat) (us : List Value) {cs' : Array Value} (hc : spl cs k us = cs') : StN w r t ((g, cs', ty) :: L) (W.setCells g k us) ts := by
  have hle := h.le
  have hlt := h.lt
  refine ⟨h.at_.row (heap_setCells_other (by omega) _ _ _), RB.setCells hle _ _ h.rb, h.lt, fun x hx => ?_⟩
  rcases List.mem_cons.1 hx with rfl | hx
  · exact ⟨hle, by rw [← hc]; exact heap_setCells (w := W) us k h.head⟩
  · exact ⟨(h.row x (List.mem_cons_of_mem _ hx)).1, (heap_setCells_other (hne x hx) _ _ _).trans (h.row x (List.mem_cons_of_mem _ hx)).2⟩
theorem StN.swap {a b : Nat × Array Value × TypeId} (h : StN w r t (a :: b :: L) W ts) : StN w r t (b :: a :: L) W ts :=
  ⟨h.at_, h.rb, h.lt, fun x hx => h.row x (by simp only [List.mem_cons] at hx ⊢; rcases hx with h | h | h <;> simp [h])⟩
end

abbrev z13 : Array Value := #[.int .i64 0, .int .i64 0, .string ⟨#[]⟩, .int .i64 0, .int .i64 0, .string ⟨#[]⟩, .int .i64 0, .int .i64 0, .string ⟨#[]⟩, .slice none 0 0, .int .i64 0, .int .i64 0, .string ⟨#[]⟩]
def domCs : Option Tok → List Value
  | some d => [.int .i64 (d.at_ : Int), .int .i64 (d.n : Int), strV d.text]
  | none => [.int .i64 0, .int .i64 0, strV []]
/-- The cells of a code as it is written. -/
def SrcCs (w : World) (S : Src) (cs : List Value) : Prop :=
  ∃ A c rc, cs = tokCells S.name ++ tokCells S.field ++ tokCells S.data ++ [.slice A S.rows.length c] ++ domCs S.dom ∧ SlT w w.heap.size 117 A rc ∧ RowsCs w S.rows rc ∧ S.name.text ≠ [] ∧ ∀ d, S.dom = some d → d.text ≠ []
def SrcIs (S : Src) (_ : World) (e : Ending) (w' : World) : Prop := ∃ cs : List Value, e = .returned (.agg cs.toArray) ∧ SrcCs w' S cs

theorem so93 : SliceOf Tryd.prog 93 117 4 64 := SliceOf.mk (z := .agg #[.int .i64 0, .bool false, .slice none 0 0, .slice none 0 0]) Tryd.underlying93 (by omega) (by kernel_rfl) rfl
theorem info95 : (Tryd.prog.info? 95).map (·.size) = some 13 := by kernel_rfl

/-- The source's cells while its rows are read. -/
abbrev sCs (nm fl dt : Tok) (v : Value) (dm : Option Tok) : Array Value := (tokCells nm ++ tokCells fl ++ tokCells dt ++ [v] ++ domCs dm).toArray
def CodeSt (w : World) (r : Nat) (t : ByteArray) (g0 gs : Nat) (nm fl dt : Tok) (Rs : List Row) (rest : List Tok) (W : World) : Prop :=
  ∃ A n c rc, n = Rs.length ∧ StN w r t [(gs, sCs nm fl dt (.slice A n c) none, 95), (g0, z13, 95)] W rest ∧ W.ownsRow w.heap.size 117 4 (.slice A n c) n rc ∧ RowsCs W Rs rc

section
variable {w W W' : World} {r g0 gs : Nat} {t : ByteArray} {nm fl dt : Tok} {Rs : List Row} {R : Row} {rest rest' : List Tok}
theorem CodeSt.call (h : CodeSt w r t g0 gs nm fl dt Rs rest W) (hb : RB r W W') (hp : PAt W' r t rest') : CodeSt w r t g0 gs nm fl dt Rs rest' W' := by
  obtain ⟨A, n, c, rc, hn, hS, hO, hR⟩ := h
  obtain ⟨cr, hcr⟩ := hS.at_.cells
  exact ⟨A, n, c, rc, hn, hS.call hb hp, own_rb hO hb hcr (by decide), hR.keep (KeepT.rb hb hcr (by decide))⟩
theorem CodeSt.at_ (h : CodeSt w r t g0 gs nm fl dt Rs rest W) : PAt W r t rest := by obtain ⟨A, n, c, rc, hn, hS, hO, hR⟩ := h; exact hS.at_
theorem CodeSt.rb (h : CodeSt w r t g0 gs nm fl dt Rs rest W) : RB r w W := by obtain ⟨A, n, c, rc, hn, hS, hO, hR⟩ := h; exact hS.rb
/-- One row more. -/
theorem CodeSt.step {w4 w5 : World} {A A5 : Option Addr} {n c c5 : Nat} {rc news : List Value} {o : Obj} (hne : g0 ≠ gs) (hn : n = Rs.length) (S4 : StN w r t [(gs, sCs nm fl dt (.slice A n c) none, 95), (g0, z13, 95)] w4 rest) (O4 : w4.ownsRow w.heap.size 117 4 (.slice A n c) n rc)
    (RC4 : RowsCs w4 Rs rc) (hR : RowCs w4 R news) (ho5 : w5.ownsRow w.heap.size 117 4 (.slice A5 (n + 1) c5) (n + 1) (rc ++ news)) (hg5 : (w4.alloc o).grownBy w5 (Value.slice A n c).ownBlock) :
    CodeSt w r t g0 gs nm fl dt (Rs ++ [R]) rest (w5.setCell ⟨gs, 9, none⟩ (.slice A5 (n + 1) c5)) := by
  have S5 := S4.append (by intro x hx; simp at hx; rcases hx with rfl | rfl <;> exact (by decide : (95 : Nat) ≠ 117)) (by decide) O4 hg5
  have k := keep_append (ty := 92) (by decide) O4 hg5
  have k2 := KeepT.setCell (ty := 92) S5.head (by decide) 9 (.slice A5 (n + 1) c5)
  refine ⟨A5, n + 1, c5, rc ++ news, by simp [hn], S5.set (by intro x hx; simp at hx; subst hx; exact hne) 9 _ rfl, own_set ho5 S5.head (by decide) 9 _, ?_⟩
  exact ((RowsCs.snoc hR RC4).keep k).keep k2
/-- The pieces of such a state, the slice of rows named. -/
structure Pc (w : World) (r : Nat) (t : ByteArray) (g0 gs : Nat) (nm fl dt : Tok) (A : Option Addr) (n c : Nat) (rc : List Value) (Rs : List Row) (rest : List Tok) (W : World) : Prop where
  s : StN w r t [(gs, sCs nm fl dt (.slice A n c) none, 95), (g0, z13, 95)] W rest
  o : W.ownsRow w.heap.size 117 4 (.slice A n c) n rc
  rs : RowsCs W Rs rc
section
variable {A A5 : Option Addr} {n c c5 : Nat} {rc news : List Value} {o : Obj}
theorem Pc.call (h : Pc w r t g0 gs nm fl dt A n c rc Rs rest W) (hb : RB r W W') (hp : PAt W' r t rest') : Pc w r t g0 gs nm fl dt A n c rc Rs rest' W' := by
  obtain ⟨cr, hcr⟩ := h.s.at_.cells
  exact ⟨h.s.call hb hp, own_rb h.o hb hcr (by decide), h.rs.keep (KeepT.rb hb hcr (by decide))⟩
theorem Pc.drew (h : Pc w r t g0 gs nm fl dt A n c rc Rs rest W) : Pc w r t g0 gs nm fl dt A n c rc Rs rest W.drew := ⟨h.s.drew, h.o, h.rs.keep (KeepT.drewN W 1)⟩
theorem Pc.cell (h : Pc w r t g0 gs nm fl dt A n c rc Rs rest W) : W.cell? ⟨gs, 9, none⟩ = some (.slice A n c) ∧ W.frozen? ⟨gs, 9, none⟩ = false := cell_at h.s.head 9 rfl
theorem Pc.cella (h : Pc w r t g0 gs nm fl dt A n c rc Rs rest W) (o : Obj) : (W.alloc o).cell? ⟨gs, 9, none⟩ = some (.slice A n c) := (cell_at (h.s.alloc o).head 9 rfl).1
theorem Pc.own (h : Pc w r t g0 gs nm fl dt A n c rc Rs rest W) (o : Obj) : (W.alloc o).ownsRow w.heap.size 117 4 (.slice A n c) n rc := h.o.alloc o
theorem Pc.cell2 (h : Pc w r t g0 gs nm fl dt A n c rc Rs rest W) (hg : (W.alloc o).grownBy W' (Value.slice A n c).ownBlock) : W'.cell? ⟨gs, 9, none⟩ = some (.slice A n c) ∧ W'.frozen? ⟨gs, 9, none⟩ = false :=
  cell_at (h.s.append (by intro x hx; simp at hx; rcases hx with rfl | rfl <;> exact (by decide : (95 : Nat) ≠ 117)) (by decide) h.o hg).head 9 rfl
theorem Pc.step (h : Pc w r t g0 gs nm fl dt A n c rc Rs rest W) (hne : g0 ≠ gs) (hn : n = Rs.length) (hR : RowCs W R news) (ho5 : W'.ownsRow w.heap.size 117 4 (.slice A5 (n + 1) c5) (n + 1) (rc ++ news)) (hg5 : (W.alloc o).grownBy W' (Value.slice A n c).ownBlock) :
    CodeSt w r t g0 gs nm fl dt (Rs ++ [R]) rest (W'.setCell ⟨gs, 9, none⟩ (.slice A5 (n + 1) c5)) := CodeSt.step hne hn h.s h.o h.rs hR ho5 hg5
theorem Pc.le (h : Pc w r t g0 gs nm fl dt A n c rc Rs rest W) : w.heap.size ≤ W.heap.size := h.s.rb.size
theorem CodeSt.pc (h : CodeSt w r t g0 gs nm fl dt Rs rest W) : ∃ A c rc, Pc w r t g0 gs nm fl dt A Rs.length c rc Rs rest W := by
  obtain ⟨A, n, c, rc, rfl, hS, hO, hR⟩ := h
  exact ⟨A, c, rc, hS, hO, hR⟩
end
theorem tok_one (T : Tok) : ∀ v ∈ tokCells T, v.oneCell' = true := by
  intro v hv
  simp [tokCells] at hv
  rcases hv with rfl | rfl | rfl <;> rfl
theorem dom_one (dm : Option Tok) : ∀ v ∈ domCs dm, v.oneCell' = true := by
  intro v hv
  cases dm with
  | none =>
    simp [domCs] at hv
    rcases hv with rfl | rfl <;> rfl
  | some d => exact tok_one d v hv
theorem sCs_one (nm fl dt : Tok) (A : Option Addr) (n c : Nat) (dm : Option Tok) : (sCs nm fl dt (.slice A n c) dm).all (·.oneCell') = true := by
  refine all_oneCell_toArray (fun v hv => ?_)
  simp only [List.mem_append, List.mem_singleton] at hv
  rcases hv with (((hv | hv) | hv) | hv) | hv
  · exact tok_one nm v hv
  · exact tok_one fl v hv
  · exact tok_one dt v hv
  · rw [hv]; rfl
  · exact dom_one dm v hv
theorem sCs_size (nm fl dt : Tok) (A : Option Addr) (n c : Nat) (dm : Option Tok) : (sCs nm fl dt (.slice A n c) dm).size = 13 := by cases dm <;> rfl
/-- Behind the last row. -/
structure CodeFin (w : World) (r : Nat) (t : ByteArray) (g0 gs : Nat) (nm fl dt : Tok) (A : Option Addr) (c : Nat) (rc : List Value) (Rs : List Row) (dm : Option Tok) (rest : List Tok) (W : World) : Prop where
  s : StN w r t [(gs, sCs nm fl dt (.slice A Rs.length c) dm, 95), (g0, z13, 95)] W rest
  a : SlT W W.heap.size 117 A rc
  rs : RowsCs W Rs rc
section
variable {A : Option Addr} {c : Nat} {rc : List Value} {dm : Option Tok}
theorem CodeSt.fin (h : CodeSt w r t g0 gs nm fl dt Rs rest W) : ∃ A c rc, CodeFin w r t g0 gs nm fl dt A c rc Rs none rest W := by
  obtain ⟨A, c, rc, hp⟩ := h.pc
  obtain ⟨A', c', e, hs, _⟩ := SlT.of_own hp.o
  injection e with e1 _ _
  subst e1
  exact ⟨A, c, rc, hp.s, hs, hp.rs⟩
theorem CodeFin.call (h : CodeFin w r t g0 gs nm fl dt A c rc Rs dm rest W) (hb : RB r W W') (hp : PAt W' r t rest') : CodeFin w r t g0 gs nm fl dt A c rc Rs dm rest' W' := by
  obtain ⟨cr, hcr⟩ := h.s.at_.cells
  exact ⟨h.s.call hb hp, h.a.keepT (KeepT.rb hb hcr (by decide)) hb.size, h.rs.keep (KeepT.rb hb hcr (by decide))⟩
theorem CodeFin.dom (h : CodeFin w r t g0 gs nm fl dt A c rc Rs none rest W) (hne : g0 ≠ gs) (d : Tok) :
    CodeFin w r t g0 gs nm fl dt A c rc Rs (some d) rest (((W.setCell ⟨gs, 10, none⟩ (.int .i64 (d.at_ : Int))).setCell ⟨gs, 11, none⟩ (.int .i64 (d.n : Int))).setCell ⟨gs, 12, none⟩ (strV d.text)) := by
  have hd : ∀ x ∈ [(g0, z13, (95 : TypeId))], x.1 ≠ gs := by intro x hx; simp at hx; subst hx; exact hne
  have s1 := h.s.set hd 10 (.int .i64 (d.at_ : Int)) rfl
  have s2 := s1.set hd 11 (.int .i64 (d.n : Int)) rfl
  have s3 := s2.set hd 12 (strV d.text) (cs' := sCs nm fl dt (.slice A Rs.length c) (some d)) rfl
  have kk : ∀ ty : TypeId, 95 ≠ ty → KeepT ty W (((W.setCell ⟨gs, 10, none⟩ (.int .i64 (d.at_ : Int))).setCell ⟨gs, 11, none⟩ (.int .i64 (d.n : Int))).setCell ⟨gs, 12, none⟩ (strV d.text)) :=
    fun ty hty => ((KeepT.setCell h.s.head hty 10 (.int .i64 (d.at_ : Int))).trans (KeepT.setCell s1.head hty 11 (.int .i64 (d.n : Int)))).trans (KeepT.setCell s2.head hty 12 (strV d.text))
  exact ⟨s3, h.a.keepT (kk 117 (by decide)) (kk 117 (by decide)).size, h.rs.keep (kk 92 (by decide))⟩
theorem CodeFin.cell (h : CodeFin w r t g0 gs nm fl dt A c rc Rs none rest W) : (W.cell? ⟨gs, 10, none⟩ = some (.int .i64 0) ∧ W.frozen? ⟨gs, 10, none⟩ = false) ∧ (W.cell? ⟨gs, 11, none⟩ = some (.int .i64 0) ∧ W.frozen? ⟨gs, 11, none⟩ = false) ∧ (W.cell? ⟨gs, 12, none⟩ = some (strV []) ∧ W.frozen? ⟨gs, 12, none⟩ = false) :=
  ⟨cell_at h.s.head 10 rfl, cell_at h.s.head 11 rfl, cell_at h.s.head 12 rfl⟩
/-- What the store into the result leaves. -/
theorem CodeFin.out (h : CodeFin w r t g0 gs nm fl dt A c rc Rs dm rest W) (hne : g0 ≠ gs) (hnm : nm.text ≠ []) (hdm : ∀ d, dm = some d → d.text ≠ []) :
    (W.setCells g0 0 (sCs nm fl dt (.slice A Rs.length c) dm).toList).heap[g0]? = some (.cells (sCs nm fl dt (.slice A Rs.length c) dm) 95) ∧ SrcCs (W.setCells g0 0 (sCs nm fl dt (.slice A Rs.length c) dm).toList) ⟨nm, fl, dt, Rs, dm⟩ (tokCells nm ++ tokCells fl ++ tokCells dt ++ [.slice A Rs.length c] ++ domCs dm) ∧
      PAt (W.setCells g0 0 (sCs nm fl dt (.slice A Rs.length c) dm).toList) r t rest ∧ RB r w (W.setCells g0 0 (sCs nm fl dt (.slice A Rs.length c) dm).toList) := by
  have hd2 : ∀ x ∈ [(gs, sCs nm fl dt (.slice A Rs.length c) dm, (95 : TypeId))], x.1 ≠ g0 := fun x hx => by rw [List.mem_singleton] at hx; rw [hx]; exact fun e => hne e.symm
  have hsp : spl z13 0 (sCs nm fl dt (.slice A Rs.length c) dm).toList = sCs nm fl dt (.slice A Rs.length c) dm := by cases dm <;> kernel_rfl
  have S := h.s.swap.sets hd2 0 _ hsp
  have kk : ∀ ty : TypeId, 95 ≠ ty → KeepT ty W (W.setCells g0 0 (sCs nm fl dt (.slice A Rs.length c) dm).toList) := fun ty hty => KeepT.setCells hty _ 0 h.s.swap.head
  exact ⟨S.head, ⟨A, c, rc, rfl, h.a.keepT (kk 117 (by decide)) (kk 117 (by decide)).size, h.rs.keep (kk 92 (by decide)), hnm, hdm⟩, S.at_, S.rb⟩
end
theorem row_ok {ts a : List Tok} {R : Row} (hx : rowT ts = .ok R a) (ht : t.size ≤ 2000) (hl : ts.length ≤ 2001) (hr7 : 7 ≤ r) (Hg : Gl w) (Hp : PAt w r t ts) :
    Calls Tryd.prog 78 #[.pointer (some ⟨r, 0, none⟩)] w fun e w' => RowIs R w e w' ∧ PAt w' r t a ∧ RB r w w' := by
  have := row_T t r w ts ht hl hr7 Hg Hp
  rw [hx] at this
  exact this
theorem row_bad {ts : List Tok} {p : Nat} (hx : rowT ts = .bad p) (ht : t.size ≤ 2000) (hl : ts.length ≤ 2001) (hr7 : 7 ≤ r) (Hg : Gl w) (Hp : PAt w r t ts) :
    Calls Tryd.prog 78 #[.pointer (some ⟨r, 0, none⟩)] w fun e w' => e = wrongE p 3 ∧ RB r w w' := by
  have := row_T t r w ts ht hl hr7 Hg Hp
  rw [hx] at this
  exact this
end
end Go.Proofs.YtafgmbchdcfkcaaDoor
