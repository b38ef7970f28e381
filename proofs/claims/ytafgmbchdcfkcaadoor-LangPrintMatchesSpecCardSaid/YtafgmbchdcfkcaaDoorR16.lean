/-
  The reference's build in plain words: line by line; it comes to what the program's build comes to. No program is run here.
  The state of the reference's build; a line of a slice of lines. No program is run here but by its contracts.
-/
import Derived.Test.YtafgmbchdcfkcaaDoorR13
import Derived.Test.YtafgmbchdcfkcaaDoorR14
namespace Go.Proofs.YtafgmbchdcfkcaaDoor
open Go

structure BSt where
  f : Nat
  d : Nat
  rows : List (List Int)
  u : Nat
def lineB (s : BSt) (P : PL) : BR (List Int) := if P.key = kLocal then localB (P.at_.getD 0) P.a P.b s.d (topN s.f) else parityB (P.at_.getD 0) P.a s.d (topN s.f)
def stepL (s : BSt) (P : PL) : BR BSt := match P.a with
  | [] => .bad 0 0
  | N :: _ =>
    if P.key = kField then (if N.n = 8 ∨ N.n = 16 then .ok { s with f := N.n } else .bad N.at_ 1)
    else if P.key = kData then (if 1 ≤ N.n ∧ N.n ≤ 31 then .ok { s with d := N.n } else .bad N.at_ 1)
    else if P.key = kDomain then (if 1 ≤ N.n ∧ N.n ≤ s.d + s.rows.length then .ok { s with u := N.n } else .bad N.at_ 1)
    else if s.d + s.rows.length < 32 then (lineB s P).next fun row => .ok { s with rows := s.rows ++ [row] }
    else .bad (P.at_.getD 0) 2
def buildL : BSt → List PL → BR BSt
  | s, [] => .ok s
  | s, P :: Ps => (stepL s P).next fun s' => buildL s' Ps
def endL (nm : Bytes) (s : BSt) : Code := ⟨nm, s.f, s.d, s.rows, if s.u = 0 then ((s.d + s.rows.length : Nat) : Int) else (s.u : Int)⟩
def buildN (N : Tok) (Ps : List PL) : BR Code := if N.text.length ≤ 12 then (buildL ⟨0, 0, [], 0⟩ Ps).next fun s => .ok (endL N.text s) else .bad N.at_ 2

/-- What a row that was read is. -/
structure RowOk (R : Row) : Prop where
  loc : R.loc = true → R.idx ≠ []
  par : R.loc = false → R.idx = []
  ne : R.coefs ≠ []
theorem numsT_ne {ts a ns : List Tok} (h : numsT ts = .ok ns a) : ns ≠ [] := by
  unfold numsT at h
  cases hk : kindT 2 ts with
  | bad p => rw [hk] at h; cases h
  | ok T b => rw [hk, PR.next_ok] at h; injection h with h _; rw [← h]; simp
theorem rowT_good {ts a : List Tok} {R : Row} (h : rowT ts = .ok R a) : RowOk R := by
  have tail : ∀ {at_ : Nat} {loc : Bool} {idx : List Tok} {b : List Tok}, rowEnd at_ loc idx b = .ok R a → R.loc = loc ∧ R.idx = idx ∧ R.coefs ≠ [] := by
    intro at_ loc idx b h
    unfold rowEnd at h
    cases h1 : numsT b with
    | bad p => rw [h1] at h; cases h
    | ok cs d =>
      rw [h1, PR.next_ok] at h
      cases h2 : mustT kSemi d with
      | bad p => rw [h2] at h; cases h
      | ok p e =>
        rw [h2, PR.next_ok] at h
        injection h with h _; subst h
        exact ⟨rfl, rfl, numsT_ne h1⟩
  unfold rowT at h
  split at h
  · cases h1 : mustT kLocal ts with
    | bad p => rw [h1] at h; cases h
    | ok p b =>
      rw [h1, PR.next_ok] at h
      cases h2 : numsT b with
      | bad p => rw [h2] at h; cases h
      | ok is c =>
        rw [h2, PR.next_ok] at h
        cases h3 : mustT kColon c with
        | bad p => rw [h3] at h; cases h
        | ok p d =>
          rw [h3, PR.next_ok] at h
          obtain ⟨e1, e2, e3⟩ := tail h
          exact ⟨fun _ => by rw [e2]; exact numsT_ne h2, (fun e => by rw [e1] at e; cases e), e3⟩
  · cases h1 : mustT kParity ts with
    | bad p => rw [h1] at h; cases h
    | ok p b =>
      rw [h1, PR.next_ok] at h
      obtain ⟨e1, e2, e3⟩ := tail h
      exact ⟨(fun e => by rw [e1] at e; cases e), fun _ => e2, e3⟩
theorem rowsT_good : ∀ (f : Nat) {ts a : List Tok} {Rs : List Row}, rowsT f ts = .ok Rs a → ∀ R ∈ Rs, RowOk R
  | 0, ts, a, Rs, h, R, hR => by injection h with h1 _; subst h1; cases hR
  | f + 1, ts, a, Rs, h, R, hR => by
    rw [rowsT] at h
    split at h
    · cases hr : rowT ts with
      | bad p => rw [hr] at h; cases h
      | ok R' b =>
        rw [hr, PR.next_ok] at h
        cases hr2 : rowsT f b with
        | bad p => rw [hr2] at h; cases h
        | ok Rs' c =>
          rw [hr2, PR.next_ok] at h
          injection h with h1 _
          subst h1
          rcases List.mem_cons.1 hR with rfl | hR
          · exact rowT_good hr
          · exact rowsT_good f hr2 R hR
    · injection h with h1 _
      subst h1
      cases hR
theorem codeT_good {ts a : List Tok} {S : Src} (h : codeT ts = .ok S a) : ∀ R ∈ S.rows, RowOk R := by
  rw [codeT_eq] at h
  cases h1 : mustT kCode ts with
  | bad p => rw [h1] at h; cases h
  | ok p b =>
  rw [h1, PR.next_ok] at h
  cases h2 : kindT 1 b with
  | bad p => rw [h2] at h; cases h
  | ok nm c =>
  rw [h2, PR.next_ok] at h
  cases h3 : mustT kOpen c with
  | bad p => rw [h3] at h; cases h
  | ok p d =>
  rw [h3, PR.next_ok] at h
  cases h4 : oneT kField d with
  | bad p => rw [h4] at h; cases h
  | ok fl e =>
  rw [h4, PR.next_ok] at h
  cases h5 : oneT kData e with
  | bad p => rw [h5] at h; cases h
  | ok dt f =>
  rw [h5, PR.next_ok] at h
  cases h6 : rowT f with
  | bad p => rw [h6] at h; cases h
  | ok R g =>
  rw [h6, PR.next_ok] at h
  cases h7 : rowsT g.length g with
  | bad p => rw [h7] at h; cases h
  | ok Rs i =>
  rw [h7, PR.next_ok, codeK] at h
  have key : S.rows = [R] ++ Rs := by
    cases h8 : domT i with
    | bad p => rw [h8] at h; cases h
    | ok dm j =>
      rw [h8, PR.next_ok] at h
      cases h9 : mustT kClose j with
      | bad p => rw [h9] at h; cases h
      | ok p k =>
        rw [h9, PR.next_ok] at h
        injection h with h _
        rw [← h]
  intro R' hR'
  rw [key] at hR'
  rcases List.mem_append.1 hR' with hR' | hR'
  · rw [List.mem_singleton] at hR'; subst hR'; exact rowT_good h6
  · exact rowsT_good _ h7 R' hR'

theorem stepL_row {s : BSt} {R : Row} (h : RowOk R) : stepL s (rowL R) = if s.d + s.rows.length < 32 then (buildRow R s.d (topN s.f)).next fun row => .ok { s with rows := s.rows ++ [row] } else .bad R.at_ 2 := by
  cases hl : R.loc with
  | true =>
    have hne := h.loc hl
    rw [local_row hl hne]
    have hL : rowL R = ⟨kLocal, some R.at_, R.idx, R.coefs⟩ := by unfold rowL; rw [hl]; rfl
    rw [hL]
    cases hi : R.idx with
    | nil => exact absurd hi hne
    | cons N r => rfl
  | false =>
    rw [parity_row hl (h.par hl)]
    have hL : rowL R = ⟨kParity, some R.at_, R.coefs, []⟩ := by unfold rowL; rw [hl]; rfl
    rw [hL]
    cases hi : R.coefs with
    | nil => exact absurd hi h.ne
    | cons N r => rfl
theorem buildL_rows : ∀ (Rs : List Row) (s : BSt) (tail : List PL), (∀ R ∈ Rs, RowOk R) → buildL s (Rs.map rowL ++ tail) = (buildRows s.d (topN s.f) s.rows Rs).next fun rows => buildL { s with rows := rows } tail
  | [], s, tail, _ => rfl
  | R :: Rs, s, tail, h => by
    rw [List.map_cons, List.cons_append, buildL, stepL_row (h R (by simp)), buildRows]
    split
    · cases buildRow R s.d (topN s.f) with
      | bad p e => rfl
      | ok row => exact buildL_rows Rs { s with rows := s.rows ++ [row] } tail (fun R' h' => h R' (by simp [h']))
    · rfl
theorem buildN_eq {S : Src} (h : ∀ R ∈ S.rows, RowOk R) : buildN S.name (srcL S) = buildS S := by
  unfold buildN buildS srcL
  split
  · show (((stepL ⟨0, 0, [], 0⟩ (fieldL kField S.field)).next fun s' => buildL s' ([fieldL kData S.data] ++ S.rows.map rowL ++ (S.dom.map (fieldL kDomain)).toList)).next _) = _
    show (((if S.field.n = 8 ∨ S.field.n = 16 then BR.ok (⟨S.field.n, 0, [], 0⟩ : BSt) else .bad S.field.at_ 1).next _).next _) = _
    split
    · show (((stepL ⟨S.field.n, 0, [], 0⟩ (fieldL kData S.data)).next fun s' => buildL s' (S.rows.map rowL ++ (S.dom.map (fieldL kDomain)).toList)).next _) = _
      show (((if 1 ≤ S.data.n ∧ S.data.n ≤ 31 then BR.ok (⟨S.field.n, S.data.n, [], 0⟩ : BSt) else .bad S.data.at_ 1).next _).next _) = _
      split
      · show (buildL ⟨S.field.n, S.data.n, [], 0⟩ (S.rows.map rowL ++ (S.dom.map (fieldL kDomain)).toList)).next _ = _
        rw [buildL_rows S.rows _ _ h]
        show ((buildRows S.data.n (topN S.field.n) [] S.rows).next _).next _ = _
        cases hb : buildRows S.data.n (topN S.field.n) [] S.rows with
        | bad p e => rfl
        | ok rows =>
          show (buildL ⟨S.field.n, S.data.n, rows, 0⟩ (S.dom.map (fieldL kDomain)).toList).next _ = buildDom S rows
          unfold buildDom
          cases S.dom with
          | none => rfl
          | some D =>
            show ((stepL ⟨S.field.n, S.data.n, rows, 0⟩ (fieldL kDomain D)).next _).next _ = _
            show (((if 1 ≤ D.n ∧ D.n ≤ S.data.n + rows.length then BR.ok (⟨S.field.n, S.data.n, rows, D.n⟩ : BSt) else .bad D.at_ 1).next _).next _) = _
            dsimp only
            split
            · rename_i hc
              show BR.ok (endL S.name.text ⟨S.field.n, S.data.n, rows, D.n⟩) = _
              unfold endL
              rw [if_neg (show ¬ D.n = 0 by omega)]
            · rfl
      · rfl
    · rfl
  · rfl
end Go.Proofs.YtafgmbchdcfkcaaDoor
namespace Go.Proofs.YtafgmbchdcfkcaaDoor
open Go Go.RowKit Go.Walks

/-- In the reference's build: the source, the result (still zero), the code so far. -/
structure SQ (w : World) (xs : Array Value) (nm : Bytes) (f d : Nat) (A : Option Addr) (n c u : Nat) (mc : List Value) (rows : List (List Int)) (W : World) : Prop where
  below : Below w.heap.size w W
  x : W.heap[w.heap.size]? = some (.cells xs 77)
  z : W.heap[w.heap.size + 1]? = some (.cells z5 24)
  gc : W.heap[w.heap.size + 2]? = some (.cells #[strV nm, .int .i64 (f : Int), .int .i64 (d : Int), .slice A n c, .int .i64 (u : Int)] 24)
  own : W.ownsRow w.heap.size 61 1 (.slice A n c) n mc
  mat : MatT W rows mc

section
variable {w W W' : World} {xs : Array Value} {nm : Bytes} {f d u : Nat} {A A' : Option Addr} {n c c' : Nat} {mc : List Value} {rows : List (List Int)}
theorem SQ.lt (h : SQ w xs nm f d A n c u mc rows W) : w.heap.size + 2 < W.heap.size := (Array.getElem?_eq_some_iff.1 h.gc).1
theorem SQ.call (h : SQ w xs nm f d A n c u mc rows W) (hb : Below W.heap.size W W') : SQ w xs nm f d A n c u mc rows W' := by
  have hl := h.lt
  refine ⟨h.below.trans (hb.mono h.below.size), (hb.block _ (by omega)).trans h.x, (hb.block _ (by omega)).trans h.z, (hb.block _ (by omega)).trans h.gc, ?_, h.mat.keep (KeepT.below hb)⟩
  refine ⟨h.own.1, ?_⟩
  rcases h.own.2 with h' | ⟨g, cap, cur, e, hg, hh, h'⟩
  · exact .inl h'
  · exact .inr ⟨g, cap, cur, e, hg, (hb.block _ (Array.getElem?_eq_some_iff.1 hh).1).trans hh, h'⟩
theorem SQ.alloc (h : SQ w xs nm f d A n c u mc rows W) (o : Obj) : SQ w xs nm f d A n c u mc rows (W.alloc o) := h.call ((Below.refl _ _).alloc (Nat.le_refl _) _)
theorem SQ.drewN (h : SQ w xs nm f d A n c u mc rows W) (q : Nat) : SQ w xs nm f d A n c u mc rows (W.drewN q) := h.call (below_drewN (Below.refl _ _) q)
theorem SQ.cells (h : SQ w xs nm f d A n c u mc rows W) : (W.cell? ⟨w.heap.size + 2, 0, none⟩ = some (strV nm) ∧ W.cell? ⟨w.heap.size + 2, 1, none⟩ = some (.int .i64 (f : Int)) ∧ W.cell? ⟨w.heap.size + 2, 2, none⟩ = some (.int .i64 (d : Int)) ∧ W.cell? ⟨w.heap.size + 2, 3, none⟩ = some (.slice A n c) ∧ W.cell? ⟨w.heap.size + 2, 4, none⟩ = some (.int .i64 (u : Int))) ∧
    W.frozen? ⟨w.heap.size + 2, 1, none⟩ = false ∧ W.frozen? ⟨w.heap.size + 2, 2, none⟩ = false ∧ W.frozen? ⟨w.heap.size + 2, 3, none⟩ = false ∧ W.frozen? ⟨w.heap.size + 2, 4, none⟩ = false :=
  ⟨⟨(cell_at h.gc 0 rfl).1, (cell_at h.gc 1 rfl).1, (cell_at h.gc 2 rfl).1, (cell_at h.gc 3 rfl).1, (cell_at h.gc 4 rfl).1⟩, (cell_at h.gc 1 (u := .int .i64 (f : Int)) rfl).2, (cell_at h.gc 2 (u := .int .i64 (d : Int)) rfl).2, (cell_at h.gc 3 (u := .slice A n c) rfl).2, (cell_at h.gc 4 (u := .int .i64 (u : Int)) rfl).2⟩
theorem SQ.zc (h : SQ w xs nm f d A n c u mc rows W) : W.there (w.heap.size + 1) 0 5 := there_of_row h.z 0 5 (Nat.le_refl _)
theorem SQ.upd {cs : Array Value} {f' d' u' : Nat} (h : SQ w xs nm f d A n c u mc rows W) (k : Nat) (v : Value) (hc : (#[strV nm, .int .i64 (f : Int), .int .i64 (d : Int), .slice A n c, .int .i64 (u : Int)] : Array Value).setIfInBounds k v = cs) (he : cs = #[strV nm, .int .i64 (f' : Int), .int .i64 (d' : Int), .slice A n c, .int .i64 (u' : Int)]) :
    SQ w xs nm f' d' A n c u' mc rows (W.setCell ⟨w.heap.size + 2, k, none⟩ v) := by
  refine ⟨h.below.setCell (p := ⟨w.heap.size + 2, k, none⟩) (by show w.heap.size ≤ w.heap.size + 2; omega) _, (Below.heap_setCell _ _ _ _ (by simp)).trans h.x, (Below.heap_setCell _ _ _ _ (by simp)).trans h.z, ?_, own_set h.own h.gc (by decide) k _, h.mat.keep (KeepT.setCell h.gc (by decide) k _)⟩
  rw [← he, ← hc]
  exact set_at h.gc k v
theorem SQ.setF (h : SQ w xs nm f d A n c u mc rows W) (v : Nat) : SQ w xs nm v d A n c u mc rows (W.setCell ⟨w.heap.size + 2, 1, none⟩ (.int .i64 (v : Int))) := h.upd 1 _ rfl rfl
theorem SQ.setD (h : SQ w xs nm f d A n c u mc rows W) (v : Nat) : SQ w xs nm f v A n c u mc rows (W.setCell ⟨w.heap.size + 2, 2, none⟩ (.int .i64 (v : Int))) := h.upd 2 _ rfl rfl
theorem SQ.setU (h : SQ w xs nm f d A n c u mc rows W) (v : Nat) : SQ w xs nm f d A n c v mc rows (W.setCell ⟨w.heap.size + 2, 4, none⟩ (.int .i64 (v : Int))) := h.upd 4 _ rfl rfl
theorem SQ.cell2 {o : Obj} (h : SQ w xs nm f d A n c u mc rows W) (hg : (W.alloc o).grownBy W' (Value.slice A n c).ownBlock) : W'.cell? ⟨w.heap.size + 2, 3, none⟩ = some (.slice A n c) ∧ W'.frozen? ⟨w.heap.size + 2, 3, none⟩ = false :=
  cell_at ((row_grownOwn h.own hg h.gc (by decide)).trans h.gc) 3 rfl
theorem SQ.step {o : Obj} {row : List Int} {Ar : Option Addr} {m cr : Nat} (h : SQ w xs nm f d A n c u mc rows W) (hm : m = row.length) (hr : SlT W W.heap.size 3 Ar (row.map intC)) (ho : W'.ownsRow w.heap.size 61 1 (.slice A' (n + 1) c') (n + 1) (mc ++ [.slice Ar m cr])) (hg : (W.alloc o).grownBy W' (Value.slice A n c).ownBlock) :
    SQ w xs nm f d A' (n + 1) c' u (mc ++ [.slice Ar m cr]) (rows ++ [row]) (W'.setCell ⟨w.heap.size + 2, 3, none⟩ (.slice A' (n + 1) c')) := by
  have hx := (row_grownOwn h.own hg h.x (by decide)).trans h.x
  have hz := (row_grownOwn h.own hg h.z (by decide)).trans h.z
  have hc := (row_grownOwn h.own hg h.gc (by decide)).trans h.gc
  have k3 : KeepT 3 W W' := keep_append (by decide) h.own hg
  have k4 : KeepT 3 W' (W'.setCell ⟨w.heap.size + 2, 3, none⟩ (.slice A' (n + 1) c')) := KeepT.setCell hc (by decide) 3 _
  refine ⟨?_, (Below.heap_setCell _ _ _ _ (by simp)).trans hx, (Below.heap_setCell _ _ _ _ (by simp)).trans hz, set_at hc 3 (.slice A' (n + 1) c'), own_set ho hc (by decide) 3 _, ((h.mat.keep k3).snoc hm (hr.keepT k3 k3.size)).keep k4⟩
  exact Below.setCell (p := ⟨w.heap.size + 2, 3, none⟩) (below_grownOwn h.below h.own hg) (by show w.heap.size ≤ w.heap.size + 2; omega) _
theorem SQ.slt (h : SQ w xs nm f d A n c u mc rows W) : SlT W W.heap.size 61 A mc := by
  obtain ⟨A', c', e, hs, _⟩ := SlT.of_own h.own
  injection e with e1 _ _
  subst e1
  exact hs
theorem SQ.len (h : SQ w xs nm f d A n c u mc rows W) : n = rows.length := by
  have h1 := h.own.1
  have h2 := h.mat.len
  omega
theorem SQ.start (w : World) (N : Tok) (v : Value) : SQ w (srcR N v) N.text 0 0 none 0 0 0 [] [] (((w.alloc (.cells (srcR N v) 77)).alloc (.cells z5 24)).alloc (.cells #[strV N.text, .int .i64 0, .int .i64 0, .slice none 0 0, .int .i64 0] 24)) := by
  refine ⟨(((Below.refl _ _).alloc (Nat.le_refl _) _).alloc (by simp) _).alloc (by simp; omega) _, (Below.heap_alloc _ _ _ (by simp; omega)).trans ((Below.heap_alloc _ _ _ (by simp)).trans (heap_new w _)), ?_, ?_, own_nil _ _ _ _, rfl⟩
  · have := heap_new (w.alloc (.cells (srcR N v) 77)) (.cells z5 24)
    rw [World.size_alloc] at this
    exact (Below.heap_alloc _ _ _ (by simp)).trans this
  · have := heap_new ((w.alloc (.cells (srcR N v) 77)).alloc (.cells z5 24)) (.cells #[strV N.text, .int .i64 0, .int .i64 0, .slice none 0 0, .int .i64 0] 24)
    rw [World.size_alloc, World.size_alloc] at this
    exact this
/-- What the store of the result leaves. -/
theorem SQ.out (h : SQ w xs nm f d A n c u mc rows W) : CodeT (W.setCells (w.heap.size + 1) 0 [strV nm, .int .i64 (f : Int), .int .i64 (d : Int), .slice A n c, .int .i64 (u : Int)]) ⟨nm, f, d, rows, u⟩ [strV nm, .int .i64 (f : Int), .int .i64 (d : Int), .slice A n c, .int .i64 (u : Int)] ∧
    (W.setCells (w.heap.size + 1) 0 [strV nm, .int .i64 (f : Int), .int .i64 (d : Int), .slice A n c, .int .i64 (u : Int)]).heap[w.heap.size + 1]? = some (.cells #[strV nm, .int .i64 (f : Int), .int .i64 (d : Int), .slice A n c, .int .i64 (u : Int)] 24) ∧
    Below w.heap.size w (W.setCells (w.heap.size + 1) 0 [strV nm, .int .i64 (f : Int), .int .i64 (d : Int), .slice A n c, .int .i64 (u : Int)]) := by
  have kk : ∀ ty : TypeId, 24 ≠ ty → KeepT ty W (W.setCells (w.heap.size + 1) 0 [strV nm, .int .i64 (f : Int), .int .i64 (d : Int), .slice A n c, .int .i64 (u : Int)]) := fun ty hty => KeepT.setCells hty _ 0 h.z
  refine ⟨⟨A, c, mc, by rw [h.len], h.slt.keepT (kk 61 (by decide)) (kk 61 (by decide)).size, h.mat.keep (kk 3 (by decide))⟩, ?_, Below.setCells (by omega) _ _ h.below⟩
  have := heap_setCells (w := W) [strV nm, .int .i64 (f : Int), .int .i64 (d : Int), .slice A n c, .int .i64 (u : Int)] 0 h.z
  rw [this]
  rfl
/-- An error's store of the zero code. -/
theorem SQ.bad (h : SQ w xs nm f d A n c u mc rows W) : (W.setCells (w.heap.size + 1) 0 z5.toList).heap[w.heap.size + 1]? = some (.cells z5 24) ∧ Below w.heap.size w (W.setCells (w.heap.size + 1) 0 z5.toList) := by
  refine ⟨?_, Below.setCells (by omega) _ _ h.below⟩
  rw [heap_setCells (w := W) z5.toList 0 h.z]
  rfl
end
/-- A line of a slice of lines, in a later world. -/
theorem line_cells {w W : World} {At : Option Addr} {Ls : List LV} {cs : List Value} (h : SlT w w.heap.size 101 At cs) (hl : LnsCs w Ls cs) (hb : Below w.heap.size w W) {k : Nat} {L : LV} (hk : Ls[k]? = some L) :
    ∃ b o A c B d, At = some ⟨b, o, none⟩ ∧ W.rangeAt b (o + k * 6) (lineV L.K A L.a.length c B L.b.length d) ∧ SlT W W.heap.size 46 A (tokRs L.a) ∧ SlT W W.heap.size 46 B (tokRs L.b) := by
  obtain ⟨c1, ⟨A, c, B, d, rfl, h1, h2⟩, hat⟩ := hl.at_ hk
  rcases h.sl with he | ⟨b, o, e, hlt, hc⟩
  · have := hat 0 _ rfl
    rw [he] at this
    simp at this
  · exact ⟨b, o, A, c, B, d, e, fun j v hv => (hb.cell (p := ⟨b, o + k * 6 + j, none⟩) hlt).trans (by have := hc _ _ (hat j v hv); rwa [← Nat.add_assoc] at this), h1.below hb hb.size, h2.below hb hb.size⟩
theorem tok_head {W : World} {A : Option Addr} {ts : List Tok} (h : SlT W W.heap.size 46 A (tokRs ts)) {N : Tok} {r : List Tok} (hk : ts = N :: r) :
    ∃ b o, A = some ⟨b, o, none⟩ ∧ W.cell? ⟨b, o + 1, none⟩ = some (.int .i64 (N.at_ : Int)) ∧ W.cell? ⟨b, o + 3, none⟩ = some (.int .i64 (N.n : Int)) := by
  obtain ⟨b, o, e, h1, h2⟩ := tok_cells h (Below.refl _ _) (k := 0) (T := N) (by rw [hk]; rfl)
  exact ⟨b, o, e, by simpa using h1, by simpa using h2⟩
theorem topR_any (n : Nat) (w : World) : Calls Tryd.prog 38 #[.int .i64 (n : Int)] w fun e w' => e = .returned (.int .i64 (topN n : Int)) ∧ w' = w := by
  by_cases h8 : n = 8
  · subst h8
    go_enter Tryd.func38, Tryd.ntmps38
    go_wp2_with fail
    go_ret
    exact ⟨rfl, rfl⟩
  · have h1 : ((n : Int) == 8) = false := by rw [beq_eq_false_iff_ne]; omega
    have ht : Hid (topN n = 65535) := by show _ = _; unfold topN; rw [if_neg h8]
    go_enter Tryd.func38, Tryd.ntmps38
    go_wp2_with fail
    go_ret
    exact ⟨by rw [ht.out]; rfl, rfl⟩
def BuiltR (x : BR Code) (w : World) (e : Ending) (w' : World) : Prop := Below w.heap.size w w' ∧ match x with
  | .ok C => ∃ cs, e = .returned (.tuple #[.agg cs, .int .i64 0, .int .i64 0]) ∧ CodeT w' C cs.toList
  | .bad p en => e = .returned (.tuple #[.agg z5, .int .i64 (p : Int), .int .i64 (en : Int)])
theorem res45 (tmps : Array Value) (w : World) (g : Nat) (cs : Array Value) (u v : Value) (h3 : tmps.getD 3 undef = u) (h4 : tmps.getD 4 undef = v) (hp : tmps.getD 2 undef = .pointer (some ⟨g, 0, none⟩)) (hg : w.heap[g]? = some (.cells cs 24)) (hs : cs.size = 5) :
    (results Tryd.f45 tmps).run Tryd.prog w = .ok (.tuple #[.agg cs, u, v]) w := by
  have h3' : tmps[3]?.getD undef = u := by simpa using h3
  have h4' : tmps[4]?.getD undef = v := by simpa using h4
  have hp' : tmps[2]?.getD undef = .pointer (some ⟨g, 0, none⟩) := by simpa using hp
  simp [results, Tryd.results45, h3', h4', hp', asAddr, run_loadVar_row w g 24 24 cs (0, 0) _ hg Tryd.underlying24 rfl (by rw [hs]; exact info24)]
end Go.Proofs.YtafgmbchdcfkcaaDoor
