/-
  The reference's lines of a code, in plain words. No program is run here.
  The reference's code in plain words, joined: what it leaves of the tokens, and which lines it has read. No program is run here.
  The state of a function of the reference's parser that has made blocks; lines as they lie in memory. No program is run here but by its contracts.
  What a line's reading leaves: one statement, a row; the state between the lines. No program is run here but by its contracts.
-/
import Derived.Test.YtafgmbchdcfkcaaDoorR7
namespace Go.Proofs.YtafgmbchdcfkcaaDoor
open Go

/-- A line as it is meant: the word, the row's offset, the numbers. -/
structure PL where
  key : Bytes
  at_ : Option Nat
  a : List Tok
  b : List Tok
def fieldL (key : Bytes) (N : Tok) : PL := ⟨key, none, [N], []⟩
def rowL (R : Row) : PL := ⟨if R.loc then kLocal else kParity, some R.at_, if R.loc then R.idx else R.coefs, if R.loc then R.coefs else []⟩
def srcL (S : Src) : List PL := [fieldL kField S.field, fieldL kData S.data] ++ S.rows.map rowL ++ (S.dom.map (fieldL kDomain)).toList
/-- A line as it lies. -/
structure LV where
  K : Tok
  a : List Tok
  b : List Tok
structure LM (L : LV) (P : PL) : Prop where
  key : L.K.text = P.key
  at_ : ∀ n, P.at_ = some n → L.K.at_ = n
  a : L.a = P.a
  b : L.b = P.b
inductive LMs : List LV → List PL → Prop where
  | nil : LMs [] []
  | cons {L : LV} {P : PL} {Ls : List LV} {Ps : List PL} (h : LM L P) (t : LMs Ls Ps) : LMs (L :: Ls) (P :: Ps)
def PR.forget {α : Type} (y : PR α) : PR Unit := y.next fun _ ts => .ok () ts
def addOne (key : Bytes) (y : PR (List PL)) : PR (List PL) := y.next fun acc ts => (oneT key ts).next fun N a => .ok (acc ++ [fieldL key N]) a
def addRow (y : PR (List PL)) : PR (List PL) := y.next fun acc ts => (rowT ts).next fun R a => .ok (acc ++ [rowL R]) a
def addRows (y : PR (List PL)) : PR (List PL) := y.next fun acc ts => (rowsT ts.length ts).next fun Rs a => .ok (acc ++ Rs.map rowL) a
def addDom (y : PR (List PL)) : PR (List PL) := if isU kDomain y.forget then addOne kDomain y else y
def startY (x : PR Unit) : PR (List PL) := x.next fun _ ts => .ok [] ts
def MatchY (Ls : List LV) (y : PR (List PL)) : Prop := ∀ acc ts, y = .ok acc ts → LMs Ls acc
def codeU (x : PR Unit) : PR Unit := x.next fun _ ts => (codeT ts).next fun _ a => .ok () a

theorem Forall2_snoc {L : LV} {P : PL} : ∀ {Ls : List LV} {acc : List PL}, LMs Ls acc → LM L P → LMs (Ls ++ [L]) (acc ++ [P])
  | _, _, .nil, h => .cons h .nil
  | _, _, .cons h t, k => .cons h (Forall2_snoc t k)
theorem matchY_start (x : PR Unit) : MatchY [] (startY x) := by
  intro acc ts h
  cases x with
  | bad p => cases h
  | ok u s => injection h with h _; subst h; exact .nil
theorem forget_start (x : PR Unit) : (startY x).forget = x := by cases x <;> rfl
theorem forget_one (key : Bytes) (y : PR (List PL)) : (addOne key y).forget = oneU key y.forget := by
  cases y with
  | bad p => rfl
  | ok acc ts => show ((oneT key ts).next _).forget = (oneT key ts).next _; cases oneT key ts <;> rfl
theorem matchY_one {Ls : List LV} {y : PR (List PL)} {key : Bytes} {K N : Tok} (h : MatchY Ls y) (hv : ∀ u ts N' a, y.forget = .ok u ts → oneT key ts = .ok N' a → K.text = key ∧ N = N') : MatchY (Ls ++ [⟨K, [N], []⟩]) (addOne key y) := by
  intro acc ts hy
  cases y with
  | bad p => cases hy
  | ok acc0 ts0 =>
    change (oneT key ts0).next _ = _ at hy
    cases h1 : oneT key ts0 with
    | bad p => rw [h1] at hy; cases hy
    | ok N' a =>
      rw [h1, PR.next_ok] at hy
      injection hy with hy _
      subst hy
      obtain ⟨e1, e2⟩ := hv () ts0 N' a rfl h1
      subst e2
      exact Forall2_snoc (h acc0 ts0 rfl) ⟨e1, fun n hn => (by cases hn), rfl, rfl⟩

/-- The local row. -/
theorem row_local {acc : List PL} {ts : List Tok} {Ls : List LV} {K : Tok} {A B : List Tok} (hM : MatchY Ls (.ok acc ts)) (hl : headIs kLocal ts = true) (hK : Front K (.ok () ts))
    (hA : ∀ u t ns' a, mustU kLocal (.ok () ts) = .ok u t → numsT t = .ok ns' a → A = ns')
    (hB : ∀ u t ns' a, mustU kColon (numsU (mustU kLocal (.ok () ts))) = .ok u t → numsT t = .ok ns' a → B = ns') :
    mustU kSemi (numsU (mustU kColon (numsU (mustU kLocal (.ok () ts))))) = (addRow (.ok acc ts)).forget ∧ MatchY (Ls ++ [⟨K, A, B⟩]) (addRow (.ok acc ts)) := by
  obtain ⟨r, rfl⟩ := hK () ts rfl
  have hk : K.text = kLocal := by simpa [headIs] using hl
  have hm : mustT kLocal (K :: r) = .ok K.at_ r := by rw [mustT, if_pos (by simpa [headIs] using hl)]
  have hmU : mustU kLocal (.ok () (K :: r)) = .ok () r := by show (mustT kLocal (K :: r)).next _ = _; rw [hm]; rfl
  have hrow : rowT (K :: r) = (numsT r).next fun is b => (mustT kColon b).next fun _ c => rowEnd K.at_ true is c := by
    rw [rowT, if_pos hl, hm, PR.next_ok]; rfl
  rw [hmU] at hA hB ⊢
  unfold MatchY
  show mustU kSemi (numsU (mustU kColon ((numsT r).next fun _ a => .ok () a))) = ((rowT (K :: r)).next _).forget ∧ ∀ acc' ts', (rowT (K :: r)).next _ = _ → _
  rw [hrow]
  change ∀ u t ns' a, mustU kColon ((numsT r).next fun _ a => .ok () a) = .ok u t → numsT t = .ok ns' a → B = ns' at hB
  cases h1 : numsT r with
  | bad p => exact ⟨rfl, fun _ _ h => by cases h⟩
  | ok ns b =>
    have eA := hA () r ns b rfl h1
    subst eA
    rw [h1] at hB
    simp only [PR.next_ok] at hB ⊢
    change ∀ u t ns' a, (mustT kColon b).next _ = .ok u t → numsT t = .ok ns' a → B = ns' at hB
    show mustU kSemi (numsU ((mustT kColon b).next _)) = _ ∧ _
    cases h2 : mustT kColon b with
    | bad p => exact ⟨rfl, fun _ _ h => by cases h⟩
    | ok q c =>
      rw [h2] at hB
      simp only [PR.next_ok] at hB ⊢
      unfold rowEnd
      show mustU kSemi ((numsT c).next _) = _ ∧ _
      cases h3 : numsT c with
      | bad p => exact ⟨rfl, fun _ _ h => by cases h⟩
      | ok cs d =>
        have eB := hB () c cs d rfl h3
        subst eB
        simp only [PR.next_ok]
        show (mustT kSemi d).next _ = _ ∧ _
        cases h4 : mustT kSemi d with
        | bad p => exact ⟨rfl, fun _ _ h => by cases h⟩
        | ok q e =>
          refine ⟨rfl, fun acc' ts' h => ?_⟩
          simp only [PR.next_ok] at h
          injection h with h _
          subst h
          exact Forall2_snoc (hM acc _ rfl) ⟨hk, fun n hn => (by injection hn), rfl, rfl⟩
theorem row_parity {acc : List PL} {ts : List Tok} {Ls : List LV} {K : Tok} {A : List Tok} (hM : MatchY Ls (.ok acc ts)) (hl : headIs kLocal ts = false) (hK : Front K (.ok () ts))
    (hA : ∀ u t ns' a, mustU kParity (.ok () ts) = .ok u t → numsT t = .ok ns' a → A = ns') :
    mustU kSemi (numsU (mustU kParity (.ok () ts))) = (addRow (.ok acc ts)).forget ∧ MatchY (Ls ++ [⟨K, A, []⟩]) (addRow (.ok acc ts)) := by
  obtain ⟨r, rfl⟩ := hK () ts rfl
  have hrow : rowT (K :: r) = (mustT kParity (K :: r)).next fun _ a => rowEnd K.at_ false [] a := by
    rw [rowT, hl]; rfl
  unfold MatchY
  show mustU kSemi (numsU ((mustT kParity (K :: r)).next _)) = ((rowT (K :: r)).next _).forget ∧ ∀ acc' ts', (rowT (K :: r)).next _ = _ → _
  rw [hrow]
  change ∀ u t ns' a, (mustT kParity (K :: r)).next _ = .ok u t → numsT t = .ok ns' a → A = ns' at hA
  by_cases hp : (K.text == kParity) = true
  · have hm : mustT kParity (K :: r) = .ok K.at_ r := by rw [mustT, if_pos hp]
    rw [hm] at hA ⊢
    simp only [PR.next_ok] at hA ⊢
    unfold rowEnd
    show mustU kSemi ((numsT r).next _) = _ ∧ _
    cases h3 : numsT r with
    | bad p => exact ⟨rfl, fun _ _ h => by cases h⟩
    | ok cs d =>
      have eA := hA () r cs d rfl h3
      subst eA
      simp only [PR.next_ok]
      show (mustT kSemi d).next _ = _ ∧ _
      cases h4 : mustT kSemi d with
      | bad p => exact ⟨rfl, fun _ _ h => by cases h⟩
      | ok q e =>
        refine ⟨rfl, fun acc' ts' h => ?_⟩
        simp only [PR.next_ok] at h
        injection h with h _
        subst h
        exact Forall2_snoc (hM acc _ rfl) ⟨(show K.text = kParity by simpa using hp), fun n hn => (by injection hn), rfl, rfl⟩
  · have hm : mustT kParity (K :: r) = .bad K.at_ := by rw [mustT, if_neg hp]
    rw [hm]
    exact ⟨rfl, fun _ _ h => by cases h⟩
end Go.Proofs.YtafgmbchdcfkcaaDoor
namespace Go.Proofs.YtafgmbchdcfkcaaDoor
open Go

def bodyY (x : PR Unit) : PR (List PL) := addOne kData (addOne kField (startY (mustU kOpen (kindU 1 (mustU kCode x)))))
def endY (y : PR (List PL)) : PR (List PL) := addDom (addRows y)
def moreY : PR (List PL) → Bool
  | .ok _ ts => moreR ts
  | .bad _ => false

theorem addRows_ok (acc : List PL) (ts : List Tok) : addRows (.ok acc ts) = (rowsT ts.length ts).next fun Rs a => .ok (acc ++ Rs.map rowL) a := rfl
theorem addRows_more {y : PR (List PL)} (h : moreY y = true) : addRows y = addRows (addRow y) := by
  cases y with
  | bad p => cases h
  | ok acc ts =>
    have hm : moreR ts = true := h
    show (rowsT ts.length ts).next _ = addRows ((rowT ts).next _)
    rw [rowsT_eq ts, if_pos hm]
    cases hr : rowT ts with
    | bad p => rfl
    | ok R a =>
      rw [PR.next_ok, PR.next_ok, addRows_ok]
      cases rowsT a.length a with
      | bad p => rfl
      | ok Rs b => simp only [PR.next_ok, List.map_cons, List.append_assoc, List.singleton_append]
theorem addRows_stop {y : PR (List PL)} (h : moreY y = false) : addRows y = y := by
  cases y with
  | bad p => rfl
  | ok acc ts =>
    have hm : moreR ts = false := h
    show (rowsT ts.length ts).next _ = _
    rw [rowsT_eq ts, hm]
    simp [PR.next_ok]
theorem endY_more {y : PR (List PL)} (h : moreY y = true) : endY y = endY (addRow y) := by unfold endY; rw [addRows_more h]
theorem endY_stop {y : PR (List PL)} (h : moreY y = false) : endY y = addDom y := by unfold endY; rw [addRows_stop h]

/-- What is behind the row. -/
def tailT (fl dt : Tok) (R : Row) (f : List Tok) : PR (List PL) := endY (.ok ([fieldL kField fl, fieldL kData dt] ++ [rowL R]) f)
theorem tail_eq (fl dt : Tok) (nm : Tok) (R : Row) (f : List Tok) : (rowsT f.length f).next (codeK nm fl dt [R]) = (tailT fl dt R f).next fun _ a => (mustT kClose a).next fun _ i =>
    .ok ⟨nm, fl, dt, R :: (match rowsT f.length f with | .ok Rs _ => Rs | .bad _ => []), (match rowsT f.length f with | .ok _ g => (match domT g with | .ok d _ => d | .bad _ => none) | .bad _ => none)⟩ i := by
  unfold tailT endY
  rw [addRows_ok]
  cases h1 : rowsT f.length f with
  | bad p => rfl
  | ok Rs g =>
    simp only [PR.next_ok]
    unfold codeK addDom
    show (domT g).next _ = (if headIs kDomain g = true then _ else _ : PR (List PL)).next _
    unfold domT
    by_cases hd : headIs kDomain g = true
    · rw [if_pos hd, if_pos hd]
      show ((oneT kDomain g).next _).next _ = ((oneT kDomain g).next _).next _
      cases h2 : oneT kDomain g with
      | bad p => rfl
      | ok d a => rfl
    · rw [if_neg hd, if_neg hd]
      rfl
theorem tail_val {fl dt nm : Tok} {R : Row} {f a : List Tok} {S : Src} (h : (rowsT f.length f).next (codeK nm fl dt [R]) = .ok S a) : ∃ b, tailT fl dt R f = .ok (srcL S) b := by
  unfold tailT endY
  rw [addRows_ok]
  cases h1 : rowsT f.length f with
  | bad p => rw [h1] at h; cases h
  | ok Rs g =>
    rw [h1, PR.next_ok] at h
    simp only [PR.next_ok]
    unfold codeK at h
    unfold addDom
    show ∃ b, (if headIs kDomain g = true then _ else _ : PR (List PL)) = _
    unfold domT at h
    by_cases hd : headIs kDomain g = true
    · rw [if_pos hd] at h ⊢
      show ∃ b, (oneT kDomain g).next _ = _
      cases h2 : oneT kDomain g with
      | bad p => rw [h2] at h; cases h
      | ok d b =>
        rw [h2] at h
        simp only [PR.next_ok] at h ⊢
        cases h3 : mustT kClose b with
        | bad p => rw [h3] at h; cases h
        | ok q c =>
          rw [h3, PR.next_ok] at h
          injection h with h _
          subst h
          exact ⟨b, by simp [srcL]⟩
    · rw [if_neg hd] at h ⊢
      simp only [PR.next_ok] at h
      cases h3 : mustT kClose g with
      | bad p => rw [h3] at h; cases h
      | ok q c =>
        rw [h3, PR.next_ok] at h
        injection h with h _
        subst h
        exact ⟨g, by simp [srcL]⟩

theorem body_ok (u : Unit) (ts : List Tok) : addRow (bodyY (.ok u ts)) = (mustT kCode ts).next fun _ a => (kindT 1 a).next fun _ b => (mustT kOpen b).next fun _ c => (oneT kField c).next fun fl d => (oneT kData d).next fun dt e => (rowT e).next fun R f => .ok ([fieldL kField fl, fieldL kData dt] ++ [rowL R]) f := by
  show addRow (addOne kData (addOne kField (startY (mustU kOpen (kindU 1 ((mustT kCode ts).next fun _ a => .ok () a)))))) = _
  cases mustT kCode ts with
  | bad p => rfl
  | ok p a =>
    simp only [PR.next_ok]
    show addRow (addOne kData (addOne kField (startY (mustU kOpen ((kindT 1 a).next fun _ a => .ok () a))))) = _
    cases kindT 1 a with
    | bad p => rfl
    | ok nm b =>
      simp only [PR.next_ok]
      show addRow (addOne kData (addOne kField (startY ((mustT kOpen b).next fun _ a => .ok () a)))) = _
      cases mustT kOpen b with
      | bad p => rfl
      | ok p c =>
        simp only [PR.next_ok]
        show addRow (addOne kData ((oneT kField c).next fun N a => .ok ([] ++ [fieldL kField N]) a)) = _
        cases oneT kField c with
        | bad p => rfl
        | ok fl d =>
          simp only [PR.next_ok]
          show addRow ((oneT kData d).next fun N a => .ok ([] ++ [fieldL kField fl] ++ [fieldL kData N]) a) = _
          cases oneT kData d with
          | bad p => rfl
          | ok dt e => rfl
theorem codeU_eq (x : PR Unit) : codeU x = mustU kClose (endY (addRow (bodyY x))).forget := by
  cases x with
  | bad p => rfl
  | ok u ts =>
    rw [body_ok]
    show (codeT ts).next _ = _
    rw [codeT_eq]
    cases mustT kCode ts with
    | bad p => rfl
    | ok p a =>
      simp only [PR.next_ok]
      cases kindT 1 a with
      | bad p => rfl
      | ok nm b =>
        simp only [PR.next_ok]
        cases mustT kOpen b with
        | bad p => rfl
        | ok p c =>
          simp only [PR.next_ok]
          cases oneT kField c with
          | bad p => rfl
          | ok fl d =>
            simp only [PR.next_ok]
            cases oneT kData d with
            | bad p => rfl
            | ok dt e =>
              simp only [PR.next_ok]
              cases rowT e with
              | bad p => rfl
              | ok R f =>
                simp only [PR.next_ok]
                rw [tail_eq]
                show _ = mustU kClose (tailT fl dt R f).forget
                cases tailT fl dt R f with
                | bad p => rfl
                | ok acc g =>
                  simp only [PR.next_ok]
                  show ((mustT kClose g).next _).next _ = (mustT kClose g).next _
                  cases mustT kClose g <;> rfl
/-- The lines and the name of a code that is read. -/
theorem code_val {u : Unit} {ts a : List Tok} {S : Src} (h : codeT ts = .ok S a) : (∃ b, endY (addRow (bodyY (.ok u ts))) = .ok (srcL S) b) ∧ ∀ N, Front N (mustU kCode (.ok u ts)) → N = S.name := by
  rw [body_ok]
  rw [codeT_eq] at h
  show _ ∧ ∀ N, Front N ((mustT kCode ts).next fun _ a => .ok () a) → _
  cases h1 : mustT kCode ts with
  | bad p => rw [h1] at h; cases h
  | ok p a1 =>
    rw [h1] at h
    simp only [PR.next_ok] at h ⊢
    cases h2 : kindT 1 a1 with
    | bad p => rw [h2] at h; cases h
    | ok nm b =>
      rw [h2] at h
      simp only [PR.next_ok] at h ⊢
      obtain ⟨r, hr, -, -⟩ := kindT_mem h2
      cases h3 : mustT kOpen b with
      | bad p => rw [h3] at h; cases h
      | ok p c =>
        rw [h3] at h
        simp only [PR.next_ok] at h ⊢
        cases h4 : oneT kField c with
        | bad p => rw [h4] at h; cases h
        | ok fl d =>
          rw [h4] at h
          simp only [PR.next_ok] at h ⊢
          cases h5 : oneT kData d with
          | bad p => rw [h5] at h; cases h
          | ok dt e =>
            rw [h5] at h
            simp only [PR.next_ok] at h ⊢
            cases h6 : rowT e with
            | bad p => rw [h6] at h; cases h
            | ok R f =>
              rw [h6] at h
              simp only [PR.next_ok] at h ⊢
              refine ⟨tail_val h, fun N hN => ?_⟩
              obtain ⟨r', hr'⟩ := hN () a1 rfl
              rw [hr] at hr'
              injection hr' with e1 _
              have hS : S.name = nm := by
                cases hx : rowsT f.length f with
                | bad p => rw [hx] at h; cases h
                | ok Rs g =>
                  rw [hx, PR.next_ok] at h
                  unfold codeK at h
                  cases hy : domT g with
                  | bad p => rw [hy] at h; cases h
                  | ok dm k =>
                    rw [hy, PR.next_ok] at h
                    cases hz : mustT kClose k with
                    | bad p => rw [hz] at h; cases h
                    | ok q i =>
                      rw [hz, PR.next_ok] at h
                      injection h with h _
                      rw [← h]
              rw [hS, e1]
theorem matchY_dom_no {Ls : List LV} {y : PR (List PL)} (h : MatchY Ls y) (hd : isU kDomain y.forget = false) : MatchY Ls (addDom y) := by
  unfold addDom; rw [hd]; exact h
theorem addDom_yes {y : PR (List PL)} (hd : isU kDomain y.forget = true) : addDom y = addOne kDomain y := by unfold addDom; rw [hd]; rfl
theorem addDom_no {y : PR (List PL)} (hd : isU kDomain y.forget = false) : addDom y = y := by unfold addDom; rw [hd]; rfl
end Go.Proofs.YtafgmbchdcfkcaaDoor
namespace Go.Proofs.YtafgmbchdcfkcaaDoor
open Go Go.RowKit Go.Walks

/-- In a function of the reference's parser that has made the blocks L since the world w. -/
structure StR (w : World) (gp : Nat) (l : List Tok) (At : Option Addr) (ct : Nat) (L : List (Nat × Array Value × TypeId)) (W : World) (x : PR Unit) : Prop where
  at_ : RAt W gp l At ct x
  rb : RB gp w W
  h0 : ∃ x0, RAt w gp l At ct x0
  row : ∀ x ∈ L, w.heap.size ≤ x.1 ∧ W.heap[x.1]? = some (.cells x.2.1 x.2.2)

section
variable {w W W' : World} {gp : Nat} {l : List Tok} {At : Option Addr} {ct : Nat} {L : List (Nat × Array Value × TypeId)} {g : Nat} {ty : TypeId} {cs : Array Value} {x y : PR Unit}
theorem StR.lt (h : StR w gp l At ct L W x) : gp < w.heap.size := by obtain ⟨x0, h0⟩ := h.h0; exact h0.lt
theorem StR.start (h : RAt w gp l At ct x) : StR w gp l At ct [] w x := ⟨h, RB.refl _ _, ⟨x, h⟩, fun _ hx => by cases hx⟩
theorem StR.call (h : StR w gp l At ct L W x) (hb : RB gp W W') (hp : RAt W' gp l At ct y) : StR w gp l At ct L W' y :=
  ⟨hp, h.rb.trans hb, h.h0, fun x hx => ⟨(h.row x hx).1, hb.row (by have := (h.row x hx).1; have := h.lt; omega) (h.row x hx).2⟩⟩
theorem StR.below (h : StR w gp l At ct L W x) (hb : Below W.heap.size W W') : StR w gp l At ct L W' x := h.call (RB.of_below hb) (h.at_.below hb)
theorem StR.alloc (h : StR w gp l At ct L W x) (o : Obj) : StR w gp l At ct L (W.alloc o) x := h.below ((Below.refl _ _).alloc (Nat.le_refl _) _)
theorem StR.drew (h : StR w gp l At ct L W x) : StR w gp l At ct L W.drew x := h.below (Below.refl _ _).drew
theorem StR.new (h : StR w gp l At ct L W x) (cs : Array Value) (ty : TypeId) : StR w gp l At ct ((W.heap.size, cs, ty) :: L) (W.alloc (.cells cs ty)) x := by
  have k := h.alloc (.cells cs ty)
  refine ⟨k.at_, k.rb, k.h0, fun x hx => ?_⟩
  rcases List.mem_cons.1 hx with rfl | hx
  · exact ⟨h.rb.size, heap_new _ _⟩
  · exact k.row x hx
theorem StR.head (h : StR w gp l At ct ((g, cs, ty) :: L) W x) : W.heap[g]? = some (.cells cs ty) := (h.row (g, cs, ty) (by simp)).2
theorem StR.le (h : StR w gp l At ct ((g, cs, ty) :: L) W x) : w.heap.size ≤ g := (h.row (g, cs, ty) (by simp)).1
theorem StR.tail (h : StR w gp l At ct ((g, cs, ty) :: L) W x) : StR w gp l At ct L W x := ⟨h.at_, h.rb, h.h0, fun x hx => h.row x (List.mem_cons_of_mem _ hx)⟩
theorem StR.swap {a b : Nat × Array Value × TypeId} (h : StR w gp l At ct (a :: b :: L) W x) : StR w gp l At ct (b :: a :: L) W x :=
  ⟨h.at_, h.rb, h.h0, fun x hx => h.row x (by simp only [List.mem_cons] at hx ⊢; rcases hx with h | h | h <;> simp [h])⟩
/-- Whatever writes blocks of its own alone keeps the parser. -/
theorem StR.keepAt (h : StR w gp l At ct L W x) (hr : W'.heap[gp]? = W.heap[gp]?) (hb : RB gp w W') : RAt W' gp l At ct x := by
  obtain ⟨x0, h0⟩ := h.h0
  exact h0.keep h.at_ hr hb
theorem StR.set (h : StR w gp l At ct ((g, cs, ty) :: L) W x) (hne : ∀ x ∈ L, x.1 ≠ g) (k : Nat) (u : Value) {cs' : Array Value} (hc : cs.setIfInBounds k u = cs') : StR w gp l At ct ((g, cs', ty) :: L) (W.setCell ⟨g, k, none⟩ u) x := by
  have hle := h.le
  have hlt := h.lt
  have hrb := h.rb.setNew hle k u
  refine ⟨h.keepAt (Below.heap_setCell _ _ _ _ (by simp; omega)) hrb, hrb, h.h0, fun x hx => ?_⟩
  rcases List.mem_cons.1 hx with rfl | hx
  · exact ⟨hle, by rw [← hc]; exact set_at h.head k u⟩
  · exact ⟨(h.row x (List.mem_cons_of_mem _ hx)).1, (Below.heap_setCell _ _ _ _ (hne x hx)).trans (h.row x (List.mem_cons_of_mem _ hx)).2⟩
theorem StR.sets (h : StR w gp l At ct ((g, cs, ty) :: L) W x) (hne : ∀ x ∈ L, x.1 ≠ g) (k : Nat) (us : List Value) {cs' : Array Value} (hc : spl cs k us = cs') : StR w gp l At ct ((g, cs', ty) :: L) (W.setCells g k us) x := by
  have hle := h.le
  have hlt := h.lt
  have hrb := RB.setCells hle us k h.rb
  refine ⟨h.keepAt (heap_setCells_other (by omega) _ _ _) hrb, hrb, h.h0, fun x hx => ?_⟩
  rcases List.mem_cons.1 hx with rfl | hx
  · exact ⟨hle, by rw [← hc]; exact heap_setCells (w := W) us k h.head⟩
  · exact ⟨(h.row x (List.mem_cons_of_mem _ hx)).1, (heap_setCells_other (hne x hx) _ _ _).trans (h.row x (List.mem_cons_of_mem _ hx)).2⟩
theorem StR.append {e : TypeId} {size n : Nat} {v : Value} {xs : List Value} {o : Obj} (h : StR w gp l At ct L W x) (hL : ∀ x ∈ L, x.2.2 ≠ e) (h74 : 74 ≠ e)
    (ho : W.ownsRow w.heap.size e size v n xs) (hg : (W.alloc o).grownBy W' v.ownBlock) : StR w gp l At ct L W' x := by
  obtain ⟨cr, hcr⟩ := h.at_.row
  have hrb := rb_grownOwn h.rb ho hg
  exact ⟨h.keepAt (row_grownOwn ho hg hcr h74) hrb, hrb, h.h0, fun x hx => ⟨(h.row x hx).1, (row_grownOwn ho hg (h.row x hx).2 (hL x hx)).trans (h.row x hx).2⟩⟩
end

abbrev lineV (K : Tok) (A : Option Addr) (n c : Nat) (B : Option Addr) (m d : Nat) : List Value := [strV K.text, .int .i64 (K.at_ : Int), .int .i64 (K.kind : Int), .int .i64 (K.n : Int), .slice A n c, .slice B m d]
theorem lineR_eq (K : Tok) (A : Option Addr) (n c : Nat) (B : Option Addr) (m d : Nat) : lineR K A n c B m d = #[strV K.text, .int .i64 (K.at_ : Int), .int .i64 (K.kind : Int), .int .i64 (K.n : Int), .slice A n c, .slice B m d] := rfl
/-- A line's cells. -/
def LnCs (w : World) (L : LV) (cs : List Value) : Prop := ∃ A c B d, cs = lineV L.K A L.a.length c B L.b.length d ∧ SlT w w.heap.size 46 A (tokRs L.a) ∧ SlT w w.heap.size 46 B (tokRs L.b)
def LnsCs (w : World) : List LV → List Value → Prop
  | [], cs => cs = []
  | L :: Ls, cs => ∃ c1 c2, cs = c1 ++ c2 ∧ LnCs w L c1 ∧ LnsCs w Ls c2
theorem LnCs.keep {w w' : World} {L : LV} {cs : List Value} (k : KeepT 46 w w') (h : LnCs w L cs) : LnCs w' L cs := by
  obtain ⟨A, c, B, d, e, h1, h2⟩ := h
  exact ⟨A, c, B, d, e, h1.keepT k k.size, h2.keepT k k.size⟩
theorem LnCs.len {w : World} {L : LV} {cs : List Value} (h : LnCs w L cs) : cs.length = 6 := by obtain ⟨A, c, B, d, rfl, -⟩ := h; rfl
theorem LnCs.one {w : World} {L : LV} {cs : List Value} (h : LnCs w L cs) : ∀ u ∈ cs, u.oneCell' = true := by
  obtain ⟨A, c, B, d, rfl, -⟩ := h
  intro u hu
  simp at hu
  rcases hu with rfl | rfl | rfl | rfl | rfl | rfl <;> rfl
theorem LnsCs.keep {w w' : World} (k : KeepT 46 w w') : ∀ {Ls : List LV} {cs : List Value}, LnsCs w Ls cs → LnsCs w' Ls cs
  | [], _, h => h
  | _ :: _, _, ⟨c1, c2, e, h1, h2⟩ => ⟨c1, c2, e, h1.keep k, h2.keep k⟩
theorem LnsCs.snoc {w : World} {L : LV} {c : List Value} (hc : LnCs w L c) : ∀ {Ls : List LV} {cs : List Value}, LnsCs w Ls cs → LnsCs w (Ls ++ [L]) (cs ++ c)
  | [], _, h => by
    have : _ = [] := h
    subst this
    exact ⟨c, [], by simp, hc, rfl⟩
  | _ :: _, _, ⟨c1, c2, e, h1, h2⟩ => ⟨c1, c2 ++ c, by rw [e, List.append_assoc], h1, h2.snoc hc⟩
theorem LnsCs.at_ {w : World} : ∀ {Ls : List LV} {cs : List Value} {k : Nat} {L : LV}, LnsCs w Ls cs → Ls[k]? = some L → ∃ c, LnCs w L c ∧ ∀ (j : Nat) (u : Value), c[j]? = some u → cs[k * 6 + j]? = some u
  | [], _, k, L, _, hk => by simp at hk
  | L' :: Ls, cs, 0, L, ⟨c1, c2, e, h1, h2⟩, hk => by
    have : L' = L := by simpa using hk
    subst this
    refine ⟨c1, h1, fun j u hu => ?_⟩
    rw [e, Nat.zero_mul, Nat.zero_add, List.getElem?_append_left (List.getElem?_eq_some_iff.1 hu).1]
    exact hu
  | L' :: Ls, cs, k + 1, L, ⟨c1, c2, e, h1, h2⟩, hk => by
    obtain ⟨c, hc, hj⟩ := LnsCs.at_ h2 (k := k) (L := L) (by simpa using hk)
    refine ⟨c, hc, fun j u hu => ?_⟩
    have := hj j u hu
    rw [e, List.getElem?_append_right (by rw [h1.len]; omega), h1.len, show (k + 1) * 6 + j - 6 = k * 6 + j by omega]
    exact this

theorem so75 : SliceOf Tryd.prog 75 101 6 88 := SliceOf.mk (z := .agg z6) Tryd.underlying75 (by omega) (by kernel_rfl) rfl
abbrev srcR (N : Tok) (v : Value) : Array Value := #[strV N.text, .int .i64 (N.at_ : Int), .int .i64 (N.kind : Int), .int .i64 (N.n : Int), v]
abbrev z5r : Array Value := #[.string ⟨#[]⟩, .int .i64 0, .int .i64 0, .int .i64 0, .slice none 0 0]
theorem info77 (cs : Array Value) (hs : cs.size = 5) : (Tryd.prog.info? 77).map (·.size) = some cs.size := by rw [hs]; kernel_rfl

/-- In the reference's code: the result's block g2, the source's g3 with its lines. -/
structure CdS (w : World) (gp : Nat) (l : List Tok) (At : Option Addr) (ct g2 g3 : Nat) (N : Tok) (A : Option Addr) (n c : Nat) (cs : List Value) (Ls : List LV) (x : PR Unit) (W : World) : Prop where
  s : StR w gp l At ct [(g3, srcR N (.slice A n c), 77), (g2, z5r, 77)] W x
  o : W.ownsRow w.heap.size 101 6 (.slice A n c) n cs
  ls : LnsCs W Ls cs
  nn : n = Ls.length
  ne : g2 ≠ g3
section
variable {w W W' : World} {gp : Nat} {l : List Tok} {At : Option Addr} {ct g2 g3 : Nat} {N : Tok} {A A5 : Option Addr} {n c c5 : Nat} {cs news : List Value} {Ls : List LV} {x y : PR Unit} {o : Obj}
theorem CdS.call (h : CdS w gp l At ct g2 g3 N A n c cs Ls x W) (hb : RB gp W W') (hp : RAt W' gp l At ct y) : CdS w gp l At ct g2 g3 N A n c cs Ls y W' := by
  obtain ⟨cr, hcr⟩ := h.s.at_.row
  exact ⟨h.s.call hb hp, own_rb h.o hb hcr (by decide), h.ls.keep (KeepT.rb hb hcr (by decide)), h.nn, h.ne⟩
theorem CdS.below (h : CdS w gp l At ct g2 g3 N A n c cs Ls x W) (hb : Below W.heap.size W W') : CdS w gp l At ct g2 g3 N A n c cs Ls x W' := h.call (RB.of_below hb) (h.s.at_.below hb)
theorem CdS.drew (h : CdS w gp l At ct g2 g3 N A n c cs Ls x W) : CdS w gp l At ct g2 g3 N A n c cs Ls x W.drew := h.below (Below.refl _ _).drew
theorem CdS.cell (h : CdS w gp l At ct g2 g3 N A n c cs Ls x W) : W.cell? ⟨g3, 4, none⟩ = some (.slice A n c) ∧ W.frozen? ⟨g3, 4, none⟩ = false := cell_at h.s.head 4 rfl
theorem CdS.cella (h : CdS w gp l At ct g2 g3 N A n c cs Ls x W) (o : Obj) : (W.alloc o).cell? ⟨g3, 4, none⟩ = some (.slice A n c) := (cell_at (h.s.alloc o).head 4 rfl).1
theorem CdS.own (h : CdS w gp l At ct g2 g3 N A n c cs Ls x W) (o : Obj) : (W.alloc o).ownsRow w.heap.size 101 6 (.slice A n c) n cs := h.o.alloc o
theorem CdS.le (h : CdS w gp l At ct g2 g3 N A n c cs Ls x W) : w.heap.size ≤ W.heap.size := h.s.rb.size
theorem CdS.cell2 (h : CdS w gp l At ct g2 g3 N A n c cs Ls x W) (hg : (W.alloc o).grownBy W' (Value.slice A n c).ownBlock) : W'.cell? ⟨g3, 4, none⟩ = some (.slice A n c) ∧ W'.frozen? ⟨g3, 4, none⟩ = false :=
  cell_at (h.s.append (by intro x hx; simp at hx; rcases hx with rfl | rfl <;> exact (by decide : (77 : Nat) ≠ 101)) (by decide) h.o hg).head 4 rfl
theorem CdS.step {L : LV} (h : CdS w gp l At ct g2 g3 N A n c cs Ls x W) (hL : LnCs W L news) (ho5 : W'.ownsRow w.heap.size 101 6 (.slice A5 (n + 1) c5) (n + 1) (cs ++ news)) (hg5 : (W.alloc o).grownBy W' (Value.slice A n c).ownBlock) :
    CdS w gp l At ct g2 g3 N A5 (n + 1) c5 (cs ++ news) (Ls ++ [L]) x (W'.setCell ⟨g3, 4, none⟩ (.slice A5 (n + 1) c5)) := by
  have S5 := h.s.append (by intro x hx; simp at hx; rcases hx with rfl | rfl <;> exact (by decide : (77 : Nat) ≠ 101)) (by decide) h.o hg5
  have k := keep_append (ty := 46) (by decide) h.o hg5
  have k2 := KeepT.setCell (ty := 46) S5.head (by decide) 4 (.slice A5 (n + 1) c5)
  have hne := h.ne
  exact ⟨S5.set (by intro x hx; simp at hx; subst hx; exact hne) 4 _ rfl, own_set ho5 S5.head (by decide) 4 _, ((h.ls.snoc hL).keep k).keep k2, by simp [h.nn], h.ne⟩
theorem srcR_one (N : Tok) (A : Option Addr) (n c : Nat) : (srcR N (.slice A n c)).all (·.oneCell') = true := by
  refine all_oneCell_toArray (cs := [strV N.text, .int .i64 (N.at_ : Int), .int .i64 (N.kind : Int), .int .i64 (N.n : Int), .slice A n c]) (fun v hv => ?_)
  simp at hv
  rcases hv with rfl | rfl | rfl | rfl | rfl <;> rfl
/-- What the store into the result leaves. -/
theorem CdS.out (h : CdS w gp l At ct g2 g3 N A n c cs Ls x W) : (W.setCells g2 0 (srcR N (.slice A n c)).toList).heap[g2]? = some (.cells (srcR N (.slice A n c)) 77) ∧ SlT (W.setCells g2 0 (srcR N (.slice A n c)).toList) (W.setCells g2 0 (srcR N (.slice A n c)).toList).heap.size 101 A cs ∧
      LnsCs (W.setCells g2 0 (srcR N (.slice A n c)).toList) Ls cs ∧ RAt (W.setCells g2 0 (srcR N (.slice A n c)).toList) gp l At ct x ∧ RB gp w (W.setCells g2 0 (srcR N (.slice A n c)).toList) := by
  have hne := h.ne
  have hd2 : ∀ x ∈ [(g3, srcR N (.slice A n c), (77 : TypeId))], x.1 ≠ g2 := fun x hx => by rw [List.mem_singleton] at hx; rw [hx]; exact fun e => hne e.symm
  have S := h.s.swap.sets hd2 0 (srcR N (.slice A n c)).toList (cs' := srcR N (.slice A n c)) rfl
  have kk : ∀ ty : TypeId, 77 ≠ ty → KeepT ty W (W.setCells g2 0 (srcR N (.slice A n c)).toList) := fun ty hty => KeepT.setCells hty _ 0 h.s.swap.head
  obtain ⟨A', c', e, hs, -, -⟩ := SlT.of_own h.o
  injection e with e1 _ _
  subst e1
  exact ⟨S.head, hs.keepT (kk 101 (by decide)) (kk 101 (by decide)).size, h.ls.keep (kk 46 (by decide)), S.at_, S.rb⟩
end
end Go.Proofs.YtafgmbchdcfkcaaDoor
namespace Go.Proofs.YtafgmbchdcfkcaaDoor
open Go Go.RowKit Go.Walks

def OneV (gp : Nat) (l : List Tok) (At : Option Addr) (ct : Nat) (key : Bytes) (x : PR Unit) (w : World) (e : Ending) (w' : World) : Prop :=
  ∃ K N A c, e = .returned (.agg #[strV K.text, .int .i64 (K.at_ : Int), .int .i64 (K.kind : Int), .int .i64 (K.n : Int), .slice A 1 c, .slice none 0 0]) ∧ LnCs w' ⟨K, [N], []⟩ [strV K.text, .int .i64 (K.at_ : Int), .int .i64 (K.kind : Int), .int .i64 (K.n : Int), .slice A 1 c, .slice none 0 0] ∧ (∀ u ts N' a, x = .ok u ts → oneT key ts = .ok N' a → K.text = key ∧ N = N') ∧ RAt w' gp l At ct (oneU key x) ∧ RB gp w w'
theorem one_V {l : List Tok} (hw : WFl l) (hl : l.length ≤ 2001) {x : PR Unit} (gp : Nat) (At : Option Addr) (ct : Nat) (key : Bytes) {d : UInt8} {r : Bytes} (hs : key = d :: r) (hd : isD d = false) (w : World) (Hx : RAt w gp l At ct x) :
    Calls Tryd.prog 63 #[.pointer (some ⟨gp, 0, none⟩), strV key] w (OneV gp l At ct key x w) := by
  refine (one_R hw hl gp At ct key hs hd w Hx).mono ?_
  rintro e w' ⟨K, N, A, c, rfl, hs, hv, hr, hb⟩
  exact ⟨K, N, A, c, rfl, ⟨A, c, none, 0, rfl, hs, .inl rfl⟩, hv, hr, hb⟩

theorem RAt.left {w : World} {gp ct : Nat} {l : List Tok} {At : Option Addr} {x : PR Unit} (h : RAt w gp l At ct x) : leftU x ≤ l.length + 1 := by
  cases x with
  | bad p => exact Nat.zero_le _
  | ok u ts =>
    obtain ⟨i, -, -, rfl⟩ := h
    simp only [leftU, List.length_drop]
    omega
theorem left_oneU (key : Bytes) (x : PR Unit) : leftU (oneU key x) ≤ leftU x := by
  cases x with
  | bad p => exact Nat.le_refl _
  | ok u ts =>
    show leftU ((oneT key ts).next fun _ a => .ok () a) ≤ ts.length + 1
    unfold oneT
    cases h1 : mustT key ts with
    | bad p => exact Nat.zero_le _
    | ok p a =>
      have l1 := mustT_len h1
      rw [PR.next_ok]
      cases h2 : kindT 2 a with
      | bad p => exact Nat.zero_le _
      | ok N b =>
        have l2 := kindT_len h2
        rw [PR.next_ok]
        cases h3 : mustT kSemi b with
        | bad p => exact Nat.zero_le _
        | ok q c =>
          have l3 := mustT_len h3
          simp only [PR.next_ok, leftU]
          omega
theorem left_row (acc : List PL) (ts : List Tok) : leftU (addRow (.ok acc ts)).forget + 1 ≤ ts.length + 1 := by
  show leftU ((rowT ts).next _).forget + 1 ≤ _
  cases h : rowT ts with
  | bad p => exact Nat.le_add_left _ _
  | ok R a =>
    have := rowT_len h
    simp only [PR.next_ok, PR.forget, leftU]
    omega

/-- Between the lines. -/
def CdY (w : World) (gp : Nat) (l : List Tok) (At : Option Addr) (ct g2 g3 : Nat) (N : Tok) (B : Nat) (y : PR (List PL)) (W : World) : Prop :=
  ∃ A c cs Ls, CdS w gp l At ct g2 g3 N A (List.length (α := LV) Ls) c cs Ls y.forget W ∧ MatchY Ls y ∧ Ls.length + leftU y.forget ≤ B
section
variable {w W W' : World} {gp : Nat} {l : List Tok} {At : Option Addr} {ct g2 g3 B : Nat} {N : Tok} {A A5 : Option Addr} {n c c5 : Nat} {cs news : List Value} {Ls : List LV} {y : PR (List PL)}
theorem cdy_one {key : Bytes} {K M : Tok} (hS : CdS w gp l At ct g2 g3 N A5 (Ls.length + 1) c5 cs (Ls ++ [⟨K, [M], []⟩]) (oneU key y.forget) W) (hM : MatchY Ls y) (hv : ∀ u ts N' a, y.forget = .ok u ts → oneT key ts = .ok N' a → K.text = key ∧ M = N') (hB : Ls.length + leftU y.forget ≤ B) :
    CdY w gp l At ct g2 g3 N (B + 1) (addOne key y) W := by
  have hlen : Ls.length + 1 = (Ls ++ [(⟨K, [M], []⟩ : LV)]).length := by simp
  rw [hlen] at hS
  rw [← forget_one] at hS
  refine ⟨A5, c5, cs, _, hS, matchY_one hM hv, ?_⟩
  have := left_oneU key y.forget
  rw [← forget_one] at this
  rw [← hlen]
  omega
theorem cdy_row {acc : List PL} {ts : List Tok} {L : LV} {x : PR Unit} (hS : CdS w gp l At ct g2 g3 N A5 (Ls.length + 1) c5 cs (Ls ++ [L]) x W) (hx : x = (addRow (.ok acc ts)).forget) (hM : MatchY (Ls ++ [L]) (addRow (.ok acc ts))) (hB : Ls.length + (ts.length + 1) ≤ B) :
    CdY w gp l At ct g2 g3 N B (addRow (.ok acc ts)) W := by
  have hlen : Ls.length + 1 = (Ls ++ [L]).length := by simp
  rw [hlen, hx] at hS
  refine ⟨A5, c5, cs, _, hS, hM, ?_⟩
  have := left_row acc ts
  rw [← hlen]
  omega
theorem CdY.below (h : CdY w gp l At ct g2 g3 N B y W) (hb : Below W.heap.size W W') : CdY w gp l At ct g2 g3 N B y W' := by
  obtain ⟨A, c, cs, Ls, h1, h2, h3⟩ := h
  exact ⟨A, c, cs, Ls, h1.below hb, h2, h3⟩
theorem CdY.at_ (h : CdY w gp l At ct g2 g3 N B y W) : RAt W gp l At ct y.forget := by obtain ⟨A, c, cs, Ls, h1, h2, h3⟩ := h; exact h1.s.at_
theorem CdY.start {x : PR Unit} (h : StR w gp l At ct [(g3, srcR N (.slice none 0 0), 77), (g2, z5r, 77)] W x) (hne : g2 ≠ g3) (hl : l.length ≤ 2001) : CdY w gp l At ct g2 g3 N 2002 (startY x) W := by
  have := h.at_.left
  rw [← forget_start x] at h this
  exact ⟨none, 0, [], [], ⟨h, own_nil _ _ _ _, rfl, rfl, hne⟩, matchY_start x, by simp only [List.length_nil]; omega⟩
end
/-- Whether the loop over the rows goes on. -/
def condY (k : Nat) : PR (List PL) → Bool
  | .ok _ ts => decide (k = 0) || (headIs kParity ts || headIs kLocal ts)
  | .bad _ => false
structure LoopY (x : PR Unit) (k : Nat) (y : PR (List PL)) : Prop where
  zero : k = 0 → y = bodyY x
  pos : 0 < k → endY y = endY (addRow (bodyY x))
theorem LoopY.next {x : PR Unit} {k : Nat} {y : PR (List PL)} (h : LoopY x k y) (hc : condY k y = true) : LoopY x (k + 1) (addRow y) := by
  refine ⟨fun h => by omega, fun _ => ?_⟩
  rcases Nat.eq_zero_or_pos k with h0 | h0
  · rw [h.zero h0]
  · rw [← h.pos h0]
    refine (endY_more ?_).symm
    cases y with
    | bad p => cases hc
    | ok acc ts =>
      have : decide (k = 0) = false := decide_eq_false (by omega)
      change (decide (k = 0) || (headIs kParity ts || headIs kLocal ts)) = true at hc
      rw [this, Bool.false_or] at hc
      exact hc
theorem LoopY.stop {x : PR Unit} {k : Nat} {y : PR (List PL)} (h : LoopY x k y) (hc : condY k y = false) : addDom y = endY (addRow (bodyY x)) := by
  cases y with
  | bad p =>
    rcases Nat.eq_zero_or_pos k with h0 | h0
    · rw [← h.zero h0]; rfl
    · rw [← h.pos h0]; rfl
  | ok acc ts =>
    change (decide (k = 0) || (headIs kParity ts || headIs kLocal ts)) = false at hc
    have h0 : 0 < k := by
      rcases Nat.eq_zero_or_pos k with h0 | h0
      · rw [decide_eq_true h0] at hc; cases hc
      · exact h0
    rw [decide_eq_false (by omega), Bool.false_or] at hc
    rw [← h.pos h0]
    exact (endY_stop (y := .ok acc ts) hc).symm

def SrcR (gp : Nat) (l : List Tok) (At : Option Addr) (ct : Nat) (x : PR Unit) (w : World) (e : Ending) (w' : World) : Prop :=
  ∃ N Ls A c cs, e = .returned (.agg (srcR N (.slice A (List.length (α := LV) Ls) c))) ∧ SlT w' w'.heap.size 101 A cs ∧ LnsCs w' Ls cs ∧ Ls.length ≤ 2010 ∧ (∀ u ts S a, x = .ok u ts → codeT ts = .ok S a → N = S.name ∧ LMs Ls (srcL S)) ∧ RAt w' gp l At ct (codeU x) ∧ RB gp w w'
theorem src_val {x : PR Unit} {N : Tok} {Ls : List LV} {y : PR (List PL)} (hN : Front N (mustU kCode x)) (hy : y = endY (addRow (bodyY x))) (hM : MatchY Ls y) : ∀ u ts S a, x = .ok u ts → codeT ts = .ok S a → N = S.name ∧ LMs Ls (srcL S) := by
  rintro u ts S a rfl h
  obtain ⟨⟨b, hb⟩, hn⟩ := code_val (u := u) h
  exact ⟨hn N hN, hM _ _ (hy.trans hb)⟩
end Go.Proofs.YtafgmbchdcfkcaaDoor
