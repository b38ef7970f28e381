/-
  What the parser makes of a whole text, in plain words. No program is run here.
-/
import Derived.Test.YtafgmbchdcfkcaaDoorLt
import Derived.Test.YtafgmbchdcfkcaaDoorKq
namespace Go.Proofs.YtafgmbchdcfkcaaDoor
open Go

def headK : List Tok → Nat
  | T :: _ => T.kind
  | [] => 4
/-- The codes of a text, as they are written: sg: exactly one. -/
def srcsT (sg : Bool) : Nat → List Src → List Tok → PR (List Src)
  | 0, l, ts => .ok l ts
  | f + 1, l, ts => if headK ts ≠ 4 ∨ (sg = true ∧ l = []) then (if sg = true ∧ l ≠ [] then .bad (headAt ts) else (codeT ts).next fun S a => srcsT sg f (l ++ [S]) a) else .ok l ts
def codesB : List Bytes → List Code → List Src → BR (List Code)
  | _, acc, [] => .ok acc
  | names, acc, S :: Ss => if names.length < 8 then (if S.name.text ∈ names then .bad S.name.at_ 4 else (buildS S).next fun C => codesB (names ++ [S.name.text]) (acc ++ [C]) Ss) else .bad S.name.at_ 2
def srcsB (x : PR (List Src)) : BR (List Code) := match x with
  | .bad p => .bad p 3
  | .ok l _ => codesB [] [] l
def parseB (sg : Bool) (t : Bytes) : BR (List Code) :=
  if 2000 < t.length then .bad 0 2 else srcsB (srcsT sg ((toks t 0).length + 1) [] (toks t 0))

theorem oneT_len {key : Bytes} {ts a : List Tok} {N : Tok} (h : oneT key ts = .ok N a) : a.length + 3 = ts.length := by
  unfold oneT at h
  cases h1 : mustT key ts with
  | bad p => rw [h1] at h; cases h
  | ok p b =>
    rw [h1, PR.next_ok] at h
    cases h2 : kindT 2 b with
    | bad p => rw [h2] at h; cases h
    | ok N' c =>
      rw [h2, PR.next_ok] at h
      cases h3 : mustT kSemi c with
      | bad p => rw [h3] at h; cases h
      | ok p d =>
        rw [h3, PR.next_ok] at h
        injection h with _ h5
        subst h5
        have := mustT_len h1
        have := kindT_len h2
        have := mustT_len h3
        omega
theorem rowsT_len : ∀ (f : Nat) {ts a : List Tok} {Rs : List Row}, rowsT f ts = .ok Rs a → a.length + Rs.length ≤ ts.length ∧ ∀ R ∈ Rs, R.idx.length ≤ ts.length ∧ R.coefs.length ≤ ts.length
  | 0, ts, a, Rs, h => by
    injection h with h1 h2
    subst h1; subst h2
    exact ⟨by simp, fun R hR => by cases hR⟩
  | f + 1, ts, a, Rs, h => by
    rw [rowsT] at h
    split at h
    · cases hr : rowT ts with
      | bad p => rw [hr] at h; cases h
      | ok R b =>
        rw [hr, PR.next_ok] at h
        cases hr2 : rowsT f b with
        | bad p => rw [hr2] at h; cases h
        | ok Rs' c =>
          rw [hr2, PR.next_ok] at h
          injection h with h1 h2
          subst h1; subst h2
          obtain ⟨l1, l2⟩ := rowsT_len f hr2
          have l3 := rowT_len hr
          refine ⟨by simp only [List.length_cons]; omega, fun R' hR' => ?_⟩
          rcases List.mem_cons.1 hR' with rfl | hR'
          · exact rowT_lens hr
          · have := l2 R' hR'
            omega
    · injection h with h1 h2
      subst h1; subst h2
      exact ⟨by simp, fun R hR => by cases hR⟩
 where
  rowT_lens {ts a : List Tok} {R : Row} (h : rowT ts = .ok R a) : R.idx.length ≤ ts.length ∧ R.coefs.length ≤ ts.length := by
    have tail : ∀ {at_ : Nat} {loc : Bool} {idx : List Tok} {b : List Tok}, rowEnd at_ loc idx b = .ok R a → R.idx = idx ∧ R.coefs.length ≤ b.length := by
      intro at_ loc idx b h
      unfold rowEnd at h
      cases h1 : numsT b with
      | bad p => rw [h1] at h; cases h
      | ok cs d =>
        rw [h1, PR.next_ok] at h
        have l1 := numsT_len h1
        cases h2 : mustT kSemi d with
        | bad p => rw [h2] at h; cases h
        | ok p e =>
          rw [h2, PR.next_ok] at h
          injection h with h _; subst h
          exact ⟨rfl, by show cs.length ≤ _; omega⟩
    unfold rowT at h
    split at h
    · cases h1 : mustT kLocal ts with
      | bad p => rw [h1] at h; cases h
      | ok p b =>
        rw [h1, PR.next_ok] at h
        have l1 := mustT_len h1
        cases h2 : numsT b with
        | bad p => rw [h2] at h; cases h
        | ok is c =>
          rw [h2, PR.next_ok] at h
          have l2 := numsT_len h2
          cases h3 : mustT kColon c with
          | bad p => rw [h3] at h; cases h
          | ok p d =>
            rw [h3, PR.next_ok] at h
            have l3 := mustT_len h3
            obtain ⟨e1, e2⟩ := tail h
            rw [e1]
            omega
    · cases h1 : mustT kParity ts with
      | bad p => rw [h1] at h; cases h
      | ok p b =>
        rw [h1, PR.next_ok] at h
        have l1 := mustT_len h1
        obtain ⟨e1, e2⟩ := tail h
        rw [e1]
        exact ⟨by simp, by omega⟩
/-- What a code as it is written is bounded by: the tokens that it is read from. -/
theorem codeT_ok {ts a : List Tok} {S : Src} (h : codeT ts = .ok S a) : a.length < ts.length ∧ S.rows.length ≤ ts.length ∧ (∀ R ∈ S.rows, R.idx.length ≤ ts.length ∧ R.coefs.length ≤ ts.length) ∧ S.name ∈ ts ∧ S.name.kind = 1 := by
  rw [codeT_eq] at h
  cases h1 : mustT kCode ts with
  | bad p => rw [h1] at h; cases h
  | ok p b =>
  rw [h1, PR.next_ok] at h
  obtain ⟨T1, e1⟩ := mustT_mem h1
  cases h2 : kindT 1 b with
  | bad p => rw [h2] at h; cases h
  | ok nm c =>
  rw [h2, PR.next_ok] at h
  obtain ⟨c', e2, hk, rfl⟩ := kindT_mem h2
  cases h3 : mustT kOpen c with
  | bad p => rw [h3] at h; cases h
  | ok p d =>
  rw [h3, PR.next_ok] at h
  have l3 := mustT_len h3
  cases h4 : oneT kField d with
  | bad p => rw [h4] at h; cases h
  | ok fl e =>
  rw [h4, PR.next_ok] at h
  have l4 := oneT_len h4
  cases h5 : oneT kData e with
  | bad p => rw [h5] at h; cases h
  | ok dt f =>
  rw [h5, PR.next_ok] at h
  have l5 := oneT_len h5
  cases h6 : rowT f with
  | bad p => rw [h6] at h; cases h
  | ok R g =>
  rw [h6, PR.next_ok] at h
  have l6 := rowT_len h6
  have l6' := rowsT_len.rowT_lens h6
  cases h7 : rowsT g.length g with
  | bad p => rw [h7] at h; cases h
  | ok Rs i =>
  rw [h7, PR.next_ok, codeK] at h
  obtain ⟨l7, l7'⟩ := rowsT_len _ h7
  have hts : ts.length = c.length + 2 := by rw [e1, e2]; simp
  have fin : ∀ dm j, ((mustT kClose j).next fun _ i => PR.ok (⟨nm, fl, dt, [R] ++ Rs, dm⟩ : Src) i) = .ok S a → j.length ≤ i.length → a.length < ts.length ∧ S.rows.length ≤ ts.length ∧ (∀ R ∈ S.rows, R.idx.length ≤ ts.length ∧ R.coefs.length ≤ ts.length) ∧ S.name ∈ ts ∧ S.name.kind = 1 := by
    intro dm j h hj
    cases h9 : mustT kClose j with
    | bad p => rw [h9] at h; cases h
    | ok p k =>
    rw [h9, PR.next_ok] at h
    have l9 := mustT_len h9
    injection h with ha hb
    subst ha; subst hb
    refine ⟨by omega, by simp only [List.length_append, List.length_singleton]; omega, fun R' hR' => ?_, by rw [e1, e2]; simp, hk⟩
    rcases List.mem_append.1 hR' with hR' | hR'
    · rw [List.mem_singleton] at hR'; subst hR'; omega
    · have := l7' R' hR'; omega
  unfold domT at h
  split at h
  · cases h8 : oneT kDomain i with
    | bad p => rw [h8] at h; cases h
    | ok dm j =>
    rw [h8, PR.next_ok, PR.next_ok] at h
    have l8 := oneT_len h8
    exact fin _ _ h (by omega)
  · rw [PR.next_ok] at h
    exact fin _ _ h (Nat.le_refl _)
end Go.Proofs.YtafgmbchdcfkcaaDoor
