/-
  Check, Print and Same in plain words. No program is run here.
-/
import Derived.Test.YtimmffncfkcpfaaGreatDoorA3
namespace Go.Proofs.YtimmffncfkcpfaaGreatDoor
open Go

def nameB (l : Bytes) : Bool := wordB l && decide (l.length ≤ 12)
/-- What is wrong with the class i of a list; 0: nothing. -/
def clsErr (all : List ClassD) (i : Nat) (C : ClassD) : Nat :=
  if 8 ≤ i then 2 else if nameB C.name = false ∨ nameB C.code = false ∨ C.name ∈ (all.take i).map ClassD.name then 4
  else if permB kLosses C.losses = false ∨ permB kWhole C.whole = false then 1 else 0
def ctrErr (cs : List ClassD) (all : List ContrD) (i : Nat) (D : ContrD) : Nat :=
  if 16 ≤ i then 2 else if nameB D.tenant = false ∨ nameB D.cls = false ∨ D.tenant ∈ (all.take i).map ContrD.tenant ∨ D.cls ∉ cs.map ClassD.name then 4
  else if permB kGuar D.guar = false ∨ permB kSnap D.snap = false ∨ permB kBurst D.burst = false ∨ permB kRank D.rank = false ∨ (D.burst = 0 ∧ D.rank ≠ 0) then 1 else 0
/-- The first one that is wrong, from the index i on. -/
def badFrom {α : Type} (err : Nat → α → Nat) : Nat → List α → Option (Nat × Nat)
  | _, [] => none
  | i, x :: r => if err i x = 0 then badFrom err (i + 1) r else some (i, err i x)
def ctrB (T : TermsD) : Nat × Nat := match badFrom (ctrErr T.classes T.contracts) 0 T.contracts with
  | some (i, e) => (T.classes.length + i, e)
  | none => (0, 0)
def checkB (T : TermsD) : Nat × Nat := match badFrom (clsErr T.classes) 0 T.classes with
  | some p => p
  | none => ctrB T

def sClass : Bytes := [99, 108, 97, 115, 115, 32]
def sCode : Bytes := [32, 123, 32, 99, 111, 100, 101, 32]
def sEnd : Bytes := [59, 32, 125, 10]
def sTenant : Bytes := [116, 101, 110, 97, 110, 116, 32]
def sBrace : Bytes := [32, 123]
def sCls : Bytes := [59, 32, 99, 108, 97, 115, 115, 32]
def numTx (w : Bytes) (n : Int) : Bytes := [32] ++ w ++ [32] ++ Lib.itoa n
def classTx (C : ClassD) : Bytes := (sClass ++ C.name ++ sCode ++ C.code ++ kSemi) ++ numTx kLosses C.losses ++ kSemi ++ numTx kWhole C.whole ++ sEnd
def snapTx (n : Int) : Bytes := if 0 < n then kSemi ++ numTx kSnap n else []
def burstTx (n r : Int) : Bytes := if 0 < n then kSemi ++ numTx kBurst n ++ numTx kRank r else []
def contrTx (D : ContrD) : Bytes := (sTenant ++ D.tenant ++ sBrace) ++ numTx kGuar D.guar ++ snapTx D.snap ++ burstTx D.burst D.rank ++ (sCls ++ D.cls ++ sEnd)
def printT (T : TermsD) : Bytes := T.classes.flatMap classTx ++ T.contracts.flatMap contrTx
def printB (T : TermsD) : Bytes × Nat := if (checkB T).2 ≠ 0 then ([], (checkB T).2) else if 2000 < (printT T).length then ([], 2) else (printT T, 0)

/-! What Check accepts. -/
structure OkC (C : ClassD) : Prop where
  name : nameB C.name = true
  code : nameB C.code = true
  losses : permB kLosses C.losses = true
  whole : permB kWhole C.whole = true
structure OkT (D : ContrD) : Prop where
  tenant : nameB D.tenant = true
  cls : nameB D.cls = true
  guar : permB kGuar D.guar = true
  snap : permB kSnap D.snap = true
  burst : permB kBurst D.burst = true
  rank : permB kRank D.rank = true
  none : D.burst = 0 → D.rank = 0
structure Ok (T : TermsD) : Prop where
  cs : ∀ C ∈ T.classes, OkC C
  ts : ∀ D ∈ T.contracts, OkT D ∧ D.cls ∈ T.classes.map ClassD.name
  cn : T.classes.length ≤ 8
  tn : T.contracts.length ≤ 16
  cd : (T.classes.map ClassD.name).Nodup
  td : (T.contracts.map ContrD.tenant).Nodup
theorem badFrom_none {α : Type} {err : Nat → α → Nat} : ∀ {i : Nat} {l : List α}, badFrom err i l = none ↔ ∀ (j : Nat) (x : α), l[j]? = some x → err (i + j) x = 0
  | i, [] => ⟨fun _ j x h => by simp at h, fun _ => rfl⟩
  | i, y :: r => by
    have ih := badFrom_none (err := err) (i := i + 1) (l := r)
    rw [badFrom]
    by_cases h : err i y = 0
    · rw [if_pos h, ih]
      constructor
      · intro k j x hj
        cases j with
        | zero =>
          have : y = x := by simpa using hj
          rw [← this]; exact h
        | succ j =>
          have := k j x (by simpa using hj)
          rw [show i + (j + 1) = i + 1 + j by omega]; exact this
      · intro k j x hj
        have := k (j + 1) x (by simpa using hj)
        rw [show i + 1 + j = i + (j + 1) by omega]; exact this
    · rw [if_neg h]
      constructor
      · intro e; cases e
      · intro k
        exact absurd (k 0 y rfl) h
theorem badFrom_ne {α : Type} {err : Nat → α → Nat} : ∀ {i : Nat} {l : List α} {p : Nat × Nat}, badFrom err i l = some p → p.2 ≠ 0
  | i, [], p, h => by cases h
  | i, y :: r, p, h => by
    rw [badFrom] at h
    split at h
    · exact badFrom_ne h
    · rename_i h1
      injection h with h
      rw [← h]; exact h1
theorem nodup_of {α : Type} (f : α → Bytes) : ∀ (l : List α), (∀ (j : Nat) (x : α), l[j]? = some x → f x ∉ (l.take j).map f) → (l.map f).Nodup := by
  intro l
  rw [List.nodup_iff_pairwise_ne, List.pairwise_iff_getElem]
  intro h i j hi hj hij e
  rw [List.length_map] at hi hj
  have h1 := h j l[j] (List.getElem?_eq_getElem hj)
  apply h1
  rw [List.getElem_map, List.getElem_map] at e
  rw [← e]
  refine List.mem_map.2 ⟨l[i], ?_, rfl⟩
  rw [List.mem_take_iff_getElem]
  exact ⟨i, by omega, rfl⟩
theorem nodup_to {α : Type} (f : α → Bytes) (l : List α) (hn : (l.map f).Nodup) (j : Nat) (x : α) (hj : l[j]? = some x) : f x ∉ (l.take j).map f := by
  intro h
  obtain ⟨y, hy, e⟩ := List.mem_map.1 h
  rw [List.mem_take_iff_getElem] at hy
  obtain ⟨i, hi, rfl⟩ := hy
  obtain ⟨hj', rfl⟩ := List.getElem?_eq_some_iff.1 hj
  rw [List.nodup_iff_pairwise_ne, List.pairwise_iff_getElem] at hn
  have := hn i j (by rw [List.length_map]; omega) (by rw [List.length_map]; omega) (by omega)
  rw [List.getElem_map, List.getElem_map] at this
  exact this e
theorem check_ok {T : TermsD} : (checkB T).2 = 0 ↔ Ok T := by
  have h0 : (checkB T).2 = 0 ↔ badFrom (clsErr T.classes) 0 T.classes = none ∧ badFrom (ctrErr T.classes T.contracts) 0 T.contracts = none := by
    unfold checkB ctrB
    cases h1 : badFrom (clsErr T.classes) 0 T.classes with
    | some p => simp [badFrom_ne h1]
    | none =>
      dsimp only
      cases h2 : badFrom (ctrErr T.classes T.contracts) 0 T.contracts with
      | some p =>
        have := badFrom_ne h2
        obtain ⟨i, e⟩ := p
        simpa using this
      | none => simp
  rw [h0, badFrom_none, badFrom_none]
  simp only [Nat.zero_add]
  have hc : ∀ (j : Nat) (C : ClassD), clsErr T.classes j C = 0 ↔ j < 8 ∧ OkC C ∧ C.name ∉ (T.classes.take j).map ClassD.name := fun j C => by
    unfold clsErr
    by_cases h1 : 8 ≤ j
    · rw [if_pos h1]; constructor
      · intro h; cases h
      · intro h; omega
    · rw [if_neg h1]
      by_cases h2 : nameB C.name = false ∨ nameB C.code = false ∨ C.name ∈ (T.classes.take j).map ClassD.name
      · rw [if_pos h2]; constructor
        · intro h; cases h
        · rintro ⟨-, h, h'⟩
          rcases h2 with h2 | h2 | h2
          · rw [h.name] at h2; cases h2
          · rw [h.code] at h2; cases h2
          · exact absurd h2 h'
      · rw [if_neg h2]
        rw [not_or, not_or, Bool.not_eq_false, Bool.not_eq_false] at h2
        by_cases h3 : permB kLosses C.losses = false ∨ permB kWhole C.whole = false
        · rw [if_pos h3]; constructor
          · intro h; cases h
          · rintro ⟨-, h, -⟩
            rcases h3 with h3 | h3
            · rw [h.losses] at h3; cases h3
            · rw [h.whole] at h3; cases h3
        · rw [if_neg h3]
          rw [not_or, Bool.not_eq_false, Bool.not_eq_false] at h3
          exact ⟨fun _ => ⟨by omega, ⟨h2.1, h2.2.1, h3.1, h3.2⟩, h2.2.2⟩, fun _ => rfl⟩
  have ht : ∀ (j : Nat) (D : ContrD), ctrErr T.classes T.contracts j D = 0 ↔ j < 16 ∧ OkT D ∧ D.tenant ∉ (T.contracts.take j).map ContrD.tenant ∧ D.cls ∈ T.classes.map ClassD.name := fun j D => by
    unfold ctrErr
    by_cases h1 : 16 ≤ j
    · rw [if_pos h1]; constructor
      · intro h; cases h
      · intro h; omega
    · rw [if_neg h1]
      by_cases h2 : nameB D.tenant = false ∨ nameB D.cls = false ∨ D.tenant ∈ (T.contracts.take j).map ContrD.tenant ∨ D.cls ∉ T.classes.map ClassD.name
      · rw [if_pos h2]; constructor
        · intro h; cases h
        · rintro ⟨-, h, h', h''⟩
          rcases h2 with h2 | h2 | h2 | h2
          · rw [h.tenant] at h2; cases h2
          · rw [h.cls] at h2; cases h2
          · exact absurd h2 h'
          · exact absurd h'' h2
      · rw [if_neg h2]
        rw [not_or, not_or, not_or, Bool.not_eq_false, Bool.not_eq_false, Classical.not_not] at h2
        by_cases h3 : permB kGuar D.guar = false ∨ permB kSnap D.snap = false ∨ permB kBurst D.burst = false ∨ permB kRank D.rank = false ∨ (D.burst = 0 ∧ D.rank ≠ 0)
        · rw [if_pos h3]; constructor
          · intro h; cases h
          · rintro ⟨-, h, -⟩
            rcases h3 with h3 | h3 | h3 | h3 | h3
            · rw [h.guar] at h3; cases h3
            · rw [h.snap] at h3; cases h3
            · rw [h.burst] at h3; cases h3
            · rw [h.rank] at h3; cases h3
            · exact absurd (h.none h3.1) h3.2
        · rw [if_neg h3]
          rw [not_or, not_or, not_or, not_or, Bool.not_eq_false, Bool.not_eq_false, Bool.not_eq_false, Bool.not_eq_false] at h3
          obtain ⟨a1, a2, a3, a4, a5⟩ := h3
          refine ⟨fun _ => ⟨by omega, ⟨h2.1, h2.2.1, a1, a2, a3, a4, fun e => ?_⟩, h2.2.2.1, h2.2.2.2⟩, fun _ => rfl⟩
          exact Classical.byContradiction fun e' => a5 ⟨e, e'⟩
  simp only [hc, ht]
  constructor
  · rintro ⟨h1, h2⟩
    refine ⟨fun C hC => ?_, fun D hD => ?_, ?_, ?_, nodup_of _ _ fun j x hj => (h1 j x hj).2.2, nodup_of _ _ fun j x hj => (h2 j x hj).2.2.1⟩
    · obtain ⟨j, hj⟩ := List.mem_iff_getElem?.1 hC
      exact (h1 j C hj).2.1
    · obtain ⟨j, hj⟩ := List.mem_iff_getElem?.1 hD
      exact ⟨(h2 j D hj).2.1, (h2 j D hj).2.2.2⟩
    · rcases Nat.lt_or_ge 8 T.classes.length with h | h
      · have := (h1 8 _ (List.getElem?_eq_getElem h)).1; omega
      · exact h
    · rcases Nat.lt_or_ge 16 T.contracts.length with h | h
      · have := (h2 16 _ (List.getElem?_eq_getElem h)).1; omega
      · exact h
  · intro h
    refine ⟨fun j C hj => ⟨?_, h.cs C (List.mem_of_getElem? hj), nodup_to _ _ h.cd j C hj⟩, fun j D hj => ⟨?_, (h.ts D (List.mem_of_getElem? hj)).1, nodup_to _ _ h.td j D hj, (h.ts D (List.mem_of_getElem? hj)).2⟩⟩
    · have := (List.getElem?_eq_some_iff.1 hj).1
      have := h.cn; omega
    · have := (List.getElem?_eq_some_iff.1 hj).1
      have := h.tn; omega
theorem check_zero {T : TermsD} (h : (checkB T).2 = 0) : checkB T = (0, 0) := by
  unfold checkB ctrB at h ⊢
  cases h1 : badFrom (clsErr T.classes) 0 T.classes with
  | some p => rw [h1] at h; exact absurd h (badFrom_ne h1)
  | none =>
    rw [h1] at h
    dsimp only at h ⊢
    cases h2 : badFrom (ctrErr T.classes T.contracts) 0 T.contracts with
    | some p =>
      rw [h2] at h
      obtain ⟨i, e⟩ := p
      have h3 := badFrom_ne h2
      exact absurd (show e = 0 from h) h3
    | none => rfl
end Go.Proofs.YtimmffncfkcpfaaGreatDoor
