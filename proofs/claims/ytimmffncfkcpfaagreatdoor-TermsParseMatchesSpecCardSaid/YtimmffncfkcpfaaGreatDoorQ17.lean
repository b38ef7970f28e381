/-
  The reference's checks of the items against the plain ones. No program is run here.
  The walk of the reference's check of a tenant (printed by gen_fault.py).
  What the reference's Parse builds: the terms grow by an item.
-/
import Derived.Test.YtimmffncfkcpfaaGreatDoorQ14
namespace Go.Proofs.YtimmffncfkcpfaaGreatDoor
open Go

def clsOf (x : RItem) : ClassD := ⟨x.name.text, x.other.text, (valD x.losses.text : Nat), (valD x.whole.text : Nat)⟩
def ctrOf (x : RItem) : ContrD := ⟨x.name.text, (valD x.guar.text : Nat), (valD x.snap.text : Nat), (valD x.burst.text : Nat), (valD x.rank.text : Nat), x.other.text⟩
def pushT (T : TermsD) (x : RItem) : TermsD := if x.tenant then ⟨T.classes, T.contracts ++ [ctrOf x]⟩ else ⟨T.classes ++ [clsOf x], T.contracts⟩
def resF (F : Nat × Nat) (T : TermsD) : BR TermsD := if F.2 = 0 then .ok T else .bad F.1 F.2
theorem note_t {T : Tok} {e : Nat} {F : Nat × Nat} (h : F.2 = 0) : noteF true T e F = (T.at_, e) := if_pos ⟨rfl, h⟩
theorem note_f {T : Tok} {e : Nat} {F : Nat × Nat} : noteF false T e F = F := if_neg (fun h => by cases h.1)
theorem note_k {b : Bool} {T : Tok} {e : Nat} {F : Nat × Nat} (h : F.2 ≠ 0) : noteF b T e F = F := if_neg (fun hh => h hh.2)
theorem note_1 {b : Bool} {T : Tok} {e p : Nat} : noteF b T e (p, 1) = (p, 1) := note_k (by simp)
theorem note_2 {b : Bool} {T : Tok} {e p : Nat} : noteF b T e (p, 2) = (p, 2) := note_k (by simp)
theorem note_4 {b : Bool} {T : Tok} {e p : Nat} : noteF b T e (p, 4) = (p, 4) := note_k (by simp)
theorem perm_no {w : Bytes} {n : Nat} {lo hi : Nat} (h : permB w (n : Int) = true ↔ ((lo : Int) ≤ (n : Int) ∧ (n : Int) ≤ (hi : Int))) : permB w (n : Int) = decide (lo ≤ n ∧ n ≤ hi) := by
  rw [Bool.eq_iff_iff, h, decide_eq_true_eq]; omega
theorem add_ref_c (names : List Bytes) (T : TermsD) (x : RItem) (h : RGood x) (ht : x.tenant = false) :
    addB names T (itOf x) = resF (classF x (headF x T.classes.length 8 (decide (x.name.text ∈ T.classes.map ClassD.name)) (0, 0))) (pushT T x) := by
  obtain ⟨hl, hw, -⟩ := h.cls ht
  have ho := word_not_num h.other
  have hit : itOf x = ⟨false, [([], x.name), (kCode, x.other), (kLosses, x.losses), (kWhole, x.whole)]⟩ := by unfold itOf fieldsOf; rw [ht]; rfl
  have n1 : numOfF kCode [([], x.name), (kCode, x.other), (kLosses, x.losses), (kWhole, x.whole)] = none := by
    simp [numOfF, ho, kCode, kLosses, kWhole]
  have n2 : numOfF kLosses [([], x.name), (kCode, x.other), (kLosses, x.losses), (kWhole, x.whole)] = some (valD x.losses.text) := by
    simp [numOfF, hl, kCode, kLosses]
  have n3 : numOfF kWhole [([], x.name), (kCode, x.other), (kLosses, x.losses), (kWhole, x.whole)] = some (valD x.whole.text) := by
    simp [numOfF, hw, kCode, kLosses, kWhole]
  have p1 : permB kLosses (valD x.losses.text : Int) = decide (0 ≤ valD x.losses.text ∧ valD x.losses.text ≤ 4) := perm_no (by simpa using perm_losses (n := (valD x.losses.text : Int)))
  have p2 : permB kWhole (valD x.whole.text : Int) = decide (1 ≤ valD x.whole.text ∧ valD x.whole.text ≤ 1048576) := perm_no (by simpa using perm_whole (n := (valD x.whole.text : Int)))
  have k1 : ¬ (kLosses = kRank) := by decide
  have k2 : ¬ (kWhole = kRank) := by decide
  have hpush : pushT T x = ⟨T.classes ++ [clsOf x], T.contracts⟩ := by unfold pushT; rw [ht]; rfl
  rw [hpush, hit]
  unfold addB firstF secondF
  simp only [Bool.false_eq_true, if_false, List.head?_cons, Option.map_some, Option.getD_some, List.drop_succ_cons, List.drop_zero, List.getElem?_cons_succ, List.getElem?_cons_zero]
  unfold classF headF
  by_cases c1 : 8 ≤ T.classes.length ∨ 12 < x.name.text.length
  · rw [if_pos c1, decide_eq_true c1, note_t rfl, note_2, note_2, note_2, note_2]; rfl
  rw [if_neg c1, decide_eq_false c1, note_f]
  by_cases c2 : x.name.text ∈ T.classes.map ClassD.name
  · rw [if_pos c2, decide_eq_true c2, note_t rfl, note_4, note_4, note_4]; rfl
  rw [if_neg c2, decide_eq_false c2, note_f]
  simp only [fieldsBad, n1, n2, n3]
  by_cases c3 : 12 < x.other.text.length
  · rw [if_pos c3, decide_eq_true c3, note_t rfl, note_2, note_2]; rfl
  rw [if_neg c3, decide_eq_false c3, note_f, p1, p2]
  by_cases c4 : 4 < valD x.losses.text
  · rw [decide_eq_true c4, note_t rfl, note_1, if_pos (decide_eq_false (by omega))]; rfl
  rw [decide_eq_false c4, note_f, if_neg (by rw [decide_eq_true (by omega)]; decide), if_neg (fun h => k1 h.1)]
  by_cases c5 : 1 ≤ valD x.whole.text ∧ valD x.whole.text ≤ 1048576
  · rw [decide_eq_false (not_not_intro c5), note_f, if_neg (by rw [decide_eq_true c5]; decide), if_neg (fun h => k2 h.1)]
    unfold nF
    rw [n2, n3]; rfl
  · rw [decide_eq_true c5, note_t rfl, if_pos (decide_eq_false c5)]; rfl
theorem add_ref_t (names : List Bytes) (T : TermsD) (x : RItem) (h : RGood x) (ht : x.tenant = true) :
    addB names T (itOf x) = resF (tenF x (decide (x.other.text ∈ names)) (headF x T.contracts.length 16 (decide (x.name.text ∈ T.contracts.map ContrD.tenant)) (0, 0))) (pushT T x) := by
  obtain ⟨hg, hs, hb, -⟩ := h.ten ht
  have ho := word_not_num h.other
  have p1 : permB kGuar (valD x.guar.text : Int) = decide (0 ≤ valD x.guar.text ∧ valD x.guar.text ≤ 1048576) := perm_no (by simpa using perm_guar (n := (valD x.guar.text : Int)))
  have p2 : permB kSnap (valD x.snap.text : Int) = decide (0 ≤ valD x.snap.text ∧ valD x.snap.text ≤ 1048576) := perm_no (by simpa using perm_snap (n := (valD x.snap.text : Int)))
  have p3 : permB kBurst (valD x.burst.text : Int) = decide (0 ≤ valD x.burst.text ∧ valD x.burst.text ≤ 1048576) := perm_no (by simpa using perm_burst (n := (valD x.burst.text : Int)))
  have p4 : permB kRank (valD x.rank.text : Int) = decide (0 ≤ valD x.rank.text ∧ valD x.rank.text ≤ 9) := perm_no (by simpa using perm_rank (n := (valD x.rank.text : Int)))
  have k1 : ¬ (kGuar = kRank) := by decide
  have k2 : ¬ (kSnap = kRank) := by decide
  have k3 : ¬ (kBurst = kRank) := by decide
  have hpush : pushT T x = ⟨T.classes, T.contracts ++ [ctrOf x]⟩ := by unfold pushT; rw [ht]; rfl
  have v0 : valD [] = 0 := rfl
  rw [hpush]
  unfold tenF headF
  rcases hs with hs | hs
  · rcases hb with ⟨hb, hr⟩ | ⟨hb, hr⟩
    · skip
      have e1 : x.snap.text = [] := by rw [hs]; rfl
      have e2 : x.burst.text = [] := by rw [hb]; rfl
      have e3 : x.rank.text = [] := by rw [hr]; rfl
      have hit : itOf x = ⟨true, [([], x.name), (kGuar, x.guar), (kClass, x.other)]⟩ := by unfold itOf fieldsOf; rw [ht, if_pos rfl, if_pos e1, if_pos e2]; rfl
      have nkGuar : numOfF kGuar [([], x.name), (kGuar, x.guar), (kClass, x.other)] = some (valD x.guar.text) := by simp [numOfF, hg, kGuar]
      have nkSnap : numOfF kSnap [([], x.name), (kGuar, x.guar), (kClass, x.other)] = none := by simp [numOfF, ho, kGuar, kSnap, kClass]
      have nkBurst : numOfF kBurst [([], x.name), (kGuar, x.guar), (kClass, x.other)] = none := by simp [numOfF, ho, kGuar, kBurst, kClass]
      have nkRank : numOfF kRank [([], x.name), (kGuar, x.guar), (kClass, x.other)] = none := by simp [numOfF, ho, kGuar, kRank, kClass]
      have nkClass : numOfF kClass [([], x.name), (kGuar, x.guar), (kClass, x.other)] = none := by simp [numOfF, ho, kGuar, kClass]
      rw [hit]
      unfold addB firstF lastF
      simp only [if_true, List.head?_cons, Option.map_some, Option.getD_some, List.drop_succ_cons, List.drop_zero, List.getLast?_cons_cons, List.getLast?_singleton]
      by_cases c1 : 16 ≤ T.contracts.length ∨ 12 < x.name.text.length
      · rw [if_pos c1, decide_eq_true c1, note_t rfl, note_2, note_2, note_2, note_2, note_2, note_2, note_2]; rfl
      rw [if_neg c1, decide_eq_false c1, note_f]
      by_cases c2 : x.name.text ∈ T.contracts.map ContrD.tenant
      · rw [if_pos c2, decide_eq_true c2, note_t rfl, note_4, note_4, note_4, note_4, note_4, note_4]; rfl
      rw [if_neg c2, decide_eq_false c2, note_f]
      simp only [fieldsBad, nkGuar, nkClass]
      rw [p1]
      by_cases c3 : 1048576 < valD x.guar.text
      · rw [decide_eq_true c3, note_t rfl, note_1, note_1, note_1, note_1, note_1, if_pos (decide_eq_false (by omega))]; rfl
      rw [decide_eq_false c3, note_f, if_neg (by rw [decide_eq_true (by omega)]; decide), if_neg (fun h => k1 h.1)]
      rw [e1, v0, decide_eq_false (show ¬ 1048576 < 0 by omega), note_f]
      rw [e2, e3, v0, decide_eq_false (show ¬ 1048576 < 0 by omega), note_f, decide_eq_false (show ¬ (9 < 0 ∨ (0 = 0 ∧ 0 < 0)) by omega), note_f]
      by_cases c8 : 12 < x.other.text.length
      · rw [if_pos c8, decide_eq_true c8, note_t rfl, note_2]; rfl
      rw [if_neg c8, decide_eq_false c8, note_f]
      by_cases c9 : x.other.text ∈ names
      · simp only [if_pos c9, decide_eq_true c9, Bool.not_true]
        rw [note_f]
        first | rfl | (unfold ctrOf; rw [nkSnap, e1]; rfl) | (unfold nF ctrOf; rw [nkGuar, nkSnap, nkBurst, nkRank, e1, e2, e3]; rfl)
      · simp only [if_neg c9, decide_eq_false c9, Bool.not_false]
        rw [note_t rfl]; rfl
    · skip
      have e1 : x.snap.text = [] := by rw [hs]; rfl
      have e2 : x.burst.text ≠ [] := num_ne hb
      have hit : itOf x = ⟨true, [([], x.name), (kGuar, x.guar), (kBurst, x.burst), (kRank, x.rank), (kClass, x.other)]⟩ := by unfold itOf fieldsOf; rw [ht, if_pos rfl, if_pos e1, if_neg e2]; rfl
      have nkGuar : numOfF kGuar [([], x.name), (kGuar, x.guar), (kBurst, x.burst), (kRank, x.rank), (kClass, x.other)] = some (valD x.guar.text) := by simp [numOfF, hg, kGuar]
      have nkSnap : numOfF kSnap [([], x.name), (kGuar, x.guar), (kBurst, x.burst), (kRank, x.rank), (kClass, x.other)] = none := by simp [numOfF, ho, kGuar, kSnap, kBurst, kRank, kClass]
      have nkBurst : numOfF kBurst [([], x.name), (kGuar, x.guar), (kBurst, x.burst), (kRank, x.rank), (kClass, x.other)] = some (valD x.burst.text) := by simp [numOfF, hb, kGuar, kBurst]
      have nkRank : numOfF kRank [([], x.name), (kGuar, x.guar), (kBurst, x.burst), (kRank, x.rank), (kClass, x.other)] = some (valD x.rank.text) := by simp [numOfF, hr, kGuar, kBurst, kRank]
      have nkClass : numOfF kClass [([], x.name), (kGuar, x.guar), (kBurst, x.burst), (kRank, x.rank), (kClass, x.other)] = none := by simp [numOfF, ho, kGuar, kBurst, kRank, kClass]
      rw [hit]
      unfold addB firstF lastF
      simp only [if_true, List.head?_cons, Option.map_some, Option.getD_some, List.drop_succ_cons, List.drop_zero, List.getLast?_cons_cons, List.getLast?_singleton]
      by_cases c1 : 16 ≤ T.contracts.length ∨ 12 < x.name.text.length
      · rw [if_pos c1, decide_eq_true c1, note_t rfl, note_2, note_2, note_2, note_2, note_2, note_2, note_2]; rfl
      rw [if_neg c1, decide_eq_false c1, note_f]
      by_cases c2 : x.name.text ∈ T.contracts.map ContrD.tenant
      · rw [if_pos c2, decide_eq_true c2, note_t rfl, note_4, note_4, note_4, note_4, note_4, note_4]; rfl
      rw [if_neg c2, decide_eq_false c2, note_f]
      simp only [fieldsBad, nkGuar, nkBurst, nkRank, nkClass, nF, Option.getD_some]
      rw [p1]
      by_cases c3 : 1048576 < valD x.guar.text
      · rw [decide_eq_true c3, note_t rfl, note_1, note_1, note_1, note_1, note_1, if_pos (decide_eq_false (by omega))]; rfl
      rw [decide_eq_false c3, note_f, if_neg (by rw [decide_eq_true (by omega)]; decide), if_neg (fun h => k1 h.1)]
      rw [e1, v0, decide_eq_false (show ¬ 1048576 < 0 by omega), note_f]
      rw [p3]
      by_cases c5 : 1048576 < valD x.burst.text
      · rw [decide_eq_true c5, note_t rfl, note_1, note_1, note_1, if_pos (decide_eq_false (by omega))]; rfl
      rw [decide_eq_false c5, note_f, if_neg (by rw [decide_eq_true (by omega)]; decide), if_neg (fun h => k3 h.1), p4]
      by_cases c6 : 9 < valD x.rank.text
      · rw [decide_eq_true (Or.inl c6), note_t rfl, note_1, note_1, if_pos (decide_eq_false (by omega))]; rfl
      rw [if_neg (by rw [decide_eq_true (by omega)]; decide)]
      by_cases c7 : valD x.burst.text = 0 ∧ 0 < valD x.rank.text
      · rw [decide_eq_true (Or.inr c7), note_t rfl, note_1, note_1, if_pos ⟨by trivial, c7.1, c7.2⟩]; rfl
      rw [decide_eq_false (show ¬ (9 < valD x.rank.text ∨ (valD x.burst.text = 0 ∧ 0 < valD x.rank.text)) from fun h => h.elim c6 c7), note_f, if_neg (fun h => c7 ⟨h.2.1, h.2.2⟩)]
      by_cases c8 : 12 < x.other.text.length
      · rw [if_pos c8, decide_eq_true c8, note_t rfl, note_2]; rfl
      rw [if_neg c8, decide_eq_false c8, note_f]
      by_cases c9 : x.other.text ∈ names
      · simp only [if_pos c9, decide_eq_true c9, Bool.not_true]
        rw [note_f]
        first | rfl | (unfold ctrOf; rw [nkSnap, e1]; rfl) | (unfold nF ctrOf; rw [nkGuar, nkSnap, nkBurst, nkRank, e1]; rfl)
      · simp only [if_neg c9, decide_eq_false c9, Bool.not_false]
        rw [note_t rfl]; rfl
  · rcases hb with ⟨hb, hr⟩ | ⟨hb, hr⟩
    · skip
      have e1 : x.snap.text ≠ [] := num_ne hs
      have e2 : x.burst.text = [] := by rw [hb]; rfl
      have e3 : x.rank.text = [] := by rw [hr]; rfl
      have hit : itOf x = ⟨true, [([], x.name), (kGuar, x.guar), (kSnap, x.snap), (kClass, x.other)]⟩ := by unfold itOf fieldsOf; rw [ht, if_pos rfl, if_neg e1, if_pos e2]; rfl
      have nkGuar : numOfF kGuar [([], x.name), (kGuar, x.guar), (kSnap, x.snap), (kClass, x.other)] = some (valD x.guar.text) := by simp [numOfF, hg, kGuar]
      have nkSnap : numOfF kSnap [([], x.name), (kGuar, x.guar), (kSnap, x.snap), (kClass, x.other)] = some (valD x.snap.text) := by simp [numOfF, hs, kGuar, kSnap]
      have nkBurst : numOfF kBurst [([], x.name), (kGuar, x.guar), (kSnap, x.snap), (kClass, x.other)] = none := by simp [numOfF, ho, kGuar, kSnap, kBurst, kClass]
      have nkRank : numOfF kRank [([], x.name), (kGuar, x.guar), (kSnap, x.snap), (kClass, x.other)] = none := by simp [numOfF, ho, kGuar, kSnap, kRank, kClass]
      have nkClass : numOfF kClass [([], x.name), (kGuar, x.guar), (kSnap, x.snap), (kClass, x.other)] = none := by simp [numOfF, ho, kGuar, kSnap, kClass]
      rw [hit]
      unfold addB firstF lastF
      simp only [if_true, List.head?_cons, Option.map_some, Option.getD_some, List.drop_succ_cons, List.drop_zero, List.getLast?_cons_cons, List.getLast?_singleton]
      by_cases c1 : 16 ≤ T.contracts.length ∨ 12 < x.name.text.length
      · rw [if_pos c1, decide_eq_true c1, note_t rfl, note_2, note_2, note_2, note_2, note_2, note_2, note_2]; rfl
      rw [if_neg c1, decide_eq_false c1, note_f]
      by_cases c2 : x.name.text ∈ T.contracts.map ContrD.tenant
      · rw [if_pos c2, decide_eq_true c2, note_t rfl, note_4, note_4, note_4, note_4, note_4, note_4]; rfl
      rw [if_neg c2, decide_eq_false c2, note_f]
      simp only [fieldsBad, nkGuar, nkSnap, nkClass]
      rw [p1]
      by_cases c3 : 1048576 < valD x.guar.text
      · rw [decide_eq_true c3, note_t rfl, note_1, note_1, note_1, note_1, note_1, if_pos (decide_eq_false (by omega))]; rfl
      rw [decide_eq_false c3, note_f, if_neg (by rw [decide_eq_true (by omega)]; decide), if_neg (fun h => k1 h.1)]
      rw [p2]
      by_cases c4 : 1048576 < valD x.snap.text
      · rw [decide_eq_true c4, note_t rfl, note_1, note_1, note_1, note_1, if_pos (decide_eq_false (by omega))]; rfl
      rw [decide_eq_false c4, note_f, if_neg (by rw [decide_eq_true (by omega)]; decide), if_neg (fun h => k2 h.1)]
      rw [e2, e3, v0, decide_eq_false (show ¬ 1048576 < 0 by omega), note_f, decide_eq_false (show ¬ (9 < 0 ∨ (0 = 0 ∧ 0 < 0)) by omega), note_f]
      by_cases c8 : 12 < x.other.text.length
      · rw [if_pos c8, decide_eq_true c8, note_t rfl, note_2]; rfl
      rw [if_neg c8, decide_eq_false c8, note_f]
      by_cases c9 : x.other.text ∈ names
      · simp only [if_pos c9, decide_eq_true c9, Bool.not_true]
        rw [note_f]
        first | rfl | (unfold ctrOf; rw [nkSnap, e1]; rfl) | (unfold nF ctrOf; rw [nkGuar, nkSnap, nkBurst, nkRank, e2, e3]; rfl)
      · simp only [if_neg c9, decide_eq_false c9, Bool.not_false]
        rw [note_t rfl]; rfl
    · skip
      have e1 : x.snap.text ≠ [] := num_ne hs
      have e2 : x.burst.text ≠ [] := num_ne hb
      have hit : itOf x = ⟨true, [([], x.name), (kGuar, x.guar), (kSnap, x.snap), (kBurst, x.burst), (kRank, x.rank), (kClass, x.other)]⟩ := by unfold itOf fieldsOf; rw [ht, if_pos rfl, if_neg e1, if_neg e2]; rfl
      have nkGuar : numOfF kGuar [([], x.name), (kGuar, x.guar), (kSnap, x.snap), (kBurst, x.burst), (kRank, x.rank), (kClass, x.other)] = some (valD x.guar.text) := by simp [numOfF, hg, kGuar]
      have nkSnap : numOfF kSnap [([], x.name), (kGuar, x.guar), (kSnap, x.snap), (kBurst, x.burst), (kRank, x.rank), (kClass, x.other)] = some (valD x.snap.text) := by simp [numOfF, hs, kGuar, kSnap]
      have nkBurst : numOfF kBurst [([], x.name), (kGuar, x.guar), (kSnap, x.snap), (kBurst, x.burst), (kRank, x.rank), (kClass, x.other)] = some (valD x.burst.text) := by simp [numOfF, hb, kGuar, kSnap, kBurst]
      have nkRank : numOfF kRank [([], x.name), (kGuar, x.guar), (kSnap, x.snap), (kBurst, x.burst), (kRank, x.rank), (kClass, x.other)] = some (valD x.rank.text) := by simp [numOfF, hr, kGuar, kSnap, kBurst, kRank]
      have nkClass : numOfF kClass [([], x.name), (kGuar, x.guar), (kSnap, x.snap), (kBurst, x.burst), (kRank, x.rank), (kClass, x.other)] = none := by simp [numOfF, ho, kGuar, kSnap, kBurst, kRank, kClass]
      rw [hit]
      unfold addB firstF lastF
      simp only [if_true, List.head?_cons, Option.map_some, Option.getD_some, List.drop_succ_cons, List.drop_zero, List.getLast?_cons_cons, List.getLast?_singleton]
      by_cases c1 : 16 ≤ T.contracts.length ∨ 12 < x.name.text.length
      · rw [if_pos c1, decide_eq_true c1, note_t rfl, note_2, note_2, note_2, note_2, note_2, note_2, note_2]; rfl
      rw [if_neg c1, decide_eq_false c1, note_f]
      by_cases c2 : x.name.text ∈ T.contracts.map ContrD.tenant
      · rw [if_pos c2, decide_eq_true c2, note_t rfl, note_4, note_4, note_4, note_4, note_4, note_4]; rfl
      rw [if_neg c2, decide_eq_false c2, note_f]
      simp only [fieldsBad, nkGuar, nkSnap, nkBurst, nkRank, nkClass, nF, Option.getD_some]
      rw [p1]
      by_cases c3 : 1048576 < valD x.guar.text
      · rw [decide_eq_true c3, note_t rfl, note_1, note_1, note_1, note_1, note_1, if_pos (decide_eq_false (by omega))]; rfl
      rw [decide_eq_false c3, note_f, if_neg (by rw [decide_eq_true (by omega)]; decide), if_neg (fun h => k1 h.1)]
      rw [p2]
      by_cases c4 : 1048576 < valD x.snap.text
      · rw [decide_eq_true c4, note_t rfl, note_1, note_1, note_1, note_1, if_pos (decide_eq_false (by omega))]; rfl
      rw [decide_eq_false c4, note_f, if_neg (by rw [decide_eq_true (by omega)]; decide), if_neg (fun h => k2 h.1)]
      rw [p3]
      by_cases c5 : 1048576 < valD x.burst.text
      · rw [decide_eq_true c5, note_t rfl, note_1, note_1, note_1, if_pos (decide_eq_false (by omega))]; rfl
      rw [decide_eq_false c5, note_f, if_neg (by rw [decide_eq_true (by omega)]; decide), if_neg (fun h => k3 h.1), p4]
      by_cases c6 : 9 < valD x.rank.text
      · rw [decide_eq_true (Or.inl c6), note_t rfl, note_1, note_1, if_pos (decide_eq_false (by omega))]; rfl
      rw [if_neg (by rw [decide_eq_true (by omega)]; decide)]
      by_cases c7 : valD x.burst.text = 0 ∧ 0 < valD x.rank.text
      · rw [decide_eq_true (Or.inr c7), note_t rfl, note_1, note_1, if_pos ⟨by trivial, c7.1, c7.2⟩]; rfl
      rw [decide_eq_false (show ¬ (9 < valD x.rank.text ∨ (valD x.burst.text = 0 ∧ 0 < valD x.rank.text)) from fun h => h.elim c6 c7), note_f, if_neg (fun h => c7 ⟨h.2.1, h.2.2⟩)]
      by_cases c8 : 12 < x.other.text.length
      · rw [if_pos c8, decide_eq_true c8, note_t rfl, note_2]; rfl
      rw [if_neg c8, decide_eq_false c8, note_f]
      by_cases c9 : x.other.text ∈ names
      · simp only [if_pos c9, decide_eq_true c9, Bool.not_true]
        rw [note_f]
        first | rfl | (unfold ctrOf; rw [nkSnap, e1]; rfl) | (unfold nF ctrOf; rw [nkGuar, nkSnap, nkBurst, nkRank]; rfl)
      · simp only [if_neg c9, decide_eq_false c9, Bool.not_false]
        rw [note_t rfl]; rfl
end Go.Proofs.YtimmffncfkcpfaaGreatDoor
namespace Go.Proofs.YtimmffncfkcpfaaGreatDoor
open Go Go.RowKit Go.Walks

set_option maxRecDepth 100000 in
set_option maxHeartbeats 8000000 in
theorem rtenF_any (g : Nat) (F : Nat × Nat) (x : RItem) (known : Bool) (w : World) (H : Hid (w.heap[g]? = some (.cells (fltCs F) 79))) (HVguar : Hid (NumTx x.guar)) (HVsnap : Hid (NumTx x.snap)) (HVburst : Hid (NumTx x.burst)) (HVrank : Hid (NumTx x.rank)) :
    Calls Tryz.prog 24 #[.pointer (some ⟨g, 0, none⟩), .agg (itemA x), .bool known] w (NoteP g (tenF x known F) w) := by
  have HS0 := Lib.hid (FltS.start (x := x) H.out)
  obtain ⟨b, hb⟩ : ∃ b, b = w.heap.size := ⟨_, rfl⟩
  obtain ⟨W1, hW1⟩ : ∃ W, W = w.alloc (.cells (itemA x) 75) := ⟨_, rfl⟩
  rw [← hW1, ← hb] at HS0
  obtain ⟨FF, hFF⟩ : ∃ y, y = tenF x known F := ⟨_, rfl⟩
  rw [← hFF]
  have HFF := Lib.hid hFF
  clear hFF H
  unfold itemA at hW1 ⊢
  go_enter Tryz.func24, Tryz.ntmps24
  go_upto_region 1 with fail
  rw [← hW1, ← hb]
  clear hW1 hb
  obtain ⟨F1, hF1⟩ : ∃ y, y = noteF (decide (1048576 < valD x.guar.text)) x.guar 1 F := ⟨_, rfl⟩
  have HF1 : Hid (∀ B : Bool, (B = true ↔ 1048576 < valD x.guar.text) → noteF B x.guar 1 F = F1) := fun B h => (note_iff h _ _ _).trans hF1.symm
  have EF1 := Lib.hid hF1
  clear hF1
  go_upto_region 1 with fail
  have HS0d := Lib.hid HS0.out.drew
  obtain ⟨c9, c10⟩ := HS0.out.c9
  go_region_held3 (fun W => W.cell? ⟨b, 9, none⟩ = some (.string ⟨x.guar.text.toArray⟩) ∧ W.cell? ⟨b, 10, none⟩ = some (.int .i64 (x.guar.at_ : Int)))
    (first | exact HS1.out.c9 | exact HU1.out.c9 | exact HS0d.out.c9)
    (first | (go_at_call 21; refine (value_any x.guar _ HVguar).mono ?_; rintro e u1 ⟨rfl, hb⟩; have HU1 := Lib.hid (HS0d.out.below hb); clear hb) | (go_at_call 63; refine (note_any g _ _ x.guar 1 _ HU1.out.row).mono ?_; rintro e v1 ⟨rfl, hrb, hrow⟩; rw [HF1.out _ (by simp only [decide_eq_true_eq]; omega)] at hrow; have HS1 := Lib.hid (HU1.out.note hrb hrow); clear hrb hrow))
  clear c9 c10
  obtain ⟨F2, hF2⟩ : ∃ y, y = noteF (decide (1048576 < valD x.snap.text)) x.snap 1 F1 := ⟨_, rfl⟩
  have HF2 : Hid (∀ B : Bool, (B = true ↔ 1048576 < valD x.snap.text) → noteF B x.snap 1 F1 = F2) := fun B h => (note_iff h _ _ _).trans hF2.symm
  have EF2 := Lib.hid hF2
  clear hF2
  go_upto_region 2 with fail
  have HS1d := Lib.hid HS1.out.drew
  obtain ⟨c11, c12⟩ := HS1.out.c11
  go_region_held3 (fun W => W.cell? ⟨b, 11, none⟩ = some (.string ⟨x.snap.text.toArray⟩) ∧ W.cell? ⟨b, 12, none⟩ = some (.int .i64 (x.snap.at_ : Int)))
    (first | exact HS2.out.c11 | exact HU2.out.c11 | exact HS1d.out.c11)
    (first | (go_at_call 21; refine (value_any x.snap _ HVsnap).mono ?_; rintro e u2 ⟨rfl, hb⟩; have HU2 := Lib.hid (HS1d.out.below hb); clear hb) | (go_at_call 63; refine (note_any g _ _ x.snap 1 _ HU2.out.row).mono ?_; rintro e v2 ⟨rfl, hrb, hrow⟩; rw [HF2.out _ (by simp only [decide_eq_true_eq]; omega)] at hrow; have HS2 := Lib.hid (HU2.out.note hrb hrow); clear hrb hrow))
  clear c11 c12
  obtain ⟨F3, hF3⟩ : ∃ y, y = noteF (decide (1048576 < valD x.burst.text)) x.burst 1 F2 := ⟨_, rfl⟩
  have HF3 : Hid (∀ B : Bool, (B = true ↔ 1048576 < valD x.burst.text) → noteF B x.burst 1 F2 = F3) := fun B h => (note_iff h _ _ _).trans hF3.symm
  have EF3 := Lib.hid hF3
  clear hF3
  go_upto_region 3 with fail
  have HS2d := Lib.hid HS2.out.drew
  obtain ⟨c13, c14⟩ := HS2.out.c13
  go_region_held3 (fun W => W.cell? ⟨b, 13, none⟩ = some (.string ⟨x.burst.text.toArray⟩) ∧ W.cell? ⟨b, 14, none⟩ = some (.int .i64 (x.burst.at_ : Int)))
    (first | exact HS3.out.c13 | exact HU3.out.c13 | exact HS2d.out.c13)
    (first | (go_at_call 21; refine (value_any x.burst _ HVburst).mono ?_; rintro e u3 ⟨rfl, hb⟩; have HU3 := Lib.hid (HS2d.out.below hb); clear hb) | (go_at_call 63; refine (note_any g _ _ x.burst 1 _ HU3.out.row).mono ?_; rintro e v3 ⟨rfl, hrb, hrow⟩; rw [HF3.out _ (by simp only [decide_eq_true_eq]; omega)] at hrow; have HS3 := Lib.hid (HU3.out.note hrb hrow); clear hrb hrow))
  clear c13 c14
  obtain ⟨F4, hF4⟩ : ∃ y, y = noteF (decide (9 < valD x.rank.text ∨ (valD x.burst.text = 0 ∧ 0 < valD x.rank.text))) x.rank 1 F3 := ⟨_, rfl⟩
  have HF4 : Hid (∀ B : Bool, (B = true ↔ 9 < valD x.rank.text ∨ (valD x.burst.text = 0 ∧ 0 < valD x.rank.text)) → noteF B x.rank 1 F3 = F4) := fun B h => (note_iff h _ _ _).trans hF4.symm
  have EF4 := Lib.hid hF4
  clear hF4
  obtain ⟨F5, hF5⟩ : ∃ y, y = noteF (decide (12 < x.other.text.length)) x.other 2 F4 := ⟨_, rfl⟩
  have HF5 : Hid (∀ B : Bool, (B = true ↔ 12 < x.other.text.length) → noteF B x.other 2 F4 = F5) := fun B h => (note_iff h _ _ _).trans hF5.symm
  have EF5 := Lib.hid hF5
  clear hF5
  obtain ⟨F6, hF6⟩ : ∃ y, y = noteF (!known) x.other 4 F5 := ⟨_, rfl⟩
  have HF6 : Hid (noteF (!known) x.other 4 F5 = F6) := hF6.symm
  have EF6 := Lib.hid hF6
  clear hF6
  have HE : Hid (FF = F6) := by show _ = _; rw [HFF.out, EF6.out, EF5.out, EF4.out, EF3.out, EF2.out, EF1.out]; rfl
  go_upto_region 4 with fail
  have HS3d := Lib.hid HS3.out.drew
  obtain ⟨c15, c16⟩ := HS3.out.c15
  obtain ⟨c13, c14⟩ := HS3.out.c13
  by_cases hx9 : 9 < valD x.rank.text
  · have hi9 : (9 : Int) < ((valD x.rank.text : Nat) : Int) := by omega
    refine wp_region_held_drew (S := fun W => (W.cell? ⟨b, 15, none⟩ = some (.string ⟨x.rank.text.toArray⟩) ∧ W.cell? ⟨b, 16, none⟩ = some (.int .i64 (x.rank.at_ : Int))) ∧ (W.cell? ⟨b, 13, none⟩ = some (.string ⟨x.burst.text.toArray⟩) ∧ W.cell? ⟨b, 14, none⟩ = some (.int .i64 (x.burst.at_ : Int)))) (by kernel_rfl) ⟨HS3d.out.c15, HS3d.out.c13⟩ (fun hHeld => ?_)
    refine wpAnyH_take (i := 0) (v := ?_) (by simp only [List.getElem?_toArray, List.getElem?_cons_zero] <;> rfl) (by kernel_rfl) (by kernel_rfl) (by kernel_rfl) (by intro _ _ _ h; exact h) (Or.inl ⟨by rfl, ?_⟩) hHeld ?_
    rotate_left
    · intro w hSw; (try dsimp only at hSw); go_simp
      with_reducible rfl
    try simp only [Act.put, List.setIfInBounds_toArray, List.set_cons_zero, List.set_cons_succ]
    refine wpAnyH_take (i := 1) (v := ?_) (by simp only [List.getElem?_toArray, List.getElem?_cons_zero, List.getElem?_cons_succ] <;> rfl) (by kernel_rfl) (by kernel_rfl) (by kernel_rfl) (by intro _ _ _ h; exact h) (Or.inl ⟨by rfl, ?_⟩) hHeld ?_
    rotate_left
    · intro w hSw; (try dsimp only at hSw); go_simp
      with_reducible rfl
    try simp only [Act.put, List.setIfInBounds_toArray, List.set_cons_zero, List.set_cons_succ]
    refine wpAnyH_take (i := 17) (v := ?_) (by simp only [List.getElem?_toArray, List.getElem?_cons_zero, List.getElem?_cons_succ] <;> rfl) (by kernel_rfl) (by kernel_rfl) (by kernel_rfl) (by intro _ _ _ h; exact h) (Or.inl ⟨by rfl, ?_⟩) hHeld ?_
    rotate_left
    · intro w hSw; (try dsimp only at hSw); go_simp
      with_reducible rfl
    try simp only [Act.put, List.setIfInBounds_toArray, List.set_cons_zero, List.set_cons_succ]
    refine wpAnyH_take (i := 2) (v := ?_) (by simp only [List.getElem?_toArray, List.getElem?_cons_zero, List.getElem?_cons_succ] <;> rfl) (by kernel_rfl) (by kernel_rfl) (by kernel_rfl) (by intro _ _ _ h; exact h) (Or.inl ⟨by rfl, ?_⟩) hHeld ?_
    rotate_left
    · intro w hSw; (try dsimp only at hSw); go_simp
      with_reducible rfl
    try simp only [Act.put, List.setIfInBounds_toArray, List.set_cons_zero, List.set_cons_succ]
    refine wpAnyH_take (i := 18) (v := ?_) (by simp only [List.getElem?_toArray, List.getElem?_cons_zero, List.getElem?_cons_succ] <;> rfl) (by kernel_rfl) (by kernel_rfl) (by kernel_rfl) (by intro _ _ _ h; exact h) (Or.inl ⟨by rfl, ?_⟩) hHeld ?_
    rotate_left
    · intro w hSw; (try dsimp only at hSw); go_simp
      with_reducible rfl
    try simp only [Act.put, List.setIfInBounds_toArray, List.set_cons_zero, List.set_cons_succ]
    refine wpAnyH_ready (rs := [3]) (by kernel_rfl) (by simp) ?_
    refine AllReadyH.cons (by simp only [List.getElem?_toArray, List.getElem?_cons_zero, List.getElem?_cons_succ] <;> rfl) (fun K hK => ?_) AllReadyH.nil
    go_simp
    go_at_call 21
    refine (value_any x.rank _ HVrank).mono ?_
    rintro e u ⟨rfl, hb⟩
    have HW1 := Lib.hid (HS3d.out.below hb)
    clear hb
    refine hK.out _ _ ⟨HW1.out.c15, HW1.out.c13⟩ (fun hHeld => ?_)
    clear hK K
    try simp only [Act.put, List.setIfInBounds_toArray, List.set_cons_zero, List.set_cons_succ]
    refine wpAnyH_take (i := 4) (v := ?_) (by simp only [List.getElem?_toArray, List.getElem?_cons_zero, List.getElem?_cons_succ] <;> rfl) (by kernel_rfl) (by kernel_rfl) (by kernel_rfl) (by intro _ _ _ h; exact h) (Or.inl ⟨by rfl, ?_⟩) hHeld ?_
    rotate_left
    · intro w hSw; (try dsimp only at hSw); go_simp
      with_reducible rfl
    try simp only [Act.put, List.setIfInBounds_toArray, List.set_cons_zero, List.set_cons_succ]
    refine wpAnyH_take (i := 5) (v := ?_) (by simp only [List.getElem?_toArray, List.getElem?_cons_zero, List.getElem?_cons_succ] <;> rfl) (by kernel_rfl) (by kernel_rfl) (by kernel_rfl) (by intro _ _ _ h; exact h) (Or.inl ⟨by rfl, ?_⟩) hHeld ?_
    rotate_left
    · intro w hSw; (try dsimp only at hSw); go_simp
      with_reducible rfl
    try simp only [Act.put, List.setIfInBounds_toArray, List.set_cons_zero, List.set_cons_succ]
    refine wpAnyH_take (i := 6) (v := undef) (by simp only [List.getElem?_toArray, List.getElem?_cons_zero, List.getElem?_cons_succ] <;> rfl) (by kernel_rfl) (by kernel_rfl) (by kernel_rfl) (by intro _ _ _ h; exact h) (Or.inr ⟨by rfl, rfl⟩) hHeld ?_
    try simp only [Act.put, List.setIfInBounds_toArray, List.set_cons_zero, List.set_cons_succ]
    refine wpAnyH_take (i := 7) (v := undef) (by simp only [List.getElem?_toArray, List.getElem?_cons_zero, List.getElem?_cons_succ] <;> rfl) (by kernel_rfl) (by kernel_rfl) (by kernel_rfl) (by intro _ _ _ h; exact h) (Or.inr ⟨by rfl, rfl⟩) hHeld ?_
    try simp only [Act.put, List.setIfInBounds_toArray, List.set_cons_zero, List.set_cons_succ]
    refine wpAnyH_take (i := 8) (v := undef) (by simp only [List.getElem?_toArray, List.getElem?_cons_zero, List.getElem?_cons_succ] <;> rfl) (by kernel_rfl) (by kernel_rfl) (by kernel_rfl) (by intro _ _ _ h; exact h) (Or.inr ⟨by rfl, rfl⟩) hHeld ?_
    try simp only [Act.put, List.setIfInBounds_toArray, List.set_cons_zero, List.set_cons_succ]
    refine wpAnyH_take (i := 9) (v := undef) (by simp only [List.getElem?_toArray, List.getElem?_cons_zero, List.getElem?_cons_succ] <;> rfl) (by kernel_rfl) (by kernel_rfl) (by kernel_rfl) (by intro _ _ _ h; exact h) (Or.inr ⟨by rfl, rfl⟩) hHeld ?_
    try simp only [Act.put, List.setIfInBounds_toArray, List.set_cons_zero, List.set_cons_succ]
    refine wpAnyH_take (i := 10) (v := undef) (by simp only [List.getElem?_toArray, List.getElem?_cons_zero, List.getElem?_cons_succ] <;> rfl) (by kernel_rfl) (by kernel_rfl) (by kernel_rfl) (by intro _ _ _ h; exact h) (Or.inr ⟨by rfl, rfl⟩) hHeld ?_
    try simp only [Act.put, List.setIfInBounds_toArray, List.set_cons_zero, List.set_cons_succ]
    refine wpAnyH_take (i := 11) (v := undef) (by simp only [List.getElem?_toArray, List.getElem?_cons_zero, List.getElem?_cons_succ] <;> rfl) (by kernel_rfl) (by kernel_rfl) (by kernel_rfl) (by intro _ _ _ h; exact h) (Or.inr ⟨by rfl, rfl⟩) hHeld ?_
    try simp only [Act.put, List.setIfInBounds_toArray, List.set_cons_zero, List.set_cons_succ]
    refine wpAnyH_take (i := 12) (v := undef) (by simp only [List.getElem?_toArray, List.getElem?_cons_zero, List.getElem?_cons_succ] <;> rfl) (by kernel_rfl) (by kernel_rfl) (by kernel_rfl) (by intro _ _ _ h; exact h) (Or.inr ⟨by rfl, rfl⟩) hHeld ?_
    try simp only [Act.put, List.setIfInBounds_toArray, List.set_cons_zero, List.set_cons_succ]
    refine wpAnyH_take (i := 13) (v := undef) (by simp only [List.getElem?_toArray, List.getElem?_cons_zero, List.getElem?_cons_succ] <;> rfl) (by kernel_rfl) (by kernel_rfl) (by kernel_rfl) (by intro _ _ _ h; exact h) (Or.inr ⟨by rfl, rfl⟩) hHeld ?_
    try simp only [Act.put, List.setIfInBounds_toArray, List.set_cons_zero, List.set_cons_succ]
    refine wpAnyH_take (i := 14) (v := undef) (by simp only [List.getElem?_toArray, List.getElem?_cons_zero, List.getElem?_cons_succ] <;> rfl) (by kernel_rfl) (by kernel_rfl) (by kernel_rfl) (by intro _ _ _ h; exact h) (Or.inr ⟨by rfl, rfl⟩) hHeld ?_
    try simp only [Act.put, List.setIfInBounds_toArray, List.set_cons_zero, List.set_cons_succ]
    refine wpAnyH_take (i := 15) (v := undef) (by simp only [List.getElem?_toArray, List.getElem?_cons_zero, List.getElem?_cons_succ] <;> rfl) (by kernel_rfl) (by kernel_rfl) (by kernel_rfl) (by intro _ _ _ h; exact h) (Or.inr ⟨by rfl, rfl⟩) hHeld ?_
    try simp only [Act.put, List.setIfInBounds_toArray, List.set_cons_zero, List.set_cons_succ]
    refine wpAnyH_take (i := 16) (v := ?_) (by simp only [List.getElem?_toArray, List.getElem?_cons_zero, List.getElem?_cons_succ] <;> rfl) (by kernel_rfl) (by kernel_rfl) (by kernel_rfl) (by intro _ _ _ h; exact h) (Or.inl ⟨by rfl, ?_⟩) hHeld ?_
    rotate_left
    · intro w hSw; (try dsimp only at hSw); go_simp
      with_reducible rfl
    try simp only [Act.put, List.setIfInBounds_toArray, List.set_cons_zero, List.set_cons_succ]
    refine wpAnyH_ready (rs := [19]) (by kernel_rfl) (by simp) ?_
    refine AllReadyH.cons (by simp only [List.getElem?_toArray, List.getElem?_cons_zero, List.getElem?_cons_succ] <;> rfl) (fun K hK => ?_) AllReadyH.nil
    go_simp
    go_at_call 63
    refine (note_any g _ _ x.rank 1 _ HW1.out.row).mono ?_
    rintro e v4 ⟨rfl, hrb, hrow⟩
    rw [HF4.out _ (by first | exact ⟨fun _ => Or.inl hx9, fun _ => rfl⟩ | exact ⟨fun h => (by cases h), fun h => absurd h (by omega)⟩ | (simp only [decide_eq_true_eq]; omega))] at hrow
    have HS4 := Lib.hid (HW1.out.note hrb hrow)
    clear hrb hrow
    refine hK.out _ _ ⟨HS4.out.c15, HS4.out.c13⟩ (fun hHeld => ?_)
    clear hK K
    try simp only [Act.put, List.setIfInBounds_toArray, List.set_cons_zero, List.set_cons_succ]
    refine wpAnyH_done (by kernel_rfl) ?_ _
    clear hHeld

    clear c13 c14 c15 c16
    obtain ⟨c3, c4⟩ := HS4.out.c3
    go_wp2_with fail
    refine (note_any g _ _ x.other 2 _ HS4.out.row).mono ?_
    rintro e v5 ⟨rfl, hrb, hrow⟩
    rw [HF5.out _ (by simp only [decide_eq_true_eq]; omega)] at hrow
    have HS5 := Lib.hid (HS4.out.note hrb hrow)
    clear hrb hrow c3 c4
    obtain ⟨c3, c4⟩ := HS5.out.c3
    go_wp2_with fail
    refine (note_any g _ _ x.other 4 _ HS5.out.row).mono ?_
    rintro e v6 ⟨rfl, hrb, hrow⟩
    rw [HF6.out] at hrow
    have HS6 := Lib.hid (HS5.out.note hrb hrow)
    clear hrb hrow c3 c4
    go_wp2_with fail
    refine bodyPost_end (results_none rfl _ _ _) rfl ?_
    rw [HE.out]
    exact ⟨rfl, HS6.out.rb, HS6.out.row⟩
  have hi9 : ¬ (9 : Int) < ((valD x.rank.text : Nat) : Int) := by omega
  by_cases hb0 : valD x.burst.text = 0
  · have hib : (((valD x.burst.text : Nat) : Int) == 0) = true := by rw [beq_iff_eq]; omega
    refine wp_region_held_drew (S := fun W => (W.cell? ⟨b, 15, none⟩ = some (.string ⟨x.rank.text.toArray⟩) ∧ W.cell? ⟨b, 16, none⟩ = some (.int .i64 (x.rank.at_ : Int))) ∧ (W.cell? ⟨b, 13, none⟩ = some (.string ⟨x.burst.text.toArray⟩) ∧ W.cell? ⟨b, 14, none⟩ = some (.int .i64 (x.burst.at_ : Int)))) (by kernel_rfl) ⟨HS3d.out.c15, HS3d.out.c13⟩ (fun hHeld => ?_)
    refine wpAnyH_take (i := 0) (v := ?_) (by simp only [List.getElem?_toArray, List.getElem?_cons_zero] <;> rfl) (by kernel_rfl) (by kernel_rfl) (by kernel_rfl) (by intro _ _ _ h; exact h) (Or.inl ⟨by rfl, ?_⟩) hHeld ?_
    rotate_left
    · intro w hSw; (try dsimp only at hSw); go_simp
      with_reducible rfl
    try simp only [Act.put, List.setIfInBounds_toArray, List.set_cons_zero, List.set_cons_succ]
    refine wpAnyH_take (i := 1) (v := ?_) (by simp only [List.getElem?_toArray, List.getElem?_cons_zero, List.getElem?_cons_succ] <;> rfl) (by kernel_rfl) (by kernel_rfl) (by kernel_rfl) (by intro _ _ _ h; exact h) (Or.inl ⟨by rfl, ?_⟩) hHeld ?_
    rotate_left
    · intro w hSw; (try dsimp only at hSw); go_simp
      with_reducible rfl
    try simp only [Act.put, List.setIfInBounds_toArray, List.set_cons_zero, List.set_cons_succ]
    refine wpAnyH_take (i := 17) (v := ?_) (by simp only [List.getElem?_toArray, List.getElem?_cons_zero, List.getElem?_cons_succ] <;> rfl) (by kernel_rfl) (by kernel_rfl) (by kernel_rfl) (by intro _ _ _ h; exact h) (Or.inl ⟨by rfl, ?_⟩) hHeld ?_
    rotate_left
    · intro w hSw; (try dsimp only at hSw); go_simp
      with_reducible rfl
    try simp only [Act.put, List.setIfInBounds_toArray, List.set_cons_zero, List.set_cons_succ]
    refine wpAnyH_take (i := 2) (v := ?_) (by simp only [List.getElem?_toArray, List.getElem?_cons_zero, List.getElem?_cons_succ] <;> rfl) (by kernel_rfl) (by kernel_rfl) (by kernel_rfl) (by intro _ _ _ h; exact h) (Or.inl ⟨by rfl, ?_⟩) hHeld ?_
    rotate_left
    · intro w hSw; (try dsimp only at hSw); go_simp
      with_reducible rfl
    try simp only [Act.put, List.setIfInBounds_toArray, List.set_cons_zero, List.set_cons_succ]
    refine wpAnyH_take (i := 18) (v := ?_) (by simp only [List.getElem?_toArray, List.getElem?_cons_zero, List.getElem?_cons_succ] <;> rfl) (by kernel_rfl) (by kernel_rfl) (by kernel_rfl) (by intro _ _ _ h; exact h) (Or.inl ⟨by rfl, ?_⟩) hHeld ?_
    rotate_left
    · intro w hSw; (try dsimp only at hSw); go_simp
      with_reducible rfl
    try simp only [Act.put, List.setIfInBounds_toArray, List.set_cons_zero, List.set_cons_succ]
    refine wpAnyH_ready (rs := [3]) (by kernel_rfl) (by simp) ?_
    refine AllReadyH.cons (by simp only [List.getElem?_toArray, List.getElem?_cons_zero, List.getElem?_cons_succ] <;> rfl) (fun K hK => ?_) AllReadyH.nil
    go_simp
    go_at_call 21
    refine (value_any x.rank _ HVrank).mono ?_
    rintro e u ⟨rfl, hb⟩
    have HW1 := Lib.hid (HS3d.out.below hb)
    clear hb
    refine hK.out _ _ ⟨HW1.out.c15, HW1.out.c13⟩ (fun hHeld => ?_)
    clear hK K
    try simp only [Act.put, List.setIfInBounds_toArray, List.set_cons_zero, List.set_cons_succ]
    refine wpAnyH_take (i := 4) (v := ?_) (by simp only [List.getElem?_toArray, List.getElem?_cons_zero, List.getElem?_cons_succ] <;> rfl) (by kernel_rfl) (by kernel_rfl) (by kernel_rfl) (by intro _ _ _ h; exact h) (Or.inl ⟨by rfl, ?_⟩) hHeld ?_
    rotate_left
    · intro w hSw; (try dsimp only at hSw); go_simp
      with_reducible rfl
    try simp only [Act.put, List.setIfInBounds_toArray, List.set_cons_zero, List.set_cons_succ]
    refine wpAnyH_take (i := 5) (v := ?_) (by simp only [List.getElem?_toArray, List.getElem?_cons_zero, List.getElem?_cons_succ] <;> rfl) (by kernel_rfl) (by kernel_rfl) (by kernel_rfl) (by intro _ _ _ h; exact h) (Or.inl ⟨by rfl, ?_⟩) hHeld ?_
    rotate_left
    · intro w hSw; (try dsimp only at hSw); go_simp
      with_reducible rfl
    try simp only [Act.put, List.setIfInBounds_toArray, List.set_cons_zero, List.set_cons_succ]
    refine wpAnyH_take (i := 6) (v := ?_) (by simp only [List.getElem?_toArray, List.getElem?_cons_zero, List.getElem?_cons_succ] <;> rfl) (by kernel_rfl) (by kernel_rfl) (by kernel_rfl) (by intro _ _ _ h; exact h) (Or.inl ⟨by rfl, ?_⟩) hHeld ?_
    rotate_left
    · intro w hSw; (try dsimp only at hSw); go_simp
      with_reducible rfl
    try simp only [Act.put, List.setIfInBounds_toArray, List.set_cons_zero, List.set_cons_succ]
    refine wpAnyH_take (i := 7) (v := ?_) (by simp only [List.getElem?_toArray, List.getElem?_cons_zero, List.getElem?_cons_succ] <;> rfl) (by kernel_rfl) (by kernel_rfl) (by kernel_rfl) (by intro _ _ _ h; exact h) (Or.inl ⟨by rfl, ?_⟩) hHeld ?_
    rotate_left
    · intro w hSw; (try dsimp only at hSw); go_simp
      with_reducible rfl
    try simp only [Act.put, List.setIfInBounds_toArray, List.set_cons_zero, List.set_cons_succ]
    refine wpAnyH_ready (rs := [8]) (by kernel_rfl) (by simp) ?_
    refine AllReadyH.cons (by simp only [List.getElem?_toArray, List.getElem?_cons_zero, List.getElem?_cons_succ] <;> rfl) (fun K hK => ?_) AllReadyH.nil
    go_simp
    go_at_call 21
    refine (value_any x.burst _ HVburst).mono ?_
    rintro e u ⟨rfl, hb⟩
    have HW2 := Lib.hid (HW1.out.below hb)
    clear hb
    refine hK.out _ _ ⟨HW2.out.c15, HW2.out.c13⟩ (fun hHeld => ?_)
    clear hK K
    try simp only [Act.put, List.setIfInBounds_toArray, List.set_cons_zero, List.set_cons_succ]
    refine wpAnyH_take (i := 9) (v := ?_) (by simp only [List.getElem?_toArray, List.getElem?_cons_zero, List.getElem?_cons_succ] <;> rfl) (by kernel_rfl) (by kernel_rfl) (by kernel_rfl) (by intro _ _ _ h; exact h) (Or.inl ⟨by rfl, ?_⟩) hHeld ?_
    rotate_left
    · intro w hSw; (try dsimp only at hSw); go_simp
      with_reducible rfl
    try simp only [Act.put, List.setIfInBounds_toArray, List.set_cons_zero, List.set_cons_succ]
    refine wpAnyH_take (i := 10) (v := ?_) (by simp only [List.getElem?_toArray, List.getElem?_cons_zero, List.getElem?_cons_succ] <;> rfl) (by kernel_rfl) (by kernel_rfl) (by kernel_rfl) (by intro _ _ _ h; exact h) (Or.inl ⟨by rfl, ?_⟩) hHeld ?_
    rotate_left
    · intro w hSw; (try dsimp only at hSw); go_simp
      with_reducible rfl
    try simp only [Act.put, List.setIfInBounds_toArray, List.set_cons_zero, List.set_cons_succ]
    refine wpAnyH_take (i := 11) (v := ?_) (by simp only [List.getElem?_toArray, List.getElem?_cons_zero, List.getElem?_cons_succ] <;> rfl) (by kernel_rfl) (by kernel_rfl) (by kernel_rfl) (by intro _ _ _ h; exact h) (Or.inl ⟨by rfl, ?_⟩) hHeld ?_
    rotate_left
    · intro w hSw; (try dsimp only at hSw); go_simp
      with_reducible rfl
    try simp only [Act.put, List.setIfInBounds_toArray, List.set_cons_zero, List.set_cons_succ]
    refine wpAnyH_take (i := 12) (v := ?_) (by simp only [List.getElem?_toArray, List.getElem?_cons_zero, List.getElem?_cons_succ] <;> rfl) (by kernel_rfl) (by kernel_rfl) (by kernel_rfl) (by intro _ _ _ h; exact h) (Or.inl ⟨by rfl, ?_⟩) hHeld ?_
    rotate_left
    · intro w hSw; (try dsimp only at hSw); go_simp
      with_reducible rfl
    try simp only [Act.put, List.setIfInBounds_toArray, List.set_cons_zero, List.set_cons_succ]
    refine wpAnyH_ready (rs := [13]) (by kernel_rfl) (by simp) ?_
    refine AllReadyH.cons (by simp only [List.getElem?_toArray, List.getElem?_cons_zero, List.getElem?_cons_succ] <;> rfl) (fun K hK => ?_) AllReadyH.nil
    go_simp
    go_at_call 21
    refine (value_any x.rank _ HVrank).mono ?_
    rintro e u ⟨rfl, hb⟩
    have HW3 := Lib.hid (HW2.out.below hb)
    clear hb
    refine hK.out _ _ ⟨HW3.out.c15, HW3.out.c13⟩ (fun hHeld => ?_)
    clear hK K
    try simp only [Act.put, List.setIfInBounds_toArray, List.set_cons_zero, List.set_cons_succ]
    refine wpAnyH_take (i := 14) (v := ?_) (by simp only [List.getElem?_toArray, List.getElem?_cons_zero, List.getElem?_cons_succ] <;> rfl) (by kernel_rfl) (by kernel_rfl) (by kernel_rfl) (by intro _ _ _ h; exact h) (Or.inl ⟨by rfl, ?_⟩) hHeld ?_
    rotate_left
    · intro w hSw; (try dsimp only at hSw); go_simp
      with_reducible rfl
    try simp only [Act.put, List.setIfInBounds_toArray, List.set_cons_zero, List.set_cons_succ]
    refine wpAnyH_take (i := 15) (v := ?_) (by simp only [List.getElem?_toArray, List.getElem?_cons_zero, List.getElem?_cons_succ] <;> rfl) (by kernel_rfl) (by kernel_rfl) (by kernel_rfl) (by intro _ _ _ h; exact h) (Or.inl ⟨by rfl, ?_⟩) hHeld ?_
    rotate_left
    · intro w hSw; (try dsimp only at hSw); go_simp
      with_reducible rfl
    try simp only [Act.put, List.setIfInBounds_toArray, List.set_cons_zero, List.set_cons_succ]
    refine wpAnyH_take (i := 16) (v := ?_) (by simp only [List.getElem?_toArray, List.getElem?_cons_zero, List.getElem?_cons_succ] <;> rfl) (by kernel_rfl) (by kernel_rfl) (by kernel_rfl) (by intro _ _ _ h; exact h) (Or.inl ⟨by rfl, ?_⟩) hHeld ?_
    rotate_left
    · intro w hSw; (try dsimp only at hSw); go_simp
      with_reducible rfl
    try simp only [Act.put, List.setIfInBounds_toArray, List.set_cons_zero, List.set_cons_succ]
    refine wpAnyH_ready (rs := [19]) (by kernel_rfl) (by simp) ?_
    refine AllReadyH.cons (by simp only [List.getElem?_toArray, List.getElem?_cons_zero, List.getElem?_cons_succ] <;> rfl) (fun K hK => ?_) AllReadyH.nil
    go_simp
    go_at_call 63
    refine (note_any g _ _ x.rank 1 _ HW3.out.row).mono ?_
    rintro e v4 ⟨rfl, hrb, hrow⟩
    rw [HF4.out _ (by first | exact ⟨fun _ => Or.inl hx9, fun _ => rfl⟩ | exact ⟨fun h => (by cases h), fun h => absurd h (by omega)⟩ | (simp only [decide_eq_true_eq]; omega))] at hrow
    have HS4 := Lib.hid (HW3.out.note hrb hrow)
    clear hrb hrow
    refine hK.out _ _ ⟨HS4.out.c15, HS4.out.c13⟩ (fun hHeld => ?_)
    clear hK K
    try simp only [Act.put, List.setIfInBounds_toArray, List.set_cons_zero, List.set_cons_succ]
    refine wpAnyH_done (by kernel_rfl) ?_ _
    clear hHeld

    clear c13 c14 c15 c16
    obtain ⟨c3, c4⟩ := HS4.out.c3
    go_wp2_with fail
    refine (note_any g _ _ x.other 2 _ HS4.out.row).mono ?_
    rintro e v5 ⟨rfl, hrb, hrow⟩
    rw [HF5.out _ (by simp only [decide_eq_true_eq]; omega)] at hrow
    have HS5 := Lib.hid (HS4.out.note hrb hrow)
    clear hrb hrow c3 c4
    obtain ⟨c3, c4⟩ := HS5.out.c3
    go_wp2_with fail
    refine (note_any g _ _ x.other 4 _ HS5.out.row).mono ?_
    rintro e v6 ⟨rfl, hrb, hrow⟩
    rw [HF6.out] at hrow
    have HS6 := Lib.hid (HS5.out.note hrb hrow)
    clear hrb hrow c3 c4
    go_wp2_with fail
    refine bodyPost_end (results_none rfl _ _ _) rfl ?_
    rw [HE.out]
    exact ⟨rfl, HS6.out.rb, HS6.out.row⟩
  have hib : (((valD x.burst.text : Nat) : Int) == 0) = false := by rw [beq_eq_false_iff_ne]; omega
  refine wp_region_held_drew (S := fun W => (W.cell? ⟨b, 15, none⟩ = some (.string ⟨x.rank.text.toArray⟩) ∧ W.cell? ⟨b, 16, none⟩ = some (.int .i64 (x.rank.at_ : Int))) ∧ (W.cell? ⟨b, 13, none⟩ = some (.string ⟨x.burst.text.toArray⟩) ∧ W.cell? ⟨b, 14, none⟩ = some (.int .i64 (x.burst.at_ : Int)))) (by kernel_rfl) ⟨HS3d.out.c15, HS3d.out.c13⟩ (fun hHeld => ?_)
  refine wpAnyH_take (i := 0) (v := ?_) (by simp only [List.getElem?_toArray, List.getElem?_cons_zero] <;> rfl) (by kernel_rfl) (by kernel_rfl) (by kernel_rfl) (by intro _ _ _ h; exact h) (Or.inl ⟨by rfl, ?_⟩) hHeld ?_
  rotate_left
  · intro w hSw; (try dsimp only at hSw); go_simp
    with_reducible rfl
  try simp only [Act.put, List.setIfInBounds_toArray, List.set_cons_zero, List.set_cons_succ]
  refine wpAnyH_take (i := 1) (v := ?_) (by simp only [List.getElem?_toArray, List.getElem?_cons_zero, List.getElem?_cons_succ] <;> rfl) (by kernel_rfl) (by kernel_rfl) (by kernel_rfl) (by intro _ _ _ h; exact h) (Or.inl ⟨by rfl, ?_⟩) hHeld ?_
  rotate_left
  · intro w hSw; (try dsimp only at hSw); go_simp
    with_reducible rfl
  try simp only [Act.put, List.setIfInBounds_toArray, List.set_cons_zero, List.set_cons_succ]
  refine wpAnyH_take (i := 17) (v := ?_) (by simp only [List.getElem?_toArray, List.getElem?_cons_zero, List.getElem?_cons_succ] <;> rfl) (by kernel_rfl) (by kernel_rfl) (by kernel_rfl) (by intro _ _ _ h; exact h) (Or.inl ⟨by rfl, ?_⟩) hHeld ?_
  rotate_left
  · intro w hSw; (try dsimp only at hSw); go_simp
    with_reducible rfl
  try simp only [Act.put, List.setIfInBounds_toArray, List.set_cons_zero, List.set_cons_succ]
  refine wpAnyH_take (i := 2) (v := ?_) (by simp only [List.getElem?_toArray, List.getElem?_cons_zero, List.getElem?_cons_succ] <;> rfl) (by kernel_rfl) (by kernel_rfl) (by kernel_rfl) (by intro _ _ _ h; exact h) (Or.inl ⟨by rfl, ?_⟩) hHeld ?_
  rotate_left
  · intro w hSw; (try dsimp only at hSw); go_simp
    with_reducible rfl
  try simp only [Act.put, List.setIfInBounds_toArray, List.set_cons_zero, List.set_cons_succ]
  refine wpAnyH_take (i := 18) (v := ?_) (by simp only [List.getElem?_toArray, List.getElem?_cons_zero, List.getElem?_cons_succ] <;> rfl) (by kernel_rfl) (by kernel_rfl) (by kernel_rfl) (by intro _ _ _ h; exact h) (Or.inl ⟨by rfl, ?_⟩) hHeld ?_
  rotate_left
  · intro w hSw; (try dsimp only at hSw); go_simp
    with_reducible rfl
  try simp only [Act.put, List.setIfInBounds_toArray, List.set_cons_zero, List.set_cons_succ]
  refine wpAnyH_ready (rs := [3]) (by kernel_rfl) (by simp) ?_
  refine AllReadyH.cons (by simp only [List.getElem?_toArray, List.getElem?_cons_zero, List.getElem?_cons_succ] <;> rfl) (fun K hK => ?_) AllReadyH.nil
  go_simp
  go_at_call 21
  refine (value_any x.rank _ HVrank).mono ?_
  rintro e u ⟨rfl, hb⟩
  have HW1 := Lib.hid (HS3d.out.below hb)
  clear hb
  refine hK.out _ _ ⟨HW1.out.c15, HW1.out.c13⟩ (fun hHeld => ?_)
  clear hK K
  try simp only [Act.put, List.setIfInBounds_toArray, List.set_cons_zero, List.set_cons_succ]
  refine wpAnyH_take (i := 4) (v := ?_) (by simp only [List.getElem?_toArray, List.getElem?_cons_zero, List.getElem?_cons_succ] <;> rfl) (by kernel_rfl) (by kernel_rfl) (by kernel_rfl) (by intro _ _ _ h; exact h) (Or.inl ⟨by rfl, ?_⟩) hHeld ?_
  rotate_left
  · intro w hSw; (try dsimp only at hSw); go_simp
    with_reducible rfl
  try simp only [Act.put, List.setIfInBounds_toArray, List.set_cons_zero, List.set_cons_succ]
  refine wpAnyH_take (i := 5) (v := ?_) (by simp only [List.getElem?_toArray, List.getElem?_cons_zero, List.getElem?_cons_succ] <;> rfl) (by kernel_rfl) (by kernel_rfl) (by kernel_rfl) (by intro _ _ _ h; exact h) (Or.inl ⟨by rfl, ?_⟩) hHeld ?_
  rotate_left
  · intro w hSw; (try dsimp only at hSw); go_simp
    with_reducible rfl
  try simp only [Act.put, List.setIfInBounds_toArray, List.set_cons_zero, List.set_cons_succ]
  refine wpAnyH_take (i := 6) (v := ?_) (by simp only [List.getElem?_toArray, List.getElem?_cons_zero, List.getElem?_cons_succ] <;> rfl) (by kernel_rfl) (by kernel_rfl) (by kernel_rfl) (by intro _ _ _ h; exact h) (Or.inl ⟨by rfl, ?_⟩) hHeld ?_
  rotate_left
  · intro w hSw; (try dsimp only at hSw); go_simp
    with_reducible rfl
  try simp only [Act.put, List.setIfInBounds_toArray, List.set_cons_zero, List.set_cons_succ]
  refine wpAnyH_take (i := 7) (v := ?_) (by simp only [List.getElem?_toArray, List.getElem?_cons_zero, List.getElem?_cons_succ] <;> rfl) (by kernel_rfl) (by kernel_rfl) (by kernel_rfl) (by intro _ _ _ h; exact h) (Or.inl ⟨by rfl, ?_⟩) hHeld ?_
  rotate_left
  · intro w hSw; (try dsimp only at hSw); go_simp
    with_reducible rfl
  try simp only [Act.put, List.setIfInBounds_toArray, List.set_cons_zero, List.set_cons_succ]
  refine wpAnyH_ready (rs := [8]) (by kernel_rfl) (by simp) ?_
  refine AllReadyH.cons (by simp only [List.getElem?_toArray, List.getElem?_cons_zero, List.getElem?_cons_succ] <;> rfl) (fun K hK => ?_) AllReadyH.nil
  go_simp
  go_at_call 21
  refine (value_any x.burst _ HVburst).mono ?_
  rintro e u ⟨rfl, hb⟩
  have HW2 := Lib.hid (HW1.out.below hb)
  clear hb
  refine hK.out _ _ ⟨HW2.out.c15, HW2.out.c13⟩ (fun hHeld => ?_)
  clear hK K
  try simp only [Act.put, List.setIfInBounds_toArray, List.set_cons_zero, List.set_cons_succ]
  refine wpAnyH_take (i := 9) (v := ?_) (by simp only [List.getElem?_toArray, List.getElem?_cons_zero, List.getElem?_cons_succ] <;> rfl) (by kernel_rfl) (by kernel_rfl) (by kernel_rfl) (by intro _ _ _ h; exact h) (Or.inl ⟨by rfl, ?_⟩) hHeld ?_
  rotate_left
  · intro w hSw; (try dsimp only at hSw); go_simp
    with_reducible rfl
  try simp only [Act.put, List.setIfInBounds_toArray, List.set_cons_zero, List.set_cons_succ]
  refine wpAnyH_take (i := 10) (v := ?_) (by simp only [List.getElem?_toArray, List.getElem?_cons_zero, List.getElem?_cons_succ] <;> rfl) (by kernel_rfl) (by kernel_rfl) (by kernel_rfl) (by intro _ _ _ h; exact h) (Or.inl ⟨by rfl, ?_⟩) hHeld ?_
  rotate_left
  · intro w hSw; (try dsimp only at hSw); go_simp
    with_reducible rfl
  try simp only [Act.put, List.setIfInBounds_toArray, List.set_cons_zero, List.set_cons_succ]
  refine wpAnyH_take (i := 11) (v := undef) (by simp only [List.getElem?_toArray, List.getElem?_cons_zero, List.getElem?_cons_succ] <;> rfl) (by kernel_rfl) (by kernel_rfl) (by kernel_rfl) (by intro _ _ _ h; exact h) (Or.inr ⟨by rfl, rfl⟩) hHeld ?_
  try simp only [Act.put, List.setIfInBounds_toArray, List.set_cons_zero, List.set_cons_succ]
  refine wpAnyH_take (i := 12) (v := undef) (by simp only [List.getElem?_toArray, List.getElem?_cons_zero, List.getElem?_cons_succ] <;> rfl) (by kernel_rfl) (by kernel_rfl) (by kernel_rfl) (by intro _ _ _ h; exact h) (Or.inr ⟨by rfl, rfl⟩) hHeld ?_
  try simp only [Act.put, List.setIfInBounds_toArray, List.set_cons_zero, List.set_cons_succ]
  refine wpAnyH_take (i := 13) (v := undef) (by simp only [List.getElem?_toArray, List.getElem?_cons_zero, List.getElem?_cons_succ] <;> rfl) (by kernel_rfl) (by kernel_rfl) (by kernel_rfl) (by intro _ _ _ h; exact h) (Or.inr ⟨by rfl, rfl⟩) hHeld ?_
  try simp only [Act.put, List.setIfInBounds_toArray, List.set_cons_zero, List.set_cons_succ]
  refine wpAnyH_take (i := 14) (v := undef) (by simp only [List.getElem?_toArray, List.getElem?_cons_zero, List.getElem?_cons_succ] <;> rfl) (by kernel_rfl) (by kernel_rfl) (by kernel_rfl) (by intro _ _ _ h; exact h) (Or.inr ⟨by rfl, rfl⟩) hHeld ?_
  try simp only [Act.put, List.setIfInBounds_toArray, List.set_cons_zero, List.set_cons_succ]
  refine wpAnyH_take (i := 15) (v := ?_) (by simp only [List.getElem?_toArray, List.getElem?_cons_zero, List.getElem?_cons_succ] <;> rfl) (by kernel_rfl) (by kernel_rfl) (by kernel_rfl) (by intro _ _ _ h; exact h) (Or.inl ⟨by rfl, ?_⟩) hHeld ?_
  rotate_left
  · intro w hSw; (try dsimp only at hSw); go_simp
    with_reducible rfl
  try simp only [Act.put, List.setIfInBounds_toArray, List.set_cons_zero, List.set_cons_succ]
  refine wpAnyH_take (i := 16) (v := ?_) (by simp only [List.getElem?_toArray, List.getElem?_cons_zero, List.getElem?_cons_succ] <;> rfl) (by kernel_rfl) (by kernel_rfl) (by kernel_rfl) (by intro _ _ _ h; exact h) (Or.inl ⟨by rfl, ?_⟩) hHeld ?_
  rotate_left
  · intro w hSw; (try dsimp only at hSw); go_simp
    with_reducible rfl
  try simp only [Act.put, List.setIfInBounds_toArray, List.set_cons_zero, List.set_cons_succ]
  refine wpAnyH_ready (rs := [19]) (by kernel_rfl) (by simp) ?_
  refine AllReadyH.cons (by simp only [List.getElem?_toArray, List.getElem?_cons_zero, List.getElem?_cons_succ] <;> rfl) (fun K hK => ?_) AllReadyH.nil
  go_simp
  go_at_call 63
  refine (note_any g _ _ x.rank 1 _ HW2.out.row).mono ?_
  rintro e v4 ⟨rfl, hrb, hrow⟩
  rw [HF4.out _ (by first | exact ⟨fun _ => Or.inl hx9, fun _ => rfl⟩ | exact ⟨fun h => (by cases h), fun h => absurd h (by omega)⟩ | (simp only [decide_eq_true_eq]; omega))] at hrow
  have HS4 := Lib.hid (HW2.out.note hrb hrow)
  clear hrb hrow
  refine hK.out _ _ ⟨HS4.out.c15, HS4.out.c13⟩ (fun hHeld => ?_)
  clear hK K
  try simp only [Act.put, List.setIfInBounds_toArray, List.set_cons_zero, List.set_cons_succ]
  refine wpAnyH_done (by kernel_rfl) ?_ _
  clear hHeld

  clear c13 c14 c15 c16
  obtain ⟨c3, c4⟩ := HS4.out.c3
  go_wp2_with fail
  refine (note_any g _ _ x.other 2 _ HS4.out.row).mono ?_
  rintro e v5 ⟨rfl, hrb, hrow⟩
  rw [HF5.out _ (by simp only [decide_eq_true_eq]; omega)] at hrow
  have HS5 := Lib.hid (HS4.out.note hrb hrow)
  clear hrb hrow c3 c4
  obtain ⟨c3, c4⟩ := HS5.out.c3
  go_wp2_with fail
  refine (note_any g _ _ x.other 4 _ HS5.out.row).mono ?_
  rintro e v6 ⟨rfl, hrb, hrow⟩
  rw [HF6.out] at hrow
  have HS6 := Lib.hid (HS5.out.note hrb hrow)
  clear hrb hrow c3 c4
  go_wp2_with fail
  refine bodyPost_end (results_none rfl _ _ _) rfl ?_
  rw [HE.out]
  exact ⟨rfl, HS6.out.rb, HS6.out.row⟩
end Go.Proofs.YtimmffncfkcpfaaGreatDoor
namespace Go.Proofs.YtimmffncfkcpfaaGreatDoor
open Go Go.RowKit Go.Walks

/-- While the terms are built. -/
structure PA (w : World) (Ax : Option Addr) (xs : List RItem) (gt : Nat) (T : TermsD) (A : Option Addr) (n c : Nat) (A' : Option Addr) (m d : Nat) (W : World) : Prop where
  below : Below w.heap.size w W
  res : W.heap[w.heap.size]? = some (.cells #[.slice none 0 0, .slice none 0 0, .int .i64 0, .int .i64 0, .int .i64 0] 33)
  items : SlT W W.heap.size 75 Ax (xs.flatMap itemL)
  ts : TS w.heap.size gt T A n c A' m d W
section
variable {w W W' : World} {Ax A A' A5 : Option Addr} {xs : List RItem} {gt n c m d c5 : Nat} {T : TermsD}
theorem PA.call (h : PA w Ax xs gt T A n c A' m d W) (hb : Below W.heap.size W W') : PA w Ax xs gt T A n c A' m d W' :=
  ⟨h.below.trans (hb.mono h.below.size), below_cells h.res hb, h.items.below hb hb.size, h.ts.below hb⟩
theorem PA.pushC (h : PA w Ax xs gt T A n c A' m d W) {C : ClassD} {o : Obj} (ho : W'.ownsRow w.heap.size 38 4 (.slice A5 (n + 1) c5) (n + 1) (T.classes.flatMap clsCs ++ clsCs C)) (hg : (W.alloc o).grownBy W' (Value.slice A n c).ownBlock) :
    PA w Ax xs gt ⟨T.classes ++ [C], T.contracts⟩ A5 (n + 1) c5 A' m d (W'.setCell ⟨gt, 0, none⟩ (.slice A5 (n + 1) c5)) := by
  have hrow := (row_grownOwn h.ts.own1 hg h.ts.row (by decide)).trans h.ts.row
  have k46 := (keep_append (ty := 46) (by decide) h.ts.own1 hg).trans (KeepT.setCell hrow (by decide) 0 (.slice A5 (n + 1) c5))
  have k75 := (keep_append (ty := 75) (by decide) h.ts.own1 hg).trans (KeepT.setCell hrow (by decide) 0 (.slice A5 (n + 1) c5))
  have k33 := (keep_append (ty := 33) (by decide) h.ts.own1 hg).trans (KeepT.setCell hrow (by decide) 0 (.slice A5 (n + 1) c5))
  refine ⟨(below_append h.below h.ts.own1 hg).setCell (p := ⟨gt, 0, none⟩) h.ts.le _, k33.keep _ _ _ h.res, h.items.keepT k75 k75.size, ⟨set_at hrow 0 _, ?_, own_keepT h.ts.own2 k46, by rw [h.ts.len1, List.length_append]; rfl, h.ts.len2, h.ts.le⟩⟩
  rw [List.flatMap_append, List.flatMap_cons, List.flatMap_nil, List.append_nil]
  exact own_setCell ho hrow (by decide) 0 _
theorem PA.pushD (h : PA w Ax xs gt T A n c A' m d W) {D : ContrD} {o : Obj} (ho : W'.ownsRow w.heap.size 46 6 (.slice A5 (m + 1) c5) (m + 1) (T.contracts.flatMap ctrCs ++ ctrCs D)) (hg : (W.alloc o).grownBy W' (Value.slice A' m d).ownBlock) :
    PA w Ax xs gt ⟨T.classes, T.contracts ++ [D]⟩ A n c A5 (m + 1) c5 (W'.setCell ⟨gt, 1, none⟩ (.slice A5 (m + 1) c5)) := by
  have hrow := (row_grownOwn h.ts.own2 hg h.ts.row (by decide)).trans h.ts.row
  have k38 := (keep_append (ty := 38) (by decide) h.ts.own2 hg).trans (KeepT.setCell hrow (by decide) 1 (.slice A5 (m + 1) c5))
  have k75 := (keep_append (ty := 75) (by decide) h.ts.own2 hg).trans (KeepT.setCell hrow (by decide) 1 (.slice A5 (m + 1) c5))
  have k33 := (keep_append (ty := 33) (by decide) h.ts.own2 hg).trans (KeepT.setCell hrow (by decide) 1 (.slice A5 (m + 1) c5))
  refine ⟨(below_append h.below h.ts.own2 hg).setCell (p := ⟨gt, 1, none⟩) h.ts.le _, k33.keep _ _ _ h.res, h.items.keepT k75 k75.size, ⟨set_at hrow 1 _, own_keepT h.ts.own1 k38, ?_, h.ts.len1, by rw [h.ts.len2, List.length_append]; rfl, h.ts.le⟩⟩
  rw [List.flatMap_append, List.flatMap_cons, List.flatMap_nil, List.append_nil]
  exact own_setCell ho hrow (by decide) 1 _
end
theorem below_setRow2 {B g : Nat} {a w : World} (h : Below B a w) (hg : B ≤ g) (cs : Array Value) : Below B a (w.setRow g cs) :=
  ⟨h.os, h.tape, h.output, by rw [setRow_size]; exact h.size, fun k hk => (setRow_other _ _ _ _ (by omega)).trans (h.block k hk)⟩
end Go.Proofs.YtimmffncfkcpfaaGreatDoor
