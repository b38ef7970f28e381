/-
  The plain words, third part: a tree in memory when a mapped block is cleared. No program is run here.
-/
import Derived.Test.YtognbkmamhgkeaaDoorMs
namespace Go.Proofs.YtognbkmamhgkeaaDoor
open Go Go.RowKit

def clrM (m : Nat → Option Int) (b : Nat) : Nat → Option Int := fun x => if x = b then none else m x

open Classical in
noncomputable def TV.clr (T : TV) (B L b : Nat) : TV :=
  { adr := fun l p => if l ≤ L ∧ p = b / 16 ^ (l + 1) then (if ne (clrM T.m b) l p then some (B + (L - l)) else none) else T.adr l p
    m := clrM T.m b }

theorem clr_yes {T : TV} {B L b q : Nat} (hq : b / 16 ^ (L + 1) = q) (h : ne (clrM T.m b) L q) : (T.clr B L b).adr L q = some B := by
  simp only [TV.clr]; rw [if_pos ⟨Nat.le_refl _, hq.symm⟩, if_pos h]; simp
theorem clr_no {T : TV} {B L b q : Nat} (hq : b / 16 ^ (L + 1) = q) (h : ¬ ne (clrM T.m b) L q) : (T.clr B L b).adr L q = none := by
  simp only [TV.clr]; rw [if_pos ⟨Nat.le_refl _, hq.symm⟩, if_neg h]

theorem ne_zero {T : TV} {q : Nat} : ne T.m 0 q ↔ ∃ i, i < 16 ∧ occ T 0 (16 * q + i) = true := by
  constructor
  · rintro ⟨x, hx, ho⟩
    refine ⟨x % 16, by omega, ?_⟩
    have : 16 * q + x % 16 = x := by omega
    rw [this]; exact ho
  · rintro ⟨i, hi, ho⟩; exact ⟨16 * q + i, by omega, ho⟩

theorem ne_succ {w : World} {T : TV} {L q : Nat} (hk : ∀ i, i < 16 → Sub w T L (16 * q + i)) : ne T.m (L + 1) q ↔ ∃ i, i < 16 ∧ occ T (L + 1) (16 * q + i) = true := by
  rw [ne_kid]
  constructor
  · rintro ⟨i, hi, h⟩; exact ⟨i, hi, (hk i hi).iff.2 h⟩
  · rintro ⟨i, hi, h⟩; exact ⟨i, hi, (hk i hi).iff.1 h⟩

theorem nd_of {w : World} {T : TV} {L q : Nat} (hne : ne T.m L q ↔ ∃ i, i < 16 ∧ occ T L (16 * q + i) = true) (hsome : ∀ b, T.adr L q = some b → ne T.m L q) (hnone : T.adr L q = none → ¬ ne T.m L q)
    (hrow : ∀ b, T.adr L q = some b → ∃ has, NodeAt w b has (fun i => kid T L (16 * q + i)) (fun i => chv T L (16 * q + i)) ∧ ∀ i, i < 16 → has.testBit i = occ T L (16 * q + i)) : Nd w T L q := by
  refine ⟨fun hn i hi => ?_, fun b hb => ⟨hrow b hb, hne.1 (hsome b hb)⟩⟩
  cases ho : occ T L (16 * q + i) with
  | false => rfl
  | true => exact absurd (hne.2 ⟨i, hi, ho⟩) (hnone hn)

theorem has_zero {has : Nat} (hl : has < 65536) {P : Nat → Bool} (h : ∀ i, i < 16 → has.testBit i = P i) : has = 0 ↔ ¬ ∃ i, i < 16 ∧ P i = true := by
  constructor
  · rintro rfl ⟨i, hi, hp⟩; rw [← h i hi] at hp; simp at hp
  · intro hn
    apply Nat.eq_of_testBit_eq
    intro i
    by_cases hi : i < 16
    · rw [h i hi, Nat.zero_testBit]
      cases hp : P i with
      | false => rfl
      | true => exact absurd ⟨i, hi, hp⟩ hn
    · rw [Nat.zero_testBit]
      apply Nat.testBit_lt_two_pow
      exact Nat.lt_of_lt_of_le hl (Nat.pow_le_pow_right (n := 2) (i := 16) (by omega) (by omega))

/-- has without the bit i -/
def without (has i : Nat) : Nat := has &&& (65535 - 2 ^ i)

theorem without_bit (has i j : Nat) (hj : j < 16) (hi : i < 16) : (without has i).testBit j = (has.testBit j && !decide (i = j)) := by
  have h1 : (2 : Nat) ^ i < 2 ^ 16 := Nat.pow_lt_pow_right (by omega) hi
  have e : (65535 - 2 ^ i : Nat) = 2 ^ 16 - (2 ^ i + 1) := by omega
  unfold without
  rw [Nat.testBit_and, e, Nat.testBit_two_pow_sub_succ h1, Nat.testBit_two_pow]
  simp [hj]

theorem without_lt (has i : Nat) (hl : has < 65536) : without has i < 65536 := Nat.lt_of_le_of_lt Nat.and_le_left hl

theorem clr_agree_off {T : TV} {B L M b : Nat} {q : Nat} (hq : b / 16 ^ (L + 1) ≠ q) : Agree T (T.clr B M b) L q := by
  refine ⟨fun l hl x hx => ?_, fun x hx => ?_⟩
  · simp only [TV.clr]
    rw [if_neg]
    rintro ⟨_, rfl⟩
    apply hq
    rw [← hx, Nat.div_div_eq_div_mul, ← Nat.pow_add]
    congr 2; omega
  · simp only [TV.clr, clrM]; rw [if_neg]; rintro rfl; exact hq hx

theorem clr_agree_up {T : TV} {B L b : Nat} {q : Nat} : Agree (T.clr (B + 1) L b) (T.clr B (L + 1) b) L q := by
  refine ⟨fun l hl x hx => ?_, fun x hx => rfl⟩
  simp only [TV.clr]
  by_cases e : x = b / 16 ^ (l + 1)
  · have h1 : l ≤ L ∧ x = b / 16 ^ (l + 1) := ⟨hl, e⟩
    have h2 : l ≤ L + 1 ∧ x = b / 16 ^ (l + 1) := ⟨by omega, e⟩
    simp only [if_pos h1, if_pos h2, show B + 1 + (L - l) = B + (L + 1 - l) by omega]
  · rw [if_neg (fun h => e h.2), if_neg (fun h => e h.2)]

theorem clr_within {T : TV} {B L b : Nat} {q : Nat} {S : Nat → Prop} (h : Within T L q S) : Within (T.clr B L b) L q (fun x => S x ∨ B ≤ x) := by
  intro l hl x hx y hy
  simp only [TV.clr] at hy
  split at hy
  · split at hy
    · injection hy with hy; exact .inr (by omega)
    · cases hy
  · exact .inl (h l hl x hx y hy)

/-- Level 0: the row behind the clearing. -/
theorem clr0_row {T : TV} {q b B : Nat} {cs : Array Value} {has i : Nat} (hold : OldRow T 0 q has cs) (hq : b / 16 = q) (hi : i = b / 16 ^ 0 % 16) :
    OldRow (T.clr B 0 b) 0 q (without has i) ((cs.setIfInBounds (17 + i) (.int .i64 0)).setIfInBounds 0 (.int .u16 ((without has i : Nat) : Int))) := by
  have hi' : i = b % 16 := by simpa using hi
  have hi16 : i < 16 := by omega
  have hm : ∀ j, j < 16 → (T.clr B 0 b).m (16 * q + j) = if j = i then none else T.m (16 * q + j) := by
    intro j hj
    simp only [TV.clr, clrM]
    by_cases e : j = i
    · rw [if_pos e, if_pos (by omega)]
    · rw [if_neg e, if_neg (by omega)]
  refine ⟨((hold.1.setCh i hi16 0).setHas (without_lt has i hold.1.lt)).congr (fun j hj => rfl) (fun j hj => ?_), fun j hj => ?_⟩
  · simp only [chv]; rw [hm j hj]
    by_cases e : j = i
    · simp [e]
    · simp [e]
  · rw [without_bit _ _ _ hj hi16, hold.2 j hj]; simp only [occ]; rw [hm j hj]
    by_cases e : j = i
    · simp [e]
    · simp [e, Ne.symm e]

theorem clr0_end {T : TV} {q b B : Nat} {cs : Array Value} {has i : Nat} {w' : World} (hold : OldRow T 0 q has cs) (hq : b / 16 = q) (hi : i = b / 16 ^ 0 % 16)
    (hw : without has i ≠ 0 → w'.heap[B]? = some (.cells ((cs.setIfInBounds (17 + i) (.int .i64 0)).setIfInBounds 0 (.int .u16 ((without has i : Nat) : Int))) 76)) :
    ptrV ((T.clr B 0 b).adr 0 q) = (if without has i = 0 then .pointer none else .pointer (some ⟨B, 0, none⟩)) ∧ Sub w' (T.clr B 0 b) 0 q := by
  have hrow := clr0_row (B := B) hold hq hi
  have hz := has_zero hrow.1.lt hrow.2
  have hne := ne_zero (T := T.clr B 0 b) (q := q)
  have hqq : b / 16 ^ (0 + 1) = q := by simpa using hq
  by_cases hw0 : without has i = 0
  · have hn : ¬ ne (clrM T.m b) 0 q := fun h => hz.1 hw0 (hne.1 h)
    have ha := clr_no (B := B) hqq hn
    exact ⟨by rw [ha, if_pos hw0]; rfl, nd_of hne (fun _ hb => by rw [ha] at hb; cases hb) (fun _ => hn) (fun _ hb => by rw [ha] at hb; cases hb)⟩
  · have hn : ne (clrM T.m b) 0 q := hne.2 (Classical.byContradiction fun h => hw0 (hz.2 h))
    have ha := clr_yes (B := B) hqq hn
    have hr := hw hw0
    refine ⟨by rw [ha, if_neg hw0]; rfl, nd_of hne (fun _ _ => hn) (fun h => by rw [ha] at h; cases h) (fun x hb => ?_)⟩
    rw [ha] at hb; injection hb with hb; subst hb
    exact ⟨_, ⟨_, hr, hrow.1⟩, hrow.2⟩

theorem clrS_kids {T : TV} {L q b B i : Nat} {w w2 w3 : World} (hB : B = w.heap.size) (hq : b / 16 ^ (L + 1) = 16 * q + i)
    (hsub : ∀ j, j < 16 → Sub w T L (16 * q + j)) (hkid : Sub w2 (T.clr (B + 1) L b) L (16 * q + i))
    (hold2 : ∀ k, k < B → w3.heap[k]? = w.heap[k]?) (hnew : ∀ k, B + 1 ≤ k → w3.heap[k]? = w2.heap[k]?) (hold3 : ∀ k, k < B → w3.heap[k]? = w2.heap[k]?) :
    ∀ j, j < 16 → Sub w3 (T.clr B (L + 1) b) L (16 * q + j) := by
  intro j hj
  by_cases e : j = i
  · subst e
    refine Sub.congr ?_ clr_agree_up
    exact Sub.move (S := fun x => x < B ∨ B + 1 ≤ x) (fun x hx => by rcases hx with hx | hx; exact hold3 x hx; exact hnew x hx) hkid (clr_within ((hsub j hj).within.weaken fun x hx => by omega))
  · have ha : Agree T (T.clr B (L + 1) b) L (16 * q + j) := clr_agree_off (by omega)
    refine Sub.congr ?_ ha
    exact Sub.move (S := fun x => x < B) (fun x hx => hold2 x hx) (hsub j hj) ((hsub j hj).within.weaken fun x hx => by omega)

theorem clrS_adr {T : TV} {L q b B i j : Nat} (hq : b / 16 ^ (L + 1) = 16 * q + i) : (T.clr B (L + 1) b).adr L (16 * q + j) = if j = i then (T.clr (B + 1) L b).adr L (16 * q + i) else T.adr L (16 * q + j) := by
  by_cases e : j = i
  · subst e
    rw [if_pos rfl]
    exact ((clr_agree_up (T := T) (B := B) (L := L) (b := b) (q := 16 * q + j)).1 L (Nat.le_refl _) _ (by simp)).symm
  · rw [if_neg e]
    simp only [TV.clr]
    rw [if_neg (by omega)]

/-- Level L + 1: the child stays. -/
theorem clrS_end_kid {T : TV} {L q b B i : Nat} {cs : Array Value} {has : Nat} {w3 : World} (hold : OldRow T (L + 1) q has cs) (hq1 : b / 16 ^ (L + 2) = q) (hq : b / 16 ^ (L + 1) = 16 * q + i) (hi16 : i < 16) (hocc : occ T (L + 1) (16 * q + i) = true)
    (hkids : ∀ j, j < 16 → Sub w3 (T.clr B (L + 1) b) L (16 * q + j)) (x : Nat) (hx : (T.clr (B + 1) L b).adr L (16 * q + i) = some x)
    (hw : w3.heap[B]? = some (.cells (cs.setIfInBounds (1 + i) (ptrV (some x))) 76)) :
    ptrV ((T.clr B (L + 1) b).adr (L + 1) q) = .pointer (some ⟨B, 0, none⟩) ∧ Sub w3 (T.clr B (L + 1) b) (L + 1) q := by
  have hne := ne_succ hkids
  have hn : ne (clrM T.m b) (L + 1) q := hne.2 ⟨i, hi16, by simp only [occ]; rw [clrS_adr hq, if_pos rfl, hx]; rfl⟩
  have ha := clr_yes (B := B) hq1 hn
  refine ⟨by rw [ha]; rfl, nd_of hne (fun _ _ => hn) (fun h => by rw [ha] at h; cases h) (fun y hb => ?_), hkids⟩
  rw [ha] at hb; injection hb with hb; subst hb
  refine ⟨has, ⟨_, hw, (hold.1.setKid i hi16 _).congr (fun j hj => ?_) (fun j hj => rfl)⟩, fun j hj => ?_⟩
  · simp only [kid]; rw [clrS_adr hq, hx]
  · rw [hold.2 j hj]; simp only [occ]; rw [clrS_adr hq, hx]
    by_cases e : j = i
    · subst e; simp only [if_pos]; simpa [occ] using hocc
    · rw [if_neg e]

/-- Level L + 1: the child goes. -/
theorem clrS_end {T : TV} {L q b B i : Nat} {cs : Array Value} {has : Nat} {w3 : World} (hold : OldRow T (L + 1) q has cs) (hq1 : b / 16 ^ (L + 2) = q) (hq : b / 16 ^ (L + 1) = 16 * q + i) (hi16 : i < 16)
    (hkids : ∀ j, j < 16 → Sub w3 (T.clr B (L + 1) b) L (16 * q + j)) (hx : (T.clr (B + 1) L b).adr L (16 * q + i) = none)
    (hw : without has i ≠ 0 → w3.heap[B]? = some (.cells ((cs.setIfInBounds (1 + i) (ptrV none)).setIfInBounds 0 (.int .u16 ((without has i : Nat) : Int))) 76)) :
    ptrV ((T.clr B (L + 1) b).adr (L + 1) q) = (if without has i = 0 then .pointer none else .pointer (some ⟨B, 0, none⟩)) ∧ Sub w3 (T.clr B (L + 1) b) (L + 1) q := by
  have hne := ne_succ hkids
  have hrow : OldRow (T.clr B (L + 1) b) (L + 1) q (without has i) ((cs.setIfInBounds (1 + i) (ptrV none)).setIfInBounds 0 (.int .u16 ((without has i : Nat) : Int))) := by
    refine ⟨((hold.1.setKid i hi16 none).setHas (without_lt has i hold.1.lt)).congr (fun j hj => ?_) (fun j hj => rfl), fun j hj => ?_⟩
    · simp only [kid]; rw [clrS_adr hq, hx]
    · rw [without_bit _ _ _ hj hi16, hold.2 j hj]; simp only [occ]; rw [clrS_adr hq, hx]
      by_cases e : j = i
      · simp [e]
      · simp [e, Ne.symm e]
  have hz := has_zero hrow.1.lt hrow.2
  by_cases hw0 : without has i = 0
  · have hn : ¬ ne (clrM T.m b) (L + 1) q := fun h => hz.1 hw0 (hne.1 h)
    have ha := clr_no (B := B) hq1 hn
    exact ⟨by rw [ha, if_pos hw0]; rfl, nd_of hne (fun _ hb => by rw [ha] at hb; cases hb) (fun _ => hn) (fun _ hb => by rw [ha] at hb; cases hb), hkids⟩
  · have hn : ne (clrM T.m b) (L + 1) q := hne.2 (Classical.byContradiction fun h => hw0 (hz.2 h))
    have ha := clr_yes (B := B) hq1 hn
    have hr := hw hw0
    refine ⟨by rw [ha, if_neg hw0]; rfl, nd_of hne (fun _ _ => hn) (fun h => by rw [ha] at h; cases h) (fun x hb => ?_), hkids⟩
    rw [ha] at hb; injection hb with hb; subst hb
    exact ⟨_, ⟨_, hr, hrow.1⟩, hrow.2⟩

end Go.Proofs.YtognbkmamhgkeaaDoor
