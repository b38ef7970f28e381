/-
  What Atoi and Itoa make of a token's text. No program is run here.
-/
import Derived.Test.YtimmffncfkcpfaaGreatDoorA2
import Derived.Lib.AtoiAll
import Derived.Lib.ItoaNum
namespace Go.Proofs.YtimmffncfkcpfaaGreatDoor
open Go

theorem isD_iff (c : UInt8) : isD c = true ↔ 48 ≤ c.toNat ∧ c.toNat ≤ 57 := by simp [isD]
def NoSign (l : Bytes) : Prop := ∀ c r, l = c :: r → c.toNat ≠ 43 ∧ c.toNat ≠ 45
theorem parse_ok : ∀ (l : Bytes) (n u : Nat), Lib.parseUint10 n l = .ok u → (∀ c ∈ l, isD c = true) ∧ u = l.foldl (fun n c => 10 * n + (c.toNat - 48)) n
  | [], n, u, h => by
    simp only [Lib.parseUint10] at h
    injection h with h
    exact ⟨(fun c hc => by cases hc), h.symm⟩
  | c :: l, n, u, h => by
    simp only [Lib.parseUint10] at h
    split at h
    · rename_i hc
      split at h
      · cases h
      · split at h
        · cases h
        · obtain ⟨h1, h2⟩ := parse_ok l _ u h
          refine ⟨fun d hd => ?_, ?_⟩
          · rcases List.mem_cons.1 hd with rfl | hd
            · exact (isD_iff _).2 hc
            · exact h1 d hd
          · rw [h2, List.foldl_cons, show n * 10 + (c.toNat - 48) = 10 * n + (c.toNat - 48) by omega]
    · cases h
theorem parse10 : ∀ (l : Bytes) (n B : Nat), (∀ c ∈ l, isD c = true) → n < B → B * 10 ^ l.length ≤ 1000000000000 → Lib.parseUint10 n l = .ok (l.foldl (fun n c => 10 * n + (c.toNat - 48)) n) ∧ l.foldl (fun n c => 10 * n + (c.toNat - 48)) n < B * 10 ^ l.length
  | [], n, B, _, hn, hB => by simpa [Lib.parseUint10] using hn
  | c :: l, n, B, h, hn, hB => by
    have hc := (isD_iff c).1 (h c (by simp))
    have hp : 0 < 10 ^ l.length := Nat.pow_pos (by omega)
    have hB' : B * 10 * 10 ^ l.length ≤ 1000000000000 := by
      rw [List.length_cons, Nat.pow_succ] at hB
      rw [Nat.mul_assoc, Nat.mul_comm 10]; exact hB
    have hb10 : B * 10 ≤ 1000000000000 := Nat.le_trans (Nat.le_mul_of_pos_right _ hp) hB'
    obtain ⟨h1, h2⟩ := parse10 l (10 * n + (c.toNat - 48)) (B * 10) (fun d hd => h d (List.mem_cons_of_mem _ hd)) (by omega) hB'
    rw [Lib.parseUint10, if_pos hc, if_neg (by omega), if_neg (by omega), show n * 10 + (c.toNat - 48) = 10 * n + (c.toNat - 48) by omega, List.foldl_cons, h1]
    refine ⟨rfl, ?_⟩
    rw [List.length_cons, Nat.pow_succ, Nat.mul_comm (10 ^ l.length), ← Nat.mul_assoc]
    exact h2
theorem atoi_ok {l : Bytes} {v : Int} (hs : NoSign l) (h : Lib.atoiAll l = .ok v) : l ≠ [] ∧ (∀ c ∈ l, isD c = true) ∧ v = (valD l : Int) := by
  cases l with
  | nil => cases h
  | cons c r =>
    obtain ⟨h1, h2⟩ := hs c r rfl
    unfold Lib.atoiAll at h
    simp only at h
    rw [if_neg (by omega)] at h
    unfold Lib.parseMag at h
    rw [if_neg (by simp)] at h
    cases hp : Lib.parseUint10 0 (c :: r) with
    | ok u =>
      rw [hp] at h
      simp only at h
      obtain ⟨k1, k2⟩ := parse_ok _ _ _ hp
      split at h
      · cases h
      · split at h
        · cases h
        · injection h with h
          refine ⟨by simp, k1, ?_⟩
          rw [← h, k2]; rfl
    | _ => rw [hp] at h; cases h
theorem numB_cons {c : UInt8} {r : Bytes} : numB (c :: r) = true ↔ (∀ d ∈ c :: r, isD d = true) ∧ r.length ≤ 7 ∧ (r = [] ∨ c ≠ 48) := by
  unfold numB
  simp only [Bool.and_eq_true, Bool.or_eq_true, List.all_eq_true, decide_eq_true_eq, List.isEmpty_iff, bne_iff_ne, and_assoc]
theorem atoi_digits {l : Bytes} (h0 : l ≠ []) (h : ∀ c ∈ l, isD c = true) (hl : l.length ≤ 8) : Lib.atoiAll l = .ok (valD l : Int) ∧ valD l < 100000000 := by
  cases l with
  | nil => exact absurd rfl h0
  | cons c r =>
    have hc := (isD_iff c).1 (h c (by simp))
    have hB : 1 * 10 ^ (c :: r).length ≤ 100000000 := by
      have : 10 ^ (c :: r).length ≤ 10 ^ 8 := Nat.pow_le_pow_right (by omega) hl
      simpa using this
    obtain ⟨h1, h2⟩ := parse10 (c :: r) 0 1 h (by omega) (by omega)
    have hv : valD (c :: r) < 100000000 := Nat.lt_of_lt_of_le h2 hB
    refine ⟨?_, hv⟩
    have hmag : Lib.parseMag (c :: r) = .ok (valD (c :: r)) := by unfold Lib.parseMag; rw [if_neg (by simp)]; exact h1
    unfold Lib.atoiAll
    simp only
    rw [if_neg (by omega), hmag]
    simp only
    rw [if_neg (by omega), if_neg (by omega), if_neg (by omega)]
theorem atoi_num {l : Bytes} (h : numB l = true) : Lib.atoiAll l = .ok (valD l : Int) ∧ valD l < 100000000 := by
  cases l with
  | nil => cases h
  | cons c r =>
    obtain ⟨h1, h2, -⟩ := numB_cons.1 h
    exact atoi_digits (by simp) h1 (by simp; omega)
theorem dig_toNat {d : Nat} (h : d < 10) : (UInt8.ofNat (48 + d)).toNat = 48 + d := by
  rw [UInt8.toNat_ofNat']
  omega
theorem decD_spec : ∀ (n : Nat), Lib.decDigits n ≠ [] ∧ (∀ c ∈ Lib.decDigits n, isD c = true) ∧ valD (Lib.decDigits n) = n ∧ (1 < (Lib.decDigits n).length → 10 ≤ n) ∧ (1 ≤ n → (Lib.decDigits n).head? ≠ some 48) := by
  intro n
  induction n using Nat.strongRecOn with
  | _ n ih =>
    have hdig : ∀ d, d < 10 → isD (UInt8.ofNat (48 + d)) = true := fun d hd => by
      unfold isD
      rw [dig_toNat hd]
      simp; omega
    by_cases h : n < 10
    · rw [Lib.decDigits_one h]
      refine ⟨by simp, fun c hc => ?_, ?_, fun h1 => by simp at h1, fun h1 e => ?_⟩
      · rw [List.mem_singleton] at hc; rw [hc]; exact hdig n h
      · simp only [valD, List.foldl]
        rw [dig_toNat h]; omega
      · simp only [List.head?_cons, Option.some.injEq] at e
        have := congrArg UInt8.toNat e
        rw [dig_toNat h] at this
        change 48 + n = 48 at this
        omega
    · obtain ⟨i1, i2, i3, i4, i5⟩ := ih (n / 10) (by omega)
      rw [Lib.decDigits, dif_neg h]
      refine ⟨by simp, fun c hc => ?_, ?_, fun _ => by omega, fun _ e => ?_⟩
      · rcases List.mem_append.1 hc with hc | hc
        · exact i2 c hc
        · rw [List.mem_singleton] at hc; rw [hc]; exact hdig _ (by omega)
      · unfold valD at i3 ⊢
        rw [List.foldl_append, i3]
        simp only [List.foldl]
        rw [dig_toNat (by omega)]
        omega
      · refine i5 (by omega) ?_
        cases hd : Lib.decDigits (n / 10) with
        | nil => exact absurd hd i1
        | cons c r => rw [hd] at e; exact e
theorem valD_snoc (l : Bytes) (c : UInt8) : valD (l ++ [c]) = 10 * valD l + (c.toNat - 48) := by unfold valD; rw [List.foldl_append]; rfl
/-- A numeral without leading noughts is what Itoa writes. -/
theorem dec_canon : ∀ (n : Nat) (l : Bytes), l.length = n → l ≠ [] → (∀ c ∈ l, isD c = true) → (l.length = 1 ∨ l.head? ≠ some 48) → Lib.decDigits (valD l) = l ∧ (l.head? ≠ some 48 → 1 ≤ valD l)
  | 0, l, hn, h0, _, _ => absurd (List.length_eq_zero_iff.1 hn) h0
  | n + 1, l, hn, h0, hd, hc => by
    obtain ⟨p, c, rfl⟩ : ∃ p c, l = p ++ [c] := ⟨l.dropLast, l.getLast h0, (List.dropLast_concat_getLast h0).symm⟩
    have hcd := (isD_iff c).1 (hd c (by simp))
    have hc8 : UInt8.ofNat (48 + (c.toNat - 48)) = c := by
      rw [show 48 + (c.toNat - 48) = c.toNat by omega]
      exact UInt8.ofNat_toNat
    rw [valD_snoc]
    cases p with
    | nil =>
      have e : valD [] = 0 := rfl
      rw [e, Nat.mul_zero, Nat.zero_add, Lib.decDigits_one (by omega), hc8]
      refine ⟨rfl, fun h => ?_⟩
      have : c.toNat ≠ 48 := fun e => h (by
        simp only [List.nil_append, List.head?_cons, Option.some.injEq]
        exact UInt8.toNat_inj.1 e)
      omega
    | cons a r =>
      have hh : (a :: r).head? ≠ some 48 := by
        rcases hc with hc | hc
        · simp at hc
        · exact hc
      obtain ⟨i1, i2⟩ := dec_canon n (a :: r) (by simpa using hn) (by simp) (fun d hd' => hd d (by simp at hd' ⊢; rcases hd' with h | h <;> simp [h])) (.inr hh)
      have i2 := i2 hh
      refine ⟨?_, fun _ => by omega⟩
      rw [Lib.decDigits, dif_neg (by omega), show (10 * valD (a :: r) + (c.toNat - 48)) / 10 = valD (a :: r) by omega, i1, show (10 * valD (a :: r) + (c.toNat - 48)) % 10 = c.toNat - 48 by omega, hc8]
theorem itoa_nat (n : Nat) : Lib.itoa (n : Int) = Lib.decDigits n := by
  unfold Lib.itoa
  rw [if_neg (by omega)]; rfl
/-- Digits: a number's text just if it is short and Itoa writes it so. -/
theorem num_dec {l : Bytes} (h0 : l ≠ []) (h : ∀ c ∈ l, isD c = true) : numB l = (decide (l.length ≤ 8) && decide (Lib.decDigits (valD l) = l)) := by
  cases l with
  | nil => exact absurd rfl h0
  | cons c r =>
    rw [Bool.eq_iff_iff, numB_cons, Bool.and_eq_true, decide_eq_true_eq, decide_eq_true_eq]
    constructor
    · rintro ⟨h1, h2, h3⟩
      refine ⟨by simp; omega, (dec_canon _ _ rfl (by simp) h ?_).1⟩
      rcases h3 with h3 | h3
      · exact .inl (by rw [h3]; rfl)
      · exact .inr (by simpa using h3)
    · rintro ⟨h1, h2⟩
      refine ⟨h, by simp at h1; omega, ?_⟩
      by_cases hr : r = []
      · exact .inl hr
      · right
        obtain ⟨-, -, -, k1, k2⟩ := decD_spec (valD (c :: r))
        rw [h2] at k1 k2
        have hlen : 1 < (c :: r).length := by
          have := List.length_pos_iff.2 hr
          simp; omega
        have := k2 (by have := k1 hlen; omega)
        simpa using this
theorem num_not_ok {l : Bytes} (h : ∀ v, Lib.atoiAll l ≠ .ok v) : numB l = false := by
  cases hb : numB l with
  | false => rfl
  | true => exact absurd (atoi_num hb).1 (h _)
theorem atoi_cases (l : Bytes) : (∃ v, Lib.atoiAll l = .ok v) ∨ Lib.atoiAll l = .range ∨ Lib.atoiAll l = Lib.atoiAll [] := by
  cases h : Lib.atoiAll l with
  | ok v => exact .inl ⟨v, rfl⟩
  | range => exact .inr (.inl rfl)
  | _ => exact .inr (.inr rfl)
theorem word_not_num {l : Bytes} (h : wordB l = true) : numB l = false := by
  cases l with
  | nil => rfl
  | cons c r =>
    unfold wordB at h
    rw [Bool.and_eq_true] at h
    cases hb : numB (c :: r) with
    | false => rfl
    | true =>
      have := (numB_cons.1 hb).1 c (by simp)
      rw [isL_not_D h.1] at this
      cases this
end Go.Proofs.YtimmffncfkcpfaaGreatDoor
