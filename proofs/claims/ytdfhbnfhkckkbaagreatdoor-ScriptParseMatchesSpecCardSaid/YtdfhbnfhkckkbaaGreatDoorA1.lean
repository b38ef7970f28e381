/-
  The encoding of integers, byte strings and lists, in plain words. No program is run here.
-/
import Derived.Lib.Bytealg
import Derived.Lib.Strings
namespace Go.Proofs.YtdfhbnfhkckkbaaGreatDoor
open Go

abbrev Bytes := List UInt8
/-- The number of bytes of a number without leading zeros. -/
def lenB (m : Nat) : Nat := if m = 0 then 0 else lenB (m / 256) + 1
/-- The last k bytes of a number, the highest first. -/
def bigB (m : Nat) : Nat → Bytes
  | 0 => []
  | k + 1 => UInt8.ofNat (m / 256 ^ k) :: bigB m k
/-- The number of some bytes. -/
def valB (l : Bytes) : Nat := l.foldl (fun a c => a * 256 + c.toNat) 0
def flipB (f : Bool) (c : UInt8) : UInt8 := c ^^^ (if f then 255 else 0)
def magB (n : Int) : Nat := if n < 0 then (-1 - n).toNat else n.toNat
def negB (n : Int) : Bool := decide (n < 0)
/-- The encoding of an integer. -/
def intB (n : Int) : Bytes := flipB (negB n) (UInt8.ofNat (128 + lenB (magB n))) :: (bigB (magB n) (lenB (magB n))).map (flipB (negB n))
def sgnB (f : Bool) (m : Nat) : Int := if f then -1 - (m : Int) else m
/-- An integer at the beginning of some bytes, and the number of its bytes. -/
def getIntB : Bytes → Except Nat (Int × Nat)
  | [] => .error 5
  | c :: r =>
    let f := decide (c.toNat < 128)
    let k := (flipB f c).toNat - 128
    if 8 < k then .error 6
    else if r.length < k then .error 5
    else if 0 < k ∧ (r.head?.map (flipB f)) = some 0 then .error 6
    else if 2 ^ 63 ≤ valB ((r.take k).map (flipB f)) then .error 6
    else .ok (sgnB f (valB ((r.take k).map (flipB f))), k + 1)
def bytesB (s : Bytes) : Bytes := intB s.length ++ s
def countB (b : Bytes) : Except Nat (Nat × Nat) := match getIntB b with
  | .error e => .error e
  | .ok (n, k) => if n < 0 then .error 6 else if (n : Int) > (b.length : Int) - k then .error 5 else .ok (n.toNat, k)
def getBytesB (b : Bytes) : Except Nat (Bytes × Nat) := match countB b with
  | .error e => .error e
  | .ok (n, k) => .ok ((b.drop k).take n, k + n)
def intsB (l : List Int) : Bytes := intB l.length ++ l.flatMap intB
def getN : Nat → Bytes → Except Nat (List Int × Nat)
  | 0, _ => .ok ([], 0)
  | n + 1, b => match getIntB b with
    | .error e => .error e
    | .ok (x, k) => match getN n (b.drop k) with
      | .error e => .error e
      | .ok (l, u) => .ok (x :: l, k + u)
def getIntsB (b : Bytes) : Except Nat (List Int × Nat) := match countB b with
  | .error e => .error e
  | .ok (n, k) => match getN n (b.drop k) with
    | .error e => .error e
    | .ok (l, u) => .ok (l, k + u)

theorem flip_flip (f : Bool) (c : UInt8) : flipB f (flipB f c) = c := by
  cases f <;> simp [flipB, UInt8.xor_assoc]
theorem flip_map (f : Bool) (l : Bytes) : (l.map (flipB f)).map (flipB f) = l := by
  rw [List.map_map]; exact (List.map_congr_left fun c _ => flip_flip f c).trans (List.map_id _)
theorem xor255 : ∀ i : Fin 256, ((UInt8.ofNat i.val) ^^^ 255).toNat = 255 - i.val := by decide +kernel
theorem flip_true (c : UInt8) : (flipB true c).toNat = 255 - c.toNat := by
  have := xor255 ⟨c.toNat, c.toNat_lt⟩
  simpa [flipB] using this
theorem flip_false (c : UInt8) : flipB false c = c := by simp [flipB]
theorem lenB_zero : lenB 0 = 0 := by unfold lenB; rfl
theorem lenB_pos {m : Nat} (h : m ≠ 0) : lenB m = lenB (m / 256) + 1 := by rw [lenB, if_neg h]
theorem lenB_le {m : Nat} : ∀ {k : Nat}, m < 256 ^ k → lenB m ≤ k := by
  induction m using Nat.strongRecOn with
  | _ m ih =>
    intro k hk
    by_cases h : m = 0
    · subst h; rw [lenB_zero]; omega
    · rw [lenB_pos h]
      cases k with
      | zero => simp at hk; exact absurd hk h
      | succ k => have := ih (m / 256) (by omega) (k := k) (by rw [Nat.pow_succ] at hk; omega); omega
theorem lt_lenB (m : Nat) : m < 256 ^ lenB m := by
  induction m using Nat.strongRecOn with
  | _ m ih =>
    by_cases h : m = 0
    · subst h; rw [lenB_zero]; decide
    · rw [lenB_pos h, Nat.pow_succ]
      have := ih (m / 256) (by omega)
      omega
theorem le_lenB {m : Nat} (h : m ≠ 0) : ∃ k, lenB m = k + 1 ∧ 256 ^ k ≤ m := by
  induction m using Nat.strongRecOn with
  | _ m ih =>
    by_cases h0 : m / 256 = 0
    · exact ⟨0, by rw [lenB_pos h, h0, lenB_zero], by simp; omega⟩
    · obtain ⟨k, hk, hm⟩ := ih (m / 256) (by omega) h0
      exact ⟨k + 1, by rw [lenB_pos h, hk], by rw [Nat.pow_succ]; omega⟩
theorem lenB_eq {m k : Nat} (h1 : 256 ^ k ≤ m) (h2 : m < 256 ^ (k + 1)) : lenB m = k + 1 := by
  have hm : m ≠ 0 := by have := Nat.pow_pos (n := k) (show 0 < 256 by decide); omega
  obtain ⟨j, hj, hjm⟩ := le_lenB hm
  have h3 := lt_lenB m
  have h4 := lenB_le h2
  have : k < lenB m := by
    rcases Nat.lt_or_ge k (lenB m) with h | h
    · exact h
    · have := Nat.pow_le_pow_right (show 256 > 0 by decide) h; omega
  omega
theorem bigB_length (m : Nat) : ∀ k, (bigB m k).length = k
  | 0 => rfl
  | k + 1 => by rw [bigB, List.length_cons, bigB_length m k]
theorem val_fold : ∀ (l : Bytes) (a : Nat), l.foldl (fun a c => a * 256 + c.toNat) a = a * 256 ^ l.length + valB l
  | [], a => by simp [valB]
  | c :: l, a => by
    rw [List.foldl_cons, val_fold l, show valB (c :: l) = l.foldl (fun a c => a * 256 + c.toNat) (0 * 256 + c.toNat) from rfl, val_fold l (0 * 256 + c.toNat), List.length_cons, Nat.pow_succ]
    rw [Nat.zero_mul, Nat.zero_add, Nat.add_mul, Nat.mul_assoc, Nat.mul_comm 256 (256 ^ l.length), Nat.add_assoc]
theorem val_cons (c : UInt8) (l : Bytes) : valB (c :: l) = c.toNat * 256 ^ l.length + valB l := by
  rw [valB, List.foldl_cons, val_fold]; simp
theorem val_snoc (l : Bytes) (c : UInt8) : valB (l ++ [c]) = valB l * 256 + c.toNat := by simp [valB]
theorem val_lt : ∀ l : Bytes, valB l < 256 ^ l.length
  | [] => by decide
  | c :: l => by
    rw [val_cons, List.length_cons, Nat.pow_succ]
    have := val_lt l
    have h2 : c.toNat < 256 := c.toNat_lt
    have : c.toNat * 256 ^ l.length + 256 ^ l.length ≤ 256 * 256 ^ l.length := by
      have := Nat.mul_le_mul_right (256 ^ l.length) (show c.toNat + 1 ≤ 256 by omega)
      rwa [Nat.add_mul, Nat.one_mul] at this
    have h4 := Nat.mul_comm (256 ^ l.length) 256
    omega
theorem val_big (m : Nat) : ∀ k, valB (bigB m k) = m % 256 ^ k
  | 0 => by simp [bigB, valB, Nat.mod_one]
  | k + 1 => by
    rw [bigB, val_cons, bigB_length, val_big m k, Nat.pow_succ, Nat.mod_mul, UInt8.toNat_ofNat']
    have : (2 : Nat) ^ 8 = 256 := by decide
    rw [this, Nat.mul_comm, Nat.add_comm]
theorem big_val : ∀ (l : Bytes) (a : Nat), bigB (a * 256 ^ l.length + valB l) l.length = l
  | [], a => rfl
  | c :: l, a => by
    have hp : 0 < 256 ^ l.length := Nat.pow_pos (by decide)
    have e : a * 256 ^ (l.length + 1) + valB (c :: l) = (a * 256 + c.toNat) * 256 ^ l.length + valB l := by
      rw [val_cons, Nat.pow_succ, Nat.add_mul, Nat.mul_assoc, Nat.mul_comm 256, Nat.add_assoc]
    rw [List.length_cons, bigB, e, big_val l, Nat.add_comm, Nat.add_mul_div_right _ _ hp, Nat.div_eq_of_lt (val_lt l), Nat.zero_add]
    congr 1
    apply UInt8.toNat_inj.1
    rw [UInt8.toNat_ofNat']
    have h2 : c.toNat < 256 := c.toNat_lt
    have : (2 : Nat) ^ 8 = 256 := by decide
    omega
theorem mag_lt {n : Int} (h1 : -9223372036854775808 ≤ n) (h2 : n < 9223372036854775808) : magB n < 2 ^ 63 := by
  unfold magB; split <;> omega
theorem mag_len {n : Int} (h1 : -9223372036854775808 ≤ n) (h2 : n < 9223372036854775808) : lenB (magB n) ≤ 8 :=
  lenB_le (Nat.lt_of_lt_of_le (mag_lt h1 h2) (by decide))
theorem sgn_mag (n : Int) : sgnB (negB n) (magB n) = n := by
  unfold sgnB negB magB
  by_cases h : n < 0
  · simp only [h, decide_true, if_true]; omega
  · simp only [h, decide_false, if_false, Bool.false_eq_true]; omega
theorem intB_length (n : Int) : (intB n).length = lenB (magB n) + 1 := by
  rw [intB, List.length_cons, List.length_map, bigB_length]
theorem first_small {f : Bool} {k : Nat} (hk : k ≤ 8) : (flipB f (UInt8.ofNat (128 + k))).toNat = (if f then 127 - k else 128 + k) := by
  have e : (UInt8.ofNat (128 + k)).toNat = 128 + k := by rw [UInt8.toNat_ofNat']; have : (2 : Nat) ^ 8 = 256 := by decide
                                                         omega
  cases f
  · rw [flip_false, e]; rfl
  · rw [flip_true, e]; simp only [if_true]; omega
/-- An encoding is read back. -/
theorem get_intB {n : Int} (h1 : -9223372036854775808 ≤ n) (h2 : n < 9223372036854775808) (r : Bytes) : getIntB (intB n ++ r) = .ok (n, (intB n).length) := by
  have hk := mag_len h1 h2
  have hf : decide ((flipB (negB n) (UInt8.ofNat (128 + lenB (magB n)))).toNat < 128) = negB n := by
    rw [first_small hk]
    cases negB n <;> simp
    omega
  rw [intB, List.cons_append, getIntB]
  simp only [hf, flip_flip, List.length_append, List.length_map, bigB_length]
  have e : (UInt8.ofNat (128 + lenB (magB n))).toNat - 128 = lenB (magB n) := by
    rw [UInt8.toNat_ofNat']; have : (2 : Nat) ^ 8 = 256 := by decide
    omega
  rw [e, if_neg (by omega), if_neg (by omega)]
  have et : (((bigB (magB n) (lenB (magB n))).map (flipB (negB n)) ++ r).take (lenB (magB n))).map (flipB (negB n)) = bigB (magB n) (lenB (magB n)) := by
    rw [List.take_append_of_le_length (by simp [bigB_length]), List.take_of_length_le (by simp [bigB_length]), flip_map]
  rw [et, val_big, Nat.mod_eq_of_lt (lt_lenB _), if_neg, if_neg (by have := mag_lt h1 h2; omega), sgn_mag]
  · simp [bigB_length]
  · rintro ⟨h0, hh⟩
    obtain ⟨k, hk1, hm⟩ := le_lenB (m := magB n) (by intro h; rw [h, lenB_zero] at h0; omega)
    rw [hk1] at hh
    simp only [bigB, List.map_cons, List.cons_append, List.head?_cons, Option.map_some, Option.some.injEq, flip_flip] at hh
    have := congrArg UInt8.toNat hh
    rw [UInt8.toNat_ofNat'] at this
    have h3 := lt_lenB (magB n)
    rw [hk1, Nat.pow_succ] at h3
    have hp : 0 < 256 ^ k := Nat.pow_pos (by decide)
    have h4 : magB n / 256 ^ k < 256 := Nat.div_lt_of_lt_mul (by omega)
    have h5 : 0 < magB n / 256 ^ k := Nat.div_pos hm hp
    have : (2 : Nat) ^ 8 = 256 := by decide
    have h0 : (0 : UInt8).toNat = 0 := rfl
    omega
/-- What is read is an encoding. -/
theorem int_getB {b : Bytes} {n : Int} {k : Nat} (h : getIntB b = .ok (n, k)) : b.take k = intB n ∧ k = (intB n).length ∧ k ≤ b.length ∧ -9223372036854775808 ≤ n ∧ n < 9223372036854775808 := by
  cases b with
  | nil => simp [getIntB] at h
  | cons c r =>
    rw [getIntB] at h
    obtain ⟨f, hf⟩ : ∃ f, f = decide (c.toNat < 128) := ⟨_, rfl⟩
    obtain ⟨j, hj⟩ : ∃ j, j = (flipB f c).toNat - 128 := ⟨_, rfl⟩
    obtain ⟨m, hm⟩ : ∃ m, m = valB ((r.take j).map (flipB f)) := ⟨_, rfl⟩
    rw [← hf, ← hj, ← hm] at h
    split at h
    · cases h
    split at h
    · cases h
    split at h
    · cases h
    split at h
    · cases h
    rename_i g1 g2 g3 g4
    obtain ⟨rfl, rfl⟩ : sgnB f m = n ∧ j + 1 = k := by simpa using h
    have hc : c.toNat < 256 := c.toNat_lt
    have hcj : (flipB f c) = UInt8.ofNat (128 + j) := by
      apply UInt8.toNat_inj.1
      rw [UInt8.toNat_ofNat']
      have : (2 : Nat) ^ 8 = 256 := by decide
      cases f
      · rw [flip_false] at hj ⊢
        have : ¬ c.toNat < 128 := by simpa using hf.symm
        omega
      · have h1 : c.toNat < 128 := by simpa using hf.symm
        rw [flip_true] at hj ⊢
        omega
    have hl : ((r.take j).map (flipB f)).length = j := by simp; omega
    have hlen : lenB m = j := by
      cases j with
      | zero => rw [hm]; simp [valB, lenB_zero]
      | succ i =>
        obtain ⟨d, r', rfl⟩ : ∃ d r', r = d :: r' := by cases r with
          | nil => simp at g2
          | cons d r' => exact ⟨d, r', rfl⟩
        have hd : flipB f d ≠ 0 := fun h => g3 ⟨by omega, by simp [h]⟩
        have hd0 : 0 < (flipB f d).toNat := Nat.pos_of_ne_zero fun h => hd (UInt8.toNat_inj.1 h)
        have hl' : ((r'.take i).map (flipB f)).length = i := by simp at hl; simp; omega
        refine lenB_eq ?_ ?_
        · rw [hm, List.take_succ_cons, List.map_cons, val_cons, hl']
          have := Nat.mul_le_mul_right (256 ^ i) (show 1 ≤ (flipB f d).toNat by omega)
          omega
        · have := val_lt ((List.take (i + 1) (d :: r')).map (flipB f))
          rw [hl, ← hm] at this
          exact this
    have hneg : negB (sgnB f m) = f := by
      unfold negB sgnB
      cases f <;> simp <;> omega
    have hmag : magB (sgnB f m) = m := by
      clear g1 g2 g3 g4 hj hm hf hcj hl hlen hneg
      unfold magB sgnB
      cases f
      · simp only [Bool.false_eq_true, if_false]; split <;> omega
      · simp only [if_true]; split <;> omega
    have hi : intB (sgnB f m) = c :: r.take j := by
      rw [intB, hneg, hmag, hlen, ← hcj, flip_flip]
      congr 1
      have := big_val ((r.take j).map (flipB f)) 0
      rw [Nat.zero_mul, Nat.zero_add, ← hm, hl] at this
      rw [this, flip_map]
    have hjl : (r.take j).length = j := by simpa using hl
    refine ⟨by rw [hi, List.take_succ_cons], by rw [hi, List.length_cons, hjl], by simp only [List.length_cons]; omega, ?_, ?_⟩
    · have g5 : m < 9223372036854775808 := Nat.lt_of_not_le g4
      clear g3 hm hf hj
      unfold sgnB; split <;> omega
    · have g5 : m < 9223372036854775808 := Nat.lt_of_not_le g4
      clear g3 hm hf hj
      unfold sgnB; split <;> omega
end Go.Proofs.YtdfhbnfhkckkbaaGreatDoor
