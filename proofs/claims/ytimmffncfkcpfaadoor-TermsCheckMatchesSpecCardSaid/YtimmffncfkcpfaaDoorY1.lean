/-
  The walks of the reference's letter, digit, isWord, isName, within, classNumbers and contractNumbers.
-/
import Derived.Test.YtimmffncfkcpfaaDoorW1
import Derived.Test.YtimmffncfkcpfaaDoorX1
namespace Go.Proofs.YtimmffncfkcpfaaDoor
open Go Go.RowKit Go.Walks

theorem rletter_any (c : UInt8) (w : World) : Calls Tryd.prog 66 #[.int .u8 (c.toNat : Int)] w fun e w' => e = .returned (.bool (isL c)) ∧ w' = w := by
  go_enter Tryd.func66, Tryd.ntmps66
  go_wp2_with fail
  · go_ret
    have h : 97 ≤ (c.toNat : Int) := by assumption
    exact ⟨by unfold isL; rw [decide_eq_true (show 97 ≤ c.toNat by omega)]; congr 2; simp; omega, rfl⟩
  · go_ret
    have h : (c.toNat : Int) < 97 := by assumption
    exact ⟨by unfold isL; rw [decide_eq_false (show ¬ 97 ≤ c.toNat by omega)]; rfl, rfl⟩
theorem rdigit_any (c : UInt8) (w : World) : Calls Tryd.prog 67 #[.int .u8 (c.toNat : Int)] w fun e w' => e = .returned (.bool (isD c)) ∧ w' = w := by
  go_enter Tryd.func67, Tryd.ntmps67
  go_wp2_with fail
  · go_ret
    have h : 48 ≤ (c.toNat : Int) := by assumption
    exact ⟨by unfold isD; rw [decide_eq_true (show 48 ≤ c.toNat by omega)]; congr 2; simp; omega, rfl⟩
  · go_ret
    have h : (c.toNat : Int) < 48 := by assumption
    exact ⟨by unfold isD; rw [decide_eq_false (show ¬ 48 ≤ c.toNat by omega)]; rfl, rfl⟩
theorem wordB_iff {l : Bytes} : wordB l = true ↔ l ≠ [] ∧ ∀ (j : Nat) (c : UInt8), l[j]? = some c → isAN c = true ∧ (j = 0 → isL c = true) := by
  cases l with
  | nil => simp [wordB]
  | cons a r =>
    rw [wordB, Bool.and_eq_true, List.all_eq_true]
    constructor
    · rintro ⟨h1, h2⟩
      refine ⟨by simp, fun j c hc => ?_⟩
      cases j with
      | zero =>
        have : a = c := by simpa using hc
        subst this
        exact ⟨by unfold isAN; rw [h1]; rfl, fun _ => h1⟩
      | succ j => exact ⟨h2 c (List.mem_of_getElem? (by simpa using hc)), fun h => absurd h (by omega)⟩
    · rintro ⟨-, h⟩
      refine ⟨(h 0 a rfl).2 rfl, fun c hc => ?_⟩
      obtain ⟨j, hj⟩ := List.mem_iff_getElem?.1 hc
      exact (h (j + 1) c (by simpa using hj)).1
/-- The first k bytes are a word's. -/
def OkV (l : Bytes) (k : Nat) : Prop := ∀ (j : Nat) (c : UInt8), j < k → l[j]? = some c → isAN c = true ∧ (j = 0 → isL c = true)
theorem OkV.next {l : Bytes} {k : Nat} {c : UInt8} (h : OkV l k) (hk : l[k]? = some c) (hc : isAN c = true ∧ (k = 0 → isL c = true)) : OkV l (k + 1) := by
  intro j d hj hd
  rcases Nat.lt_or_ge j k with h' | h'
  · exact h j d h' hd
  · have : j = k := by omega
    subst this
    rw [hk] at hd
    injection hd with hd
    rw [← hd]; exact hc
theorem OkV.stop {l : Bytes} {k : Nat} {c : UInt8} (hk : l[k]? = some c) (hc : ¬ (isAN c = true ∧ (k = 0 → isL c = true))) : wordB l = false := by
  cases h : wordB l with
  | false => rfl
  | true => exact absurd ((wordB_iff.1 h).2 k c hk) hc
theorem OkV.end_ {l : Bytes} (h : OkV l l.length) (hne : l ≠ []) : wordB l = true := wordB_iff.2 ⟨hne, fun j c hc => h j c (List.getElem?_eq_some_iff.1 hc).1 hc⟩
theorem byte_l {t : ByteArray} {k : Nat} (h : k < t.size) : t.data.toList[k]? = some t[k] := by
  have h' : k < t.data.toList.length := by simpa using h
  rw [List.getElem?_eq_getElem h']; rfl

set_option maxRecDepth 100000 in
set_option maxHeartbeats 2000000 in
theorem rword_any (t : ByteArray) (w : World) (ht : t.size ≤ maxLen) : Calls Tryd.prog 45 #[.string t] w fun e w' => e = .returned (.bool (wordB t.data.toList)) ∧ w' = w := by
  unfold maxLen at ht
  have hL : t.data.toList.length = t.size := by simp
  have HL := Lib.hid hL
  clear hL
  go_enter Tryd.func45, Tryd.ntmps45
  go_wp2_with fail
  go_loopg [3] t.size (fun g s3 wr => ∃ k : Nat, s3 = .int .i64 (k : Int) ∧ g = t.size - k ∧ k ≤ t.size ∧ wr = w ∧ Hid (OkV t.data.toList k))
  case atStart => exact ⟨0, rfl, rfl, by omega, rfl, fun j c h => absurd h (by omega)⟩
  case round =>
    obtain ⟨k, rfl, hg, hk, rfl, HO⟩ := hrel
    have Hg := Lib.hid hg
    clear hg
    by_cases hlt : k < t.size
    · have hI1 : (0 : Int) ≤ (k : Int) := by omega
      have hI2 : (k : Int) < (t.size : Int) := by omega
      have hget := Lib.hid (byte_l hlt)
      obtain ⟨c, hc⟩ : ∃ c, t[k] = c := ⟨_, rfl⟩
      rw [hc] at hget
      have h51 := rletter_any c wr
      have h52 := rdigit_any c wr
      cases hl : isL c with
      | true =>
        have Hn : Hid (OkV t.data.toList (k + 1)) := HO.out.next hget.out ⟨by unfold isAN; rw [hl]; rfl, fun _ => hl⟩
        rw [hl] at h51
        have H51 := Lib.hid h51
        clear h51 h52 hl
        go_wp2_with (go_at_call 66; refine H51.out.mono ?_; rintro e w' ⟨rfl, hw'⟩; subst hw')
        go_roundg (t.size - (k + 1))
        case measure => rw [Hg.out]; omega
        case rel => exact ⟨k + 1, by go_num, rfl, by omega, rfl, Hn.out⟩
      | false =>
        rw [hl] at h51
        have H51 := Lib.hid h51
        by_cases hk0 : k = 0
        · have q0 : ((k : Int) == 0) = true := by rw [beq_iff_eq]; omega
          have Hno : Hid (wordB t.data.toList = false) := OkV.stop hget.out (fun h => by have := h.2 hk0; rw [hl] at this; cases this)
          clear h51 h52 hl hk0
          go_wp2_with (go_at_call 66; refine H51.out.mono ?_; rintro e w' ⟨rfl, hw'⟩; subst hw')
          go_ret
          exact ⟨by rw [Hno.out] <;> rfl, rfl⟩
        · have q0 : ((k : Int) == 0) = false := by rw [beq_eq_false_iff_ne]; omega
          cases hd : isD c with
          | true =>
            have Hn : Hid (OkV t.data.toList (k + 1)) := HO.out.next hget.out ⟨by unfold isAN; rw [hl, hd]; rfl, fun h => absurd h hk0⟩
            rw [hd] at h52
            have H52 := Lib.hid h52
            clear h51 h52 hl hd hk0
            go_wp2_with (first | (go_at_call 66; refine H51.out.mono ?_; rintro e w' ⟨rfl, hw'⟩; subst hw') | (go_at_call 67; refine H52.out.mono ?_; rintro e w' ⟨rfl, hw'⟩; subst hw'))
            go_roundg (t.size - (k + 1))
            case measure => rw [Hg.out]; omega
            case rel => exact ⟨k + 1, by go_num, rfl, by omega, rfl, Hn.out⟩
          | false =>
            have Hno : Hid (wordB t.data.toList = false) := OkV.stop hget.out (fun h => by have := h.1; unfold isAN at this; rw [hl, hd] at this; cases this)
            rw [hd] at h52
            have H52 := Lib.hid h52
            clear h51 h52 hl hd hk0
            go_wp2_with (first | (go_at_call 66; refine H51.out.mono ?_; rintro e w' ⟨rfl, hw'⟩; subst hw') | (go_at_call 67; refine H52.out.mono ?_; rintro e w' ⟨rfl, hw'⟩; subst hw'))
            go_ret
            exact ⟨by rw [Hno.out] <;> rfl, rfl⟩
    · have hke : k = t.size := by omega
      subst hke
      cases hl : t.data.toList with
      | nil =>
        have ht0 : t = ⟨#[]⟩ := by
          obtain ⟨d⟩ := t
          have : d = #[] := by rw [← Array.toList_inj]; exact hl
          rw [this]
        subst ht0
        go_wp2_with fail
        go_ret
        exact ⟨rfl, rfl⟩
      | cons c r =>
        have Hyes : Hid (wordB t.data.toList = true) := by
          show _ = _
          exact OkV.end_ (by rw [HL.out]; exact HO.out) (by rw [hl]; simp)
        have hpos : 0 < t.size := by
          have := HL.out
          rw [hl] at this
          simp at this
          omega
        have Hpos : Hid (decide (0 < t.size) = true) := decide_eq_true hpos
        clear hl hpos
        go_wp2_with fail
        go_ret
        exact ⟨by rw [Hyes.out, ← Hpos.out] <;> rfl, rfl⟩
theorem rname_any (l : Bytes) (w : World) (hl : l.length ≤ maxLen) : Calls Tryd.prog 24 #[.string ⟨l.toArray⟩] w fun e w' => e = .returned (.bool (nameB l)) ∧ w' = w := by
  have h45 := rword_any ⟨l.toArray⟩ w (by show l.toArray.size ≤ _; rw [List.size_toArray]; exact hl)
  have hd : (⟨l.toArray⟩ : ByteArray).data.toList = l := by simp
  rw [hd] at h45
  unfold maxLen at hl
  cases hw : wordB l with
  | false =>
    have HN : Hid (nameB l = false) := by show _ = _; unfold nameB; rw [hw]; rfl
    rw [hw] at h45
    have H45 := Lib.hid h45
    clear hw h45 hd
    go_enter Tryd.func24, Tryd.ntmps24
    go_wp2_with fail
    refine H45.out.mono ?_
    rintro e w1 ⟨rfl, hw1⟩
    subst hw1
    go_wp2_with fail
    go_ret
    exact ⟨by rw [HN.out] <;> rfl, rfl⟩
  | true =>
    have HN : Hid (nameB l = decide (l.length ≤ 12)) := by show _ = _; unfold nameB; rw [hw]; rfl
    rw [hw] at h45
    have H45 := Lib.hid h45
    clear hw h45 hd
    go_enter Tryd.func24, Tryd.ntmps24
    go_wp2_with fail
    refine H45.out.mono ?_
    rintro e w1 ⟨rfl, hw1⟩
    subst hw1
    go_wp2_with fail
    go_ret
    refine ⟨?_, rfl⟩
    rw [HN.out]
    first | rfl | (congr 2; simp; omega)
theorem within_any (n lo hi : Int) (w : World) : Calls Tryd.prog 46 #[.int .i64 n, .int .i64 lo, .int .i64 hi] w fun e w' => e = .returned (.bool (decide (lo ≤ n ∧ n ≤ hi))) ∧ w' = w := by
  by_cases h1 : lo ≤ n
  · by_cases h2 : n ≤ hi
    · go_enter Tryd.func46, Tryd.ntmps46
      go_wp2_with fail
      go_ret
      exact ⟨by rw [decide_eq_true (by omega)] <;> rfl, rfl⟩
    · go_enter Tryd.func46, Tryd.ntmps46
      go_wp2_with fail
      go_ret
      exact ⟨by rw [decide_eq_false (by omega)] <;> rfl, rfl⟩
  · go_enter Tryd.func46, Tryd.ntmps46
    go_wp2_with fail
    go_ret
    exact ⟨by rw [decide_eq_false (by omega)] <;> rfl, rfl⟩
end Go.Proofs.YtimmffncfkcpfaaDoor
