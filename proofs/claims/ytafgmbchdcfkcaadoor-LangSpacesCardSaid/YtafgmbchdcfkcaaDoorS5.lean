/-
  The walks of isWord, isField, and Same of the program.
-/
import Derived.Test.YtafgmbchdcfkcaaDoorS2
import Derived.Test.YtafgmbchdcfkcaaDoorW9
namespace Go.Proofs.YtafgmbchdcfkcaaDoor
open Go Go.RowKit Go.Walks

def wordB : Bytes → Bool
  | [] => false
  | c :: r => isL c && r.all isAN
theorem wordB_iff {l : Bytes} : wordB l = true ↔ l ≠ [] ∧ ∀ (j : Nat) (c : UInt8), l[j]? = some c → isAN c = true ∧ (j = 0 → isL c = true) := by
  cases l with
  | nil => simp [wordB]
  | cons a r =>
    rw [wordB, Bool.and_eq_true, List.all_eq_true]
    constructor
    · rintro ⟨h1, h2⟩
      refine ⟨by simp, fun j c hc => ?_⟩
      cases j with
      | zero =>
        have : a = c := by simpa using hc
        subst this
        exact ⟨by unfold isAN; rw [h1]; rfl, fun _ => h1⟩
      | succ j => exact ⟨h2 c (List.mem_of_getElem? (by simpa using hc)), fun h => absurd h (by omega)⟩
    · rintro ⟨-, h⟩
      refine ⟨(h 0 a rfl).2 rfl, fun c hc => ?_⟩
      obtain ⟨j, hj⟩ := List.mem_iff_getElem?.1 hc
      exact (h (j + 1) c (by simpa using hj)).1
/-- The first k bytes are a word's. -/
def OkW (l : Bytes) (k : Nat) : Prop := ∀ (j : Nat) (c : UInt8), j < k → l[j]? = some c → isAN c = true ∧ (j = 0 → isL c = true)
theorem OkW.next {l : Bytes} {k : Nat} {c : UInt8} (h : OkW l k) (hk : l[k]? = some c) (hc : isAN c = true ∧ (k = 0 → isL c = true)) : OkW l (k + 1) := by
  intro j d hj hd
  rcases Nat.lt_or_ge j k with h' | h'
  · exact h j d h' hd
  · have : j = k := by omega
    subst this
    rw [hk] at hd
    injection hd with hd
    rw [← hd]; exact hc
theorem OkW.stop {l : Bytes} {k : Nat} {c : UInt8} (hk : l[k]? = some c) (hc : ¬ (isAN c = true ∧ (k = 0 → isL c = true))) : wordB l = false := by
  cases h : wordB l with
  | false => rfl
  | true => exact absurd ((wordB_iff.1 h).2 k c hk) hc
theorem OkW.end_ {l : Bytes} (h : OkW l l.length) (hne : l ≠ []) : wordB l = true := wordB_iff.2 ⟨hne, fun j c hc => h j c (List.getElem?_eq_some_iff.1 hc).1 hc⟩
theorem byte_l {t : ByteArray} {k : Nat} (h : k < t.size) : t.data.toList[k]? = some t[k] := by
  have h' : k < t.data.toList.length := by simpa using h
  rw [List.getElem?_eq_getElem h']; rfl

set_option maxRecDepth 100000 in
set_option maxHeartbeats 2000000 in
theorem isWord_any (t : ByteArray) (w : World) (ht : t.size ≤ maxLen) : Calls Tryd.prog 33 #[.string t] w fun e w' => e = .returned (.bool (wordB t.data.toList)) ∧ w' = w := by
  unfold maxLen at ht
  have hL : t.data.toList.length = t.size := by simp
  have HL := Lib.hid hL
  clear hL
  go_enter Tryd.func33, Tryd.ntmps33
  go_wp2_with fail
  go_loopg [6] t.size (fun g s6 wr => ∃ k : Nat, s6 = .int .i64 (k : Int) ∧ g = t.size - k ∧ k ≤ t.size ∧ wr = w ∧ Hid (OkW t.data.toList k))
  case atStart => exact ⟨0, rfl, rfl, by omega, rfl, fun j c h => absurd h (by omega)⟩
  case round =>
    obtain ⟨k, rfl, hg, hk, rfl, HO⟩ := hrel
    have Hg := Lib.hid hg
    clear hg
    by_cases hlt : k < t.size
    · have hI1 : (0 : Int) ≤ (k : Int) := by omega
      have hI2 : (k : Int) < (t.size : Int) := by omega
      have hget := Lib.hid (byte_l hlt)
      obtain ⟨c, hc⟩ : ∃ c, t[k] = c := ⟨_, rfl⟩
      rw [hc] at hget
      have h51 := letter_any c wr
      have h52 := digit_any c wr
      cases hl : isL c with
      | true =>
        have Hn : Hid (OkW t.data.toList (k + 1)) := HO.out.next hget.out ⟨by unfold isAN; rw [hl]; rfl, fun _ => hl⟩
        rw [hl] at h51
        have H51 := Lib.hid h51
        clear h51 h52 hl
        go_wp2_with (go_at_call 51; refine H51.out.mono ?_; rintro e w' ⟨rfl, hw'⟩; subst hw')
        go_roundg (t.size - (k + 1))
        case measure => rw [Hg.out]; omega
        case rel => exact ⟨k + 1, by go_num, rfl, by omega, rfl, Hn.out⟩
      | false =>
        rw [hl] at h51
        have H51 := Lib.hid h51
        by_cases hk0 : k = 0
        · have q0 : ((k : Int) == 0) = true := by rw [beq_iff_eq]; omega
          have Hno : Hid (wordB t.data.toList = false) := OkW.stop hget.out (fun h => by have := h.2 hk0; rw [hl] at this; cases this)
          clear h51 h52 hl hk0
          go_wp2_with (go_at_call 51; refine H51.out.mono ?_; rintro e w' ⟨rfl, hw'⟩; subst hw')
          go_ret
          exact ⟨by rw [Hno.out] <;> rfl, rfl⟩
        · have q0 : ((k : Int) == 0) = false := by rw [beq_eq_false_iff_ne]; omega
          cases hd : isD c with
          | true =>
            have Hn : Hid (OkW t.data.toList (k + 1)) := HO.out.next hget.out ⟨by unfold isAN; rw [hl, hd]; rfl, fun h => absurd h hk0⟩
            rw [hd] at h52
            have H52 := Lib.hid h52
            clear h51 h52 hl hd hk0
            go_wp2_with (first | (go_at_call 51; refine H51.out.mono ?_; rintro e w' ⟨rfl, hw'⟩; subst hw') | (go_at_call 52; refine H52.out.mono ?_; rintro e w' ⟨rfl, hw'⟩; subst hw'))
            go_roundg (t.size - (k + 1))
            case measure => rw [Hg.out]; omega
            case rel => exact ⟨k + 1, by go_num, rfl, by omega, rfl, Hn.out⟩
          | false =>
            have Hno : Hid (wordB t.data.toList = false) := OkW.stop hget.out (fun h => by have := h.1; unfold isAN at this; rw [hl, hd] at this; cases this)
            rw [hd] at h52
            have H52 := Lib.hid h52
            clear h51 h52 hl hd hk0
            go_wp2_with (first | (go_at_call 51; refine H51.out.mono ?_; rintro e w' ⟨rfl, hw'⟩; subst hw') | (go_at_call 52; refine H52.out.mono ?_; rintro e w' ⟨rfl, hw'⟩; subst hw'))
            go_ret
            exact ⟨by rw [Hno.out] <;> rfl, rfl⟩
    · have hke : k = t.size := by omega
      subst hke
      cases hl : t.data.toList with
      | nil =>
        have ht0 : t = ⟨#[]⟩ := by
          obtain ⟨d⟩ := t
          have : d = #[] := by rw [← Array.toList_inj]; exact hl
          rw [this]
        subst ht0
        go_wp2_with fail
        go_ret
        exact ⟨rfl, rfl⟩
      | cons c r =>
        have Hyes : Hid (wordB t.data.toList = true) := by
          show _ = _
          exact OkW.end_ (by rw [HL.out]; exact HO.out) (by rw [hl]; simp)
        have hemp : t.toList.isEmpty = false := by rw [Lib.toList_data, hl]; rfl
        clear hl
        go_wp2_with fail
        go_ret
        exact ⟨by rw [Hyes.out] <;> rfl, rfl⟩
theorem isFieldI (n : Int) (w : World) : Calls Tryd.prog 34 #[.int .i64 n] w fun e w' => e = .returned (.bool (decide (n = 8 ∨ n = 16))) ∧ w' = w := by
  by_cases h8 : n = 8
  · subst h8
    go_enter Tryd.func34, Tryd.ntmps34
    go_wp2_with fail
    go_ret
    exact ⟨rfl, rfl⟩
  · by_cases h16 : n = 16
    · subst h16
      go_enter Tryd.func34, Tryd.ntmps34
      go_wp2_with fail
      go_ret
      exact ⟨rfl, rfl⟩
    · have h1 : (n == 8) = false := by rw [beq_eq_false_iff_ne]; exact h8
      have h2 : (n == 16) = false := by rw [beq_eq_false_iff_ne]; exact h16
      have h3 : decide (n = 8 ∨ n = 16) = false := by simp [h8, h16]
      rw [h3]
      clear h3 h8 h16
      go_enter Tryd.func34, Tryd.ntmps34
      go_wp2_with fail
      go_ret
      exact ⟨rfl, rfl⟩
end Go.Proofs.YtafgmbchdcfkcaaDoor
