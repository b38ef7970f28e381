/-
  The walks of the reference's letter, digit, isWord and within.
  The walk of the reference's skip.
  The walk of the reference's length.
-/
import Derived.Test.YtimmffncfkcpfaaGreatDoorW1
import Derived.Deep.DeepCutAuto
namespace Go.Proofs.YtimmffncfkcpfaaGreatDoor
open Go Go.RowKit Go.Walks

theorem rletter_any (c : UInt8) (w : World) : Calls Tryz.prog 86 #[.int .u8 (c.toNat : Int)] w fun e w' => e = .returned (.bool (isL c)) ∧ w' = w := by
  go_enter Tryz.func86, Tryz.ntmps86
  go_wp2_with fail
  · go_ret
    have h : 97 ≤ (c.toNat : Int) := by assumption
    exact ⟨by unfold isL; rw [decide_eq_true (show 97 ≤ c.toNat by omega)]; congr 2; simp; omega, rfl⟩
  · go_ret
    have h : (c.toNat : Int) < 97 := by assumption
    exact ⟨by unfold isL; rw [decide_eq_false (show ¬ 97 ≤ c.toNat by omega)]; rfl, rfl⟩
theorem rdigit_any (c : UInt8) (w : World) : Calls Tryz.prog 87 #[.int .u8 (c.toNat : Int)] w fun e w' => e = .returned (.bool (isD c)) ∧ w' = w := by
  go_enter Tryz.func87, Tryz.ntmps87
  go_wp2_with fail
  · go_ret
    have h : 48 ≤ (c.toNat : Int) := by assumption
    exact ⟨by unfold isD; rw [decide_eq_true (show 48 ≤ c.toNat by omega)]; congr 2; simp; omega, rfl⟩
  · go_ret
    have h : (c.toNat : Int) < 48 := by assumption
    exact ⟨by unfold isD; rw [decide_eq_false (show ¬ 48 ≤ c.toNat by omega)]; rfl, rfl⟩
theorem wordB_iff {l : Bytes} : wordB l = true ↔ l ≠ [] ∧ ∀ (j : Nat) (c : UInt8), l[j]? = some c → isAN c = true ∧ (j = 0 → isL c = true) := by
  cases l with
  | nil => simp [wordB]
  | cons a r =>
    rw [wordB, Bool.and_eq_true, List.all_eq_true]
    constructor
    · rintro ⟨h1, h2⟩
      refine ⟨by simp, fun j c hc => ?_⟩
      cases j with
      | zero =>
        have : a = c := by simpa using hc
        subst this
        exact ⟨by unfold isAN; rw [h1]; rfl, fun _ => h1⟩
      | succ j => exact ⟨h2 c (List.mem_of_getElem? (by simpa using hc)), fun h => absurd h (by omega)⟩
    · rintro ⟨-, h⟩
      refine ⟨(h 0 a rfl).2 rfl, fun c hc => ?_⟩
      obtain ⟨j, hj⟩ := List.mem_iff_getElem?.1 hc
      exact (h (j + 1) c (by simpa using hj)).1
/-- The first k bytes are a word's. -/
def OkV (l : Bytes) (k : Nat) : Prop := ∀ (j : Nat) (c : UInt8), j < k → l[j]? = some c → isAN c = true ∧ (j = 0 → isL c = true)
theorem OkV.next {l : Bytes} {k : Nat} {c : UInt8} (h : OkV l k) (hk : l[k]? = some c) (hc : isAN c = true ∧ (k = 0 → isL c = true)) : OkV l (k + 1) := by
  intro j d hj hd
  rcases Nat.lt_or_ge j k with h' | h'
  · exact h j d h' hd
  · have : j = k := by omega
    subst this
    rw [hk] at hd
    injection hd with hd
    rw [← hd]; exact hc
theorem OkV.stop {l : Bytes} {k : Nat} {c : UInt8} (hk : l[k]? = some c) (hc : ¬ (isAN c = true ∧ (k = 0 → isL c = true))) : wordB l = false := by
  cases h : wordB l with
  | false => rfl
  | true => exact absurd ((wordB_iff.1 h).2 k c hk) hc
theorem OkV.end_ {l : Bytes} (h : OkV l l.length) (hne : l ≠ []) : wordB l = true := wordB_iff.2 ⟨hne, fun j c hc => h j c (List.getElem?_eq_some_iff.1 hc).1 hc⟩
theorem byte_l {t : ByteArray} {k : Nat} (h : k < t.size) : t.data.toList[k]? = some t[k] := by
  have h' : k < t.data.toList.length := by simpa using h
  rw [List.getElem?_eq_getElem h']; rfl

set_option maxRecDepth 100000 in
set_option maxHeartbeats 2000000 in
theorem rword_any (t : ByteArray) (w : World) (ht : t.size ≤ maxLen) : Calls Tryz.prog 88 #[.string t] w fun e w' => e = .returned (.bool (wordB t.data.toList)) ∧ w' = w := by
  unfold maxLen at ht
  have hL : t.data.toList.length = t.size := by simp
  have HL := Lib.hid hL
  clear hL
  go_enter Tryz.func88, Tryz.ntmps88
  go_wp2_with fail
  go_loopg [3] t.size (fun g s3 wr => ∃ k : Nat, s3 = .int .i64 (k : Int) ∧ g = t.size - k ∧ k ≤ t.size ∧ wr = w ∧ Hid (OkV t.data.toList k))
  case atStart => exact ⟨0, rfl, rfl, by omega, rfl, fun j c h => absurd h (by omega)⟩
  case round =>
    obtain ⟨k, rfl, hg, hk, rfl, HO⟩ := hrel
    have Hg := Lib.hid hg
    clear hg
    by_cases hlt : k < t.size
    · have hI1 : (0 : Int) ≤ (k : Int) := by omega
      have hI2 : (k : Int) < (t.size : Int) := by omega
      have hget := Lib.hid (byte_l hlt)
      obtain ⟨c, hc⟩ : ∃ c, t[k] = c := ⟨_, rfl⟩
      rw [hc] at hget
      have h51 := rletter_any c wr
      have h52 := rdigit_any c wr
      cases hl : isL c with
      | true =>
        have Hn : Hid (OkV t.data.toList (k + 1)) := HO.out.next hget.out ⟨by unfold isAN; rw [hl]; rfl, fun _ => hl⟩
        rw [hl] at h51
        have H51 := Lib.hid h51
        clear h51 h52 hl
        go_wp2_with (go_at_call 86; refine H51.out.mono ?_; rintro e w' ⟨rfl, hw'⟩; subst hw')
        go_roundg (t.size - (k + 1))
        case measure => rw [Hg.out]; omega
        case rel => exact ⟨k + 1, by go_num, rfl, by omega, rfl, Hn.out⟩
      | false =>
        rw [hl] at h51
        have H51 := Lib.hid h51
        by_cases hk0 : k = 0
        · have q0 : ((k : Int) == 0) = true := by rw [beq_iff_eq]; omega
          have Hno : Hid (wordB t.data.toList = false) := OkV.stop hget.out (fun h => by have := h.2 hk0; rw [hl] at this; cases this)
          clear h51 h52 hl hk0
          go_wp2_with (go_at_call 86; refine H51.out.mono ?_; rintro e w' ⟨rfl, hw'⟩; subst hw')
          go_ret
          exact ⟨by rw [Hno.out] <;> rfl, rfl⟩
        · have q0 : ((k : Int) == 0) = false := by rw [beq_eq_false_iff_ne]; omega
          cases hd : isD c with
          | true =>
            have Hn : Hid (OkV t.data.toList (k + 1)) := HO.out.next hget.out ⟨by unfold isAN; rw [hl, hd]; rfl, fun h => absurd h hk0⟩
            rw [hd] at h52
            have H52 := Lib.hid h52
            clear h51 h52 hl hd hk0
            go_wp2_with (first | (go_at_call 86; refine H51.out.mono ?_; rintro e w' ⟨rfl, hw'⟩; subst hw') | (go_at_call 87; refine H52.out.mono ?_; rintro e w' ⟨rfl, hw'⟩; subst hw'))
            go_roundg (t.size - (k + 1))
            case measure => rw [Hg.out]; omega
            case rel => exact ⟨k + 1, by go_num, rfl, by omega, rfl, Hn.out⟩
          | false =>
            have Hno : Hid (wordB t.data.toList = false) := OkV.stop hget.out (fun h => by have := h.1; unfold isAN at this; rw [hl, hd] at this; cases this)
            rw [hd] at h52
            have H52 := Lib.hid h52
            clear h51 h52 hl hd hk0
            go_wp2_with (first | (go_at_call 86; refine H51.out.mono ?_; rintro e w' ⟨rfl, hw'⟩; subst hw') | (go_at_call 87; refine H52.out.mono ?_; rintro e w' ⟨rfl, hw'⟩; subst hw'))
            go_ret
            exact ⟨by rw [Hno.out] <;> rfl, rfl⟩
    · have hke : k = t.size := by omega
      subst hke
      cases hl : t.data.toList with
      | nil =>
        have ht0 : t = ⟨#[]⟩ := by
          obtain ⟨d⟩ := t
          have : d = #[] := by rw [← Array.toList_inj]; exact hl
          rw [this]
        subst ht0
        go_wp2_with fail
        go_ret
        exact ⟨rfl, rfl⟩
      | cons c r =>
        have Hyes : Hid (wordB t.data.toList = true) := by
          show _ = _
          exact OkV.end_ (by rw [HL.out]; exact HO.out) (by rw [hl]; simp)
        have hpos : 0 < t.size := by
          have := HL.out
          rw [hl] at this
          simp at this
          omega
        have Hpos : Hid (decide (0 < t.size) = true) := decide_eq_true hpos
        clear hl hpos
        go_wp2_with fail
        go_ret
        exact ⟨by rw [Hyes.out, ← Hpos.out] <;> rfl, rfl⟩
theorem within_any (n lo hi : Int) (w : World) : Calls Tryz.prog 64 #[.int .i64 n, .int .i64 lo, .int .i64 hi] w fun e w' => e = .returned (.bool (decide (lo ≤ n ∧ n ≤ hi))) ∧ w' = w := by
  by_cases h1 : lo ≤ n
  · by_cases h2 : n ≤ hi
    · go_enter Tryz.func64, Tryz.ntmps64
      go_wp2_with fail
      go_ret
      exact ⟨by rw [decide_eq_true (by omega)] <;> rfl, rfl⟩
    · go_enter Tryz.func64, Tryz.ntmps64
      go_wp2_with fail
      go_ret
      exact ⟨by rw [decide_eq_false (by omega)] <;> rfl, rfl⟩
  · go_enter Tryz.func64, Tryz.ntmps64
    go_wp2_with fail
    go_ret
    exact ⟨by rw [decide_eq_false (by omega)] <;> rfl, rfl⟩
end Go.Proofs.YtimmffncfkcpfaaGreatDoor
namespace Go.Proofs.YtimmffncfkcpfaaGreatDoor
open Go Go.RowKit Go.Walks

theorem skip_end {l : Bytes} {b : Bool} {k : Nat} (h : l.length ≤ k) : skipS b (l.drop k) = 0 := by rw [List.drop_of_length_le h]; cases b <;> rfl
theorem skip_cons {t : ByteArray} {k : Nat} (h : k < t.size) (b : Bool) : skipS b (t.data.toList.drop k) = skipS b (t[k] :: t.data.toList.drop (k + 1)) := by rw [drop_byte h]

set_option maxRecDepth 100000 in
set_option maxHeartbeats 4000000 in
theorem skip_any (t : ByteArray) (a : Nat) (w : World) (ht : t.size ≤ maxLen) (ha : a ≤ t.size) : Calls Tryz.prog 73 #[.string t, .int .i64 (a : Int)] w fun e w' => e = .returned (.int .i64 ((a + skipS false (t.data.toList.drop a) : Nat) : Int)) ∧ w' = w := by
  unfold maxLen at ht
  obtain ⟨r, hr⟩ : ∃ r, r = a + skipS false (t.data.toList.drop a) := ⟨_, rfl⟩
  rw [← hr]
  have HR := Lib.hid hr
  have HL : Hid (t.data.toList.length = t.size) := (Lib.size_eq t).symm
  clear hr
  go_enter Tryz.func73, Tryz.ntmps73
  go_wp2_with fail
  go_loopg [1] (t.size - a) (fun g s1 wr => ∃ k : Nat, s1 = .int .i64 (k : Int) ∧ g = t.size - k ∧ k ≤ t.size ∧ wr = w ∧ Hid (r = k + skipS false (t.data.toList.drop k)))
  case atStart => exact ⟨a, rfl, rfl, ha, rfl, HR.out⟩
  case round =>
    obtain ⟨k, rfl, hg, hk, rfl, HK⟩ := hrel
    have Hgk := Lib.hid hg
    clear hg
    by_cases hlt : k < t.size
    · have hI1 : (0 : Int) ≤ (k : Int) := by omega
      have hI2 : (k : Int) < (t.size : Int) := by omega
      obtain ⟨c, hc⟩ : ∃ c, t[k] = c := ⟨_, rfl⟩
      have hs := skip_cons hlt false
      rw [hc] at hs
      have HS := Lib.hid hs
      have hc2 := skip_cons hlt true
      rw [hc] at hc2
      have HS2 := Lib.hid hc2
      clear hs hc2
      by_cases h35 : c = 35
      · subst h35
        go_wp2_with fail
        obtain ⟨wo, rfl⟩ : ∃ wo : World, wo = wr := ⟨_, rfl⟩
        go_loopg [1] (t.size - k) (fun g s1 wr => ∃ j : Nat, s1 = .int .i64 (j : Int) ∧ g = t.size - j ∧ j ≤ t.size ∧ k ≤ j ∧ wr = wo ∧ Hid (r = j + skipS true (t.data.toList.drop j)))
        case atStart => exact ⟨k, rfl, rfl, by omega, Nat.le_refl _, rfl, HK.out.trans (by rw [HS.out, HS2.out]; rfl)⟩
        case round =>
          obtain ⟨j, rfl, hg2, hj, hkj, hww, HJ⟩ := hrel
          have Hgj := Lib.hid hg2
          have Hww := Lib.hid hww
          clear hg2 hww
          by_cases hlj : j < t.size
          · have hJ1 : (0 : Int) ≤ (j : Int) := by omega
            have hJ2 : (j : Int) < (t.size : Int) := by omega
            obtain ⟨d, hd⟩ : ∃ c, t[j] = c := ⟨_, rfl⟩
            have hs2 := skip_cons hlj true
            rw [hd] at hs2
            have HSJ := Lib.hid hs2
            have hs3 := skip_cons hlj false
            rw [hd] at hs3
            have HSF := Lib.hid hs3
            clear hs2 hs3
            by_cases h10 : d = 10
            · subst h10
              have hkne : k ≠ j := by
                rintro rfl
                rw [hc] at hd
                cases hd
              have HN : Hid (r = j + skipS false (t.data.toList.drop j)) := HJ.out.trans (by rw [HSJ.out, HSF.out]; rfl)
              have hkj2 : k < j := by omega
              clear hkne
              go_wp2_with fail
              go_roundg (t.size - j)
              case measure => rw [Hgk.out]; omega
              case rel => exact ⟨j, rfl, rfl, hj, Hww.out, HN.out⟩
            · have n10 : ((d.toNat : Int) != 10) = true := by
                rw [bne_iff_ne]; intro h; exact h10 (UInt8.toNat_inj.1 (by rw [show (10 : UInt8).toNat = 10 from rfl]; omega))
              have HN : Hid (r = j + 1 + skipS true (t.data.toList.drop (j + 1))) := HJ.out.trans (by rw [HSJ.out, skipS, if_neg (by simpa using h10)]; omega)
              clear h10
              go_wp2_with fail
              go_roundg (t.size - (j + 1))
              case measure => rw [Hgj.out]; omega
              case rel => exact ⟨j + 1, by go_num, rfl, by omega, by omega, Hww.out, HN.out⟩
          · have hJ2 : ¬ (j : Int) < (t.size : Int) := by omega
            have hkj2 : k < j := by omega
            have HN : Hid (r = j + skipS false (t.data.toList.drop j)) := HJ.out.trans (by rw [skip_end (by rw [HL.out]; omega), skip_end (by rw [HL.out]; omega)])
            go_wp2_with fail
            go_roundg (t.size - j)
            case measure => rw [Hgk.out]; omega
            case rel => exact ⟨j, rfl, rfl, hj, Hww.out, HN.out⟩
      · have n35 : ((c.toNat : Int) == 35) = false := by
          rw [beq_eq_false_iff_ne]; intro h; exact h35 (UInt8.toNat_inj.1 (by rw [show (35 : UInt8).toNat = 35 from rfl]; omega))
        cases hb : isB c with
        | true =>
          have HN : Hid (r = k + 1 + skipS false (t.data.toList.drop (k + 1))) := HK.out.trans (by rw [HS.out, skipS, if_pos hb]; omega)
          have hor : c = 32 ∨ c = 9 ∨ c = 10 := by
            unfold isB at hb
            simpa [or_assoc] using hb
          clear hb h35
          rcases hor with rfl | rfl | rfl
          all_goals
            go_wp2_with fail
            go_roundg (t.size - (k + 1))
            case measure => rw [Hgk.out]; omega
            case rel => exact ⟨k + 1, by go_num, rfl, by omega, rfl, HN.out⟩
        | false =>
          have HN : Hid (r = k) := HK.out.trans (by rw [HS.out, skipS, if_neg (by rw [hb]; simp), if_neg (by simpa using h35)]; omega)
          have n32 : ((c.toNat : Int) == 32) = false := by
            rw [beq_eq_false_iff_ne]; intro h
            have : c = 32 := UInt8.toNat_inj.1 (by rw [show (32 : UInt8).toNat = 32 from rfl]; omega)
            rw [this] at hb; cases hb
          have n9 : ((c.toNat : Int) == 9) = false := by
            rw [beq_eq_false_iff_ne]; intro h
            have : c = 9 := UInt8.toNat_inj.1 (by rw [show (9 : UInt8).toNat = 9 from rfl]; omega)
            rw [this] at hb; cases hb
          have n10 : ((c.toNat : Int) == 10) = false := by
            rw [beq_eq_false_iff_ne]; intro h
            have : c = 10 := UInt8.toNat_inj.1 (by rw [show (10 : UInt8).toNat = 10 from rfl]; omega)
            rw [this] at hb; cases hb
          clear hb h35
          go_wp2_with fail
          go_ret
          exact ⟨by rw [HN.out] <;> rfl, rfl⟩
    · have hke : ¬ (k : Int) < (t.size : Int) := by omega
      have HN : Hid (r = k) := HK.out.trans (by rw [skip_end (by rw [HL.out]; omega)]; rfl)
      go_wp2_with fail
      go_ret
      exact ⟨by rw [HN.out] <;> rfl, rfl⟩
end Go.Proofs.YtimmffncfkcpfaaGreatDoor
namespace Go.Proofs.YtimmffncfkcpfaaGreatDoor
open Go Go.RowKit Go.Walks

theorem lex_len {c : UInt8} {s : Bytes} (h : isS c = false) : (lexS (c :: s)).length = if wordB (runT (c :: s)) || numB (runT (c :: s)) then (runT (c :: s)).length else 0 := by
  rw [lexS_cons, h]
  simp only [Bool.false_eq_true, if_false]
  split <;> rfl
def DigTo (l : Bytes) (k : Nat) : Prop := ∀ (j : Nat) (c : UInt8), j < k → l[j]? = some c → isD c = true
theorem DigTo.next {l : Bytes} {k : Nat} {c : UInt8} (h : DigTo l k) (hk : l[k]? = some c) (hc : isD c = true) : DigTo l (k + 1) := by
  intro j d hj hd
  rcases Nat.lt_or_ge j k with h' | h'
  · exact h j d h' hd
  · have : j = k := by omega
    subst this
    rw [hk] at hd
    injection hd with hd
    rw [← hd]; exact hc
theorem not_num {l : Bytes} {k : Nat} {c : UInt8} (hk : l[k]? = some c) (hc : isD c = false) : numB l = false := by
  cases l with
  | nil => rfl
  | cons a r =>
    cases hb : numB (a :: r) with
    | false => rfl
    | true =>
      have := (numB_cons.1 hb).1 c (List.mem_of_getElem? hk)
      rw [hc] at this; cases this
theorem num_of {l : Bytes} (h : DigTo l l.length) (h0 : l ≠ []) : numB l = (decide (l.length ≤ 8) && (decide (l.length ≤ 1) || decide (l[0]? ≠ some 48))) := by
  cases l with
  | nil => exact absurd rfl h0
  | cons c r =>
    rw [Bool.eq_iff_iff, numB_cons]
    simp only [Bool.and_eq_true, Bool.or_eq_true, decide_eq_true_eq, List.length_cons, List.getElem?_cons_zero, ne_eq, Option.some.injEq]
    constructor
    · rintro ⟨-, h2, h3⟩
      refine ⟨by omega, ?_⟩
      rcases h3 with rfl | h3
      · exact .inl (by simp)
      · exact .inr h3
    · rintro ⟨h2, h3⟩
      refine ⟨fun d hd => ?_, by omega, ?_⟩
      · obtain ⟨j, hj⟩ := List.mem_iff_getElem?.1 hd
        exact h j d (List.getElem?_eq_some_iff.1 hj).1 hj
      · rcases h3 with h3 | h3
        · exact .inl (List.length_eq_zero_iff.1 (by omega))
        · exact .inr h3

set_option maxRecDepth 100000 in
set_option maxHeartbeats 4000000 in
theorem length_any (t : ByteArray) (a : Nat) (w : World) (ht : t.size ≤ maxLen) (ha : a < t.size) : Calls Tryz.prog 74 #[.string t, .int .i64 (a : Int)] w fun e w' => e = .returned (.int .i64 (((lexS (t.data.toList.drop a)).length : Nat) : Int)) ∧ w' = w := by
  unfold maxLen at ht
  obtain ⟨c, hc⟩ : ∃ c, t[a] = c := ⟨_, rfl⟩
  have hI1 : (0 : Int) ≤ (a : Int) := by omega
  have hI2 : (a : Int) < (t.size : Int) := by omega
  have hdr := drop_byte ha
  rw [hc] at hdr
  have HL : Hid (t.data.toList.length = t.size) := (Lib.size_eq t).symm
  cases hS : isS c with
  | true =>
    have hv : (lexS (t.data.toList.drop a)).length = 1 := by rw [hdr, lexS_cons, if_pos hS]; rfl
    rw [hv]
    have hor : c = 123 ∨ c = 125 ∨ c = 59 := by
      unfold isS at hS
      simpa [or_assoc] using hS
    clear hS hv hdr
    rcases hor with rfl | rfl | rfl
    all_goals
      go_enter Tryz.func74, Tryz.ntmps74
      go_wp2_with fail
      go_ret
      exact ⟨rfl, rfl⟩
  | false =>
    have n1 : ((c.toNat : Int) == 123) = false := by
      rw [beq_eq_false_iff_ne]; intro h
      have : c = 123 := UInt8.toNat_inj.1 (by rw [show (123 : UInt8).toNat = 123 from rfl]; omega)
      rw [this] at hS; cases hS
    have n2 : ((c.toNat : Int) == 125) = false := by
      rw [beq_eq_false_iff_ne]; intro h
      have : c = 125 := UInt8.toNat_inj.1 (by rw [show (125 : UInt8).toNat = 125 from rfl]; omega)
      rw [this] at hS; cases hS
    have n3 : ((c.toNat : Int) == 59) = false := by
      rw [beq_eq_false_iff_ne]; intro h
      have : c = 59 := UInt8.toNat_inj.1 (by rw [show (59 : UInt8).toNat = 59 from rfl]; omega)
      rw [this] at hS; cases hS
    have hv := lex_len (s := t.data.toList.drop (a + 1)) hS
    rw [← hdr] at hv
    obtain ⟨v, hve⟩ : ∃ v, v = (lexS (t.data.toList.drop a)).length := ⟨_, rfl⟩
    obtain ⟨run, hrun⟩ : ∃ x, x = runT (t.data.toList.drop a) := ⟨_, rfl⟩
    obtain ⟨rl, hrl⟩ : ∃ x, x = run.length := ⟨_, rfl⟩
    rw [← hve, ← hrun, ← hrl] at hv
    rw [← hve]
    have hle : a + rl ≤ t.size := by
      have h1 := runT_le (t.data.toList.drop a)
      rw [← hrun, List.length_drop, HL.out, ← hrl] at h1
      omega
    have HV := Lib.hid hv
    have HR := Lib.hid hrun
    have HRL := Lib.hid hrl
    clear hS hve hv hdr hrl hrun
    go_enter Tryz.func74, Tryz.ntmps74
    go_wp2_with fail
    go_loopg [5] rl (fun g s5 wr => ∃ n : Nat, s5 = .int .i64 (n : Int) ∧ g = rl - n ∧ n ≤ rl ∧ wr = w)
    case atStart => exact ⟨0, rfl, rfl, Nat.zero_le _, rfl⟩
    case round =>
      obtain ⟨n, rfl, hg, hn, rfl⟩ := hrel
      have Hgn := Lib.hid hg
      clear hg
      have hK1 : (0 : Int) ≤ (a : Int) + (n : Int) := by omega
      by_cases hlt : n < rl
      · have hK2 : (a : Int) + (n : Int) < (t.size : Int) := by omega
        have hKn : a + n < t.size := by omega
        obtain ⟨d, hd⟩ : ∃ d, t[a + n] = d := ⟨_, rfl⟩
        have hAN : isAN d = true := by
          obtain ⟨d', h1, h2⟩ := takeWhile_at (p := isAN) (t.data.toList.drop a) n (by
            have := HRL.out
            rw [HR.out] at this
            unfold runT at this
            omega)
          rw [List.getElem?_drop, byte_get hKn, hd] at h1
          injection h1 with h1
          rw [h1]; exact h2
        have h86 := rletter_any d wr
        have h87 := rdigit_any d wr
        cases hl : isL d with
        | true =>
          rw [hl] at h86
          have H86 := Lib.hid h86
          clear h86 h87 hl hAN
          go_wp2_with (go_at_call 86; refine H86.out.mono ?_; rintro e w' ⟨rfl, hw'⟩; subst hw')
          go_roundg (rl - (n + 1))
          case measure => rw [Hgn.out]; omega
          case rel => exact ⟨n + 1, by go_num, rfl, by omega, rfl⟩
        | false =>
          have hdg : isD d = true := by
            unfold isAN at hAN
            rw [hl] at hAN
            exact hAN
          rw [hl] at h86
          rw [hdg] at h87
          have H86 := Lib.hid h86
          have H87 := Lib.hid h87
          clear h86 h87 hl hAN hdg
          go_wp2_with (first | (go_at_call 86; refine H86.out.mono ?_; rintro e w' ⟨rfl, hw'⟩; subst hw') | (go_at_call 87; refine H87.out.mono ?_; rintro e w' ⟨rfl, hw'⟩; subst hw'))
          go_roundg (rl - (n + 1))
          case measure => rw [Hgn.out]; omega
          case rel => exact ⟨n + 1, by go_num, rfl, by omega, rfl⟩
      · have hnr : n = rl := by omega
        subst hnr
        obtain ⟨sb, hsb⟩ : ∃ x, x = t.extract a (a + n) := ⟨_, rfl⟩
        have hsl : sb.data.toList = run := by
          rw [hsb, Lib.extract_data, show a + n - a = n by omega, HRL.out, HR.out]
          exact (List.prefix_iff_eq_take.1 (List.takeWhile_prefix isAN)).symm
        have hsz : sb.size = n := by rw [Lib.size_eq, hsl, ← HRL.out]
        have h88 := rword_any sb wr (by unfold maxLen; omega)
        rw [hsl] at h88
        have H88 := Lib.hid h88
        have HSL := Lib.hid hsl
        clear h88 hsl hlt
        by_cases hend : a + n < t.size
        · have hK2 : (a : Int) + (n : Int) < (t.size : Int) := by omega
          obtain ⟨d, hd⟩ : ∃ d, t[a + n] = d := ⟨_, rfl⟩
          have hAN : isAN d = false := takeWhile_end (p := isAN) (t.data.toList.drop a) d (by
            have := HRL.out
            rw [HR.out] at this
            unfold runT at this
            rw [← this, List.getElem?_drop, byte_get hend, hd])
          have h86 := rletter_any d wr
          have h87 := rdigit_any d wr
          have hl : isL d = false := by unfold isAN at hAN; exact (Bool.or_eq_false_iff.1 hAN).1
          have hdg : isD d = false := by unfold isAN at hAN; exact (Bool.or_eq_false_iff.1 hAN).2
          rw [hl] at h86
          rw [hdg] at h87
          have H86 := Lib.hid h86
          have H87 := Lib.hid h87
          clear h86 h87 hl hAN hdg
          go_upto_region 7 with (first | (go_at_call 86; refine H86.out.mono ?_; rintro e w' ⟨rfl, hw'⟩; have hw2 := hw'.symm; subst hw2) | (go_at_call 87; refine H87.out.mono ?_; rintro e w' ⟨rfl, hw'⟩; have hw2 := hw'.symm; subst hw2))
          rw [← hsb]
          clear hsb
          cases hw : wordB run with
          | true =>
            rw [hw] at H88
            have Hv : Hid (v = n) := HV.out.trans (by rw [hw]; simp)
            clear hw
            go_wp2_with (go_at_call 88; refine H88.out.mono ?_; rintro e w' ⟨rfl, hw'⟩; have hw2 := hw'.symm; subst hw2)
            go_ret
            exact ⟨by rw [Hv.out] <;> rfl, rfl⟩
          | false =>
            rw [hw] at H88
            have Hv1 : Hid (numB run = true → v = n) := fun h => HV.out.trans (by rw [hw, h]; simp)
            have Hv0 : Hid (numB run = false → v = 0) := fun h => HV.out.trans (by rw [hw, h]; simp)
            clear hw
            go_wp2_with (go_at_call 88; refine H88.out.mono ?_; rintro e w' ⟨rfl, hw'⟩; have hw2 := hw'.symm; subst hw2)
            obtain ⟨wo, rfl⟩ : ∃ wo : World, wo = wr := ⟨_, rfl⟩
            go_loopg [7] n (fun g s7 wr => ∃ i : Nat, s7 = .int .i64 (i : Int) ∧ g = n - i ∧ i ≤ n ∧ wr = wo ∧ Hid (DigTo run i))
            case atStart => exact ⟨0, rfl, rfl, Nat.zero_le _, rfl, fun j c h => absurd h (by omega)⟩
            case round =>
              obtain ⟨i, rfl, hg2, hi, hwr, HD⟩ := hrel
              have Hgi := Lib.hid hg2
              have Hwr := Lib.hid hwr
              clear hg2 hwr
              by_cases hin : i < n
              · have hS1 : (0 : Int) ≤ (i : Int) := by omega
                have hS2 : (i : Int) < (n : Int) := by omega
                have hSn : i < sb.size := by omega
                obtain ⟨d2, hd2⟩ : ∃ d, sb[i] = d := ⟨_, rfl⟩
                have hget : run[i]? = some d2 := by rw [← HSL.out, byte_get hSn, hd2]
                have Hget := Lib.hid hget
                have h87 := rdigit_any d2 wr
                cases hdg : isD d2 with
                | true =>
                  rw [hdg] at h87
                  have H87 := Lib.hid h87
                  have HD2 := Lib.hid (HD.out.next hget hdg)
                  clear h87 hdg hget
                  go_wp2_with (go_at_call 87; refine H87.out.mono ?_; rintro e w' ⟨rfl, hw'⟩; have hw2 := hw'.symm; subst hw2)
                  go_roundg (n - (i + 1))
                  case measure => rw [Hgi.out]; omega
                  case rel => exact ⟨i + 1, by go_num, rfl, by omega, Hwr.out, HD2.out⟩
                | false =>
                  rw [hdg] at h87
                  have H87 := Lib.hid h87
                  have Hv : Hid (v = 0) := Hv0.out (not_num hget hdg)
                  clear h87 hdg hget
                  go_wp2_with (go_at_call 87; refine H87.out.mono ?_; rintro e w' ⟨rfl, hw'⟩; have hw2 := hw'.symm; subst hw2)
                  go_ret
                  exact ⟨by rw [Hv.out] <;> rfl, Hwr.out⟩
              · have hS2 : ¬ (i : Int) < (n : Int) := by omega
                have hne : i = n := by omega
                have HD2 : Hid (DigTo run run.length) := by rw [hne] at HD; rw [← HRL.out]; exact HD.out
                clear HD
                by_cases h8 : 8 < n
                · have hS3 : (8 : Int) < (n : Int) := by omega
                  have Hv : Hid (v = 0) := Hv0.out (by
                    rw [num_of HD2.out (fun e => by have := HRL.out; rw [e] at this; simp at this; omega), decide_eq_false (by have := HRL.out; omega)]; rfl)
                  go_wp2_with fail
                  go_ret
                  exact ⟨by rw [Hv.out] <;> rfl, Hwr.out⟩
                · have hS3 : ¬ (8 : Int) < (n : Int) := by omega
                  by_cases h1 : 1 < n
                  · have hS4 : (1 : Int) < (n : Int) := by omega
                    have hSn : 0 < sb.size := by omega
                    have hS0 : (0 : Int) < (n : Int) := by omega
                    obtain ⟨d2, hd2⟩ : ∃ d, sb[0] = d := ⟨_, rfl⟩
                    have hget : run[0]? = some d2 := by rw [← HSL.out, byte_get hSn, hd2]
                    have hnum := num_of HD2.out (fun e => by have := HRL.out; rw [e] at this; simp at this; omega)
                    rw [decide_eq_true (show run.length ≤ 8 by have := HRL.out; omega), decide_eq_false (show ¬ run.length ≤ 1 by have := HRL.out; omega), hget] at hnum
                    by_cases h48 : d2 = 48
                    · subst h48
                      have Hv : Hid (v = 0) := Hv0.out (by rw [hnum]; rfl)
                      clear hnum hget
                      go_wp2_with fail
                      go_ret
                      exact ⟨by rw [Hv.out] <;> rfl, Hwr.out⟩
                    · have n48 : ((d2.toNat : Int) == 48) = false := by
                        rw [beq_eq_false_iff_ne]; intro h
                        exact h48 (UInt8.toNat_inj.1 (by rw [show (48 : UInt8).toNat = 48 from rfl]; omega))
                      have Hv : Hid (v = n) := Hv1.out (by rw [hnum, decide_eq_true (by simpa using h48)]; rfl)
                      clear hnum hget h48
                      go_wp2_with fail
                      go_ret
                      exact ⟨by rw [Hv.out] <;> rfl, Hwr.out⟩
                  · have hS4 : ¬ (1 : Int) < (n : Int) := by omega
                    have Hv : Hid (v = n) := by
                      by_cases hz : n = 0
                      · rw [hz]
                        refine Hv0.out ?_
                        have : run = [] := List.length_eq_zero_iff.1 (by have := HRL.out; omega)
                        rw [this]; rfl
                      · refine Hv1.out ?_
                        rw [num_of HD2.out (fun e => by have := HRL.out; rw [e] at this; simp at this; omega), decide_eq_true (show run.length ≤ 8 by have := HRL.out; omega), decide_eq_true (show run.length ≤ 1 by have := HRL.out; omega)]; rfl
                    go_wp2_with fail
                    go_ret
                    exact ⟨by rw [Hv.out] <;> rfl, Hwr.out⟩
        · have hK2 : ¬ (a : Int) + (n : Int) < (t.size : Int) := by omega
          go_upto_region 7 with fail
          rw [← hsb]
          clear hsb
          cases hw : wordB run with
          | true =>
            rw [hw] at H88
            have Hv : Hid (v = n) := HV.out.trans (by rw [hw]; simp)
            clear hw
            go_wp2_with (go_at_call 88; refine H88.out.mono ?_; rintro e w' ⟨rfl, hw'⟩; have hw2 := hw'.symm; subst hw2)
            go_ret
            exact ⟨by rw [Hv.out] <;> rfl, rfl⟩
          | false =>
            rw [hw] at H88
            have Hv1 : Hid (numB run = true → v = n) := fun h => HV.out.trans (by rw [hw, h]; simp)
            have Hv0 : Hid (numB run = false → v = 0) := fun h => HV.out.trans (by rw [hw, h]; simp)
            clear hw
            go_wp2_with (go_at_call 88; refine H88.out.mono ?_; rintro e w' ⟨rfl, hw'⟩; have hw2 := hw'.symm; subst hw2)
            obtain ⟨wo, rfl⟩ : ∃ wo : World, wo = wr := ⟨_, rfl⟩
            go_loopg [7] n (fun g s7 wr => ∃ i : Nat, s7 = .int .i64 (i : Int) ∧ g = n - i ∧ i ≤ n ∧ wr = wo ∧ Hid (DigTo run i))
            case atStart => exact ⟨0, rfl, rfl, Nat.zero_le _, rfl, fun j c h => absurd h (by omega)⟩
            case round =>
              obtain ⟨i, rfl, hg2, hi, hwr, HD⟩ := hrel
              have Hgi := Lib.hid hg2
              have Hwr := Lib.hid hwr
              clear hg2 hwr
              by_cases hin : i < n
              · have hS1 : (0 : Int) ≤ (i : Int) := by omega
                have hS2 : (i : Int) < (n : Int) := by omega
                have hSn : i < sb.size := by omega
                obtain ⟨d2, hd2⟩ : ∃ d, sb[i] = d := ⟨_, rfl⟩
                have hget : run[i]? = some d2 := by rw [← HSL.out, byte_get hSn, hd2]
                have Hget := Lib.hid hget
                have h87 := rdigit_any d2 wr
                cases hdg : isD d2 with
                | true =>
                  rw [hdg] at h87
                  have H87 := Lib.hid h87
                  have HD2 := Lib.hid (HD.out.next hget hdg)
                  clear h87 hdg hget
                  go_wp2_with (go_at_call 87; refine H87.out.mono ?_; rintro e w' ⟨rfl, hw'⟩; have hw2 := hw'.symm; subst hw2)
                  go_roundg (n - (i + 1))
                  case measure => rw [Hgi.out]; omega
                  case rel => exact ⟨i + 1, by go_num, rfl, by omega, Hwr.out, HD2.out⟩
                | false =>
                  rw [hdg] at h87
                  have H87 := Lib.hid h87
                  have Hv : Hid (v = 0) := Hv0.out (not_num hget hdg)
                  clear h87 hdg hget
                  go_wp2_with (go_at_call 87; refine H87.out.mono ?_; rintro e w' ⟨rfl, hw'⟩; have hw2 := hw'.symm; subst hw2)
                  go_ret
                  exact ⟨by rw [Hv.out] <;> rfl, Hwr.out⟩
              · have hS2 : ¬ (i : Int) < (n : Int) := by omega
                have hne : i = n := by omega
                have HD2 : Hid (DigTo run run.length) := by rw [hne] at HD; rw [← HRL.out]; exact HD.out
                clear HD
                by_cases h8 : 8 < n
                · have hS3 : (8 : Int) < (n : Int) := by omega
                  have Hv : Hid (v = 0) := Hv0.out (by
                    rw [num_of HD2.out (fun e => by have := HRL.out; rw [e] at this; simp at this; omega), decide_eq_false (by have := HRL.out; omega)]; rfl)
                  go_wp2_with fail
                  go_ret
                  exact ⟨by rw [Hv.out] <;> rfl, Hwr.out⟩
                · have hS3 : ¬ (8 : Int) < (n : Int) := by omega
                  by_cases h1 : 1 < n
                  · have hS4 : (1 : Int) < (n : Int) := by omega
                    have hSn : 0 < sb.size := by omega
                    have hS0 : (0 : Int) < (n : Int) := by omega
                    obtain ⟨d2, hd2⟩ : ∃ d, sb[0] = d := ⟨_, rfl⟩
                    have hget : run[0]? = some d2 := by rw [← HSL.out, byte_get hSn, hd2]
                    have hnum := num_of HD2.out (fun e => by have := HRL.out; rw [e] at this; simp at this; omega)
                    rw [decide_eq_true (show run.length ≤ 8 by have := HRL.out; omega), decide_eq_false (show ¬ run.length ≤ 1 by have := HRL.out; omega), hget] at hnum
                    by_cases h48 : d2 = 48
                    · subst h48
                      have Hv : Hid (v = 0) := Hv0.out (by rw [hnum]; rfl)
                      clear hnum hget
                      go_wp2_with fail
                      go_ret
                      exact ⟨by rw [Hv.out] <;> rfl, Hwr.out⟩
                    · have n48 : ((d2.toNat : Int) == 48) = false := by
                        rw [beq_eq_false_iff_ne]; intro h
                        exact h48 (UInt8.toNat_inj.1 (by rw [show (48 : UInt8).toNat = 48 from rfl]; omega))
                      have Hv : Hid (v = n) := Hv1.out (by rw [hnum, decide_eq_true (by simpa using h48)]; rfl)
                      clear hnum hget h48
                      go_wp2_with fail
                      go_ret
                      exact ⟨by rw [Hv.out] <;> rfl, Hwr.out⟩
                  · have hS4 : ¬ (1 : Int) < (n : Int) := by omega
                    have Hv : Hid (v = n) := by
                      by_cases hz : n = 0
                      · rw [hz]
                        refine Hv0.out ?_
                        have : run = [] := List.length_eq_zero_iff.1 (by have := HRL.out; omega)
                        rw [this]; rfl
                      · refine Hv1.out ?_
                        rw [num_of HD2.out (fun e => by have := HRL.out; rw [e] at this; simp at this; omega), decide_eq_true (show run.length ≤ 8 by have := HRL.out; omega), decide_eq_true (show run.length ≤ 1 by have := HRL.out; omega)]; rfl
                    go_wp2_with fail
                    go_ret
                    exact ⟨by rw [Hv.out] <;> rfl, Hwr.out⟩
end Go.Proofs.YtimmffncfkcpfaaGreatDoor
