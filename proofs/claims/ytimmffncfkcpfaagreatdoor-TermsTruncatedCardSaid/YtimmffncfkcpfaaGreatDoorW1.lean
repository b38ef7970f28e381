/-
  The walks of letter, digit, isWord, isName and isNumber.
-/
import Derived.Test.YtimmffncfkcpfaaGreatDoorA3
import Derived.Test.YtimmffncfkcpfaaGreatDoorG1
import Derived.WalkKit
import Derived.WalkSpells
import Derived.WalkLawsBesides
import Derived.BigQuiet
import Derived.Deep.QuietTactic
import Derived.Deep.LoopGhost
import Derived.KernelRfl
import Derived.Lib.Hide
import Derived.Lib.ConvBytes
import Derived.Lib.ItoaLen
import Derived.Lib.AtoiErrMem
import Derived.Lib.AppendIntMem
import Derived.StillTailTactics
namespace Go.Proofs.YtimmffncfkcpfaaGreatDoor
open Go Go.RowKit Go.Walks

theorem letter_any (c : UInt8) (w : World) : Calls Tryz.prog 45 #[.int .u8 (c.toNat : Int)] w fun e w' => e = .returned (.bool (isL c)) ∧ w' = w := by
  go_enter Tryz.func45, Tryz.ntmps45
  go_wp2_with fail
  · go_ret
    have h : 97 ≤ (c.toNat : Int) := by assumption
    exact ⟨by unfold isL; rw [decide_eq_true (show 97 ≤ c.toNat by omega)]; congr 2; simp; omega, rfl⟩
  · go_ret
    have h : (c.toNat : Int) < 97 := by assumption
    exact ⟨by unfold isL; rw [decide_eq_false (show ¬ 97 ≤ c.toNat by omega)]; rfl, rfl⟩
theorem digit_any (c : UInt8) (w : World) : Calls Tryz.prog 46 #[.int .u8 (c.toNat : Int)] w fun e w' => e = .returned (.bool (isD c)) ∧ w' = w := by
  go_enter Tryz.func46, Tryz.ntmps46
  go_wp2_with fail
  · go_ret
    have h : 48 ≤ (c.toNat : Int) := by assumption
    exact ⟨by unfold isD; rw [decide_eq_true (show 48 ≤ c.toNat by omega)]; congr 2; simp; omega, rfl⟩
  · go_ret
    have h : (c.toNat : Int) < 48 := by assumption
    exact ⟨by unfold isD; rw [decide_eq_false (show ¬ 48 ≤ c.toNat by omega)]; rfl, rfl⟩
def BoolR (b : Bool) (w : World) (e : Ending) (w' : World) : Prop := e = .returned (.bool b) ∧ Below w.heap.size w w'

theorem all_no {α : Type} {l : List α} {p : α → Bool} {k : Nat} {x : α} (hx : l[k]? = some x) (h : p x = false) : l.all p = false := by
  rw [List.all_eq_false]
  exact ⟨x, List.mem_of_getElem? hx, by simp [h]⟩
theorem all_yes {α : Type} {l : List α} {p : α → Bool} (h : ∀ (k : Nat) (x : α), k < l.length → l[k]? = some x → p x = true) : l.all p = true := by
  rw [List.all_eq_true]
  intro x hx
  obtain ⟨k, hk⟩ := List.mem_iff_getElem?.1 hx
  exact h k x (List.getElem?_eq_some_iff.1 hk).1 hk
def OkW (l : Bytes) (k : Nat) : Prop := ∀ (j : Nat) (c : UInt8), j < k → l[j]? = some c → isAN c = true
theorem OkW.next {l : Bytes} {k : Nat} {c : UInt8} (h : OkW l k) (hk : l[k]? = some c) (hc : isAN c = true) : OkW l (k + 1) := by
  intro j d hj hd
  rcases Nat.lt_or_ge j k with h' | h'
  · exact h j d h' hd
  · have : j = k := by omega
    subst this
    rw [hk] at hd
    injection hd with hd
    rw [← hd]; exact hc

set_option maxRecDepth 100000 in
set_option maxHeartbeats 2000000 in
theorem isWord_any (l : Bytes) (w : World) (hl : l.length ≤ 140737488355328) : Calls Tryz.prog 47 #[.string ⟨l.toArray⟩] w (BoolR (wordB l) w) := by
  have hconv := fun (w : World) (s : ByteArray) => Lib.run_convert_string_bytes w 9 85 5 s Tryz.underlying9 Tryz.underlying85 Tryz.underlying5
  cases l with
  | nil =>
    go_enter Tryz.func47, Tryz.ntmps47
    go_wp2_with fail
    go_ret
    exact ⟨rfl, Below.refl _ _⟩
  | cons c r =>
    have HC0 : Hid ((⟨(c :: r).toArray⟩ : ByteArray)[0]'(by show 0 < (c :: r).length; simp) = c) := rfl
    cases hc : isL c with
    | false =>
      have Hc := Lib.hid hc
      have Hw : Hid (wordB (c :: r) = false) := by show _ = _; rw [wordB, hc]; rfl
      clear hc
      go_enter Tryz.func47, Tryz.ntmps47
      go_wp2_with fail
      rw [HC0.out]
      refine (letter_any c _).mono ?_
      rintro e w1 ⟨rfl, rfl⟩
      rw [Hc.out]
      go_wp2_with fail
      go_ret
      exact ⟨by rw [Hw.out] <;> rfl, Below.refl _ _⟩
    | true =>
      have Hc := Lib.hid hc
      have HW : Hid (wordB (c :: r) = (c :: r).all isAN) := by
        show _ = _
        rw [wordB, List.all_cons, hc]
        have : isAN c = true := by unfold isAN; rw [hc]; rfl
        rw [this]
      clear hc
      go_enter Tryz.func47, Tryz.ntmps47
      go_wp2_with fail
      rw [HC0.out]
      refine (letter_any c _).mono ?_
      rintro e w1 ⟨rfl, rfl⟩
      rw [Hc.out]
      clear HC0
      go_wp2_with fail
      obtain ⟨t, ht⟩ : ∃ t : ByteArray, t = ⟨(c :: r).toArray⟩ := ⟨_, rfl⟩
      obtain ⟨l, hle⟩ : ∃ l, l = c :: r := ⟨_, rfl⟩
      have htl : t.data.toList = l := by rw [ht, hle]
      have HLE := Lib.hid hle
      have htn : t.size = l.length := by rw [Lib.size_eq, htl]
      have hrl : l.length = r.length + 1 := by rw [hle]; rfl
      rw [← ht]
      rw [← hle] at HW hl
      rw [← hle]
      have HTL := Lib.hid htl
      have HTN := Lib.hid hrl
      have htz : r.length + 1 ≤ 140737488355328 := by omega
      obtain ⟨W0, hW0⟩ : ∃ W0, W0 = Lib.bytesWorld w1 5 t := ⟨_, rfl⟩
      have HB0 : Hid (Below w1.heap.size w1 W0) := by rw [hW0]; exact Lib.bytesWorld_below _ _ _
      have HC : Hid (∀ (k : Nat) (d : UInt8), l[k]? = some d → W0.cell? ⟨w1.heap.size, k, none⟩ = some (.int .u8 (d.toNat : Int))) := fun k d hd => by
        have hk := (List.getElem?_eq_some_iff.1 hd).1
        rw [hW0, Lib.bytesWorld_cell _ _ _ k (by omega), htl, List.getD, hd]; rfl
      rw [← hW0]
      clear hW0 htl htn hl hrl hle ht Hc
      go_loopg [16] (r.length + 1) (fun g s16 wr => ∃ k : Nat, s16 = .int .i64 (k : Int) ∧ g = (r.length + 1) - k ∧ k ≤ (r.length + 1) ∧ wr = W0 ∧ Hid (OkW l k))
      case atStart => exact ⟨0, rfl, rfl, Nat.zero_le _, rfl, fun j c h => absurd h (by omega)⟩
      case round =>
        obtain ⟨k, rfl, hg, hk, rfl, HO⟩ := hrel
        have Hg := Lib.hid hg
        clear hg
        by_cases hlt : k < (r.length + 1)
        · have hI1 : (0 : Int) ≤ (k : Int) := by omega
          have hI2 : (k : Int) < (r.length : Int) + 1 := by omega
          obtain ⟨d, hd⟩ : ∃ d, l[k]? = some d := ⟨_, List.getElem?_eq_getElem (by have := HTN.out; omega)⟩
          have hcell := HC.out k d hd
          have Hget := Lib.hid hd
          clear hd
          have h54 := letter_any d wr
          have h55 := digit_any d wr
          have H54 := Lib.hid h54
          have H55 := Lib.hid h55
          clear h54 h55
          cases hL : isL d with
          | true =>
            have HL := Lib.hid hL
            have HN : Hid (OkW l (k + 1)) := HO.out.next Hget.out (by unfold isAN; rw [hL]; rfl)
            clear hL
            go_wp2_with (go_at_call 45; refine H54.out.mono ?_; rintro e w' ⟨rfl, hw'⟩; subst hw'; rw [HL.out])
            go_roundg ((r.length + 1) - (k + 1))
            case measure => rw [Hg.out]; omega
            case rel => exact ⟨k + 1, by go_num, rfl, by omega, rfl, HN⟩
          | false =>
            have HL := Lib.hid hL
            cases hD : isD d with
            | true =>
              have HD := Lib.hid hD
              have HN : Hid (OkW l (k + 1)) := HO.out.next Hget.out (by unfold isAN; rw [hD]; simp)
              clear hL hD
              go_wp2_with (first | (go_at_call 45; refine H54.out.mono ?_; rintro e w' ⟨rfl, hw'⟩; subst hw'; rw [HL.out]) | (go_at_call 46; refine H55.out.mono ?_; rintro e w' ⟨rfl, hw'⟩; subst hw'; rw [HD.out]))
              go_roundg ((r.length + 1) - (k + 1))
              case measure => rw [Hg.out]; omega
              case rel => exact ⟨k + 1, by go_num, rfl, by omega, rfl, HN⟩
            | false =>
              have HD := Lib.hid hD
              have HN : Hid (wordB l = false) := by
                show _ = _
                rw [HW.out]; exact all_no Hget.out (by unfold isAN; rw [hL, hD]; rfl)
              clear hL hD
              go_wp2_with (first | (go_at_call 45; refine H54.out.mono ?_; rintro e w' ⟨rfl, hw'⟩; subst hw'; rw [HL.out]) | (go_at_call 46; refine H55.out.mono ?_; rintro e w' ⟨rfl, hw'⟩; subst hw'; rw [HD.out]))
              go_ret
              exact ⟨by rw [HN.out] <;> rfl, HB0.out⟩
        · have hke : k = (r.length + 1) := by omega
          have HN : Hid (wordB l = true) := by
            show _ = _
            rw [HW.out]
            exact all_yes fun j x hj hx => HO.out j x (by have := HTN.out; omega) hx
          have hI3 : ¬ (k : Int) < (r.length : Int) + 1 := by omega
          go_wp2_with fail
          go_ret
          exact ⟨by rw [← HLE.out, HN.out] <;> rfl, HB0.out⟩
theorem isName_any (l : Bytes) (w : World) (hl : l.length ≤ 140737488355328) : Calls Tryz.prog 32 #[.string ⟨l.toArray⟩] w (BoolR (wordB l && decide (l.length ≤ 12)) w) := by
  have H42 := Lib.hid (isWord_any l w hl)
  cases hw : wordB l with
  | false =>
    have Hw := Lib.hid hw
    clear hw
    go_enter Tryz.func32, Tryz.ntmps32
    go_wp2_with fail
    refine H42.out.mono ?_
    rintro e w1 ⟨rfl, hb⟩
    have HB := Lib.hid hb
    clear hb
    rw [Hw.out]
    go_wp2_with fail
    go_ret
    exact ⟨rfl, HB.out⟩
  | true =>
    have Hw := Lib.hid hw
    clear hw
    go_enter Tryz.func32, Tryz.ntmps32
    go_wp2_with fail
    refine H42.out.mono ?_
    rintro e w1 ⟨rfl, hb⟩
    have HB := Lib.hid hb
    clear hb
    rw [Hw.out]
    go_wp2_with fail
    go_ret
    refine ⟨?_, HB.out⟩
    rw [Bool.true_and]
    first | rfl | (congr 2; simp; omega)
set_option maxRecDepth 100000 in
set_option maxHeartbeats 2000000 in
theorem isNumber_any (l : Bytes) (w : World) (hl : l.length ≤ 140737488355328) (hs : NoSign l) (Hg : Hid (Gl w)) : Calls Tryz.prog 48 #[.string ⟨l.toArray⟩] w (BoolR (numB l) w) := by
  rcases atoi_cases l with ⟨v, hv⟩ | hv | hv
  · obtain ⟨h1, h2, h3⟩ := atoi_ok hs hv
    have H72 := fun w => Tryz.strconv_Atoi_ok ⟨l.toArray⟩ (by show l.length ≤ _; omega) v hv w
    by_cases h8 : l.length ≤ 8
    · have hv2 := (atoi_digits h1 h2 h8).2
      obtain ⟨n, hn⟩ : ∃ n, n = valD l := ⟨_, rfl⟩
      rw [← hn] at hv2 h3
      subst h3
      have HN : Hid (numB l = decide (Lib.decDigits n = l)) := by show _ = _; rw [num_dec h1 h2, hn]; simp [h8]
      have H33 : Hid (∀ w, Gl w → Calls Tryz.prog 66 #[.int .i64 (n : Int)] w fun e w' => e = .returned (.string ⟨(Lib.decDigits n).toArray⟩) ∧ Below w.heap.size w w') := fun w hg => by
        have := Tryz.strconv_Itoa (n : Int) (by omega) (by omega) w hg.pow
        rw [itoa_nat] at this
        refine this.mono ?_
        rintro e w' ⟨rfl, k, os, rfl⟩
        exact ⟨rfl, Lib.below_grow _ w (Nat.le_refl _) k os⟩
      have H72' := Lib.hid H72
      clear H72 hv h1 h2 hn
      go_enter Tryz.func48, Tryz.ntmps48
      go_wp2_with fail
      refine (H72'.out _).mono ?_
      rintro e w1 ⟨rfl, hw1⟩
      have hb1 : Below w.heap.size w w1 := by
        rcases hw1 with rfl | ⟨t, rfl⟩
        · exact Below.refl _ _
        · exact Lib.bytesWorld_below _ _ _
      have HB1 := Lib.hid hb1
      clear hb1 hw1
      go_wp2_with fail
      refine (H33.out _ (Hg.out.below HB1.out)).mono ?_
      rintro e w2 ⟨rfl, hb2⟩
      have HB2 := Lib.hid (HB1.out.trans (hb2.mono HB1.out.size))
      clear hb2
      go_wp2_with fail
      go_ret
      have hbe : (Lib.decDigits n == l) = decide (Lib.decDigits n = l) := by rw [Bool.eq_iff_iff]; simp
      exact ⟨by rw [HN.out, ← hbe] <;> rfl, HB2.out⟩
    · have H72' := Lib.hid H72
      have HN : Hid (numB l = false) := by show _ = _; rw [num_dec h1 h2]; simp [h8]
      clear H72 hv h1 h2 h3
      go_enter Tryz.func48, Tryz.ntmps48
      go_wp2_with fail
      refine (H72'.out _).mono ?_
      rintro e w1 ⟨rfl, hw1⟩
      have hb1 : Below w.heap.size w w1 := by
        rcases hw1 with rfl | ⟨t, rfl⟩
        · exact Below.refl _ _
        · exact Lib.bytesWorld_below _ _ _
      have HB1 := Lib.hid hb1
      clear hb1 hw1
      go_wp2_with fail
      go_ret
      exact ⟨by rw [HN.out] <;> rfl, HB1.out⟩
  · obtain ⟨ev, hc, hev⟩ := Hg.out.rng
    have H72 := Lib.hid (Tryz.strconv_Atoi_range ⟨l.toArray⟩ (by show l.length ≤ _; omega) hv ev w hc hev)
    have HN : Hid (numB l = false) := num_not_ok (fun v e => by rw [hv] at e; cases e)
    clear hv hc hev
    go_enter Tryz.func48, Tryz.ntmps48
    go_wp2_with fail
    refine H72.out.mono ?_
    rintro e w1 ⟨N, rfl, -, -, hb⟩
    have HB := Lib.hid hb
    clear hb
    go_wp2_with fail
    go_ret
    exact ⟨by rw [HN.out] <;> rfl, HB.out⟩
  · obtain ⟨ev, hc, hev⟩ := Hg.out.syn
    have H72 := Lib.hid (Tryz.strconv_Atoi_syntax ⟨l.toArray⟩ (by show l.length ≤ _; omega) hv ev w hc hev)
    have HN : Hid (numB l = false) := num_not_ok (fun v e => by rw [hv] at e; cases e)
    clear hv hc hev
    go_enter Tryz.func48, Tryz.ntmps48
    go_wp2_with fail
    refine H72.out.mono ?_
    rintro e w1 ⟨N, rfl, -, -, hb⟩
    have HB := Lib.hid hb
    clear hb
    go_wp2_with fail
    go_ret
    exact ⟨by rw [HN.out] <;> rfl, HB.out⟩
end Go.Proofs.YtimmffncfkcpfaaGreatDoor
