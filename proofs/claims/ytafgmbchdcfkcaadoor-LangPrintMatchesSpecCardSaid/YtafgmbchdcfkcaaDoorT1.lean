/-
  The walks of the reference's word and Check.
-/
import Derived.Test.YtafgmbchdcfkcaaDoorS7
import Derived.Test.YtafgmbchdcfkcaaDoorR16
namespace Go.Proofs.YtafgmbchdcfkcaaDoor
open Go Go.RowKit Go.Walks

set_option maxRecDepth 100000 in
set_option maxHeartbeats 2000000 in
theorem word_any (t : ByteArray) (w : World) (ht : t.size ≤ maxLen) : Calls Tryd.prog 37 #[.string t] w fun e w' => e = .returned (.bool (wordB t.data.toList)) ∧ w' = w := by
  unfold maxLen at ht
  have hL : t.data.toList.length = t.size := by simp
  have HL := Lib.hid hL
  by_cases h0 : 0 < t.size
  · have hemp : t.toList.isEmpty = false := by
      rw [Lib.toList_data]
      cases hl : t.data.toList with
      | nil => rw [hl] at hL; simp at hL; omega
      | cons c r => rfl
    have hemp2 : (t.toList = []) = False := by
      rw [eq_iff_iff]
      constructor
      · intro h; rw [h] at hemp; cases hemp
      · exact False.elim
    clear hL
    have hget0 := Lib.hid (byte_l h0)
    obtain ⟨c0, hc0⟩ : ∃ c, t[0] = c := ⟨_, rfl⟩
    rw [hc0] at hget0
    have h53 := rletter_any c0 w
    cases hl0 : isL c0 with
    | false =>
      rw [hl0] at h53
      have H53 := Lib.hid h53
      have Hno : Hid (wordB t.data.toList = false) := OkW.stop hget0.out (fun h => by have := h.2 rfl; rw [hl0] at this; cases this)
      clear h53 hl0
      go_enter Tryd.func37, Tryd.ntmps37
      go_wp2_with (go_at_call 53; refine H53.out.mono ?_; rintro e w' ⟨rfl, hw'⟩; have hw2 := hw'.symm; subst hw2)
      go_ret
      exact ⟨by rw [Hno.out] <;> rfl, rfl⟩
    | true =>
      rw [hl0] at h53
      have H53 := Lib.hid h53
      have Hl0 := Lib.hid hl0
      clear h53 hl0
      go_enter Tryd.func37, Tryd.ntmps37
      go_wp2_with (go_at_call 53; refine H53.out.mono ?_; rintro e w' ⟨rfl, hw'⟩; have hw2 := hw'.symm; subst hw2)
      have Hc0 := Lib.hid hc0
      clear hc0 hemp hemp2
      go_loopg [3] t.size (fun g s3 wr => ∃ k : Nat, s3 = .int .i64 (k : Int) ∧ g = t.size - k ∧ k ≤ t.size ∧ wr = w ∧ Hid (OkW t.data.toList k))
      case atStart => exact ⟨0, rfl, rfl, by omega, rfl, fun j c h => absurd h (by omega)⟩
      case round =>
        obtain ⟨k, rfl, hg, hk, rfl, HO⟩ := hrel
        have Hg := Lib.hid hg
        clear hg
        by_cases hlt : k < t.size
        · have hI1 : (0 : Int) ≤ (k : Int) := by omega
          have hI2 : (k : Int) < (t.size : Int) := by omega
          have hget := Lib.hid (byte_l hlt)
          obtain ⟨c, hc⟩ : ∃ c, t[k] = c := ⟨_, rfl⟩
          rw [hc] at hget
          have Hfirst : Hid (k = 0 → isL c = true) := fun h => by
            subst h
            have := hget.out.symm.trans hget0.out
            injection this with this
            rw [this]; exact Hl0.out
          have h53 := rletter_any c wr
          have h54 := rdigit_any c wr
          cases hl : isL c with
          | true =>
            have Hn : Hid (OkW t.data.toList (k + 1)) := HO.out.next hget.out ⟨by unfold isAN; rw [hl]; rfl, fun _ => hl⟩
            rw [hl] at h53
            have H53 := Lib.hid h53
            clear h53 h54 hl
            go_wp2_with (go_at_call 53; refine H53.out.mono ?_; rintro e w' ⟨rfl, hw'⟩; have hw2 := hw'.symm; subst hw2)
            go_roundg (t.size - (k + 1))
            case measure => rw [Hg.out]; omega
            case rel => exact ⟨k + 1, by go_num, rfl, by omega, rfl, Hn.out⟩
          | false =>
            rw [hl] at h53
            have H53' := Lib.hid h53
            cases hd : isD c with
            | true =>
              have Hn : Hid (OkW t.data.toList (k + 1)) := HO.out.next hget.out ⟨by unfold isAN; rw [hl, hd]; rfl, Hfirst.out⟩
              rw [hd] at h54
              have H54 := Lib.hid h54
              clear h53 h54 hl hd
              go_wp2_with (first | (go_at_call 53; refine H53'.out.mono ?_; rintro e w' ⟨rfl, hw'⟩; have hw2 := hw'.symm; subst hw2) | (go_at_call 54; refine H54.out.mono ?_; rintro e w' ⟨rfl, hw'⟩; have hw2 := hw'.symm; subst hw2))
              go_roundg (t.size - (k + 1))
              case measure => rw [Hg.out]; omega
              case rel => exact ⟨k + 1, by go_num, rfl, by omega, rfl, Hn.out⟩
            | false =>
              have Hno : Hid (wordB t.data.toList = false) := OkW.stop hget.out (fun h => by have := h.1; unfold isAN at this; rw [hl, hd] at this; cases this)
              rw [hd] at h54
              have H54 := Lib.hid h54
              clear h53 h54 hl hd
              go_wp2_with (first | (go_at_call 53; refine H53'.out.mono ?_; rintro e w' ⟨rfl, hw'⟩; have hw2 := hw'.symm; subst hw2) | (go_at_call 54; refine H54.out.mono ?_; rintro e w' ⟨rfl, hw'⟩; have hw2 := hw'.symm; subst hw2))
              go_ret
              exact ⟨by rw [Hno.out] <;> rfl, rfl⟩
        · have hke : k = t.size := by omega
          subst hke
          have Hyes : Hid (wordB t.data.toList = true) := OkW.end_ (by rw [HL.out]; exact HO.out) (fun e => by have := HL.out; rw [e] at this; simp at this; omega)
          go_wp2_with fail
          go_ret
          exact ⟨by rw [Hyes.out] <;> rfl, rfl⟩
  · have ht0 : t = ⟨#[]⟩ := by
      obtain ⟨d⟩ := t
      have h1 : d.size = 0 := by
        have : (⟨d⟩ : ByteArray).size = d.size := rfl
        omega
      have : d = #[] := Array.eq_empty_of_size_eq_zero h1
      rw [this]
    subst ht0
    clear hL
    go_enter Tryd.func37, Tryd.ntmps37
    go_wp2_with fail
    go_ret
    exact ⟨rfl, rfl⟩
end Go.Proofs.YtafgmbchdcfkcaaDoor
