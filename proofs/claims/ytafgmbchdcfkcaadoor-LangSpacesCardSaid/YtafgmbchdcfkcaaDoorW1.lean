/-
  The walks of the reader's skip and of the predicates of bytes.
-/
import Derived.Test.YtafgmbchdcfkcaaDoorProg
import Derived.Test.YtafgmbchdcfkcaaDoorLx
import Derived.Test.YtafgmbchdcfkcaaDoorSl
import Derived.Test.YtafgmbchdcfkcaaDoorShelf
import Derived.WalkKit
import Derived.WalkSpells
import Derived.WalkLawsBesides
import Derived.BigQuiet
import Derived.Deep.QuietTactic
import Derived.KernelRfl
import Derived.Lib.Hide
import Derived.StillTailTactics
namespace Go.Proofs.YtafgmbchdcfkcaaDoor
open Go Go.RowKit Go.Walks

/-- The reader's block. -/
def Rd (w : World) (r : Nat) (t : ByteArray) (n : Nat) : Prop := w.heap[r]? = some (.cells #[.string t, .int .i64 (n : Int)] 88)

def posOf (w : World) (r : Nat) : Nat := match w.cell? ⟨r, 1, none⟩ with | some (.int _ k) => k.toNat | _ => 0
theorem Rd.pos {w : World} {r n : Nat} {t : ByteArray} (h : Rd w r t n) : posOf w r = n := by
  unfold posOf
  rw [(two_cells h).2.1]; simp

theorem letter_any (c : UInt8) (w : World) : Calls Tryd.prog 51 #[.int .u8 (c.toNat : Int)] w fun e w' => e = .returned (.bool (isL c)) ∧ w' = w := by
  go_enter Tryd.func51, Tryd.ntmps51
  go_wp2_with fail
  · go_ret
    have h : 97 ≤ (c.toNat : Int) := by assumption
    exact ⟨by unfold isL; rw [decide_eq_true (show 97 ≤ c.toNat by omega)]; congr 2; simp; omega, rfl⟩
  · go_ret
    have h : (c.toNat : Int) < 97 := by assumption
    exact ⟨by unfold isL; rw [decide_eq_false (show ¬ 97 ≤ c.toNat by omega)]; rfl, rfl⟩
theorem digit_any (c : UInt8) (w : World) : Calls Tryd.prog 52 #[.int .u8 (c.toNat : Int)] w fun e w' => e = .returned (.bool (isD c)) ∧ w' = w := by
  go_enter Tryd.func52, Tryd.ntmps52
  go_wp2_with fail
  · go_ret
    have h : 48 ≤ (c.toNat : Int) := by assumption
    exact ⟨by unfold isD; rw [decide_eq_true (show 48 ≤ c.toNat by omega)]; congr 2; simp; omega, rfl⟩
  · go_ret
    have h : (c.toNat : Int) < 48 := by assumption
    exact ⟨by unfold isD; rw [decide_eq_false (show ¬ 48 ≤ c.toNat by omega)]; rfl, rfl⟩
theorem rletter_any (c : UInt8) (w : World) : Calls Tryd.prog 53 #[.int .u8 (c.toNat : Int)] w fun e w' => e = .returned (.bool (isL c)) ∧ w' = w := by
  go_enter Tryd.func53, Tryd.ntmps53
  go_wp2_with fail
  · go_ret
    have h : 97 ≤ (c.toNat : Int) := by assumption
    exact ⟨by unfold isL; rw [decide_eq_true (show 97 ≤ c.toNat by omega)]; congr 2; simp; omega, rfl⟩
  · go_ret
    have h : (c.toNat : Int) < 97 := by assumption
    exact ⟨by unfold isL; rw [decide_eq_false (show ¬ 97 ≤ c.toNat by omega)]; rfl, rfl⟩
theorem rdigit_any (c : UInt8) (w : World) : Calls Tryd.prog 54 #[.int .u8 (c.toNat : Int)] w fun e w' => e = .returned (.bool (isD c)) ∧ w' = w := by
  go_enter Tryd.func54, Tryd.ntmps54
  go_wp2_with fail
  · go_ret
    have h : 48 ≤ (c.toNat : Int) := by assumption
    exact ⟨by unfold isD; rw [decide_eq_true (show 48 ≤ c.toNat by omega)]; congr 2; simp; omega, rfl⟩
  · go_ret
    have h : (c.toNat : Int) < 48 := by assumption
    exact ⟨by unfold isD; rw [decide_eq_false (show ¬ 48 ≤ c.toNat by omega)]; rfl, rfl⟩

set_option maxRecDepth 100000 in
set_option maxHeartbeats 1000000 in
theorem skip_any (t : ByteArray) (r n : Nat) (w : World) (hn : n ≤ t.size) (ht : t.size ≤ 2000) (Hr : Hid (Rd w r t n)) :
    Calls Tryd.prog 57 #[.pointer (some ⟨r, 0, none⟩)] w fun e w' => e = .returned (.tuple #[]) ∧ Rd w' r t (n + skipS false (t.data.toList.drop n)) ∧ RB r w w' := by
  go_enter Tryd.func57, Tryd.ntmps57
  go_wp2_with fail
  go_loopw [] (fun wr => ∃ m : Nat, m ≤ t.size ∧ Hid (Rd wr r t m) ∧ Hid (RB r w wr) ∧ Hid (m + skipS false (t.data.toList.drop m) = n + skipS false (t.data.toList.drop n))) (fun wr => t.size - posOf wr r)
  case atStart => exact ⟨n, hn, Hr, RB.refl _ _, rfl⟩
  case round =>
    obtain ⟨m, hm, HR, HB, HE⟩ := hrel
    obtain ⟨c0, c1, f0, f1⟩ := two_cells HR.out
    by_cases hlt : m < t.size
    · have hI1 : (0 : Int) ≤ (m : Int) := by omega
      have hI2 : (m : Int) < (t.size : Int) := by omega
      obtain ⟨c, hc⟩ : ∃ c, t[m] = c := ⟨_, rfl⟩
      have hdr := drop_byte hlt
      rw [hc] at hdr
      have Hdr := Lib.hid hdr
      clear hdr
      have hq : ∀ q : Nat, (wr.drewN q).cell? ⟨r, 0, none⟩ = wr.cell? ⟨r, 0, none⟩ := fun _ => rfl
      have b32 := byte_eq c 32
      have b9 := byte_eq c 9
      have b10 := byte_eq c 10
      have b35 := byte_eq c 35
      simp only [UInt8.reduceToNat] at b32 b9 b10 b35
      clear hq
      by_cases hB : isB c = true
      · have Hnx : Hid (m + 1 + skipS false (t.data.toList.drop (m + 1)) = n + skipS false (t.data.toList.drop n)) := by
          show _ = _
          rw [← HE.out, Hdr.out, skipS, if_pos hB]; omega
        have hcase : ((c == 32) = true) ∨ ((c == 32) = false ∧ (c == 9) = true) ∨ ((c == 32) = false ∧ (c == 9) = false ∧ (c == 10) = true) := by
          unfold isB at hB
          cases h1 : (c == 32) <;> cases h2 : (c == 9) <;> cases h3 : (c == 10) <;> simp_all
        clear hB b35
        have fin : ∀ q : Nat, (∃ m_1, m_1 ≤ t.size ∧ Hid (Rd ((wr.drewN q).setCell ⟨r, 1, none⟩ (.int .i64 ((m : Int) + 1))) r t m_1) ∧ Hid (RB r w ((wr.drewN q).setCell ⟨r, 1, none⟩ (.int .i64 ((m : Int) + 1)))) ∧ Hid (m_1 + skipS false (t.data.toList.drop m_1) = n + skipS false (t.data.toList.drop n))) ∧
            t.size - posOf ((wr.drewN q).setCell ⟨r, 1, none⟩ (.int .i64 ((m : Int) + 1))) r < t.size - posOf wr r := by
          intro q
          have hR' : Rd ((wr.drewN q).setCell ⟨r, 1, none⟩ (.int .i64 ((m : Int) + 1))) r t (m + 1) := set_two1 (show (wr.drewN q).heap[r]? = _ from HR.out) _
          exact ⟨⟨m + 1, by omega, hR', (HB.out.drewN q).setCell 1 _, Hnx⟩, by rw [hR'.pos, HR.out.pos]; omega⟩
        have Fin := Lib.hid fin
        clear fin
        rcases hcase with h1 | ⟨h1, h2⟩ | ⟨h1, h2, h3⟩
        · rw [h1] at b32
          clear h1
          go_wp2_with fail
          go_quiet (fail)
          go_wp2_with fail
          go_quiet (fail)
          go_wp2_with fail
          exact Fin.out _
        · rw [h1] at b32
          rw [h2] at b9
          clear h1 h2
          go_wp2_with fail
          go_quiet (fail)
          go_wp2_with fail
          go_quiet (fail)
          go_wp2_with fail
          exact Fin.out _
        · rw [h1] at b32
          rw [h2] at b9
          rw [h3] at b10
          clear h1 h2 h3
          go_wp2_with fail
          go_quiet (fail)
          go_wp2_with fail
          go_quiet (fail)
          go_wp2_with fail
          exact Fin.out _
      · have hB' : (c == 32) = false ∧ (c == 9) = false ∧ (c == 10) = false := by
          unfold isB at hB
          cases h1 : (c == 32) <;> cases h2 : (c == 9) <;> cases h3 : (c == 10) <;> simp_all
        rw [hB'.1] at b32
        rw [hB'.2.1] at b9
        rw [hB'.2.2] at b10
        clear hB'
        have HBn := Lib.hid hB
        clear hB
        cases h35 : (c == 35) with
        | false =>
          rw [h35] at b35
          have Hnx : Hid (n + skipS false (t.data.toList.drop n) = m) := by
            show _ = _
            rw [← HE.out, Hdr.out, skipS, if_neg HBn.out, h35]; simp
          clear h35
          go_wp2_with fail
          go_quiet (fail)
          go_wp2_with fail
          go_quiet (fail)
          go_wp2_with fail
          refine bodyPost_ret (results_none rfl _ _ _) rfl ?_
          exact ⟨rfl, by rw [Hnx.out]; exact HR.out, HB.out.drewN _⟩
        | true =>
          rw [h35] at b35
          have h35' : c = 35 := by simpa using h35
          obtain ⟨k, hk⟩ : ∃ k, k = ((t.data.toList.drop m).takeWhile (· != 10)).length := ⟨_, rfl⟩
          have hkl : m + k ≤ t.size := by
            have := (List.takeWhile_sublist (fun x : UInt8 => x != 10) (l := t.data.toList.drop m)).length_le
            rw [← hk, List.length_drop, ← Lib.size_eq] at this
            omega
          have hk1 : 0 < k := by rw [hk, Hdr.out, h35']; simp
          have Hnx : Hid (m + k + skipS false (t.data.toList.drop (m + k)) = n + skipS false (t.data.toList.drop n)) := by
            show _ = _
            have hcm := skipS_comment (t.data.toList.drop (m + 1))
            have hk' : k = ((t.data.toList.drop (m + 1)).takeWhile (· != 10)).length + 1 := by rw [hk, Hdr.out, h35']; simp
            rw [← HE.out, Hdr.out, skipS, if_neg HBn.out, h35', if_pos (by decide), hcm, hk', List.drop_drop]
            rw [show m + (((t.data.toList.drop (m + 1)).takeWhile (· != 10)).length + 1) = m + 1 + ((t.data.toList.drop (m + 1)).takeWhile (· != 10)).length by omega]
            omega
          have HJ : Hid (Lib.indexByte (t.extract m t.size).data.toList ((10 : Int)).toNat.toUInt8 = if (10 : UInt8) ∈ t.data.toList.drop m then (k : Int) else -1) := by
            show _ = _
            have e : (t.extract m t.size).data.toList = t.data.toList.drop m := by
              rw [Lib.extract_data, List.take_of_length_le (by rw [List.length_drop, ← Lib.size_eq]; omega)]
            rw [e, hk]
            exact indexByte_eq 10 _
          have H10 : Hid ((10 : UInt8) ∉ t.data.toList.drop m → t.size - m = k) := fun h => by
            rw [hk, takeWhile_all h, List.length_drop, ← Lib.size_eq]
          have fin : ∀ w1 : World, Rd w1 r t m → RB r w w1 → (∃ m_1, m_1 ≤ t.size ∧ Hid (Rd (w1.setCell ⟨r, 1, none⟩ (.int .i64 ((m : Int) + k))) r t m_1) ∧ Hid (RB r w (w1.setCell ⟨r, 1, none⟩ (.int .i64 ((m : Int) + k)))) ∧ Hid (m_1 + skipS false (t.data.toList.drop m_1) = n + skipS false (t.data.toList.drop n))) ∧
              t.size - posOf (w1.setCell ⟨r, 1, none⟩ (.int .i64 ((m : Int) + k))) r < t.size - posOf wr r := by
            intro w1 h1 h2
            have hR' : Rd (w1.setCell ⟨r, 1, none⟩ (.int .i64 ((m : Int) + k))) r t (m + k) := by
              have := set_two1 h1 (.int .i64 ((m : Int) + k))
              unfold Rd
              rw [Int.natCast_add]
              exact this
            exact ⟨⟨m + k, hkl, hR', h2.setCell 1 _, Hnx⟩, by rw [hR'.pos, HR.out.pos]; omega⟩
          have Fin := Lib.hid fin
          clear h35 h35' hk fin
          go_wp2_with fail
          go_quiet (fail)
          obtain ⟨w0, hw0⟩ : ∃ w0, w0 = wr.drewN nq := ⟨_, rfl⟩
          have HR0 : Hid (Rd w0 r t m) := by rw [hw0]; exact HR.out
          have HB0 : Hid (RB r w w0) := by rw [hw0]; exact HB.out.drewN _
          rw [← hw0]
          clear hw0 c0 c1 f0 f1
          obtain ⟨c0, c1, f0, f1⟩ := two_cells HR0.out
          go_wp2_with fail
          go_quiet (fail)
          obtain ⟨w1, hw1⟩ : ∃ w1, w1 = w0.drewN nq := ⟨_, rfl⟩
          have HR1 : Hid (Rd w1 r t m) := by rw [hw1]; exact HR0.out
          have HB1 : Hid (RB r w w1) := by rw [hw1]; exact HB0.out.drewN _
          rw [← hw1]
          clear hw1 c0 c1 f0 f1
          obtain ⟨c0, c1, f0, f1⟩ := two_cells HR1.out
          go_wp2_with fail
          go_still_tail 9, (by kernel_rfl)
          change wpList _ _ _ _ _ w1.drew
          by_cases hm10 : (10 : UInt8) ∈ t.data.toList.drop m
          · have HJ' : Hid (Lib.indexByte (t.extract m t.size).data.toList ((10 : Int)).toNat.toUInt8 = (k : Int)) := by show _ = _; rw [HJ.out, if_pos hm10]
            clear hm10
            go_wp2_with (go_at_call 27; refine (Tryd.strings_IndexByte _ _ _).mono ?_; rintro e w2 ⟨rfl, rfl⟩; rw [HJ'.out])
            exact Fin.out w1.drew HR1.out HB1.out.drew
          · have HJ' : Hid (Lib.indexByte (t.extract m t.size).data.toList ((10 : Int)).toNat.toUInt8 = -1) := by show _ = _; rw [HJ.out, if_neg hm10]
            have H10' := Lib.hid (H10.out hm10)
            clear hm10
            go_wp2_with (go_at_call 27; refine (Tryd.strings_IndexByte _ _ _).mono ?_; rintro e w2 ⟨rfl, rfl⟩; rw [HJ'.out])
            go_quiet (fail)
            have ek : (t.size : Int) - (m : Int) = (k : Int) := by have := H10'.out; omega
            rw [ek]
            clear ek
            go_wp2_with fail
            refine Fin.out _ ?_ ?_
            · exact HR1.out
            · exact ⟨HB1.out.os, HB1.out.tape, HB1.out.output, HB1.out.size, HB1.out.block⟩
    · go_wp2_with fail
      go_quiet (fail)
      go_wp2_with fail
      go_end0
      obtain rfl : m = t.size := by omega
      have hE := HE.out
      rw [drop_end (t := t) (m := t.size) (Nat.le_refl _)] at hE
      exact ⟨rfl, by rw [← hE]; exact HR.out, HB.out.drewN _⟩
end Go.Proofs.YtafgmbchdcfkcaaDoor
