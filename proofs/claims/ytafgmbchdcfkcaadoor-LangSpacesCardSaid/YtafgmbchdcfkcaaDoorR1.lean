/-
  The walk of the reference's skip.
-/
import Derived.Test.YtafgmbchdcfkcaaDoorW1
import Derived.Test.YtafgmbchdcfkcaaDoorKt
import Derived.Deep.LoopGhost
namespace Go.Proofs.YtafgmbchdcfkcaaDoor
open Go Go.RowKit Go.Walks

theorem isB_yes {c : UInt8} (hB : isB c = true) : ((c == 32) = true) ∨ ((c == 32) = false ∧ (c == 9) = true) ∨ ((c == 32) = false ∧ (c == 9) = false ∧ (c == 10) = true) := by
  unfold isB at hB
  cases h1 : (c == 32) <;> cases h2 : (c == 9) <;> cases h3 : (c == 10) <;> simp_all
theorem isB_no {c : UInt8} (hB : ¬ isB c = true) : (c == 32) = false ∧ (c == 9) = false ∧ (c == 10) = false := by
  unfold isB at hB
  cases h1 : (c == 32) <;> cases h2 : (c == 9) <;> cases h3 : (c == 10) <;> simp_all
set_option maxRecDepth 100000 in
set_option maxHeartbeats 2000000 in
theorem rskip_any (t : ByteArray) (n : Nat) (w : World) (hn : n ≤ t.size) (ht : t.size ≤ 2000) :
    Calls Tryd.prog 69 #[.string t, .int .i64 (n : Int)] w fun e w' => e = .returned (.int .i64 ((n + skipS false (t.data.toList.drop n) : Nat) : Int)) ∧ w' = w := by
  go_enter Tryd.func69, Tryd.ntmps69
  go_wp2_with fail
  go_loopg [1] (t.size - n) (fun g s1 wr => ∃ m : Nat, g = t.size - m ∧ s1 = .int .i64 (m : Int) ∧ m ≤ t.size ∧ w = wr ∧ Hid (m + skipS false (t.data.toList.drop m) = n + skipS false (t.data.toList.drop n)))
  case atStart => exact ⟨n, rfl, rfl, hn, rfl, rfl⟩
  case round =>
    obtain ⟨m, hgm, rfl, hm, rfl, HE⟩ := hrel
    have Hgm := Lib.hid hgm
    clear hgm
    by_cases hlt : m < t.size
    · have hI1 : (0 : Int) ≤ (m : Int) := by omega
      have hI2 : (m : Int) < (t.size : Int) := by omega
      obtain ⟨c, hc⟩ : ∃ c, t[m] = c := ⟨_, rfl⟩
      have hdr := drop_byte hlt
      rw [hc] at hdr
      have Hdr := Lib.hid hdr
      clear hdr
      have b32 : ((c.toNat : Int) == 32) = (c == 32) := byte_eq c 32
      have b9 : ((c.toNat : Int) == 9) = (c == 9) := byte_eq c 9
      have b10 : ((c.toNat : Int) == 10) = (c == 10) := byte_eq c 10
      have b35 : ((c.toNat : Int) == 35) = (c == 35) := byte_eq c 35
      by_cases hB : isB c = true
      · have Hnx : Hid (m + 1 + skipS false (t.data.toList.drop (m + 1)) = n + skipS false (t.data.toList.drop n)) := by
          show _ = _
          rw [← HE.out, Hdr.out, skipS, if_pos hB]; omega
        have hcase : ((c == 32) = true) ∨ ((c == 32) = false ∧ (c == 9) = true) ∨ ((c == 32) = false ∧ (c == 9) = false ∧ (c == 10) = true) := isB_yes hB
        clear hB b35
        rcases hcase with h1 | ⟨h1, h2⟩ | ⟨h1, h2, h3⟩
        · rw [h1] at b32
          clear h1
          go_wp2_with fail
          go_roundg (t.size - (m + 1))
          case measure => rw [Hgm.out]; omega
          case rel => exact ⟨m + 1, rfl, by go_num, by omega, rfl, Hnx.out⟩
        · rw [h1] at b32
          rw [h2] at b9
          clear h1 h2
          go_wp2_with fail
          go_roundg (t.size - (m + 1))
          case measure => rw [Hgm.out]; omega
          case rel => exact ⟨m + 1, rfl, by go_num, by omega, rfl, Hnx.out⟩
        · rw [h1] at b32
          rw [h2] at b9
          rw [h3] at b10
          clear h1 h2 h3
          go_wp2_with fail
          go_roundg (t.size - (m + 1))
          case measure => rw [Hgm.out]; omega
          case rel => exact ⟨m + 1, rfl, by go_num, by omega, rfl, Hnx.out⟩
      · have hB' : (c == 32) = false ∧ (c == 9) = false ∧ (c == 10) = false := isB_no hB
        rw [hB'.1] at b32
        rw [hB'.2.1] at b9
        rw [hB'.2.2] at b10
        have h10 := hB'.2.2
        have HBn := Lib.hid hB
        clear hB hB'
        cases h35 : (c == 35) with
        | false =>
          rw [h35] at b35
          have Hnx : Hid (n + skipS false (t.data.toList.drop n) = m) := by
            show _ = _
            rw [← HE.out, Hdr.out, skipS, if_neg HBn.out, h35]; simp
          clear h35
          go_wp2_with fail
          go_ret
          exact ⟨by have h : n + skipS false (t.data.toList.drop n) = m := Hnx.out; rw [h]; rfl, rfl⟩
        | true =>
          rw [h35] at b35
          have HT : Hid (m + skipS true (t.data.toList.drop m) = n + skipS false (t.data.toList.drop n)) := by
            show _ = _
            rw [← HE.out, Hdr.out, skipS, skipS, h10, if_neg HBn.out, h35]
            simp
          clear h35 h10
          go_wp2_with fail
          clear b32 b9 b10 b35 hI1 hI2 hc
          go_loopg [1] (t.size - m) (fun g s1 wr => ∃ q : Nat, g = t.size - q ∧ s1 = .int .i64 (q : Int) ∧ m ≤ q ∧ q ≤ t.size ∧ w = wr ∧ Hid (q = m ∨ m < q) ∧ Hid (q + skipS true (t.data.toList.drop q) = n + skipS false (t.data.toList.drop n)))
          case atStart => exact ⟨m, rfl, rfl, by omega, by omega, rfl, .inl rfl, HT.out⟩
          case round =>
            obtain ⟨q, hgq, rfl, hmq, hq, rfl, HQ, HF⟩ := hrel
            have Hgq := Lib.hid hgq
            clear hgq
            by_cases hl2 : q < t.size
            · have hJ1 : (0 : Int) ≤ (q : Int) := by omega
              have hJ2 : (q : Int) < (t.size : Int) := by omega
              obtain ⟨d, hd⟩ : ∃ d, t[q] = d := ⟨_, rfl⟩
              have hdq := drop_byte hl2
              rw [hd] at hdq
              have Hdq := Lib.hid hdq
              clear hdq
              have e10 : ((d.toNat : Int) == 10) = (d == 10) := byte_eq d 10
              cases h10 : (d == 10) with
              | true =>
                rw [h10] at e10
                have Hnx : Hid (q + skipS false (t.data.toList.drop q) = n + skipS false (t.data.toList.drop n)) := by
                  show _ = _
                  have hb : isB d = true := by unfold isB; rw [h10]; simp
                  rw [← HF.out, Hdq.out, skipS, skipS, h10, hb]
                  simp
                have hqm : m < q := by
                  rcases HQ.out with h | h
                  · exfalso
                    subst h
                    have e1 := Hdq.out
                    rw [Hdr.out] at e1
                    injection e1 with e1 _
                    subst e1
                    have := HBn.out
                    unfold isB at this
                    rw [h10] at this
                    simp at this
                  · exact h
                clear h10
                go_wp2_with fail
                go_roundg (t.size - q)
                case measure => rw [Hgm.out]; omega
                case rel => exact ⟨q, rfl, rfl, by omega, rfl, Hnx.out⟩
              | false =>
                rw [h10] at e10
                have Hnx : Hid (q + 1 + skipS true (t.data.toList.drop (q + 1)) = n + skipS false (t.data.toList.drop n)) := by
                  show _ = _
                  rw [← HF.out, Hdq.out, skipS, h10]
                  simp
                  omega
                clear h10
                go_wp2_with fail
                go_roundg (t.size - (q + 1))
                case measure => rw [Hgq.out]; omega
                case rel => exact ⟨q + 1, rfl, by go_num, by omega, by omega, rfl, .inr (by omega), Hnx.out⟩
            · have hqe : q = t.size := by omega
              have Hnx : Hid (q + skipS false (t.data.toList.drop q) = n + skipS false (t.data.toList.drop n)) := by
                show _ = _
                rw [← HF.out, drop_end (by omega)]; rfl
              go_wp2_with fail
              go_roundg (t.size - q)
              case measure => rw [Hgm.out]; omega
              case rel => exact ⟨q, rfl, rfl, by omega, rfl, Hnx.out⟩
    · have hme : m = t.size := by omega
      have Hnx : Hid (n + skipS false (t.data.toList.drop n) = m) := by
        show _ = _
        rw [← HE.out, drop_end (by omega)]; rfl
      go_wp2_with fail
      go_ret
      exact ⟨by have h : n + skipS false (t.data.toList.drop n) = m := Hnx.out; rw [h]; rfl, rfl⟩
end Go.Proofs.YtafgmbchdcfkcaaDoor
