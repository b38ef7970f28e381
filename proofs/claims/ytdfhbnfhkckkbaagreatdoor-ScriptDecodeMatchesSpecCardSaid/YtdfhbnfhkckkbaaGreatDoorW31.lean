/-
  The walk of the reference's Same (two byte sequences).
-/
import Derived.Test.YtdfhbnfhkckkbaaGreatDoorW28
namespace Go.Proofs.YtdfhbnfhkckkbaaGreatDoor
open Go Go.RowKit Go.Walks

set_option maxRecDepth 100000 in
set_option maxHeartbeats 4000000 in
theorem sameBytes_any (xs ys : Bytes) (A B : Option Addr) (c d : Nat) (w : World) (hx : xs.length ≤ maxLen) (H1 : Hid (Sl w w.heap.size A (Lib.byteCells xs))) (H2 : Hid (Sl w w.heap.size B (Lib.byteCells ys))) : Calls Tryz.prog 25 #[.slice A xs.length c, .slice B ys.length d] w (BoolR (decide (xs = ys)) w) := by
  obtain ⟨n, hn⟩ : ∃ n, n = xs.length := ⟨_, rfl⟩
  obtain ⟨m, hm⟩ : ∃ m, m = ys.length := ⟨_, rfl⟩
  rw [← hn, ← hm]
  rw [← hn] at hx
  unfold maxLen at hx
  have Hn := Lib.hid hn
  have Hm := Lib.hid hm
  clear hn hm
  by_cases hnm : n = m
  · subst hnm
    have q1 : ((n : Int) != (n : Int)) = false := by simp
    go_enter Tryz.func25, Tryz.ntmps25
    go_wp2_with fail
    go_loopg [5] n (fun gh s5 wr => ∃ k : Nat, s5 = .int .i64 (k : Int) ∧ gh = n - k ∧ k ≤ n ∧ Hid (xs.take k = ys.take k) ∧ Hid (∃ q, wr = w.drewN q))
    case atStart => exact ⟨0, rfl, rfl, Nat.zero_le _, rfl, 0, by simp [World.drewN_zero]⟩
    case round =>
      obtain ⟨k, rfl, hgh, hk, HT, HW⟩ := hrel
      obtain ⟨q, hw⟩ := HW.out
      by_cases hlt : k < n
      · have hI1 : (0 : Int) ≤ (k : Int) := by omega
        have hI2 : (k : Int) < (n : Int) := by omega
        obtain ⟨x, hxk⟩ : ∃ y, xs[k]? = some y := ⟨xs[k]'(by rw [← Hn.out]; exact hlt), List.getElem?_eq_getElem _⟩
        obtain ⟨y, hyk⟩ : ∃ y, ys[k]? = some y := ⟨ys[k]'(by rw [← Hm.out]; exact hlt), List.getElem?_eq_getElem _⟩
        obtain ⟨b1, o1, hA, -, c1⟩ := byte_at H1.out hxk
        obtain ⟨b2, o2, hB, -, c2⟩ := byte_at H2.out hyk
        subst hA hB
        have c1' : wr.cell? ⟨b1, o1 + k, none⟩ = some (.int .u8 ((x.toNat : Nat) : Int)) := by rw [hw, World.cell?_drewN]; exact c1
        have c2' : wr.cell? ⟨b2, o2 + k, none⟩ = some (.int .u8 ((y.toNat : Nat) : Int)) := by rw [hw, World.cell?_drewN]; exact c2
        have Hxy : Hid (xs[k]? = some x ∧ ys[k]? = some y) := ⟨hxk, hyk⟩
        have HWd : Hid (∃ q, wr.drew = w.drewN q) := ⟨q + 1, by rw [hw]; rfl⟩
        clear c1 c2 hxk hyk hw
        by_cases he : x = y
        · subst he
          have q2 : (((x.toNat : Nat) : Int) != ((x.toNat : Nat) : Int)) = false := by simp
          have HT2 := Lib.hid (take_eq_step Hxy.out.1 Hxy.out.2 HT.out rfl)
          go_upto_region 6 with fail
          go_region
          clear c1' c2'
          go_wp2_with fail
          go_roundg (n - (k + 1))
          case measure => omega
          case rel => exact ⟨k + 1, by go_num, rfl, by omega, HT2, HWd⟩
        · have he2 : ((x.toNat : Nat) : Int) ≠ ((y.toNat : Nat) : Int) := fun h => he (UInt8.toNat_inj.1 (by omega))
          have q2 : (((x.toNat : Nat) : Int) != ((y.toNat : Nat) : Int)) = true := by rw [bne_iff_ne]; exact he2
          have q3 : (((x.toNat : Nat) : Int) == ((y.toNat : Nat) : Int)) = false := bne_int he2
          have HNE : Hid (decide (xs = ys) = false) := by
            refine decide_eq_false fun h => he ?_
            have h1 := Hxy.out.1
            rw [h, Hxy.out.2] at h1
            injection h1 with h1
            exact h1.symm
          clear he he2
          go_upto_region 6 with fail
          go_region
          clear c1' c2'
          go_wp2_with fail
          go_ret
          exact BoolR.dr (by rw [HNE.out]; rfl) (.inr HWd.out)
      · have hke : k = n := by omega
        have hI3 : ¬ (k : Int) < (n : Int) := by omega
        have HE : Hid (decide (xs = ys) = true) := by
          have := HT.out
          rw [hke] at this
          have e1 : xs.take n = xs := List.take_of_length_le (by have := Hn.out; omega)
          have e2 : ys.take n = ys := List.take_of_length_le (by have := Hm.out; omega)
          rw [e1, e2] at this
          exact decide_eq_true this
        clear hlt hke
        go_wp2_with fail
        go_ret
        exact BoolR.dr (by rw [HE.out]; rfl) (.inr ⟨q, rfl⟩)
  · have q1 : ((n : Int) != (m : Int)) = true := by rw [bne_iff_ne]; omega
    have HNE : Hid (decide (xs = ys) = false) := decide_eq_false fun h => hnm (by rw [Hn.out, Hm.out, h])
    clear hnm
    go_enter Tryz.func25, Tryz.ntmps25
    go_wp2_with fail
    go_ret
    exact BoolR.dr (by rw [HNE.out]; rfl) (.inl rfl)
end Go.Proofs.YtdfhbnfhkckkbaaGreatDoor
