/-
  The reference's GetInt (printed by genQ1.py).
  The reference's count, GetBytes, GetInts.
-/
import Derived.Test.YtdfhbnfhkckkbaaGreatDoorR4
import Derived.Test.YtdfhbnfhkckkbaaGreatDoorW31
namespace Go.Proofs.YtdfhbnfhkckkbaaGreatDoor
open Go Go.RowKit Go.Walks

theorem sl_take {W : World} {B : Nat} {A : Option Addr} {l : Bytes} (h : Sl W B A (Lib.byteCells l)) (n : Nat) : Sl W B A (Lib.byteCells (l.take n)) := by
  rcases h with h | ⟨b, o, hA, hb, hc⟩
  · refine .inl ?_
    have : l = [] := by unfold Lib.byteCells at h; exact List.map_eq_nil_iff.1 h
    subst this; simp [Lib.byteCells]
  · refine .inr ⟨b, o, hA, hb, fun j u hu => hc j u ?_⟩
    unfold Lib.byteCells at hu ⊢
    rw [List.getElem?_map] at hu ⊢
    rw [List.getElem?_take] at hu
    split at hu
    · exact hu
    · cases hu
theorem val_app (a b : Bytes) : valB (a ++ b) = valB a * 256 ^ b.length + valB b := by
  unfold valB
  rw [List.foldl_append]
  exact val_fold b _
theorem val_take_le {l : Bytes} {i k : Nat} (h : i < k) (hk : k ≤ l.length) : valB (l.take i) * 256 ≤ valB (l.take k) := by
  have e : l.take k = l.take i ++ (l.drop i).take (k - i) := by
    rw [← List.take_add]; congr 1; omega
  rw [e, val_app]
  have hl : ((l.drop i).take (k - i)).length = (k - i - 1) + 1 := by rw [List.length_take, List.length_drop]; omega
  rw [hl, Nat.pow_succ]
  have : 1 ≤ 256 ^ (k - i - 1) := Nat.one_le_pow _ _ (by decide)
  have h2 : valB (l.take i) * (1 * 256) ≤ valB (l.take i) * (256 ^ (k - i - 1) * 256) := Nat.mul_le_mul_left _ (Nat.mul_le_mul_right _ this)
  omega
theorem val_snoc_take {l : Bytes} {i : Nat} {x : UInt8} (h : l[i]? = some x) : valB (l.take (i + 1)) = 256 * valB (l.take i) + x.toNat := by
  rw [List.take_add_one, h]
  show valB (l.take i ++ [x]) = _
  rw [val_snoc]; omega
theorem get_ref_big {c0 : UInt8} {r : Bytes} {f : Bool} {k i : Nat} (hf : f = decide (c0.toNat < 128)) (hk : k = (flipB f c0).toNat - 128) (h8 : k ≤ 8) (hr : k ≤ r.length) (hi : i < k) (hb : 36028797018963967 < valB ((r.map (flipB f)).take i)) : getIntB (c0 :: r) = .error 6 := by
  have h1 := val_take_le (l := r.map (flipB f)) hi (by rw [List.length_map]; exact hr)
  simp only [← List.map_take] at h1
  rw [getIntB, ← hf, ← hk]
  rw [if_neg (by omega), if_neg (by omega)]
  split
  · rfl
  · rw [if_pos (by rw [← List.map_take] at hb; omega)]
theorem get_ref_ok {c0 : UInt8} {r : Bytes} {f : Bool} {k : Nat} (hf : f = decide (c0.toNat < 128)) (hk : k = (flipB f c0).toNat - 128) (h8 : k ≤ 8) (hr : k ≤ r.length) (hb : valB ((r.map (flipB f)).take k) < 9223372036854775808) :
    getIntB (c0 :: r) = if intB (sgnB f (valB ((r.map (flipB f)).take k))) = (c0 :: r).take (k + 1) then .ok (sgnB f (valB ((r.map (flipB f)).take k)), k + 1) else .error 6 := by
  rw [← List.map_take] at hb ⊢
  obtain ⟨v, hv⟩ : ∃ v, v = valB ((r.take k).map (flipB f)) := ⟨_, rfl⟩
  rw [← hv] at hb ⊢
  have hI : -9223372036854775808 ≤ sgnB f v ∧ sgnB f v < 9223372036854775808 := by
    unfold sgnB
    split <;> omega
  by_cases he : intB (sgnB f v) = (c0 :: r).take (k + 1)
  · rw [if_pos he]
    have h1 := get_intB hI.1 hI.2 ((c0 :: r).drop (k + 1))
    rw [he, List.take_append_drop] at h1
    rw [h1, List.length_take, List.length_cons, Nat.min_eq_left (by omega)]
  · rw [if_neg he]
    cases hx : getIntB (c0 :: r) with
    | error e =>
      rw [getIntB, ← hf, ← hk, ← hv] at hx
      rw [if_neg (by omega), if_neg (by omega)] at hx
      split at hx
      · exact hx.symm
      · rw [if_neg (by omega)] at hx; cases hx
    | ok p =>
      exfalso
      obtain ⟨n, k'⟩ := p
      have h1 := int_getB hx
      rw [getIntB, ← hf, ← hk, ← hv] at hx
      rw [if_neg (by omega), if_neg (by omega)] at hx
      split at hx
      · cases hx
      · rw [if_neg (by omega)] at hx
        injection hx with hx
        injection hx with h2 h3
        subst h2 h3
        exact he h1.1.symm
theorem get_ref_far {c0 : UInt8} {r : Bytes} {f : Bool} {k : Nat} (hf : f = decide (c0.toNat < 128)) (hk : k = (flipB f c0).toNat - 128) (h8 : 8 < k) : getIntB (c0 :: r) = .error 6 := by
  rw [getIntB, ← hf, ← hk]
  rw [if_pos h8]
theorem get_ref_short {c0 : UInt8} {r : Bytes} {f : Bool} {k : Nat} (hf : f = decide (c0.toNat < 128)) (hk : k = (flipB f c0).toNat - 128) (h8 : ¬ 8 < k) (hr : r.length < k) : getIntB (c0 :: r) = .error 5 := by
  rw [getIntB, ← hf, ← hk]
  rw [if_neg h8, if_pos hr]
/-- What the reference's GetInt hands back. -/
def GetIntRB (x : Except Nat (Int × Nat)) (w : World) (e : Ending) (w' : World) : Prop := e = .returned (gotV x) ∧ Below w.heap.size w w'
set_option maxRecDepth 100000 in
theorem rgetint_nil (A : Option Addr) (c : Nat) (w : World) : Calls Tryz.prog 101 #[.slice A 0 c] w (GetIntRB (getIntB []) w) := by
  go_enter Tryz.func101, Tryz.ntmps101
  go_wp2_with fail
  go_ret3
  exact ⟨rfl, Below.refl _ _⟩
set_option maxRecDepth 100000 in
set_option maxHeartbeats 4000000 in
theorem rgetint_neg (c0 : UInt8) (r : Bytes) (b o c : Nat) (w : World) (hl : r.length ≤ 1000000000) (hc : r.length + 1 ≤ c) (hf : true = decide (c0.toNat < 128)) (Hs : Hid (Sl w w.heap.size (some ⟨b, o, none⟩) (Lib.byteCells (c0 :: r)))) : Calls Tryz.prog 101 #[.slice (some ⟨b, o, none⟩) (r.length + 1) c] w (GetIntRB (getIntB (c0 :: r)) w) := by
  obtain ⟨b', o', hA, hbw, hc0⟩ := byte_at Hs.out (k := 0) (x := c0) rfl
  injection hA with hA
  injection hA with hA1 hA2 _
  subst hA1 hA2
  obtain ⟨q, hq⟩ : ∃ q, q = r.length := ⟨_, rfl⟩
  rw [← hq] at hl hc ⊢
  obtain ⟨h, hh⟩ : ∃ h, h = c0.toNat := ⟨_, rfl⟩
  have hh256 : h < 256 := by rw [hh]; exact c0.toNat_lt
  obtain ⟨k, hkd⟩ : ∃ k, k = 127 - h := ⟨_, rfl⟩
  have hk : k = (flipB true c0).toNat - 128 := by
    rw [hkd, hh]
    rw [flip_true]; omega
  have hf2 : h < 128 := by rw [hh]; exact of_decide_eq_true hf.symm
  obtain ⟨x, hx⟩ : ∃ x, x = getIntB (c0 :: r) := ⟨_, rfl⟩
  rw [← hx]
  have HX := Lib.hid hx
  have Hf := Lib.hid hf
  have Hk := Lib.hid hk
  have Hq := Lib.hid hq
  rw [← hh, Nat.add_zero] at hc0
  have q1 : decide ((h : Int) < 128) = true := decide_eq_true (by omega)
  clear hx hf hk hh hq
  by_cases h8 : 8 < k
  · have hx : x = .error 6 := by rw [HX.out]; exact get_ref_far Hf.out Hk.out h8
    subst hx
    have q2 : decide ((h : Int) < 119) = true := decide_eq_true (by omega)
    
    clear hkd
    go_enter Tryz.func101, Tryz.ntmps101
    go_wp2_with fail
    go_ret3
    exact ⟨rfl, Below.refl _ _⟩
  · have q2 : decide ((h : Int) < 119) = false := decide_eq_false (by omega)
    have q3 : decide ((136 : Int) < (h : Int)) = false := decide_eq_false (by omega)
    have hkI : (127 : Int) - (h : Int) = (k : Int) := by omega
    have hkJ : (-128 : Int) ≤ (h : Int) - 128 := by omega
    have hk0 : (0 : Int) ≤ (k : Int) := by omega
    have hk1 : (k : Int) ≤ 8 := by omega
    by_cases hs : q < k
    · have hx : x = .error 5 := by rw [HX.out]; exact get_ref_short Hf.out Hk.out h8 (by rw [← Hq.out]; exact hs)
      subst hx
      have q4 : decide ((q : Int) + 1 < (k : Int) + 1) = true := decide_eq_true (by omega)
      have q5 : decide ((q : Int) < (k : Int)) = true := decide_eq_true (by omega)
      clear hkd
      go_enter Tryz.func101, Tryz.ntmps101
      go_wp2_with fail
      go_ret3
      exact ⟨rfl, Below.refl _ _⟩
    · have q4 : decide ((q : Int) + 1 < (k : Int) + 1) = false := decide_eq_false (by omega)
      have q5 : decide ((q : Int) < (k : Int)) = false := decide_eq_false (by omega)
      obtain ⟨fl, hfl⟩ : ∃ fl, fl = r.map (flipB true) := ⟨_, rfl⟩
      have Hfl := Lib.hid hfl
      clear hkd hfl
      go_enter Tryz.func101, Tryz.ntmps101
      go_wp2_with fail
      go_loopg [8, 9, 7] k (fun gh s8 s9 s7 wr => ∃ i m : Nat, s8 = .int .i64 ((i : Int) + 1) ∧ s7 = .int .i64 (m : Int) ∧ gh = k - i ∧ i ≤ k ∧ m ≤ 9223372036854775807 ∧ Hid (m = valB (fl.take i)) ∧ w = wr)
      case atStart => exact ⟨0, 0, by go_num, rfl, rfl, Nat.zero_le _, by omega, rfl, rfl⟩
      case round =>
        obtain ⟨i, m, rfl, rfl, hgh, hi, hm, HM, rfl⟩ := hrel
        by_cases hlt : i < k
        · have hI1 : (0 : Int) ≤ (i : Int) + 1 := by omega
          have hI2 : (i : Int) + 1 ≤ (k : Int) := by omega
          have hI4 : (i : Int) + 1 < (q : Int) + 1 := by omega
          obtain ⟨y, hy⟩ : ∃ y, r[i]? = some y := ⟨_, List.getElem?_eq_getElem (by rw [← Hq.out]; omega)⟩
          obtain ⟨b', o', hA, -, hc1⟩ := byte_at Hs.out (k := i + 1) (x := y) (by rw [List.getElem?_cons_succ]; exact hy)
          injection hA with hA
          injection hA with hA1 hA2 _
          subst hA1 hA2
          have Hstep : Hid (valB (fl.take (i + 1)) = 256 * valB (fl.take i) + (flipB true y).toNat) := by
            show _ = _
            exact val_snoc_take (by rw [Hfl.out, List.getElem?_map, hy]; rfl)
          obtain ⟨yn, hyn⟩ : ∃ n, n = y.toNat := ⟨_, rfl⟩
          have hyn256 : yn < 256 := by rw [hyn]; exact y.toNat_lt
          obtain ⟨yd, hyd⟩ : ∃ n, n = (flipB true y).toNat := ⟨_, rfl⟩
          have hydv : (yd : Int) = 255 - (yn : Int) := by rw [hyd, hyn]; rw [flip_true]; have := y.toNat_lt; omega
          have hyd256 : yd < 256 := by omega
          have Hyd := Lib.hid hyd
          rw [← hyn] at hc1
          have hyq : (255 : Int) - (yn : Int) = (yd : Int) := hydv.symm
          clear hy hyn hyd hydv
          by_cases hbig : 36028797018963967 < m
          · have hx : x = .error 6 := by rw [HX.out]; exact get_ref_big Hf.out Hk.out (by omega) (by rw [← Hq.out]; omega) hlt (by rw [← Hfl.out, ← HM.out]; exact hbig)
            have q6 : decide ((36028797018963967 : Int) < (m : Int)) = true := decide_eq_true (by omega)
            subst hx
            go_wp2_with fail
            go_ret3
            exact ⟨rfl, Below.refl _ _⟩
          · have q6 : decide ((36028797018963967 : Int) < (m : Int)) = false := decide_eq_false (by omega)
            have hm2 : 256 * (m : Int) + (yd : Int) ≤ 9223372036854775807 := by omega
            go_wp2_with fail
            go_roundg (k - (i + 1))
            case measure => omega
            case rel => exact ⟨i + 1, 256 * m + yd, by go_num, by go_num, rfl, by omega, by omega, by show _ = _; rw [Hstep.out, ← HM.out, ← Hyd.out], rfl⟩
        · obtain rfl : i = k := by omega
          have hI3 : ¬ (i : Int) + 1 ≤ (i : Int) := by omega
          obtain ⟨n, hn⟩ : ∃ n : Int, n = -1 - (m : Int) := ⟨_, rfl⟩
          have hnI : -9223372036854775808 ≤ n ∧ n < 9223372036854775808 := by omega
          have Hint : Hid (∀ W, Calls Tryz.prog 50 #[.int .i64 n] W (BytesR (intB n) W)) := Lib.hid fun W => rint_any n W (Lib.hid hnI)
          have hsg : sgnB true m = n := by rw [hn]; rfl
          have hx : x = if intB n = (c0 :: r).take (i + 1) then .ok (n, i + 1) else .error 6 := by
            have h1 := get_ref_ok Hf.out Hk.out (by omega) (by rw [← Hq.out]; omega) (by rw [← Hfl.out, ← HM.out]; omega)
            rw [← Hfl.out, ← HM.out, hsg] at h1
            rw [HX.out]; exact h1
          have HX2 := Lib.hid hx
          have HSame : Hid (∀ A c' W, Below w.heap.size w W → Sl W W.heap.size A (Lib.byteCells (intB n)) → Calls Tryz.prog 25 #[.slice A (intB n).length c', .slice (some ⟨b, o, none⟩) (i + 1) c] W (BoolR (decide (intB n = (c0 :: r).take (i + 1))) W)) := Lib.hid fun A c' W hb h => by
            have := sameBytes_any (intB n) ((c0 :: r).take (i + 1)) A (some ⟨b, o, none⟩) c' c W (by have := intB_le n hnI; unfold maxLen; omega) (Lib.hid h) (Lib.hid (sl_take ((Hs.out.below hb).more hb.size) _))
            rw [List.length_take, List.length_cons, ← Hq.out, Nat.min_eq_left (by omega)] at this
            exact this
          have hcI : (i : Int) + 1 ≤ (c : Int) := by omega
          have hcI0 : (0 : Int) ≤ (i : Int) + 1 := by omega
          have hcN : ((i : Int) + 1).toNat = i + 1 := by omega
          obtain ⟨bo, hbo⟩ : ∃ v, v = decide (intB n = (c0 :: r).take (i + 1)) := ⟨_, rfl⟩
          rw [← hbo] at HSame
          have Hbo := Lib.hid hbo
          have hnE : (-1 : Int) - (m : Int) = n := hn.symm
          clear hn
          have hwr : IntKind.i64.wrap ((i : Int) + 1) = (i : Int) + 1 := IntWalk.i64_in _ (by omega)
          clear hx hsg hbo hnI
          go_wp2_with fail
          refine wp_region_held_drew (S := fun _ => True) (by kernel_rfl) trivial (fun hHeld => ?_)
          have B1 : Hid (Below w.heap.size w w.drew) := (Below.refl _ _).drew
          refine wpAnyH_take (i := 0) (v := ?_) (by simp only [List.getElem?_toArray, List.getElem?_cons_zero] <;> rfl) (by kernel_rfl) (by kernel_rfl) (by kernel_rfl) (by intro _ _ _ h; exact h) (Or.inl ⟨by rfl, ?_⟩) hHeld ?_
          rotate_left
          · intro w hSw; (try dsimp only at hSw); go_simp
            with_reducible rfl
          try simp only [Act.put, List.setIfInBounds_toArray, List.set_cons_zero, List.set_cons_succ]
          refine wpAnyH_take (i := 2) (v := ?_) (by simp only [List.getElem?_toArray, List.getElem?_cons_zero, List.getElem?_cons_succ] <;> rfl) (by kernel_rfl) (by kernel_rfl) (by kernel_rfl) (by intro _ _ _ h; exact h) (Or.inl ⟨by rfl, ?_⟩) hHeld ?_
          rotate_left
          · intro w hSw; (try dsimp only at hSw); go_simp
            with_reducible rfl
          try simp only [Act.put, List.setIfInBounds_toArray, List.set_cons_zero, List.set_cons_succ]
          refine wpAnyH_take (i := 3) (v := ?_) (by simp only [List.getElem?_toArray, List.getElem?_cons_zero, List.getElem?_cons_succ] <;> rfl) (by kernel_rfl) (by kernel_rfl) (by kernel_rfl) (by intro _ _ _ h; exact h) (Or.inl ⟨by rfl, ?_⟩) hHeld ?_
          rotate_left
          · intro w hSw; (try dsimp only at hSw); go_simp
            with_reducible rfl
          try simp only [Act.put, List.setIfInBounds_toArray, List.set_cons_zero, List.set_cons_succ]
          refine wpAnyH_take (i := 4) (v := ?_) (by simp only [List.getElem?_toArray, List.getElem?_cons_zero, List.getElem?_cons_succ] <;> rfl) (by kernel_rfl) (by kernel_rfl) (by kernel_rfl) (by intro _ _ _ h; exact h) (Or.inl ⟨by rfl, ?_⟩) hHeld ?_
          rotate_left
          · intro w hSw; (try dsimp only at hSw); go_simp
            with_reducible rfl
          try simp only [Act.put, List.setIfInBounds_toArray, List.set_cons_zero, List.set_cons_succ]
          refine wpAnyH_take (i := 5) (v := ?_) (by simp only [List.getElem?_toArray, List.getElem?_cons_zero, List.getElem?_cons_succ] <;> rfl) (by kernel_rfl) (by kernel_rfl) (by kernel_rfl) (by intro _ _ _ h; exact h) (Or.inl ⟨by rfl, ?_⟩) hHeld ?_
          rotate_left
          · intro w hSw; (try dsimp only at hSw); go_simp
            with_reducible rfl
          try simp only [Act.put, List.setIfInBounds_toArray, List.set_cons_zero, List.set_cons_succ]
          refine wpAnyH_ready (rs := [1]) (by kernel_rfl) (by simp) ?_
          refine (AllReadyH.cons (by simp only [List.getElem?_toArray, List.getElem?_cons_zero, List.getElem?_cons_succ] <;> rfl) (fun K hK => ?_) AllReadyH.nil)
          · go_simp
            go_at_call 50
            refine (Hint.out _).mono ?_
            rintro en w2 ⟨A2, c2, rfl, hO⟩
            have B2 := Lib.hid (B1.out.trans (hO.below.mono B1.out.size))
            have HS2 := Lib.hid (own_sl hO.o)
            clear hO
            refine hK.out _ _ trivial (fun hHeld => ?_)
            clear hK K
            try simp only [Act.put, List.setIfInBounds_toArray, List.set_cons_zero, List.set_cons_succ]
            refine wpAnyH_ready (rs := [6]) (by kernel_rfl) (by simp) ?_
            refine (AllReadyH.cons (by simp only [List.getElem?_toArray, List.getElem?_cons_zero, List.getElem?_cons_succ] <;> rfl) (fun K hK => ?_) AllReadyH.nil)
            · go_simp
              go_at_call 25
              refine (HSame.out _ _ _ B2.out HS2.out).mono ?_
              rintro en w3 ⟨rfl, hb3⟩
              have B3 := Lib.hid (B2.out.trans (hb3.mono B2.out.size))
              clear hb3
              refine hK.out _ _ trivial (fun hHeld => ?_)
              clear hK K
              try simp only [Act.put, List.setIfInBounds_toArray, List.set_cons_zero, List.set_cons_succ]
              refine wpAnyH_take (i := 7) (v := ?_) (by simp only [List.getElem?_toArray, List.getElem?_cons_zero, List.getElem?_cons_succ] <;> rfl) (by kernel_rfl) (by kernel_rfl) (by kernel_rfl) (by intro _ _ _ h; exact h) (Or.inl ⟨by rfl, ?_⟩) hHeld ?_
              rotate_left
              · intro w hSw; (try dsimp only at hSw); go_simp
                with_reducible rfl
              try simp only [Act.put, List.setIfInBounds_toArray, List.set_cons_zero, List.set_cons_succ]
              refine wpAnyH_done (by kernel_rfl) ?_ _
              clear hHeld
              cases bo with
              | false =>
                go_wp2_with fail
                go_ret3
                refine ⟨?_, B3.out⟩
                rw [HX2.out, if_neg (of_decide_eq_false Hbo.out.symm)]
                rfl
              | true =>
                go_wp2_with fail
                go_ret3
                refine ⟨?_, B3.out⟩
                rw [HX2.out, if_pos (of_decide_eq_true Hbo.out.symm)]
                rfl

set_option maxRecDepth 100000 in
set_option maxHeartbeats 4000000 in
theorem rgetint_pos (c0 : UInt8) (r : Bytes) (b o c : Nat) (w : World) (hl : r.length ≤ 1000000000) (hc : r.length + 1 ≤ c) (hf : false = decide (c0.toNat < 128)) (Hs : Hid (Sl w w.heap.size (some ⟨b, o, none⟩) (Lib.byteCells (c0 :: r)))) : Calls Tryz.prog 101 #[.slice (some ⟨b, o, none⟩) (r.length + 1) c] w (GetIntRB (getIntB (c0 :: r)) w) := by
  obtain ⟨b', o', hA, hbw, hc0⟩ := byte_at Hs.out (k := 0) (x := c0) rfl
  injection hA with hA
  injection hA with hA1 hA2 _
  subst hA1 hA2
  obtain ⟨q, hq⟩ : ∃ q, q = r.length := ⟨_, rfl⟩
  rw [← hq] at hl hc ⊢
  obtain ⟨h, hh⟩ : ∃ h, h = c0.toNat := ⟨_, rfl⟩
  have hh256 : h < 256 := by rw [hh]; exact c0.toNat_lt
  obtain ⟨k, hkd⟩ : ∃ k, k = h - 128 := ⟨_, rfl⟩
  have hk : k = (flipB false c0).toNat - 128 := by
    rw [hkd, hh]
    rw [flip_false]
  have hf2 : ¬ h < 128 := by rw [hh]; exact of_decide_eq_false hf.symm
  obtain ⟨x, hx⟩ : ∃ x, x = getIntB (c0 :: r) := ⟨_, rfl⟩
  rw [← hx]
  have HX := Lib.hid hx
  have Hf := Lib.hid hf
  have Hk := Lib.hid hk
  have Hq := Lib.hid hq
  rw [← hh, Nat.add_zero] at hc0
  have q1 : decide ((h : Int) < 128) = false := decide_eq_false (by omega)
  clear hx hf hk hh hq
  by_cases h8 : 8 < k
  · have hx : x = .error 6 := by rw [HX.out]; exact get_ref_far Hf.out Hk.out h8
    subst hx
    have q2 : decide ((h : Int) < 119) = false := decide_eq_false (by omega)
    have q3 : decide ((136 : Int) < (h : Int)) = true := decide_eq_true (by omega)
    clear hkd
    go_enter Tryz.func101, Tryz.ntmps101
    go_wp2_with fail
    go_ret3
    exact ⟨rfl, Below.refl _ _⟩
  · have q2 : decide ((h : Int) < 119) = false := decide_eq_false (by omega)
    have q3 : decide ((136 : Int) < (h : Int)) = false := decide_eq_false (by omega)
    have hkI : (h : Int) - 128 = (k : Int) := by omega
    
    have hk0 : (0 : Int) ≤ (k : Int) := by omega
    have hk1 : (k : Int) ≤ 8 := by omega
    by_cases hs : q < k
    · have hx : x = .error 5 := by rw [HX.out]; exact get_ref_short Hf.out Hk.out h8 (by rw [← Hq.out]; exact hs)
      subst hx
      have q4 : decide ((q : Int) + 1 < (k : Int) + 1) = true := decide_eq_true (by omega)
      have q5 : decide ((q : Int) < (k : Int)) = true := decide_eq_true (by omega)
      clear hkd
      go_enter Tryz.func101, Tryz.ntmps101
      go_wp2_with fail
      go_ret3
      exact ⟨rfl, Below.refl _ _⟩
    · have q4 : decide ((q : Int) + 1 < (k : Int) + 1) = false := decide_eq_false (by omega)
      have q5 : decide ((q : Int) < (k : Int)) = false := decide_eq_false (by omega)
      obtain ⟨fl, hfl⟩ : ∃ fl, fl = r.map (flipB false) := ⟨_, rfl⟩
      have Hfl := Lib.hid hfl
      clear hkd hfl
      go_enter Tryz.func101, Tryz.ntmps101
      go_wp2_with fail
      go_loopg [8, 9, 7] k (fun gh s8 s9 s7 wr => ∃ i m : Nat, s8 = .int .i64 ((i : Int) + 1) ∧ s7 = .int .i64 (m : Int) ∧ gh = k - i ∧ i ≤ k ∧ m ≤ 9223372036854775807 ∧ Hid (m = valB (fl.take i)) ∧ w = wr)
      case atStart => exact ⟨0, 0, by go_num, rfl, rfl, Nat.zero_le _, by omega, rfl, rfl⟩
      case round =>
        obtain ⟨i, m, rfl, rfl, hgh, hi, hm, HM, rfl⟩ := hrel
        by_cases hlt : i < k
        · have hI1 : (0 : Int) ≤ (i : Int) + 1 := by omega
          have hI2 : (i : Int) + 1 ≤ (k : Int) := by omega
          have hI4 : (i : Int) + 1 < (q : Int) + 1 := by omega
          obtain ⟨y, hy⟩ : ∃ y, r[i]? = some y := ⟨_, List.getElem?_eq_getElem (by rw [← Hq.out]; omega)⟩
          obtain ⟨b', o', hA, -, hc1⟩ := byte_at Hs.out (k := i + 1) (x := y) (by rw [List.getElem?_cons_succ]; exact hy)
          injection hA with hA
          injection hA with hA1 hA2 _
          subst hA1 hA2
          have Hstep : Hid (valB (fl.take (i + 1)) = 256 * valB (fl.take i) + (flipB false y).toNat) := by
            show _ = _
            exact val_snoc_take (by rw [Hfl.out, List.getElem?_map, hy]; rfl)
          obtain ⟨yn, hyn⟩ : ∃ n, n = y.toNat := ⟨_, rfl⟩
          have hyn256 : yn < 256 := by rw [hyn]; exact y.toNat_lt
          obtain ⟨yd, hyd⟩ : ∃ n, n = (flipB false y).toNat := ⟨_, rfl⟩
          have hydv : (yd : Int) = (yn : Int) := by rw [hyd, hyn]; rw [flip_false]
          have hyd256 : yd < 256 := by omega
          have Hyd := Lib.hid hyd
          rw [← hyn] at hc1
          have hyq : (yn : Int) = (yd : Int) := hydv.symm
          rw [hyq] at hc1
          clear hy hyn hyd hydv
          by_cases hbig : 36028797018963967 < m
          · have hx : x = .error 6 := by rw [HX.out]; exact get_ref_big Hf.out Hk.out (by omega) (by rw [← Hq.out]; omega) hlt (by rw [← Hfl.out, ← HM.out]; exact hbig)
            have q6 : decide ((36028797018963967 : Int) < (m : Int)) = true := decide_eq_true (by omega)
            subst hx
            go_wp2_with fail
            go_ret3
            exact ⟨rfl, Below.refl _ _⟩
          · have q6 : decide ((36028797018963967 : Int) < (m : Int)) = false := decide_eq_false (by omega)
            have hm2 : 256 * (m : Int) + (yd : Int) ≤ 9223372036854775807 := by omega
            go_wp2_with fail
            go_roundg (k - (i + 1))
            case measure => omega
            case rel => exact ⟨i + 1, 256 * m + yd, by go_num, by go_num, rfl, by omega, by omega, by show _ = _; rw [Hstep.out, ← HM.out, ← Hyd.out], rfl⟩
        · obtain rfl : i = k := by omega
          have hI3 : ¬ (i : Int) + 1 ≤ (i : Int) := by omega
          obtain ⟨n, hn⟩ : ∃ n : Int, n = (m : Int) := ⟨_, rfl⟩
          have hnI : -9223372036854775808 ≤ n ∧ n < 9223372036854775808 := by omega
          have Hint : Hid (∀ W, Calls Tryz.prog 50 #[.int .i64 n] W (BytesR (intB n) W)) := Lib.hid fun W => rint_any n W (Lib.hid hnI)
          have hsg : sgnB false m = n := by rw [hn]; rfl
          have hx : x = if intB n = (c0 :: r).take (i + 1) then .ok (n, i + 1) else .error 6 := by
            have h1 := get_ref_ok Hf.out Hk.out (by omega) (by rw [← Hq.out]; omega) (by rw [← Hfl.out, ← HM.out]; omega)
            rw [← Hfl.out, ← HM.out, hsg] at h1
            rw [HX.out]; exact h1
          have HX2 := Lib.hid hx
          have HSame : Hid (∀ A c' W, Below w.heap.size w W → Sl W W.heap.size A (Lib.byteCells (intB n)) → Calls Tryz.prog 25 #[.slice A (intB n).length c', .slice (some ⟨b, o, none⟩) (i + 1) c] W (BoolR (decide (intB n = (c0 :: r).take (i + 1))) W)) := Lib.hid fun A c' W hb h => by
            have := sameBytes_any (intB n) ((c0 :: r).take (i + 1)) A (some ⟨b, o, none⟩) c' c W (by have := intB_le n hnI; unfold maxLen; omega) (Lib.hid h) (Lib.hid (sl_take ((Hs.out.below hb).more hb.size) _))
            rw [List.length_take, List.length_cons, ← Hq.out, Nat.min_eq_left (by omega)] at this
            exact this
          have hcI : (i : Int) + 1 ≤ (c : Int) := by omega
          have hcI0 : (0 : Int) ≤ (i : Int) + 1 := by omega
          have hcN : ((i : Int) + 1).toNat = i + 1 := by omega
          obtain ⟨bo, hbo⟩ : ∃ v, v = decide (intB n = (c0 :: r).take (i + 1)) := ⟨_, rfl⟩
          rw [← hbo] at HSame
          have Hbo := Lib.hid hbo
          have hnE : (m : Int) = n := hn.symm
          clear hn
          have hwr : IntKind.i64.wrap ((i : Int) + 1) = (i : Int) + 1 := IntWalk.i64_in _ (by omega)
          clear hx hsg hbo hnI
          go_wp2_with fail
          refine wp_region_held_drew (S := fun _ => True) (by kernel_rfl) trivial (fun hHeld => ?_)
          have B1 : Hid (Below w.heap.size w w.drew) := (Below.refl _ _).drew
          refine wpAnyH_take (i := 0) (v := ?_) (by simp only [List.getElem?_toArray, List.getElem?_cons_zero] <;> rfl) (by kernel_rfl) (by kernel_rfl) (by kernel_rfl) (by intro _ _ _ h; exact h) (Or.inl ⟨by rfl, ?_⟩) hHeld ?_
          rotate_left
          · intro w hSw; (try dsimp only at hSw); go_simp
            with_reducible rfl
          try simp only [Act.put, List.setIfInBounds_toArray, List.set_cons_zero, List.set_cons_succ]
          refine wpAnyH_take (i := 2) (v := ?_) (by simp only [List.getElem?_toArray, List.getElem?_cons_zero, List.getElem?_cons_succ] <;> rfl) (by kernel_rfl) (by kernel_rfl) (by kernel_rfl) (by intro _ _ _ h; exact h) (Or.inl ⟨by rfl, ?_⟩) hHeld ?_
          rotate_left
          · intro w hSw; (try dsimp only at hSw); go_simp
            with_reducible rfl
          try simp only [Act.put, List.setIfInBounds_toArray, List.set_cons_zero, List.set_cons_succ]
          refine wpAnyH_take (i := 3) (v := ?_) (by simp only [List.getElem?_toArray, List.getElem?_cons_zero, List.getElem?_cons_succ] <;> rfl) (by kernel_rfl) (by kernel_rfl) (by kernel_rfl) (by intro _ _ _ h; exact h) (Or.inl ⟨by rfl, ?_⟩) hHeld ?_
          rotate_left
          · intro w hSw; (try dsimp only at hSw); go_simp
            with_reducible rfl
          try simp only [Act.put, List.setIfInBounds_toArray, List.set_cons_zero, List.set_cons_succ]
          refine wpAnyH_take (i := 4) (v := ?_) (by simp only [List.getElem?_toArray, List.getElem?_cons_zero, List.getElem?_cons_succ] <;> rfl) (by kernel_rfl) (by kernel_rfl) (by kernel_rfl) (by intro _ _ _ h; exact h) (Or.inl ⟨by rfl, ?_⟩) hHeld ?_
          rotate_left
          · intro w hSw; (try dsimp only at hSw); go_simp
            with_reducible rfl
          try simp only [Act.put, List.setIfInBounds_toArray, List.set_cons_zero, List.set_cons_succ]
          refine wpAnyH_take (i := 5) (v := ?_) (by simp only [List.getElem?_toArray, List.getElem?_cons_zero, List.getElem?_cons_succ] <;> rfl) (by kernel_rfl) (by kernel_rfl) (by kernel_rfl) (by intro _ _ _ h; exact h) (Or.inl ⟨by rfl, ?_⟩) hHeld ?_
          rotate_left
          · intro w hSw; (try dsimp only at hSw); go_simp
            with_reducible rfl
          try simp only [Act.put, List.setIfInBounds_toArray, List.set_cons_zero, List.set_cons_succ]
          refine wpAnyH_ready (rs := [1]) (by kernel_rfl) (by simp) ?_
          refine (AllReadyH.cons (by simp only [List.getElem?_toArray, List.getElem?_cons_zero, List.getElem?_cons_succ] <;> rfl) (fun K hK => ?_) AllReadyH.nil)
          · go_simp
            go_at_call 50
            refine (Hint.out _).mono ?_
            rintro en w2 ⟨A2, c2, rfl, hO⟩
            have B2 := Lib.hid (B1.out.trans (hO.below.mono B1.out.size))
            have HS2 := Lib.hid (own_sl hO.o)
            clear hO
            refine hK.out _ _ trivial (fun hHeld => ?_)
            clear hK K
            try simp only [Act.put, List.setIfInBounds_toArray, List.set_cons_zero, List.set_cons_succ]
            refine wpAnyH_ready (rs := [6]) (by kernel_rfl) (by simp) ?_
            refine (AllReadyH.cons (by simp only [List.getElem?_toArray, List.getElem?_cons_zero, List.getElem?_cons_succ] <;> rfl) (fun K hK => ?_) AllReadyH.nil)
            · go_simp
              go_at_call 25
              refine (HSame.out _ _ _ B2.out HS2.out).mono ?_
              rintro en w3 ⟨rfl, hb3⟩
              have B3 := Lib.hid (B2.out.trans (hb3.mono B2.out.size))
              clear hb3
              refine hK.out _ _ trivial (fun hHeld => ?_)
              clear hK K
              try simp only [Act.put, List.setIfInBounds_toArray, List.set_cons_zero, List.set_cons_succ]
              refine wpAnyH_take (i := 7) (v := ?_) (by simp only [List.getElem?_toArray, List.getElem?_cons_zero, List.getElem?_cons_succ] <;> rfl) (by kernel_rfl) (by kernel_rfl) (by kernel_rfl) (by intro _ _ _ h; exact h) (Or.inl ⟨by rfl, ?_⟩) hHeld ?_
              rotate_left
              · intro w hSw; (try dsimp only at hSw); go_simp
                with_reducible rfl
              try simp only [Act.put, List.setIfInBounds_toArray, List.set_cons_zero, List.set_cons_succ]
              refine wpAnyH_done (by kernel_rfl) ?_ _
              clear hHeld
              cases bo with
              | false =>
                go_wp2_with fail
                go_ret3
                refine ⟨?_, B3.out⟩
                rw [HX2.out, if_neg (of_decide_eq_false Hbo.out.symm)]
                rfl
              | true =>
                go_wp2_with fail
                go_ret3
                refine ⟨?_, B3.out⟩
                rw [HX2.out, if_pos (of_decide_eq_true Hbo.out.symm)]
                rfl

end Go.Proofs.YtdfhbnfhkckkbaaGreatDoor
namespace Go.Proofs.YtdfhbnfhkckkbaaGreatDoor
open Go Go.RowKit Go.Walks

theorem rgetint_any (l : Bytes) (A : Option Addr) (c : Nat) (w : World) (hl : l.length ≤ 1000000000) (hc : l.length ≤ c) (Hs : Hid (Sl w w.heap.size A (Lib.byteCells l))) : Calls Tryz.prog 101 #[.slice A l.length c] w (GetIntRB (getIntB l) w) := by
  cases l with
  | nil => exact rgetint_nil A c w
  | cons c0 r =>
    obtain ⟨b, o, rfl, -, -⟩ := byte_at Hs.out (k := 0) rfl
    rw [List.length_cons] at hl hc ⊢
    cases hf : decide (c0.toNat < 128) with
    | true => exact rgetint_neg c0 r b o c w (by omega) hc hf.symm Hs
    | false => exact rgetint_pos c0 r b o c w (by omega) hc hf.symm Hs
def cntV : Except Nat (Nat × Nat) → Value
  | .ok (n, k) => .tuple #[.int .i64 (n : Int), .int .i64 (k : Int), .int .i64 0]
  | .error e => .tuple #[.int .i64 0, .int .i64 0, errI e]
def CountRB (x : Except Nat (Nat × Nat)) (w : World) (e : Ending) (w' : World) : Prop := e = .returned (cntV x) ∧ Below w.heap.size w w'
set_option maxRecDepth 100000 in
set_option maxHeartbeats 4000000 in
theorem rcount_any (l : Bytes) (A : Option Addr) (c : Nat) (w : World) (hl : l.length ≤ 1000000000) (hc : l.length ≤ c) (Hs : Hid (Sl w w.heap.size A (Lib.byteCells l))) : Calls Tryz.prog 100 #[.slice A l.length c, .int .i64 1] w (CountRB (countB l) w) := by
  have Hg := Lib.hid (rgetint_any l A c w hl hc Hs)
  obtain ⟨m, hm⟩ : ∃ m, m = l.length := ⟨_, rfl⟩
  have hcnt : countB l = match getIntB l with
    | .error e => .error e
    | .ok (n, k) => if n < 0 then .error 6 else if n > (m : Int) - k then .error 5 else .ok (n.toNat, k) := by rw [countB, hm]; rfl
  obtain ⟨x, hx0⟩ : ∃ x, x = countB l := ⟨_, rfl⟩
  rw [← hx0]
  rw [← hx0] at hcnt
  rw [← hm] at Hg ⊢
  cases hx : getIntB l with
  | error e =>
    rw [hx] at Hg hcnt
    have he := getInt_err hx
    have q1 : ((e : Int) != 0) = true := by rw [bne_iff_ne]; omega
    have HX := Lib.hid hcnt
    clear hm hcnt hx hl hc hx0
    go_enter Tryz.func100, Tryz.ntmps100
    go_wp2_with fail
    refine Hg.out.mono ?_
    unfold GetIntRB gotV errI
    rintro _ w2 ⟨rfl, hb⟩
    have HB := Lib.hid hb
    clear hb
    go_wp2_with fail
    go_ret3
    exact ⟨by rw [HX.out]; rfl, HB.out⟩
  | ok nk =>
    obtain ⟨n, k⟩ := nk
    rw [hx] at Hg hcnt
    obtain ⟨-, -, hk, h1, h2⟩ := int_getB hx
    rw [← hm] at hk hl
    dsimp only at hcnt
    clear hm hx hc hx0
    by_cases hn0 : n < 0
    · rw [if_pos hn0] at hcnt
      have HX := Lib.hid hcnt
      clear hcnt
      go_enter Tryz.func100, Tryz.ntmps100
      go_wp2_with fail
      refine Hg.out.mono ?_
      unfold GetIntRB gotV
      rintro _ w2 ⟨rfl, hb⟩
      have HB := Lib.hid hb
      clear hb
      go_wp2_with fail
      go_ret3
      exact ⟨by rw [HX.out]; rfl, HB.out⟩
    · rw [if_neg hn0] at hcnt
      have hn00 : 0 ≤ n := by omega
      by_cases hn1 : n > (m : Int) - k
      · rw [if_pos hn1] at hcnt
        have HX := Lib.hid hcnt
        clear hcnt
        by_cases hn2 : (m : Int) < n
        · have q1 : decide ((m : Int) < n) = true := decide_eq_true hn2
          clear hn1
          go_enter Tryz.func100, Tryz.ntmps100
          go_wp2_with fail
          refine Hg.out.mono ?_
          unfold GetIntRB gotV
          rintro _ w2 ⟨rfl, hb⟩
          have HB := Lib.hid hb
          clear hb
          go_wp2_with fail
          go_ret3
          exact ⟨by rw [HX.out]; rfl, HB.out⟩
        · have q1 : decide ((m : Int) < n) = false := decide_eq_false hn2
          have q2 : decide ((m : Int) - k < n) = true := decide_eq_true hn1
          clear hn1
          go_enter Tryz.func100, Tryz.ntmps100
          go_wp2_with fail
          refine Hg.out.mono ?_
          unfold GetIntRB gotV
          rintro _ w2 ⟨rfl, hb⟩
          have HB := Lib.hid hb
          clear hb
          go_wp2_with fail
          go_ret3
          exact ⟨by rw [HX.out]; rfl, HB.out⟩
      · rw [if_neg hn1] at hcnt
        have q1 : decide ((m : Int) < n) = false := decide_eq_false (by omega)
        have q2 : decide ((m : Int) - k < n) = false := decide_eq_false hn1
        have HX := Lib.hid hcnt
        have Hn0 : Hid ((n.toNat : Int) = n) := by show _ = _; omega
        clear hcnt hn1
        go_enter Tryz.func100, Tryz.ntmps100
        go_wp2_with fail
        refine Hg.out.mono ?_
        unfold GetIntRB gotV
        rintro _ w2 ⟨rfl, hb⟩
        have HB := Lib.hid hb
        clear hb
        go_wp2_with fail
        go_ret3
        refine ⟨?_, HB.out⟩
        rw [HX.out]
        show _ = Ending.returned (.tuple #[.int .i64 (n.toNat : Int), .int .i64 (k : Int), .int .i64 0])
        rw [Hn0.out]
        rfl
def bytV : Except Nat (Bytes × Nat) → Value
  | .ok (s, k) => .tuple #[.string ⟨s.toArray⟩, .int .i64 (k : Int), .int .i64 0]
  | .error e => .tuple #[.string ⟨#[]⟩, .int .i64 0, errI e]
def GetBytesRB (x : Except Nat (Bytes × Nat)) (w : World) (e : Ending) (w' : World) : Prop := e = .returned (bytV x) ∧ Below w.heap.size w w'
set_option maxRecDepth 100000 in
set_option maxHeartbeats 400000 in
theorem rgetbytes_any (l : Bytes) (A : Option Addr) (c : Nat) (w : World) (hl : l.length ≤ 1000000000) (hc : l.length ≤ c) (hcm : c ≤ 9223372036854775807) (Hs : Hid (Sl w w.heap.size A (Lib.byteCells l))) : Calls Tryz.prog 76 #[.slice A l.length c] w (GetBytesRB (getBytesB l) w) := by
  have Hg := Lib.hid (rcount_any l A c w hl hc Hs)
  obtain ⟨y, hy0⟩ : ∃ y, y = getBytesB l := ⟨_, rfl⟩
  rw [← hy0]
  have hcnt : y = match countB l with
    | .error e => .error e
    | .ok (n, k) => .ok ((l.drop k).take n, k + n) := by rw [hy0, getBytesB]; rfl
  obtain ⟨m, hm⟩ : ∃ m, m = l.length := ⟨_, rfl⟩
  rw [← hm] at Hg ⊢
  cases hx : countB l with
  | error e =>
    rw [hx] at Hg hcnt
    have he := count_err hx
    have q1 : ((e : Int) != 0) = true := by rw [bne_iff_ne]; omega
    have HX := Lib.hid hcnt
    clear hm hcnt hx hl hc hy0
    go_enter Tryz.func76, Tryz.ntmps76
    go_wp2_with fail
    refine Hg.out.mono ?_
    unfold CountRB cntV errI
    rintro _ w2 ⟨rfl, hb⟩
    have HB := Lib.hid hb
    clear hb
    go_wp2_with fail
    go_ret3
    exact ⟨by rw [HX.out]; rfl, HB.out⟩
  | ok nk =>
    obtain ⟨n, k⟩ := nk
    rw [hx] at Hg hcnt
    obtain ⟨h1, h2, h3, h4⟩ := count_can hx
    dsimp only at hcnt
    have hk1 : 1 ≤ k := by rw [h2, intB_length]; omega
    rw [← hm] at h3 hl hc
    obtain ⟨x0, hx0⟩ : ∃ x, l[0]? = some x := ⟨l[0]'(by omega), List.getElem?_eq_getElem _⟩
    obtain ⟨b, o, hA, -, -⟩ := byte_at Hs.out hx0
    clear hx0 x0
    subst hA
    obtain ⟨s, hs⟩ : ∃ s, s = (l.drop k).take n := ⟨_, rfl⟩
    rw [← hs] at hcnt
    have hslt : s.length = n := by rw [hs, List.length_take, List.length_drop]; omega
    have Hconv : Hid (∀ W, Below w.heap.size w W → ∀ c', (convert 38 9 (.slice (some ⟨b, if c = k then o else o + k, none⟩) n c')).run Tryz.prog W = .ok (.string ⟨s.toArray⟩) W) := Lib.hid fun W hb c' => by
      have hsl := sl_from (c := c) ((Hs.out.below hb).more hb.size) (k := k) (by omega) (by omega)
      have hsl2 := hsl.take n
      rw [byteCells_take, ← hs] at hsl2
      have := conv_bytes (c := c') hsl2
      rw [hslt] at this
      exact this
    have HX := Lib.hid hcnt
    clear hm hcnt hx hy0 h1 h2 h4 hs hslt
    by_cases hck : c = k
    · subst hck
      obtain rfl : n = 0 := by omega
      rw [if_pos rfl] at Hconv
      go_enter Tryz.func76, Tryz.ntmps76
      go_wp2_with fail
      refine Hg.out.mono ?_
      unfold CountRB cntV
      rintro _ w2 ⟨rfl, hb⟩
      have HB := Lib.hid hb
      have hconv := Hconv.out _ hb
      clear hb
      go_wp2_with fail
      go_ret3
      exact ⟨by rw [HX.out]; rfl, HB.out⟩
    · rw [if_neg hck] at Hconv
      go_enter Tryz.func76, Tryz.ntmps76
      go_wp2_with fail
      refine Hg.out.mono ?_
      unfold CountRB cntV
      rintro _ w2 ⟨rfl, hb⟩
      have HB := Lib.hid hb
      have hconv := Hconv.out _ hb
      clear hb
      go_wp2_with fail
      go_ret3
      exact ⟨by rw [HX.out]; rfl, HB.out⟩
set_option maxRecDepth 100000 in
set_option maxHeartbeats 8000000 in
theorem rgetints_any (l : Bytes) (A : Option Addr) (c : Nat) (w : World) (hl : l.length ≤ 1000000000) (hc : l.length ≤ c) (hcm : c ≤ 9223372036854775807) (Hs : Hid (Sl w w.heap.size A (Lib.byteCells l))) : Calls Tryz.prog 99 #[.slice A l.length c] w (GetIntsR (getIntsB l) w) := by
  have Hg := Lib.hid (rcount_any l A c w hl hc Hs)
  obtain ⟨y, hy0⟩ : ∃ y, y = getIntsB l := ⟨_, rfl⟩
  rw [← hy0]
  have hcnt : y = match countB l with
    | .error e => .error e
    | .ok (n, k) => joinN [] k (getN n (l.drop k)) := by
      rw [hy0, getIntsB]
      cases countB l with
      | error e => rfl
      | ok nk =>
        obtain ⟨n, k⟩ := nk
        dsimp only
        cases getN n (l.drop k) with
        | error e => rfl
        | ok lu => rfl
  obtain ⟨m, hm⟩ : ∃ m, m = l.length := ⟨_, rfl⟩
  rw [← hm] at Hg ⊢
  cases hx : countB l with
  | error e =>
    rw [hx] at Hg hcnt
    have he := count_err hx
    have q1 : ((e : Int) != 0) = true := by rw [bne_iff_ne]; omega
    have HX := Lib.hid hcnt
    clear hm hcnt hx hl hc hy0
    go_enter Tryz.func99, Tryz.ntmps99
    go_wp2_with fail
    refine Hg.out.mono ?_
    unfold CountRB cntV errI
    rintro _ w2 ⟨rfl, hb⟩
    have HB := Lib.hid hb
    clear hb
    go_wp2_with fail
    go_ret3
    exact ⟨HB.out, by rw [HX.out]; rfl⟩
  | ok nk =>
    obtain ⟨n, k⟩ := nk
    rw [hx] at Hg hcnt
    obtain ⟨h1, h2, h3, h4⟩ := count_can hx
    dsimp only at hcnt
    have hk1 : 1 ≤ k := by rw [h2, intB_length]; omega
    obtain ⟨x0, hx0⟩ : ∃ x, l[0]? = some x := ⟨l[0]'(by omega), List.getElem?_eq_getElem _⟩
    obtain ⟨b, o, hA, -, -⟩ := byte_at Hs.out hx0
    clear hx0 x0
    subst hA
    rw [← hm] at h3 hl hc
    have HX := Lib.hid hcnt
    have Hm := Lib.hid hm
    clear hm hcnt hx hy0 h1 h2 h4
    go_enter Tryz.func99, Tryz.ntmps99
    go_wp2_with fail
    refine Hg.out.mono ?_
    unfold CountRB cntV
    rintro _ w1 ⟨rfl, hb1⟩
    have HN : Hid (OS w 3 1 none 0 0 [] w1) := Lib.hid ((OS.nil w 3 1).call hb1)
    clear hb1
    go_wp2_with fail
    go_loopg [9, 6, 8, 10, 11, 12] n (fun g s9 s6 s8 s10 s11 s12 wr => ∃ (i at_ : Nat) (A' : Option Addr) (c' : Nat) (acc : List Int), s9 = .int .i64 (i : Int) ∧ s8 = .slice A' i c' ∧ s6 = .int .i64 (at_ : Int) ∧ g = n - i ∧ i ≤ n ∧ at_ ≤ m ∧ Hid (OS w 3 1 A' i c' (acc.map intC) wr) ∧ Hid (acc.length = i) ∧ Hid (y = joinN acc at_ (getN (n - i) (l.drop at_))))
    case atStart => exact ⟨0, k, none, 0, [], rfl, rfl, rfl, rfl, Nat.zero_le _, by omega, HN, rfl, HX⟩
    case round =>
      obtain ⟨i, at_, A', c', acc, rfl, rfl, rfl, hg, hin, hat, HG, HL, HY⟩ := hrel
      clear HN
      by_cases hlt : i < n
      · have hI1 : (i : Int) < (n : Int) := by omega
        have hac0 : (0 : Int) ≤ (at_ : Int) := by omega
        have hac1 : (at_ : Int) ≤ (m : Int) := by omega
        have hac2 : (m : Int) ≤ (c : Int) := by omega
        obtain ⟨q, hq⟩ : ∃ q, q = m - at_ := ⟨_, rfl⟩
        have hgi : ∀ W, Below w.heap.size w W → Calls Tryz.prog 101 #[.slice (some ⟨b, if c = at_ then o else o + at_, none⟩) q (c - at_)] W (GetIntRB (getIntB (l.drop at_)) W) := fun W hb => by
          have hsl := sl_from (c := c) ((Hs.out.below hb).more hb.size) (k := at_) (by rw [← Hm.out]; exact hat) (by rw [← Hm.out]; exact hc)
          have := rgetint_any (l.drop at_) _ (c - at_) W (by rw [List.length_drop, ← Hm.out]; omega) (by rw [List.length_drop, ← Hm.out]; omega) (Lib.hid hsl)
          rw [List.length_drop, ← Hm.out, ← hq] at this
          exact this
        have Hgi := Lib.hid hgi
        clear hgi
        have HY2 := HY.out
        rw [show n - i = (n - (i + 1)) + 1 by omega, getN_step] at HY2
        have Hx2 : Hid (∃ x, x = getIntB (l.drop at_)) := ⟨_, rfl⟩
        obtain ⟨x2, hx2⟩ := Hx2.out
        rw [← hx2] at HY2 Hgi
        have hb1 : i + 1 ≤ maxLen := by unfold maxLen; omega
        have hb2 : (i + 1) * 8 ≤ 140737488355328 := by omega
        by_cases hcat : c = at_
        · subst hcat
          obtain rfl : m = c := by omega
          rw [if_pos rfl, Nat.sub_self, show q = 0 by omega] at Hgi
          cases x2 with
          | error er =>
            have he := getInt_err hx2.symm
            have q1 : ((er : Int) != 0) = true := by rw [bne_iff_ne]; omega
            have HE := Lib.hid HY2
            clear HY2 hx2 hq
            go_wp2_with fail
            refine (Hgi.out _ HG.out.below).mono ?_
            unfold GetIntRB gotV errI
            rintro _ w2 ⟨rfl, hb⟩
            have HB := Lib.hid (HG.out.below.trans (hb.mono HG.out.below.size))
            clear hb
            go_wp2_with fail
            go_ret3
            exact ⟨HB.out, by rw [HE.out]; rfl⟩
          | ok vk =>
            obtain ⟨v, k2⟩ := vk
            have hk2 := (int_getB hx2.symm).2.2.1
            rw [List.length_drop, ← Hm.out] at hk2
            have hk3 : k2 ≤ m := by omega
            have HE : Hid (y = joinN (acc ++ [v]) (m + k2) (getN (n - (i + 1)) (l.drop (m + k2)))) := by
              show _ = _
              rw [HY2]
              dsimp only
              rw [List.drop_drop]
              cases getN (n - (i + 1)) (l.drop (m + k2)) with
              | error e => rfl
              | ok lu =>
                obtain ⟨l', u⟩ := lu
                show Except.ok (acc ++ v :: l', m + (k2 + u)) = Except.ok ((acc ++ [v]) ++ l', m + k2 + u)
                rw [List.append_assoc, Nat.add_assoc]
                rfl
            obtain ⟨p, hp⟩ : ∃ p, p = m + k2 := ⟨_, rfl⟩
            have hpm : p ≤ m := by omega
            rw [← hp] at HE
            have Hp := Lib.hid hp
            clear HY2 hx2 hq hp hk2
            go_wp2_with fail
            refine (Hgi.out _ HG.out.below).mono ?_
            unfold GetIntRB gotV
            rintro _ w2 ⟨rfl, hb⟩
            have HG2 := Lib.hid (HG.out.call hb)
            clear hb
            go_wp2_with (at_builtin; refine wpList_append_sl rfl _ _ 65 rfl rfl rfl so65 (HG2.out.o.alloc _) (m := 1) (news := [.int .i64 v]) rfl (Sl.new _ _ _) ?_ hb1 hb2 (Nat.le_trans HG2.out.below.size (by simp)) ?_; (intro u hu; simp at hu; subst hu; rfl); intro A5 c5 w5 ho5 hg5; have HG5 : Hid (OS w 3 1 A5 (i + 1) c5 ((acc ++ [v]).map intC) w5) := (HG2.out.alloc _).grow (by rw [List.map_append]; exact ho5) hg5; clear ho5 hg5)
            go_roundg (n - (i + 1))
            case measure => omega
            case rel => exact ⟨i + 1, p, A5, c5, acc ++ [v], by go_num, rfl, by have := Hp.out; subst this; go_num, rfl, by omega, hpm, HG5, by show _ = _; rw [List.length_append, HL.out]; rfl, HE⟩
        · rw [if_neg hcat, hq] at Hgi
          cases x2 with
          | error er =>
            have he := getInt_err hx2.symm
            have q1 : ((er : Int) != 0) = true := by rw [bne_iff_ne]; omega
            have HE := Lib.hid HY2
            clear HY2 hx2 hq
            go_wp2_with fail
            refine (Hgi.out _ HG.out.below).mono ?_
            unfold GetIntRB gotV errI
            rintro _ w2 ⟨rfl, hb⟩
            have HB := Lib.hid (HG.out.below.trans (hb.mono HG.out.below.size))
            clear hb
            go_wp2_with fail
            go_ret3
            exact ⟨HB.out, by rw [HE.out]; rfl⟩
          | ok vk =>
            obtain ⟨v, k2⟩ := vk
            have hk2 := (int_getB hx2.symm).2.2.1
            rw [List.length_drop, ← Hm.out] at hk2
            have hk3 : k2 ≤ m := by omega
            have HE : Hid (y = joinN (acc ++ [v]) (at_ + k2) (getN (n - (i + 1)) (l.drop (at_ + k2)))) := by
              show _ = _
              rw [HY2]
              dsimp only
              rw [List.drop_drop]
              cases getN (n - (i + 1)) (l.drop (at_ + k2)) with
              | error e => rfl
              | ok lu =>
                obtain ⟨l', u⟩ := lu
                show Except.ok (acc ++ v :: l', at_ + (k2 + u)) = Except.ok ((acc ++ [v]) ++ l', at_ + k2 + u)
                rw [List.append_assoc, Nat.add_assoc]
                rfl
            obtain ⟨p, hp⟩ : ∃ p, p = at_ + k2 := ⟨_, rfl⟩
            have hpm : p ≤ m := by omega
            rw [← hp] at HE
            have Hp := Lib.hid hp
            clear HY2 hx2 hq hp hk2
            go_wp2_with fail
            refine (Hgi.out _ HG.out.below).mono ?_
            unfold GetIntRB gotV
            rintro _ w2 ⟨rfl, hb⟩
            have HG2 := Lib.hid (HG.out.call hb)
            clear hb
            go_wp2_with (at_builtin; refine wpList_append_sl rfl _ _ 65 rfl rfl rfl so65 (HG2.out.o.alloc _) (m := 1) (news := [.int .i64 v]) rfl (Sl.new _ _ _) ?_ hb1 hb2 (Nat.le_trans HG2.out.below.size (by simp)) ?_; (intro u hu; simp at hu; subst hu; rfl); intro A5 c5 w5 ho5 hg5; have HG5 : Hid (OS w 3 1 A5 (i + 1) c5 ((acc ++ [v]).map intC) w5) := (HG2.out.alloc _).grow (by rw [List.map_append]; exact ho5) hg5; clear ho5 hg5)
            go_roundg (n - (i + 1))
            case measure => omega
            case rel => exact ⟨i + 1, p, A5, c5, acc ++ [v], by go_num, rfl, by have := Hp.out; subst this; go_num, rfl, by omega, hpm, HG5, by show _ = _; rw [List.length_append, HL.out]; rfl, HE⟩
      · have hke : i = n := by omega
        have hI3 : ¬ (i : Int) < (n : Int) := by omega
        have HE : Hid (y = .ok (acc, at_)) := by
          show _ = _
          rw [HY.out, hke, Nat.sub_self]
          show Except.ok (acc ++ [], at_ + 0) = _
          rw [List.append_nil, Nat.add_zero]
        clear hke hlt
        go_wp2_with fail
        go_ret3
        refine ⟨HG.out.below, ?_⟩
        rw [HE.out]
        dsimp only
        have := HL.out
        subst this
        exact ⟨_, _, rfl, HG.out.o⟩
end Go.Proofs.YtdfhbnfhkckkbaaGreatDoor
