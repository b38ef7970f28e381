/-
  The walk of the reference's Print (printed by gen_printR.py).
-/
import Derived.Test.YtimmffncfkcpfaaDoorY3
import Derived.Test.YtimmffncfkcpfaaDoorX4
import Derived.Deep.RegionHeld3
namespace Go.Proofs.YtimmffncfkcpfaaDoor
open Go Go.RowKit Go.Walks

set_option maxRecDepth 100000 in
set_option maxHeartbeats 16000000 in
theorem printR_any (T : TermsD) (v : Value) (w : World) (Hg : Hid (Gl w)) (Hv : Hid (TermsV w T v)) (Hf : Hid (Fits T)) : Calls Tryd.prog 12 #[v] w (PrintR (printB T) w) := by
  have hba : Below w.heap.size w (w.alloc (.cells v.cells 25)) := (Below.refl _ _).alloc (Nat.le_refl _) _
  have hchk := checkR_any T v (w.alloc (.cells v.cells 25)) (Hv.out.below hba) Hf
  obtain ⟨A, c, A', d, rfl, hs1, hs2, hc1, hc2, hc3, hc4⟩ := Hv.out
  obtain ⟨n, hn⟩ : ∃ n, n = T.classes.length := ⟨_, rfl⟩
  obtain ⟨m, hm⟩ : ∃ m, m = T.contracts.length := ⟨_, rfl⟩
  rw [← hn, ← hm] at hchk
  rw [← hn, ← hm]
  rw [← hn] at hc1
  rw [← hm] at hc2
  have Hn := Lib.hid hn
  have Hm := Lib.hid hm
  have Hs1 := Lib.hid hs1
  have Hs2 := Lib.hid hs2
  have hchk2 : Calls Tryd.prog 10 #[.agg #[.slice A n c, .slice A' m d]] (w.alloc (.cells #[.slice A n c, .slice A' m d] 25)) (CheckR (checkB T) (w.alloc (.cells #[.slice A n c, .slice A' m d] 25))) := hchk
  have S0 := Lib.hid (RW.start w #[.slice A n c, .slice A' m d])
  unfold maxLen at hc3 hc4
  clear hs1 hs2 Hv hn hm hba hchk
  obtain ⟨x0, x1, -⟩ := two_cells S0.out.x1
  by_cases hck : (checkB T).2 = 0
  case neg =>
    have Hpr : Hid (printB T = ([], (checkB T).2)) := by show _ = _; unfold printB; rw [if_pos hck]
    obtain ⟨i, en, hie⟩ : ∃ i en, checkB T = (i, en) := ⟨_, _, rfl⟩
    rw [hie] at hchk2 hck Hpr
    have hen : ((en : Int) != 0) = true := by rw [bne_iff_ne]; dsimp only at hck; omega
    have Hchk := Lib.hid hchk2
    clear hchk2 hck hie
    go_enter Tryd.func12, Tryd.ntmps12
    go_wp2_with fail
    refine Hchk.out.mono ?_
    rintro e w1 ⟨rfl, hb1⟩
    have HB1 := Lib.hid (S0.out.below.trans (hb1.mono S0.out.below.size))
    clear hb1 x0 x1
    go_wp2_with fail
    go_ret2
    exact ⟨by rw [Hpr.out] <;> rfl, HB1.out⟩
  have HOK := Lib.hid (check_ok.1 hck)
  have h00 := check_zero hck
  rw [h00] at hchk2
  have Hchk := Lib.hid hchk2
  have Hpr : Hid (printB T = if 2000 < (printT T).length then ([], 2) else (printT T, 0)) := by show _ = _; unfold printB; rw [if_neg (fun h => h hck)]
  have hn8 : n ≤ 8 := by have := HOK.out.cn; have := Hn.out; omega
  have hm16 : m ≤ 16 := by have := HOK.out.tn; have := Hm.out; omega
  clear hchk2 hck h00
  go_enter Tryd.func12, Tryd.ntmps12
  go_wp2_with fail
  refine Hchk.out.mono ?_
  rintro e w1 ⟨rfl, hb1⟩
  have S1 : Hid (RW w #[.slice A n c, .slice A' m d] w1) := ⟨S0.out.below.trans (hb1.mono S0.out.below.size), below_cells S0.out.x1 hb1⟩
  clear hb1 x0 x1
  go_wp2_with fail
  go_loopg [6, 7] n (fun g s6 s7 wr => ∃ (k : Nat) (l : Bytes), s6 = .string ⟨l.toArray⟩ ∧ s7 = .int .i64 (k : Int) ∧ g = n - k ∧ k ≤ n ∧ Hid (RW w #[.slice A n c, .slice A' m d] wr) ∧ l.length ≤ k * 110 ∧ Hid (l = (T.classes.take k).flatMap classTx))
  case atStart => exact ⟨0, [], rfl, rfl, rfl, Nat.zero_le _, S1.out, Nat.zero_le _, rfl⟩
  case round =>
    obtain ⟨k, l, rfl, rfl, hg, hk, HSk, hl, HLk⟩ := hrel
    have Hgk := Lib.hid hg
    clear hg
    obtain ⟨x0, x1, -⟩ := two_cells HSk.out.x1
    by_cases hlt : k < n
    · have hI1 : (0 : Int) ≤ (k : Int) := by omega
      have hI2 : (k : Int) < (n : Int) := by omega
      obtain ⟨C, hC⟩ : ∃ x, T.classes[k]? = some x := ⟨_, List.getElem?_eq_getElem (by have := Hn.out; omega)⟩
      obtain ⟨bb, o, hA, hb, hcells⟩ := sl_at cls_len Hs1.out hC (by omega)
      subst hA
      have k0 := (HSk.out.below.cell (p := ⟨bb, o + (k * 4 + 0), none⟩) hb).trans (hcells 0 _ rfl)
      have k1 := (HSk.out.below.cell (p := ⟨bb, o + (k * 4 + 1), none⟩) hb).trans (hcells 1 _ rfl)
      have k2 := (HSk.out.below.cell (p := ⟨bb, o + (k * 4 + 2), none⟩) hb).trans (hcells 2 _ rfl)
      have k3 := (HSk.out.below.cell (p := ⟨bb, o + (k * 4 + 3), none⟩) hb).trans (hcells 3 _ rfl)
      rw [Nat.add_zero] at k0
      rw [← Nat.add_assoc] at k1 k2 k3
      have hok := HOK.out.cs C (List.mem_of_getElem? hC)
      have HST := Lib.hid (flat_step classTx hC)
      obtain ⟨nm, cd, ls, wh⟩ := C
      have hnm := (name_word hok.name).2
      have hcd := (name_word hok.code).2
      have hls := perm_losses.1 hok.losses
      have hwh := perm_whole.1 hok.whole
      dsimp only at k0 k1 k2 k3 hnm hcd hls hwh
      clear hcells hC hok
      obtain ⟨w2, hw2⟩ : ∃ W, W = wr.alloc (.cells #[.string ⟨nm.toArray⟩, .string ⟨cd.toArray⟩, .int .i64 ls, .int .i64 wh] 45) := ⟨_, rfl⟩
      have hb2 : Below wr.heap.size wr w2 := by rw [hw2]; exact (Below.refl _ _).alloc (Nat.le_refl _) _
      have S2 : Hid (RW w #[.slice (some ⟨bb, o, none⟩) n c, .slice A' m d] w2) := ⟨HSk.out.below.trans (hb2.mono HSk.out.below.size), below_cells HSk.out.x1 hb2⟩
      have hrow : w2.heap[wr.heap.size]? = some (.cells #[.string ⟨nm.toArray⟩, .string ⟨cd.toArray⟩, .int .i64 ls, .int .i64 wh] 45) := by rw [hw2]; exact heap_new _ _
      have HK : Hid (∀ w' : World, Below w2.heap.size w2 w' → ((w'.cell? ⟨wr.heap.size, 0, none⟩ = some (.string ⟨nm.toArray⟩) ∧ w'.cell? ⟨wr.heap.size, 1, none⟩ = some (.string ⟨cd.toArray⟩)) ∧ w'.cell? ⟨wr.heap.size, 2, none⟩ = some (.int .i64 ls)) ∧ w'.cell? ⟨wr.heap.size, 3, none⟩ = some (.int .i64 wh)) := by
        intro w' hb
        obtain ⟨h0, h1, h2, h3, -⟩ := four_cells (below_cells hrow hb)
        exact ⟨⟨⟨h0, h1⟩, h2⟩, h3⟩
      have HGL : Hid (∀ W, Below w2.heap.size w2 W → Gl W) := fun W hW => Hg.out.below (S2.out.below.trans (hW.mono S2.out.below.size))
      have z1 := itoa_len ls (by omega) (by omega)
      have z2 := itoa_len wh (by omega) (by omega)
      obtain ⟨a1, ha1⟩ : ∃ x, x = l ++ [99, 108, 97, 115, 115, 32] := ⟨_, rfl⟩
      have ca1 : (⟨l.toArray⟩ : ByteArray) ++ ⟨#[99, 108, 97, 115, 115, 32]⟩ = ⟨a1.toArray⟩ := by rw [ha1]; exact cat_eq l [99, 108, 97, 115, 115, 32]
      have Na1 : Hid (a1.length = l.length + 6) := by show _ = _; rw [ha1, List.length_append]; rfl
      have qa1 : ¬ 9223372036854775807 < l.length + 6 := by omega
      have Ha1 := Lib.hid ha1
      clear ha1
      obtain ⟨a2, ha2⟩ : ∃ x, x = a1 ++ nm := ⟨_, rfl⟩
      have ca2 : (⟨a1.toArray⟩ : ByteArray) ++ ⟨nm.toArray⟩ = ⟨a2.toArray⟩ := by rw [ha2]; exact cat_eq _ _
      have Na2 : Hid (a2.length = a1.length + nm.length) := by show _ = _; rw [ha2, List.length_append]
      have qa2 : ¬ 9223372036854775807 < a1.length + nm.length := by have := Na1.out; omega
      have Ha2 := Lib.hid ha2
      clear ha2
      obtain ⟨a3, ha3⟩ : ∃ x, x = a2 ++ [32, 123, 32, 99, 111, 100, 101, 32] := ⟨_, rfl⟩
      have ca3 : (⟨a2.toArray⟩ : ByteArray) ++ ⟨#[32, 123, 32, 99, 111, 100, 101, 32]⟩ = ⟨a3.toArray⟩ := by rw [ha3]; exact cat_eq a2 [32, 123, 32, 99, 111, 100, 101, 32]
      have Na3 : Hid (a3.length = a2.length + 8) := by show _ = _; rw [ha3, List.length_append]; rfl
      have qa3 : ¬ 9223372036854775807 < a2.length + 8 := by have := Na1.out; have := Na2.out; omega
      have Ha3 := Lib.hid ha3
      clear ha3
      obtain ⟨a4, ha4⟩ : ∃ x, x = a3 ++ cd := ⟨_, rfl⟩
      have ca4 : (⟨a3.toArray⟩ : ByteArray) ++ ⟨cd.toArray⟩ = ⟨a4.toArray⟩ := by rw [ha4]; exact cat_eq _ _
      have Na4 : Hid (a4.length = a3.length + cd.length) := by show _ = _; rw [ha4, List.length_append]
      have qa4 : ¬ 9223372036854775807 < a3.length + cd.length := by have := Na1.out; have := Na2.out; have := Na3.out; omega
      have Ha4 := Lib.hid ha4
      clear ha4
      obtain ⟨a5, ha5⟩ : ∃ x, x = a4 ++ [59, 32, 108, 111, 115, 115, 101, 115, 32] := ⟨_, rfl⟩
      have ca5 : (⟨a4.toArray⟩ : ByteArray) ++ ⟨#[59, 32, 108, 111, 115, 115, 101, 115, 32]⟩ = ⟨a5.toArray⟩ := by rw [ha5]; exact cat_eq a4 [59, 32, 108, 111, 115, 115, 101, 115, 32]
      have Na5 : Hid (a5.length = a4.length + 9) := by show _ = _; rw [ha5, List.length_append]; rfl
      have qa5 : ¬ 9223372036854775807 < a4.length + 9 := by have := Na1.out; have := Na2.out; have := Na3.out; have := Na4.out; omega
      have Ha5 := Lib.hid ha5
      clear ha5
      obtain ⟨a6, ha6⟩ : ∃ x, x = a5 ++ Lib.itoa ls := ⟨_, rfl⟩
      have ca6 : (⟨a5.toArray⟩ : ByteArray) ++ ⟨(Lib.itoa ls).toArray⟩ = ⟨a6.toArray⟩ := by rw [ha6]; exact cat_eq _ _
      have Na6 : Hid (a6.length = a5.length + (Lib.itoa ls).length) := by show _ = _; rw [ha6, List.length_append]
      have qa6 : ¬ 9223372036854775807 < a5.length + (Lib.itoa ls).length := by have := Na1.out; have := Na2.out; have := Na3.out; have := Na4.out; have := Na5.out; omega
      have Ha6 := Lib.hid ha6
      clear ha6
      obtain ⟨a7, ha7⟩ : ∃ x, x = a6 ++ [59, 32, 119, 104, 111, 108, 101, 32] := ⟨_, rfl⟩
      have ca7 : (⟨a6.toArray⟩ : ByteArray) ++ ⟨#[59, 32, 119, 104, 111, 108, 101, 32]⟩ = ⟨a7.toArray⟩ := by rw [ha7]; exact cat_eq a6 [59, 32, 119, 104, 111, 108, 101, 32]
      have Na7 : Hid (a7.length = a6.length + 8) := by show _ = _; rw [ha7, List.length_append]; rfl
      have qa7 : ¬ 9223372036854775807 < a6.length + 8 := by have := Na1.out; have := Na2.out; have := Na3.out; have := Na4.out; have := Na5.out; have := Na6.out; omega
      have Ha7 := Lib.hid ha7
      clear ha7
      obtain ⟨a8, ha8⟩ : ∃ x, x = a7 ++ Lib.itoa wh := ⟨_, rfl⟩
      have ca8 : (⟨a7.toArray⟩ : ByteArray) ++ ⟨(Lib.itoa wh).toArray⟩ = ⟨a8.toArray⟩ := by rw [ha8]; exact cat_eq _ _
      have Na8 : Hid (a8.length = a7.length + (Lib.itoa wh).length) := by show _ = _; rw [ha8, List.length_append]
      have qa8 : ¬ 9223372036854775807 < a7.length + (Lib.itoa wh).length := by have := Na1.out; have := Na2.out; have := Na3.out; have := Na4.out; have := Na5.out; have := Na6.out; have := Na7.out; omega
      have Ha8 := Lib.hid ha8
      clear ha8
      obtain ⟨a9, ha9⟩ : ∃ x, x = a8 ++ [59, 32, 125, 10] := ⟨_, rfl⟩
      have ca9 : (⟨a8.toArray⟩ : ByteArray) ++ ⟨#[59, 32, 125, 10]⟩ = ⟨a9.toArray⟩ := by rw [ha9]; exact cat_eq a8 [59, 32, 125, 10]
      have Na9 : Hid (a9.length = a8.length + 4) := by show _ = _; rw [ha9, List.length_append]; rfl
      have qa9 : ¬ 9223372036854775807 < a8.length + 4 := by have := Na1.out; have := Na2.out; have := Na3.out; have := Na4.out; have := Na5.out; have := Na6.out; have := Na7.out; have := Na8.out; omega
      have Ha9 := Lib.hid ha9
      clear ha9
      clear hb2 hrow
      go_upto_region 9 with fail
      rw [← hw2]
      clear hw2 x0 x1 k0 k1 k2 k3
      have HL2 : Hid (a9 = (T.classes.take (k + 1)).flatMap classTx) := by
        show _ = _
        rw [HST.out, ← HLk.out, Ha9.out, Ha8.out, Ha7.out, Ha6.out, Ha5.out, Ha4.out, Ha3.out, Ha2.out, Ha1.out]
        simp [classTx, numTx, sClass, sCode, kSemi, kLosses, kWhole, sEnd]
      have hl2 : a9.length ≤ (k + 1) * 110 := by have := Na1.out; have := Na2.out; have := Na3.out; have := Na4.out; have := Na5.out; have := Na6.out; have := Na7.out; have := Na8.out; have := Na9.out; omega
      go_region_held3 (fun w' => ((w'.cell? ⟨wr.heap.size, 0, none⟩ = some (.string ⟨nm.toArray⟩) ∧ w'.cell? ⟨wr.heap.size, 1, none⟩ = some (.string ⟨cd.toArray⟩)) ∧ w'.cell? ⟨wr.heap.size, 2, none⟩ = some (.int .i64 ls)) ∧ w'.cell? ⟨wr.heap.size, 3, none⟩ = some (.int .i64 wh))
        (first | exact HK.out _ HB7.out | exact HK.out _ HB6.out | exact HK.out _ (Below.refl _ _).drew)
        ((go_at_call 33; refine (itoa_any _ (by omega) (by omega) (HGL.out _ (by first | exact HB6.out | exact (Below.refl _ _).drew))).mono ?_; unfold strV; rintro e w6 ⟨rfl, hb6⟩; (first | (have HB7 := Lib.hid (HB6.out.trans (hb6.mono HB6.out.size)); clear hb6) | (have HB6 := Lib.hid ((Below.refl w2.heap.size w2).drew.trans hb6); clear hb6))))
      all_goals
        have S3 : Hid (RW w #[.slice (some ⟨bb, o, none⟩) n c, .slice A' m d] w6) := ⟨S2.out.below.trans (HB7.out.mono S2.out.below.size), below_cells S2.out.x1 HB7.out⟩
        go_wp2_with fail
        go_roundg (n - (k + 1))
        case measure => rw [Hgk.out]; omega
        case rel => exact ⟨k + 1, a9, rfl, by go_num, rfl, by omega, S3.out, hl2, HL2.out⟩
    · have hke : ¬ (k : Int) < (n : Int) := by omega
      obtain ⟨l0, hl0⟩ : ∃ x, x = T.classes.flatMap classTx := ⟨_, rfl⟩
      have HL0 := Lib.hid hl0
      have hle : l = l0 := by rw [HLk.out, hl0, List.take_of_length_le (by have := Hn.out; omega)]
      have hl2 : l.length ≤ 880 := by omega
      subst hle
      clear hl0 hl
      go_wp2_with fail
      go_loopg [6, 9] m (fun g s6 s9 wr => ∃ (j : Nat) (l2 : Bytes), s6 = .string ⟨l2.toArray⟩ ∧ s9 = .int .i64 (j : Int) ∧ g = m - j ∧ j ≤ m ∧ Hid (RW w #[.slice A n c, .slice A' m d] wr) ∧ l2.length ≤ 880 + j * 180 ∧ Hid (l2 = l ++ (T.contracts.take j).flatMap contrTx))
      case atStart => exact ⟨0, l, rfl, rfl, rfl, Nat.zero_le _, HSk.out, by omega, by show _ = _; simp⟩
      case round =>
        obtain ⟨j, l2, rfl, rfl, hg2, hj, HSj, hlj, HLj⟩ := hrel
        have Hg2 := Lib.hid hg2
        clear hg2 x0 x1
        obtain ⟨x0, x1, -⟩ := two_cells HSj.out.x1
        by_cases hlt2 : j < m
        · have hJ1 : (0 : Int) ≤ (j : Int) := by omega
          have hJ2 : (j : Int) < (m : Int) := by omega
          obtain ⟨D, hD⟩ : ∃ x, T.contracts[j]? = some x := ⟨_, List.getElem?_eq_getElem (by have := Hm.out; omega)⟩
          obtain ⟨bb, o, hA, hb, hcells⟩ := sl_at ctr_len Hs2.out hD (by omega)
          subst hA
          have k0 := (HSj.out.below.cell (p := ⟨bb, o + (j * 6 + 0), none⟩) hb).trans (hcells 0 _ rfl)
          have k1 := (HSj.out.below.cell (p := ⟨bb, o + (j * 6 + 1), none⟩) hb).trans (hcells 1 _ rfl)
          have k2 := (HSj.out.below.cell (p := ⟨bb, o + (j * 6 + 2), none⟩) hb).trans (hcells 2 _ rfl)
          have k3 := (HSj.out.below.cell (p := ⟨bb, o + (j * 6 + 3), none⟩) hb).trans (hcells 3 _ rfl)
          have k4 := (HSj.out.below.cell (p := ⟨bb, o + (j * 6 + 4), none⟩) hb).trans (hcells 4 _ rfl)
          have k5 := (HSj.out.below.cell (p := ⟨bb, o + (j * 6 + 5), none⟩) hb).trans (hcells 5 _ rfl)
          rw [Nat.add_zero] at k0
          rw [← Nat.add_assoc] at k1 k2 k3 k4 k5
          have hok := (HOK.out.ts D (List.mem_of_getElem? hD)).1
          have HST := Lib.hid (flat_step contrTx hD)
          obtain ⟨tn, gu, sn, bu, rk, cl⟩ := D
          have htn := (name_word hok.tenant).2
          have hcl := (name_word hok.cls).2
          have hgu := perm_guar.1 hok.guar
          have hsn := perm_snap.1 hok.snap
          have hbu := perm_burst.1 hok.burst
          have hrk := perm_rank.1 hok.rank
          dsimp only at k0 k1 k2 k3 k4 k5 htn hcl hgu hsn hbu hrk
          clear hcells hD hok
          obtain ⟨w2, hw2⟩ : ∃ W, W = wr.alloc (.cells #[.string ⟨tn.toArray⟩, .int .i64 gu, .int .i64 sn, .int .i64 bu, .int .i64 rk, .string ⟨cl.toArray⟩] 43) := ⟨_, rfl⟩
          have hb2 : Below wr.heap.size wr w2 := by rw [hw2]; exact (Below.refl _ _).alloc (Nat.le_refl _) _
          have S2 : Hid (RW w #[.slice A n c, .slice (some ⟨bb, o, none⟩) m d] w2) := ⟨HSj.out.below.trans (hb2.mono HSj.out.below.size), below_cells HSj.out.x1 hb2⟩
          have hrow : w2.heap[wr.heap.size]? = some (.cells #[.string ⟨tn.toArray⟩, .int .i64 gu, .int .i64 sn, .int .i64 bu, .int .i64 rk, .string ⟨cl.toArray⟩] 43) := by rw [hw2]; exact heap_new _ _
          have HK : Hid (∀ w' : World, Below w2.heap.size w2 w' → ((((w'.cell? ⟨wr.heap.size, 0, none⟩ = some (.string ⟨tn.toArray⟩) ∧ w'.cell? ⟨wr.heap.size, 1, none⟩ = some (.int .i64 gu)) ∧ w'.cell? ⟨wr.heap.size, 2, none⟩ = some (.int .i64 sn)) ∧ w'.cell? ⟨wr.heap.size, 3, none⟩ = some (.int .i64 bu)) ∧ w'.cell? ⟨wr.heap.size, 4, none⟩ = some (.int .i64 rk)) ∧ w'.cell? ⟨wr.heap.size, 5, none⟩ = some (.string ⟨cl.toArray⟩)) := by
            intro w' hb
            obtain ⟨h0, h1, h2, h3, h4, h5, -⟩ := six_cells (below_cells hrow hb)
            exact ⟨⟨⟨⟨⟨h0, h1⟩, h2⟩, h3⟩, h4⟩, h5⟩
          have HGL : Hid (∀ W, Below w2.heap.size w2 W → Gl W) := fun W hW => Hg.out.below (S2.out.below.trans (hW.mono S2.out.below.size))
          have z1 := itoa_len gu (by omega) (by omega)
          have z2 := itoa_len sn (by omega) (by omega)
          have z3 := itoa_len bu (by omega) (by omega)
          have z4 := itoa_len rk (by omega) (by omega)
          obtain ⟨a1, ha1⟩ : ∃ x, x = l2 ++ [116, 101, 110, 97, 110, 116, 32] := ⟨_, rfl⟩
          have ca1 : (⟨l2.toArray⟩ : ByteArray) ++ ⟨#[116, 101, 110, 97, 110, 116, 32]⟩ = ⟨a1.toArray⟩ := by rw [ha1]; exact cat_eq l2 [116, 101, 110, 97, 110, 116, 32]
          have Na1 : Hid (a1.length = l2.length + 7) := by show _ = _; rw [ha1, List.length_append]; rfl
          have qa1 : ¬ 9223372036854775807 < l2.length + 7 := by omega
          have Ha1 := Lib.hid ha1
          clear ha1
          obtain ⟨a2, ha2⟩ : ∃ x, x = a1 ++ tn := ⟨_, rfl⟩
          have ca2 : (⟨a1.toArray⟩ : ByteArray) ++ ⟨tn.toArray⟩ = ⟨a2.toArray⟩ := by rw [ha2]; exact cat_eq _ _
          have Na2 : Hid (a2.length = a1.length + tn.length) := by show _ = _; rw [ha2, List.length_append]
          have qa2 : ¬ 9223372036854775807 < a1.length + tn.length := by have := Na1.out; omega
          have Ha2 := Lib.hid ha2
          clear ha2
          obtain ⟨a3, ha3⟩ : ∃ x, x = a2 ++ [32, 123, 32, 103, 117, 97, 114, 97, 110, 116, 101, 101, 32] := ⟨_, rfl⟩
          have ca3 : (⟨a2.toArray⟩ : ByteArray) ++ ⟨#[32, 123, 32, 103, 117, 97, 114, 97, 110, 116, 101, 101, 32]⟩ = ⟨a3.toArray⟩ := by rw [ha3]; exact cat_eq a2 [32, 123, 32, 103, 117, 97, 114, 97, 110, 116, 101, 101, 32]
          have Na3 : Hid (a3.length = a2.length + 13) := by show _ = _; rw [ha3, List.length_append]; rfl
          have qa3 : ¬ 9223372036854775807 < a2.length + 13 := by have := Na1.out; have := Na2.out; omega
          have Ha3 := Lib.hid ha3
          clear ha3
          obtain ⟨a4, ha4⟩ : ∃ x, x = a3 ++ Lib.itoa gu := ⟨_, rfl⟩
          have ca4 : (⟨a3.toArray⟩ : ByteArray) ++ ⟨(Lib.itoa gu).toArray⟩ = ⟨a4.toArray⟩ := by rw [ha4]; exact cat_eq _ _
          have Na4 : Hid (a4.length = a3.length + (Lib.itoa gu).length) := by show _ = _; rw [ha4, List.length_append]
          have qa4 : ¬ 9223372036854775807 < a3.length + (Lib.itoa gu).length := by have := Na1.out; have := Na2.out; have := Na3.out; omega
          have Ha4 := Lib.hid ha4
          clear ha4
          obtain ⟨a5, ha5⟩ : ∃ x, x = a4 ++ [59] := ⟨_, rfl⟩
          have ca5 : (⟨a4.toArray⟩ : ByteArray) ++ ⟨#[59]⟩ = ⟨a5.toArray⟩ := by rw [ha5]; exact cat_eq a4 [59]
          have Na5 : Hid (a5.length = a4.length + 1) := by show _ = _; rw [ha5, List.length_append]; rfl
          have qa5 : ¬ 9223372036854775807 < a4.length + 1 := by have := Na1.out; have := Na2.out; have := Na3.out; have := Na4.out; omega
          have Ha5 := Lib.hid ha5
          clear ha5
          clear hb2 hrow
          go_upto_region 14 with fail
          rw [← hw2]
          clear hw2 x0 x1 k0 k1 k2 k3 k4 k5
          go_cut [6] (fun s6 wx => s6 = .string ⟨a5.toArray⟩ ∧ Hid (Below w2.heap.size w2 wx))
          case first =>
            go_region_held3 (fun w' => ((((w'.cell? ⟨wr.heap.size, 0, none⟩ = some (.string ⟨tn.toArray⟩) ∧ w'.cell? ⟨wr.heap.size, 1, none⟩ = some (.int .i64 gu)) ∧ w'.cell? ⟨wr.heap.size, 2, none⟩ = some (.int .i64 sn)) ∧ w'.cell? ⟨wr.heap.size, 3, none⟩ = some (.int .i64 bu)) ∧ w'.cell? ⟨wr.heap.size, 4, none⟩ = some (.int .i64 rk)) ∧ w'.cell? ⟨wr.heap.size, 5, none⟩ = some (.string ⟨cl.toArray⟩))
              (first | exact HK.out _ HB6.out | exact HK.out _ (Below.refl _ _).drew)
              ((go_at_call 33; refine (itoa_any _ (by omega) (by omega) (HGL.out _ (Below.refl _ _).drew)).mono ?_; unfold strV; rintro e w6 ⟨rfl, hb6⟩; have HB6 := Lib.hid ((Below.refl w2.heap.size w2).drew.trans hb6); clear hb6))
            all_goals
              first | go_meet | (go_wp2_with fail; go_meet)
              exact ⟨rfl, HB6.out⟩
          case rest =>
          obtain ⟨rfl, hb3⟩ := hcut
          have HB3 := Lib.hid hb3.out
          clear hb3
          obtain ⟨⟨⟨⟨⟨y0, y1⟩, y2⟩, y3⟩, y4⟩, y5⟩ := HK.out _ HB3.out
          by_cases hs0 : 0 < sn
          · skip
            obtain ⟨e1, he1⟩ : ∃ x, x = a5 ++ [32, 115, 110, 97, 112, 115, 104, 111, 116, 115, 32] := ⟨_, rfl⟩
            have ce1 : (⟨a5.toArray⟩ : ByteArray) ++ ⟨#[32, 115, 110, 97, 112, 115, 104, 111, 116, 115, 32]⟩ = ⟨e1.toArray⟩ := by rw [he1]; exact cat_eq a5 [32, 115, 110, 97, 112, 115, 104, 111, 116, 115, 32]
            have Ne1 : Hid (e1.length = a5.length + 11) := by show _ = _; rw [he1, List.length_append]; rfl
            have qe1 : ¬ 9223372036854775807 < a5.length + 11 := by have := Na1.out; have := Na2.out; have := Na3.out; have := Na4.out; have := Na5.out; omega
            have He1 := Lib.hid he1
            clear he1
            obtain ⟨e2, he2⟩ : ∃ x, x = e1 ++ Lib.itoa sn := ⟨_, rfl⟩
            have ce2 : (⟨e1.toArray⟩ : ByteArray) ++ ⟨(Lib.itoa sn).toArray⟩ = ⟨e2.toArray⟩ := by rw [he2]; exact cat_eq _ _
            have Ne2 : Hid (e2.length = e1.length + (Lib.itoa sn).length) := by show _ = _; rw [he2, List.length_append]
            have qe2 : ¬ 9223372036854775807 < e1.length + (Lib.itoa sn).length := by have := Na1.out; have := Na2.out; have := Na3.out; have := Na4.out; have := Na5.out; have := Ne1.out; omega
            have He2 := Lib.hid he2
            clear he2
            obtain ⟨e3, he3⟩ : ∃ x, x = e2 ++ [59] := ⟨_, rfl⟩
            have ce3 : (⟨e2.toArray⟩ : ByteArray) ++ ⟨#[59]⟩ = ⟨e3.toArray⟩ := by rw [he3]; exact cat_eq e2 [59]
            have Ne3 : Hid (e3.length = e2.length + 1) := by show _ = _; rw [he3, List.length_append]; rfl
            have qe3 : ¬ 9223372036854775807 < e2.length + 1 := by have := Na1.out; have := Na2.out; have := Na3.out; have := Na4.out; have := Na5.out; have := Ne1.out; have := Ne2.out; omega
            have He3 := Lib.hid he3
            clear he3
            go_wp2_with fail
            refine (itoa_any _ (by omega) (by omega) (HGL.out _ HB3.out)).mono ?_
            unfold strV
            rintro e w5 ⟨rfl, hb5⟩
            have HB5 := Lib.hid (HB3.out.trans (hb5.mono HB3.out.size))
            clear hb5 y0 y1 y2 y3 y4 y5
            obtain ⟨⟨⟨⟨⟨y0, y1⟩, y2⟩, y3⟩, y4⟩, y5⟩ := HK.out _ HB5.out
            by_cases hb0 : 0 < bu
            · obtain ⟨⟨⟨⟨⟨y0, y1⟩, y2⟩, y3⟩, y4⟩, y5⟩ := HK.out _ HB5.out
              obtain ⟨b1, hb1⟩ : ∃ x, x = e3 ++ [32, 98, 117, 114, 115, 116, 32] := ⟨_, rfl⟩
              have cb1 : (⟨e3.toArray⟩ : ByteArray) ++ ⟨#[32, 98, 117, 114, 115, 116, 32]⟩ = ⟨b1.toArray⟩ := by rw [hb1]; exact cat_eq e3 [32, 98, 117, 114, 115, 116, 32]
              have Nb1 : Hid (b1.length = e3.length + 7) := by show _ = _; rw [hb1, List.length_append]; rfl
              have qb1 : ¬ 9223372036854775807 < e3.length + 7 := by have := Na1.out; have := Na2.out; have := Na3.out; have := Na4.out; have := Na5.out; have := Ne1.out; have := Ne2.out; have := Ne3.out; omega
              have Hb1 := Lib.hid hb1
              clear hb1
              obtain ⟨b2, hb2⟩ : ∃ x, x = b1 ++ Lib.itoa bu := ⟨_, rfl⟩
              have cb2 : (⟨b1.toArray⟩ : ByteArray) ++ ⟨(Lib.itoa bu).toArray⟩ = ⟨b2.toArray⟩ := by rw [hb2]; exact cat_eq _ _
              have Nb2 : Hid (b2.length = b1.length + (Lib.itoa bu).length) := by show _ = _; rw [hb2, List.length_append]
              have qb2 : ¬ 9223372036854775807 < b1.length + (Lib.itoa bu).length := by have := Na1.out; have := Na2.out; have := Na3.out; have := Na4.out; have := Na5.out; have := Ne1.out; have := Ne2.out; have := Ne3.out; have := Nb1.out; omega
              have Hb2 := Lib.hid hb2
              clear hb2
              obtain ⟨b3, hb3⟩ : ∃ x, x = b2 ++ [32, 114, 97, 110, 107, 32] := ⟨_, rfl⟩
              have cb3 : (⟨b2.toArray⟩ : ByteArray) ++ ⟨#[32, 114, 97, 110, 107, 32]⟩ = ⟨b3.toArray⟩ := by rw [hb3]; exact cat_eq b2 [32, 114, 97, 110, 107, 32]
              have Nb3 : Hid (b3.length = b2.length + 6) := by show _ = _; rw [hb3, List.length_append]; rfl
              have qb3 : ¬ 9223372036854775807 < b2.length + 6 := by have := Na1.out; have := Na2.out; have := Na3.out; have := Na4.out; have := Na5.out; have := Ne1.out; have := Ne2.out; have := Ne3.out; have := Nb1.out; have := Nb2.out; omega
              have Hb3 := Lib.hid hb3
              clear hb3
              obtain ⟨b4, hb4⟩ : ∃ x, x = b3 ++ Lib.itoa rk := ⟨_, rfl⟩
              have cb4 : (⟨b3.toArray⟩ : ByteArray) ++ ⟨(Lib.itoa rk).toArray⟩ = ⟨b4.toArray⟩ := by rw [hb4]; exact cat_eq _ _
              have Nb4 : Hid (b4.length = b3.length + (Lib.itoa rk).length) := by show _ = _; rw [hb4, List.length_append]
              have qb4 : ¬ 9223372036854775807 < b3.length + (Lib.itoa rk).length := by have := Na1.out; have := Na2.out; have := Na3.out; have := Na4.out; have := Na5.out; have := Ne1.out; have := Ne2.out; have := Ne3.out; have := Nb1.out; have := Nb2.out; have := Nb3.out; omega
              have Hb4 := Lib.hid hb4
              clear hb4
              obtain ⟨b5, hb5⟩ : ∃ x, x = b4 ++ [59] := ⟨_, rfl⟩
              have cb5 : (⟨b4.toArray⟩ : ByteArray) ++ ⟨#[59]⟩ = ⟨b5.toArray⟩ := by rw [hb5]; exact cat_eq b4 [59]
              have Nb5 : Hid (b5.length = b4.length + 1) := by show _ = _; rw [hb5, List.length_append]; rfl
              have qb5 : ¬ 9223372036854775807 < b4.length + 1 := by have := Na1.out; have := Na2.out; have := Na3.out; have := Na4.out; have := Na5.out; have := Ne1.out; have := Ne2.out; have := Ne3.out; have := Nb1.out; have := Nb2.out; have := Nb3.out; have := Nb4.out; omega
              have Hb5 := Lib.hid hb5
              clear hb5
              go_upto_region 18 with fail
              clear y0 y1 y2 y3 y4 y5
              go_cut [6] (fun s6 wx => s6 = .string ⟨b5.toArray⟩ ∧ Hid (Below w2.heap.size w2 wx))
              case first =>
                go_region_held3 (fun w' => ((((w'.cell? ⟨wr.heap.size, 0, none⟩ = some (.string ⟨tn.toArray⟩) ∧ w'.cell? ⟨wr.heap.size, 1, none⟩ = some (.int .i64 gu)) ∧ w'.cell? ⟨wr.heap.size, 2, none⟩ = some (.int .i64 sn)) ∧ w'.cell? ⟨wr.heap.size, 3, none⟩ = some (.int .i64 bu)) ∧ w'.cell? ⟨wr.heap.size, 4, none⟩ = some (.int .i64 rk)) ∧ w'.cell? ⟨wr.heap.size, 5, none⟩ = some (.string ⟨cl.toArray⟩))
                  (first | exact HK.out _ HB7.out | exact HK.out _ HB6.out | exact HK.out _ HB5.out.drew)
                  ((go_at_call 33; refine (itoa_any _ (by omega) (by omega) (HGL.out _ (by first | exact HB6.out | exact HB5.out.drew))).mono ?_; unfold strV; rintro e w6 ⟨rfl, hb6⟩; (first | (have HB7 := Lib.hid (HB6.out.trans (hb6.mono HB6.out.size)); clear hb6) | (have HB6 := Lib.hid (HB5.out.drew.trans (hb6.mono HB5.out.drew.size)); clear hb6))))
                all_goals
                  first | go_meet | (go_wp2_with fail; go_meet)
                  exact ⟨rfl, HB7.out⟩
              case rest =>
              obtain ⟨rfl, hb8⟩ := hcut
              have HB8 := Lib.hid hb8.out
              clear hb8
              obtain ⟨⟨⟨⟨⟨y0, y1⟩, y2⟩, y3⟩, y4⟩, y5⟩ := HK.out _ HB8.out
              obtain ⟨d1, hd1⟩ : ∃ x, x = b5 ++ [32, 99, 108, 97, 115, 115, 32] := ⟨_, rfl⟩
              have cd1 : (⟨b5.toArray⟩ : ByteArray) ++ ⟨#[32, 99, 108, 97, 115, 115, 32]⟩ = ⟨d1.toArray⟩ := by rw [hd1]; exact cat_eq b5 [32, 99, 108, 97, 115, 115, 32]
              have Nd1 : Hid (d1.length = b5.length + 7) := by show _ = _; rw [hd1, List.length_append]; rfl
              have qd1 : ¬ 9223372036854775807 < b5.length + 7 := by have := Na1.out; have := Na2.out; have := Na3.out; have := Na4.out; have := Na5.out; have := Ne1.out; have := Ne2.out; have := Ne3.out; have := Nb1.out; have := Nb2.out; have := Nb3.out; have := Nb4.out; have := Nb5.out; omega
              have Hd1 := Lib.hid hd1
              clear hd1
              obtain ⟨d2, hd2⟩ : ∃ x, x = d1 ++ cl := ⟨_, rfl⟩
              have cd2 : (⟨d1.toArray⟩ : ByteArray) ++ ⟨cl.toArray⟩ = ⟨d2.toArray⟩ := by rw [hd2]; exact cat_eq _ _
              have Nd2 : Hid (d2.length = d1.length + cl.length) := by show _ = _; rw [hd2, List.length_append]
              have qd2 : ¬ 9223372036854775807 < d1.length + cl.length := by have := Na1.out; have := Na2.out; have := Na3.out; have := Na4.out; have := Na5.out; have := Ne1.out; have := Ne2.out; have := Ne3.out; have := Nb1.out; have := Nb2.out; have := Nb3.out; have := Nb4.out; have := Nb5.out; have := Nd1.out; omega
              have Hd2 := Lib.hid hd2
              clear hd2
              obtain ⟨d3, hd3⟩ : ∃ x, x = d2 ++ [59, 32, 125, 10] := ⟨_, rfl⟩
              have cd3 : (⟨d2.toArray⟩ : ByteArray) ++ ⟨#[59, 32, 125, 10]⟩ = ⟨d3.toArray⟩ := by rw [hd3]; exact cat_eq d2 [59, 32, 125, 10]
              have Nd3 : Hid (d3.length = d2.length + 4) := by show _ = _; rw [hd3, List.length_append]; rfl
              have qd3 : ¬ 9223372036854775807 < d2.length + 4 := by have := Na1.out; have := Na2.out; have := Na3.out; have := Na4.out; have := Na5.out; have := Ne1.out; have := Ne2.out; have := Ne3.out; have := Nb1.out; have := Nb2.out; have := Nb3.out; have := Nb4.out; have := Nb5.out; have := Nd1.out; have := Nd2.out; omega
              have Hd3 := Lib.hid hd3
              clear hd3
              have HS9 : Hid (RW w #[.slice A n c, .slice (some ⟨bb, o, none⟩) m d] wc) := ⟨S2.out.below.trans (HB8.out.mono S2.out.below.size), below_cells S2.out.x1 HB8.out⟩
              have HL2 : Hid (d3 = l ++ (T.contracts.take (j + 1)).flatMap contrTx) := by
                show _ = _
                rw [HST.out, ← List.append_assoc, ← HLj.out, Hd3.out, Hd2.out, Hd1.out, Hb5.out, Hb4.out, Hb3.out, Hb2.out, Hb1.out, He3.out, He2.out, He1.out, Ha5.out, Ha4.out, Ha3.out, Ha2.out, Ha1.out]
                simp [contrTx, numTx, snapTx, burstTx, if_pos hs0, if_pos hb0, sTenant, sBrace, sCls, kSemi, kGuar, kSnap, kBurst, kRank, sEnd]
              have hl3 : d3.length ≤ 880 + (j + 1) * 180 := by have := Na1.out; have := Na2.out; have := Na3.out; have := Na4.out; have := Na5.out; have := Ne1.out; have := Ne2.out; have := Ne3.out; have := Nb1.out; have := Nb2.out; have := Nb3.out; have := Nb4.out; have := Nb5.out; have := Nd1.out; have := Nd2.out; have := Nd3.out; omega
              go_wp2_with fail
              go_roundg (m - (j + 1))
              case measure => rw [Hg2.out]; omega
              case rel => exact ⟨j + 1, d3, rfl, by go_num, rfl, by omega, HS9.out, hl3, HL2.out⟩
            · obtain ⟨⟨⟨⟨⟨y0, y1⟩, y2⟩, y3⟩, y4⟩, y5⟩ := HK.out _ HB5.out
              obtain ⟨d1, hd1⟩ : ∃ x, x = e3 ++ [32, 99, 108, 97, 115, 115, 32] := ⟨_, rfl⟩
              have cd1 : (⟨e3.toArray⟩ : ByteArray) ++ ⟨#[32, 99, 108, 97, 115, 115, 32]⟩ = ⟨d1.toArray⟩ := by rw [hd1]; exact cat_eq e3 [32, 99, 108, 97, 115, 115, 32]
              have Nd1 : Hid (d1.length = e3.length + 7) := by show _ = _; rw [hd1, List.length_append]; rfl
              have qd1 : ¬ 9223372036854775807 < e3.length + 7 := by have := Na1.out; have := Na2.out; have := Na3.out; have := Na4.out; have := Na5.out; have := Ne1.out; have := Ne2.out; have := Ne3.out; omega
              have Hd1 := Lib.hid hd1
              clear hd1
              obtain ⟨d2, hd2⟩ : ∃ x, x = d1 ++ cl := ⟨_, rfl⟩
              have cd2 : (⟨d1.toArray⟩ : ByteArray) ++ ⟨cl.toArray⟩ = ⟨d2.toArray⟩ := by rw [hd2]; exact cat_eq _ _
              have Nd2 : Hid (d2.length = d1.length + cl.length) := by show _ = _; rw [hd2, List.length_append]
              have qd2 : ¬ 9223372036854775807 < d1.length + cl.length := by have := Na1.out; have := Na2.out; have := Na3.out; have := Na4.out; have := Na5.out; have := Ne1.out; have := Ne2.out; have := Ne3.out; have := Nd1.out; omega
              have Hd2 := Lib.hid hd2
              clear hd2
              obtain ⟨d3, hd3⟩ : ∃ x, x = d2 ++ [59, 32, 125, 10] := ⟨_, rfl⟩
              have cd3 : (⟨d2.toArray⟩ : ByteArray) ++ ⟨#[59, 32, 125, 10]⟩ = ⟨d3.toArray⟩ := by rw [hd3]; exact cat_eq d2 [59, 32, 125, 10]
              have Nd3 : Hid (d3.length = d2.length + 4) := by show _ = _; rw [hd3, List.length_append]; rfl
              have qd3 : ¬ 9223372036854775807 < d2.length + 4 := by have := Na1.out; have := Na2.out; have := Na3.out; have := Na4.out; have := Na5.out; have := Ne1.out; have := Ne2.out; have := Ne3.out; have := Nd1.out; have := Nd2.out; omega
              have Hd3 := Lib.hid hd3
              clear hd3
              have HS9 : Hid (RW w #[.slice A n c, .slice (some ⟨bb, o, none⟩) m d] w5) := ⟨S2.out.below.trans (HB5.out.mono S2.out.below.size), below_cells S2.out.x1 HB5.out⟩
              have HL2 : Hid (d3 = l ++ (T.contracts.take (j + 1)).flatMap contrTx) := by
                show _ = _
                rw [HST.out, ← List.append_assoc, ← HLj.out, Hd3.out, Hd2.out, Hd1.out, He3.out, He2.out, He1.out, Ha5.out, Ha4.out, Ha3.out, Ha2.out, Ha1.out]
                simp [contrTx, numTx, snapTx, burstTx, if_pos hs0, if_neg hb0, sTenant, sBrace, sCls, kSemi, kGuar, kSnap, kBurst, kRank, sEnd]
              have hl3 : d3.length ≤ 880 + (j + 1) * 180 := by have := Na1.out; have := Na2.out; have := Na3.out; have := Na4.out; have := Na5.out; have := Ne1.out; have := Ne2.out; have := Ne3.out; have := Nd1.out; have := Nd2.out; have := Nd3.out; omega
              go_wp2_with fail
              go_roundg (m - (j + 1))
              case measure => rw [Hg2.out]; omega
              case rel => exact ⟨j + 1, d3, rfl, by go_num, rfl, by omega, HS9.out, hl3, HL2.out⟩
          · skip
            by_cases hb0 : 0 < bu
            · obtain ⟨⟨⟨⟨⟨y0, y1⟩, y2⟩, y3⟩, y4⟩, y5⟩ := HK.out _ HB3.out
              obtain ⟨b1, hb1⟩ : ∃ x, x = a5 ++ [32, 98, 117, 114, 115, 116, 32] := ⟨_, rfl⟩
              have cb1 : (⟨a5.toArray⟩ : ByteArray) ++ ⟨#[32, 98, 117, 114, 115, 116, 32]⟩ = ⟨b1.toArray⟩ := by rw [hb1]; exact cat_eq a5 [32, 98, 117, 114, 115, 116, 32]
              have Nb1 : Hid (b1.length = a5.length + 7) := by show _ = _; rw [hb1, List.length_append]; rfl
              have qb1 : ¬ 9223372036854775807 < a5.length + 7 := by have := Na1.out; have := Na2.out; have := Na3.out; have := Na4.out; have := Na5.out; omega
              have Hb1 := Lib.hid hb1
              clear hb1
              obtain ⟨b2, hb2⟩ : ∃ x, x = b1 ++ Lib.itoa bu := ⟨_, rfl⟩
              have cb2 : (⟨b1.toArray⟩ : ByteArray) ++ ⟨(Lib.itoa bu).toArray⟩ = ⟨b2.toArray⟩ := by rw [hb2]; exact cat_eq _ _
              have Nb2 : Hid (b2.length = b1.length + (Lib.itoa bu).length) := by show _ = _; rw [hb2, List.length_append]
              have qb2 : ¬ 9223372036854775807 < b1.length + (Lib.itoa bu).length := by have := Na1.out; have := Na2.out; have := Na3.out; have := Na4.out; have := Na5.out; have := Nb1.out; omega
              have Hb2 := Lib.hid hb2
              clear hb2
              obtain ⟨b3, hb3⟩ : ∃ x, x = b2 ++ [32, 114, 97, 110, 107, 32] := ⟨_, rfl⟩
              have cb3 : (⟨b2.toArray⟩ : ByteArray) ++ ⟨#[32, 114, 97, 110, 107, 32]⟩ = ⟨b3.toArray⟩ := by rw [hb3]; exact cat_eq b2 [32, 114, 97, 110, 107, 32]
              have Nb3 : Hid (b3.length = b2.length + 6) := by show _ = _; rw [hb3, List.length_append]; rfl
              have qb3 : ¬ 9223372036854775807 < b2.length + 6 := by have := Na1.out; have := Na2.out; have := Na3.out; have := Na4.out; have := Na5.out; have := Nb1.out; have := Nb2.out; omega
              have Hb3 := Lib.hid hb3
              clear hb3
              obtain ⟨b4, hb4⟩ : ∃ x, x = b3 ++ Lib.itoa rk := ⟨_, rfl⟩
              have cb4 : (⟨b3.toArray⟩ : ByteArray) ++ ⟨(Lib.itoa rk).toArray⟩ = ⟨b4.toArray⟩ := by rw [hb4]; exact cat_eq _ _
              have Nb4 : Hid (b4.length = b3.length + (Lib.itoa rk).length) := by show _ = _; rw [hb4, List.length_append]
              have qb4 : ¬ 9223372036854775807 < b3.length + (Lib.itoa rk).length := by have := Na1.out; have := Na2.out; have := Na3.out; have := Na4.out; have := Na5.out; have := Nb1.out; have := Nb2.out; have := Nb3.out; omega
              have Hb4 := Lib.hid hb4
              clear hb4
              obtain ⟨b5, hb5⟩ : ∃ x, x = b4 ++ [59] := ⟨_, rfl⟩
              have cb5 : (⟨b4.toArray⟩ : ByteArray) ++ ⟨#[59]⟩ = ⟨b5.toArray⟩ := by rw [hb5]; exact cat_eq b4 [59]
              have Nb5 : Hid (b5.length = b4.length + 1) := by show _ = _; rw [hb5, List.length_append]; rfl
              have qb5 : ¬ 9223372036854775807 < b4.length + 1 := by have := Na1.out; have := Na2.out; have := Na3.out; have := Na4.out; have := Na5.out; have := Nb1.out; have := Nb2.out; have := Nb3.out; have := Nb4.out; omega
              have Hb5 := Lib.hid hb5
              clear hb5
              go_upto_region 18 with fail
              clear y0 y1 y2 y3 y4 y5
              go_cut [6] (fun s6 wx => s6 = .string ⟨b5.toArray⟩ ∧ Hid (Below w2.heap.size w2 wx))
              case first =>
                go_region_held3 (fun w' => ((((w'.cell? ⟨wr.heap.size, 0, none⟩ = some (.string ⟨tn.toArray⟩) ∧ w'.cell? ⟨wr.heap.size, 1, none⟩ = some (.int .i64 gu)) ∧ w'.cell? ⟨wr.heap.size, 2, none⟩ = some (.int .i64 sn)) ∧ w'.cell? ⟨wr.heap.size, 3, none⟩ = some (.int .i64 bu)) ∧ w'.cell? ⟨wr.heap.size, 4, none⟩ = some (.int .i64 rk)) ∧ w'.cell? ⟨wr.heap.size, 5, none⟩ = some (.string ⟨cl.toArray⟩))
                  (first | exact HK.out _ HB7.out | exact HK.out _ HB6.out | exact HK.out _ HB3.out.drew)
                  ((go_at_call 33; refine (itoa_any _ (by omega) (by omega) (HGL.out _ (by first | exact HB6.out | exact HB3.out.drew))).mono ?_; unfold strV; rintro e w6 ⟨rfl, hb6⟩; (first | (have HB7 := Lib.hid (HB6.out.trans (hb6.mono HB6.out.size)); clear hb6) | (have HB6 := Lib.hid (HB3.out.drew.trans (hb6.mono HB3.out.drew.size)); clear hb6))))
                all_goals
                  first | go_meet | (go_wp2_with fail; go_meet)
                  exact ⟨rfl, HB7.out⟩
              case rest =>
              obtain ⟨rfl, hb8⟩ := hcut
              have HB8 := Lib.hid hb8.out
              clear hb8
              obtain ⟨⟨⟨⟨⟨y0, y1⟩, y2⟩, y3⟩, y4⟩, y5⟩ := HK.out _ HB8.out
              obtain ⟨d1, hd1⟩ : ∃ x, x = b5 ++ [32, 99, 108, 97, 115, 115, 32] := ⟨_, rfl⟩
              have cd1 : (⟨b5.toArray⟩ : ByteArray) ++ ⟨#[32, 99, 108, 97, 115, 115, 32]⟩ = ⟨d1.toArray⟩ := by rw [hd1]; exact cat_eq b5 [32, 99, 108, 97, 115, 115, 32]
              have Nd1 : Hid (d1.length = b5.length + 7) := by show _ = _; rw [hd1, List.length_append]; rfl
              have qd1 : ¬ 9223372036854775807 < b5.length + 7 := by have := Na1.out; have := Na2.out; have := Na3.out; have := Na4.out; have := Na5.out; have := Nb1.out; have := Nb2.out; have := Nb3.out; have := Nb4.out; have := Nb5.out; omega
              have Hd1 := Lib.hid hd1
              clear hd1
              obtain ⟨d2, hd2⟩ : ∃ x, x = d1 ++ cl := ⟨_, rfl⟩
              have cd2 : (⟨d1.toArray⟩ : ByteArray) ++ ⟨cl.toArray⟩ = ⟨d2.toArray⟩ := by rw [hd2]; exact cat_eq _ _
              have Nd2 : Hid (d2.length = d1.length + cl.length) := by show _ = _; rw [hd2, List.length_append]
              have qd2 : ¬ 9223372036854775807 < d1.length + cl.length := by have := Na1.out; have := Na2.out; have := Na3.out; have := Na4.out; have := Na5.out; have := Nb1.out; have := Nb2.out; have := Nb3.out; have := Nb4.out; have := Nb5.out; have := Nd1.out; omega
              have Hd2 := Lib.hid hd2
              clear hd2
              obtain ⟨d3, hd3⟩ : ∃ x, x = d2 ++ [59, 32, 125, 10] := ⟨_, rfl⟩
              have cd3 : (⟨d2.toArray⟩ : ByteArray) ++ ⟨#[59, 32, 125, 10]⟩ = ⟨d3.toArray⟩ := by rw [hd3]; exact cat_eq d2 [59, 32, 125, 10]
              have Nd3 : Hid (d3.length = d2.length + 4) := by show _ = _; rw [hd3, List.length_append]; rfl
              have qd3 : ¬ 9223372036854775807 < d2.length + 4 := by have := Na1.out; have := Na2.out; have := Na3.out; have := Na4.out; have := Na5.out; have := Nb1.out; have := Nb2.out; have := Nb3.out; have := Nb4.out; have := Nb5.out; have := Nd1.out; have := Nd2.out; omega
              have Hd3 := Lib.hid hd3
              clear hd3
              have HS9 : Hid (RW w #[.slice A n c, .slice (some ⟨bb, o, none⟩) m d] wc) := ⟨S2.out.below.trans (HB8.out.mono S2.out.below.size), below_cells S2.out.x1 HB8.out⟩
              have HL2 : Hid (d3 = l ++ (T.contracts.take (j + 1)).flatMap contrTx) := by
                show _ = _
                rw [HST.out, ← List.append_assoc, ← HLj.out, Hd3.out, Hd2.out, Hd1.out, Hb5.out, Hb4.out, Hb3.out, Hb2.out, Hb1.out, Ha5.out, Ha4.out, Ha3.out, Ha2.out, Ha1.out]
                simp [contrTx, numTx, snapTx, burstTx, if_neg hs0, if_pos hb0, sTenant, sBrace, sCls, kSemi, kGuar, kSnap, kBurst, kRank, sEnd]
              have hl3 : d3.length ≤ 880 + (j + 1) * 180 := by have := Na1.out; have := Na2.out; have := Na3.out; have := Na4.out; have := Na5.out; have := Nb1.out; have := Nb2.out; have := Nb3.out; have := Nb4.out; have := Nb5.out; have := Nd1.out; have := Nd2.out; have := Nd3.out; omega
              go_wp2_with fail
              go_roundg (m - (j + 1))
              case measure => rw [Hg2.out]; omega
              case rel => exact ⟨j + 1, d3, rfl, by go_num, rfl, by omega, HS9.out, hl3, HL2.out⟩
            · obtain ⟨⟨⟨⟨⟨y0, y1⟩, y2⟩, y3⟩, y4⟩, y5⟩ := HK.out _ HB3.out
              obtain ⟨d1, hd1⟩ : ∃ x, x = a5 ++ [32, 99, 108, 97, 115, 115, 32] := ⟨_, rfl⟩
              have cd1 : (⟨a5.toArray⟩ : ByteArray) ++ ⟨#[32, 99, 108, 97, 115, 115, 32]⟩ = ⟨d1.toArray⟩ := by rw [hd1]; exact cat_eq a5 [32, 99, 108, 97, 115, 115, 32]
              have Nd1 : Hid (d1.length = a5.length + 7) := by show _ = _; rw [hd1, List.length_append]; rfl
              have qd1 : ¬ 9223372036854775807 < a5.length + 7 := by have := Na1.out; have := Na2.out; have := Na3.out; have := Na4.out; have := Na5.out; omega
              have Hd1 := Lib.hid hd1
              clear hd1
              obtain ⟨d2, hd2⟩ : ∃ x, x = d1 ++ cl := ⟨_, rfl⟩
              have cd2 : (⟨d1.toArray⟩ : ByteArray) ++ ⟨cl.toArray⟩ = ⟨d2.toArray⟩ := by rw [hd2]; exact cat_eq _ _
              have Nd2 : Hid (d2.length = d1.length + cl.length) := by show _ = _; rw [hd2, List.length_append]
              have qd2 : ¬ 9223372036854775807 < d1.length + cl.length := by have := Na1.out; have := Na2.out; have := Na3.out; have := Na4.out; have := Na5.out; have := Nd1.out; omega
              have Hd2 := Lib.hid hd2
              clear hd2
              obtain ⟨d3, hd3⟩ : ∃ x, x = d2 ++ [59, 32, 125, 10] := ⟨_, rfl⟩
              have cd3 : (⟨d2.toArray⟩ : ByteArray) ++ ⟨#[59, 32, 125, 10]⟩ = ⟨d3.toArray⟩ := by rw [hd3]; exact cat_eq d2 [59, 32, 125, 10]
              have Nd3 : Hid (d3.length = d2.length + 4) := by show _ = _; rw [hd3, List.length_append]; rfl
              have qd3 : ¬ 9223372036854775807 < d2.length + 4 := by have := Na1.out; have := Na2.out; have := Na3.out; have := Na4.out; have := Na5.out; have := Nd1.out; have := Nd2.out; omega
              have Hd3 := Lib.hid hd3
              clear hd3
              have HS9 : Hid (RW w #[.slice A n c, .slice (some ⟨bb, o, none⟩) m d] wc) := ⟨S2.out.below.trans (HB3.out.mono S2.out.below.size), below_cells S2.out.x1 HB3.out⟩
              have HL2 : Hid (d3 = l ++ (T.contracts.take (j + 1)).flatMap contrTx) := by
                show _ = _
                rw [HST.out, ← List.append_assoc, ← HLj.out, Hd3.out, Hd2.out, Hd1.out, Ha5.out, Ha4.out, Ha3.out, Ha2.out, Ha1.out]
                simp [contrTx, numTx, snapTx, burstTx, if_neg hs0, if_neg hb0, sTenant, sBrace, sCls, kSemi, kGuar, kSnap, kBurst, kRank, sEnd]
              have hl3 : d3.length ≤ 880 + (j + 1) * 180 := by have := Na1.out; have := Na2.out; have := Na3.out; have := Na4.out; have := Na5.out; have := Nd1.out; have := Nd2.out; have := Nd3.out; omega
              go_wp2_with fail
              go_roundg (m - (j + 1))
              case measure => rw [Hg2.out]; omega
              case rel => exact ⟨j + 1, d3, rfl, by go_num, rfl, by omega, HS9.out, hl3, HL2.out⟩
        · have hJ4 : ¬ (j : Int) < (m : Int) := by omega
          have HT : Hid (printT T = l2) := by
            show _ = _
            rw [HLj.out, HL0.out, List.take_of_length_le (by have := Hm.out; omega)]
            rfl
          by_cases hbig : 2000 < l2.length
          · have hb1 : (2000 : Int) < (l2.length : Int) := by omega
            have Hp2 : Hid (printB T = ([], 2)) := by show _ = _; rw [Hpr.out, HT.out, if_pos hbig]
            go_wp2_with fail
            go_ret2
            exact ⟨by rw [Hp2.out] <;> rfl, HSj.out.below⟩
          · have hb1 : ¬ (2000 : Int) < (l2.length : Int) := by omega
            have Hp2 : Hid (printB T = (l2, 0)) := by show _ = _; rw [Hpr.out, HT.out, if_neg hbig]
            go_wp2_with fail
            go_ret2
            exact ⟨by rw [Hp2.out] <;> rfl, HSj.out.below⟩
end Go.Proofs.YtimmffncfkcpfaaDoor
