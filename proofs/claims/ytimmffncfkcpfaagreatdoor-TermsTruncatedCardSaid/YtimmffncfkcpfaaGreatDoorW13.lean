/-
  The walk of add: a class.
-/
import Derived.Test.YtimmffncfkcpfaaGreatDoorW11
import Derived.Deep.DeepCutAuto
import Derived.Deep.RegionLaw
import Derived.Deep.RegionHeld3
namespace Go.Proofs.YtimmffncfkcpfaaGreatDoor
open Go Go.RowKit Go.Walks Go.Maps

set_option maxRecDepth 100000 in
set_option maxHeartbeats 16000000 in
theorem addW_c (fs : List Field) (N : Nat) (Ax : Option Addr) (cx : Nat) (names : List Bytes) (An : Option Addr) (cn : Nat) (T : TermsD) (A : Option Addr) (n c : Nat) (A' : Option Addr) (m d : Nat) (B gt : Nat) (w : World)
    (hN : fs.length = N + 1) (h2 : 1 ≤ N) (hl : N ≤ 50) (hcx : N + 1 ≤ cx) (_hnl : names.length ≤ 100000) (hbig : T.classes.length ≤ 1000 ∧ T.contracts.length ≤ 1000) (Hg : Hid (Gl w)) (Hs : Hid (Sl w w.heap.size Ax (fieldCells fs))) (HsT : Hid (SlT w w.heap.size 65 Ax (fieldCells fs)))
    (Ht : Hid (TS B gt T A n c A' m d w)) (Hf : Hid (∀ f ∈ fs, FOk f)) (Hd : Hid ((fs.map Prod.fst).Nodup)) :
    Calls Tryz.prog 18 #[.pointer (some ⟨gt, 0, none⟩), .agg #[.bool false, .slice Ax (N + 1) cx], .slice An names.length cn] w (AddR B gt (addB names T ⟨false, fs⟩) w) := by
  have hmf : ∀ (fn : Fn) (first cap : Array Value) (w : World), (Instr.makeFunc fn first cap).run Tryz.prog w = .ok (.func fn first cap) w := fun _ _ _ _ => rfl
  obtain rfl : n = T.classes.length := Ht.out.len1
  obtain rfl : m = T.contracts.length := Ht.out.len2
  obtain ⟨f1, hf1⟩ : ∃ f, fs[0]? = some f := ⟨_, List.getElem?_eq_getElem (by omega)⟩
  obtain ⟨fl, hfl⟩ : ∃ f, fs[N]? = some f := ⟨_, List.getElem?_eq_getElem (by omega)⟩
  have HF1 : Hid (firstF ⟨false, fs⟩ = f1.2) := by show _ = _; unfold firstF; rw [List.head?_eq_getElem?, hf1]; rfl
  have HFL : Hid (lastF ⟨false, fs⟩ = fl.2) := by show _ = _; unfold lastF; rw [List.getLast?_eq_getElem?, hN, Nat.add_sub_cancel, hfl]; rfl
  obtain ⟨fs2, hfs2⟩ : ∃ f, fs[1]? = some f := ⟨_, List.getElem?_eq_getElem (by omega)⟩
  have HS2 : Hid (secondF ⟨false, fs⟩ = fs2.2) := by show _ = _; unfold secondF; rw [hfs2]; rfl
  have HC2 : Hid (∃ b o, Ax = some ⟨b, o, none⟩ ∧ ∀ W, KeepT 65 w W → W.cell? ⟨b, o + 3 + 1, none⟩ = some (.string ⟨fs2.2.text.toArray⟩)) := by
    rcases HsT.out with he | ⟨b, o, cur, fz, hA, hb, hh, hcc⟩
    · have := congrArg List.length he
      rw [fieldCells_len, hN] at this
      simp at this
    · refine ⟨b, o, hA, fun W hW => ?_⟩
      rw [cell_of_row W b _ cur 65 fz (hW.keep _ _ _ hh), show o + 3 + 1 = o + (1 * 3 + 1) by omega]
      exact hcc _ _ (by
        unfold fieldCells
        rw [flat_get (f := fieldCs) (s := 3) (fun _ => rfl) fs 1 1 fs2 hfs2 (by omega)]; rfl)
  have HFO1 := Lib.hid (Hf.out f1 (List.mem_of_getElem? hf1))
  have HFOl := Lib.hid (Hf.out fl (List.mem_of_getElem? hfl))
  obtain ⟨b, o, hA, hb, hc1⟩ := sl_at (f := fieldCs) (s := 3) (fun _ => rfl) Hs.out hf1 (by omega)
  obtain ⟨b', o', hA2, hb', hcl⟩ := sl_at (f := fieldCs) (s := 3) (fun _ => rfl) Hs.out hfl (by omega)
  rw [hA] at hA2
  injection hA2 with hA2
  injection hA2 with e1 e2 _
  subst e1 e2 hA
  obtain ⟨b4, o4, hA4, hC4⟩ := HC2.out
  injection hA4 with hA4
  injection hA4 with e1 e2 _
  subst e1 e2
  clear HC2
  have HC2 := Lib.hid hC4
  clear hC4 hfs2
  have hb0 : ∀ (W : World), Below w.heap.size w W → ∀ j u, (fieldCs f1)[j]? = some u → W.cell? ⟨b, o + (0 * 3 + j), none⟩ = some u := fun W hW j u hu => (hW.cell hb).trans (hc1 j u hu)
  have hbl : ∀ (W : World), Below w.heap.size w W → ∀ j u, (fieldCs fl)[j]? = some u → W.cell? ⟨b, o + (N * 3 + j), none⟩ = some u := fun W hW j u hu => (hW.cell hb).trans (hcl j u hu)
  have HB0 := Lib.hid hb0
  have HBL := Lib.hid hbl
  clear hc1 hcl hb0 hbl hf1 hfl
  go_enter Tryz.func18, Tryz.ntmps18
  go_upto_region 2 with fail
  go_cut [7, 8] (fun s7 s8 wx => ∃ g7 g8, s7 = .pointer (some ⟨g7, 0, none⟩) ∧ s8 = .pointer (some ⟨g8, 0, none⟩) ∧ Hid (AS w false (N + 1) (some ⟨b, o, none⟩) cx f1 fl w.heap.size g7 g8 wx))
  case first =>
    have hbx : Below w.heap.size w (w.alloc (.cells #[.bool false, .slice (some ⟨b, o, none⟩) (N + 1) cx] 62)) := (Below.refl _ _).alloc (Nat.le_refl _) _
    have x1 := (cell_at (heap_new w (.cells #[.bool false, .slice (some ⟨b, o, none⟩) (N + 1) cx] 62)) 1 (u := .slice (some ⟨b, o, none⟩) (N + 1) cx) rfl).1
    have k0 : (w.alloc (.cells #[.bool false, .slice (some ⟨b, o, none⟩) (N + 1) cx] 62)).cell? ⟨b, o, none⟩ = some (.string ⟨f1.1.toArray⟩) := HB0.out _ hbx 0 _ rfl
    have k1 : (w.alloc (.cells #[.bool false, .slice (some ⟨b, o, none⟩) (N + 1) cx] 62)).cell? ⟨b, o + 1, none⟩ = some (.string ⟨f1.2.text.toArray⟩) := HB0.out _ hbx 1 _ rfl
    have k2 : (w.alloc (.cells #[.bool false, .slice (some ⟨b, o, none⟩) (N + 1) cx] 62)).cell? ⟨b, o + 2, none⟩ = some (.int .i64 (f1.2.at_ : Int)) := HB0.out _ hbx 2 _ rfl
    have l0 : (w.alloc (.cells #[.bool false, .slice (some ⟨b, o, none⟩) (N + 1) cx] 62)).cell? ⟨b, o + N * 3, none⟩ = some (.string ⟨fl.1.toArray⟩) := HBL.out _ hbx 0 _ rfl
    have l1 : (w.alloc (.cells #[.bool false, .slice (some ⟨b, o, none⟩) (N + 1) cx] 62)).cell? ⟨b, o + N * 3 + 1, none⟩ = some (.string ⟨fl.2.text.toArray⟩) := HBL.out _ hbx 1 _ rfl
    have l2 : (w.alloc (.cells #[.bool false, .slice (some ⟨b, o, none⟩) (N + 1) cx] 62)).cell? ⟨b, o + N * 3 + 2, none⟩ = some (.int .i64 (fl.2.at_ : Int)) := HBL.out _ hbx 2 _ rfl
    obtain ⟨W1, hW1⟩ : ∃ W1, W1 = w.alloc (.cells #[.bool false, .slice (some ⟨b, o, none⟩) (N + 1) cx] 62) := ⟨_, rfl⟩
    have hx1 := heap_new w (.cells #[.bool false, .slice (some ⟨b, o, none⟩) (N + 1) cx] 62)
    have hs1 : (w.alloc (.cells #[.bool false, .slice (some ⟨b, o, none⟩) (N + 1) cx] 62)).heap.size = w.heap.size + 1 := by simp
    rw [← hW1] at hbx x1 k0 k1 k2 l0 l1 l2 hx1 hs1
    rw [← hW1]
    have HSX : Hid (∀ W, Below W1.heap.size W1 W → (W.cell? ⟨w.heap.size, 1, none⟩ = some (.slice (some ⟨b, o, none⟩) (N + 1) cx) ∧ (W.cell? ⟨b, o, none⟩ = some (.string ⟨f1.1.toArray⟩) ∧ W.cell? ⟨b, o + 1, none⟩ = some (.string ⟨f1.2.text.toArray⟩) ∧ W.cell? ⟨b, o + 2, none⟩ = some (.int .i64 (f1.2.at_ : Int))) ∧ W.cell? ⟨b, o + N * 3, none⟩ = some (.string ⟨fl.1.toArray⟩) ∧ W.cell? ⟨b, o + N * 3 + 1, none⟩ = some (.string ⟨fl.2.text.toArray⟩) ∧ W.cell? ⟨b, o + N * 3 + 2, none⟩ = some (.int .i64 (fl.2.at_ : Int)))) := fun W hW => by
      have hl : ∀ {q : Addr} {v : Value}, W1.cell? q = some v → W.cell? q = some v := fun hq => (hW.cell (Lib.lt_of_cell hq)).trans hq
      exact ⟨hl x1, ⟨hl k0, hl k1, hl k2⟩, hl l0, hl l1, hl l2⟩
    have HA : Hid (AS w false (N + 1) (some ⟨b, o, none⟩) cx f1 fl w.heap.size (w.heap.size + 1) (w.heap.size + 1 + 1) ((W1.alloc (.cells #[.string ⟨f1.1.toArray⟩, .string ⟨f1.2.text.toArray⟩, .int .i64 (f1.2.at_ : Int)] 65)).alloc (.cells #[.string ⟨fl.1.toArray⟩, .string ⟨fl.2.text.toArray⟩, .int .i64 (fl.2.at_ : Int)] 65))) := by
      have hB2 : Below W1.heap.size W1 ((W1.alloc (.cells #[.string ⟨f1.1.toArray⟩, .string ⟨f1.2.text.toArray⟩, .int .i64 (f1.2.at_ : Int)] 65)).alloc (.cells #[.string ⟨fl.1.toArray⟩, .string ⟨fl.2.text.toArray⟩, .int .i64 (fl.2.at_ : Int)] 65)) := ((Below.refl _ W1).alloc (Nat.le_refl _) _).alloc (by simp) _
      rw [← hs1]
      refine ⟨hbx.trans (hB2.mono (by omega)), below_cells hx1 hB2, (Below.heap_alloc _ _ _ (by simp)).trans (heap_new W1 _), ?_, Nat.le_refl _, by omega, by omega⟩
      have := heap_new (W1.alloc (.cells #[.string ⟨f1.1.toArray⟩, .string ⟨f1.2.text.toArray⟩, .int .i64 (f1.2.at_ : Int)] 65)) (.cells #[.string ⟨fl.1.toArray⟩, .string ⟨fl.2.text.toArray⟩, .int .i64 (fl.2.at_ : Int)] 65)
      simpa using this
    have HAs : Hid (AS w false (N + 1) (some ⟨b, o, none⟩) cx f1 fl w.heap.size (w.heap.size + 1 + 1) (w.heap.size + 1) ((W1.alloc (.cells #[.string ⟨fl.1.toArray⟩, .string ⟨fl.2.text.toArray⟩, .int .i64 (fl.2.at_ : Int)] 65)).alloc (.cells #[.string ⟨f1.1.toArray⟩, .string ⟨f1.2.text.toArray⟩, .int .i64 (f1.2.at_ : Int)] 65))) := by
      have hB2 : Below W1.heap.size W1 ((W1.alloc (.cells #[.string ⟨fl.1.toArray⟩, .string ⟨fl.2.text.toArray⟩, .int .i64 (fl.2.at_ : Int)] 65)).alloc (.cells #[.string ⟨f1.1.toArray⟩, .string ⟨f1.2.text.toArray⟩, .int .i64 (f1.2.at_ : Int)] 65)) := ((Below.refl _ W1).alloc (Nat.le_refl _) _).alloc (by simp) _
      rw [← hs1]
      refine ⟨hbx.trans (hB2.mono (by omega)), below_cells hx1 hB2, ?_, (Below.heap_alloc _ _ _ (by simp)).trans (heap_new W1 _), Nat.le_refl _, by omega, by omega⟩
      have := heap_new (W1.alloc (.cells #[.string ⟨fl.1.toArray⟩, .string ⟨fl.2.text.toArray⟩, .int .i64 (fl.2.at_ : Int)] 65)) (.cells #[.string ⟨f1.1.toArray⟩, .string ⟨f1.2.text.toArray⟩, .int .i64 (f1.2.at_ : Int)] 65)
      simpa using this
    have hS0 := HSX.out _ (Below.refl _ _)
    have hwr : IntKind.i64.wrap (N : Int) = (N : Int) := IntWalk.i64_in _ (by omega)
    have hI1 : (0 : Int) ≤ (N : Int) := by omega
    have hI2 : (N : Int) < (N : Int) + 1 := by omega
    clear hW1 hbx hx1 x1 k0 k1 k2 l0 l1 l2
    have HSX2 := HSX
    refine wp_region_held_drew (S := fun W => W.cell? ⟨w.heap.size, 1, none⟩ = some (.slice (some ⟨b, o, none⟩) (N + 1) cx) ∧ (W.cell? ⟨b, o, none⟩ = some (.string ⟨f1.1.toArray⟩) ∧ W.cell? ⟨b, o + 1, none⟩ = some (.string ⟨f1.2.text.toArray⟩) ∧ W.cell? ⟨b, o + 2, none⟩ = some (.int .i64 (f1.2.at_ : Int))) ∧ W.cell? ⟨b, o + N * 3, none⟩ = some (.string ⟨fl.1.toArray⟩) ∧ W.cell? ⟨b, o + N * 3 + 1, none⟩ = some (.string ⟨fl.2.text.toArray⟩) ∧ W.cell? ⟨b, o + N * 3 + 2, none⟩ = some (.int .i64 (fl.2.at_ : Int))) (by kernel_rfl) hS0 (fun hHeld => ?_)
    refine wpAnyH_take (i := 0) (v := ?_) rfl (by kernel_rfl) (by kernel_rfl) (by kernel_rfl) (fun _ _ _ h => h) (Or.inl ⟨by rfl, ?_⟩) hHeld ?_
    rotate_left
    · intro w hSw; (try dsimp only at hSw); go_simp
      with_reducible rfl
    refine wpAnyH_take (i := 1) (v := ?_) rfl (by kernel_rfl) (by kernel_rfl) (by kernel_rfl) (fun _ _ _ h => h) (Or.inl ⟨by rfl, ?_⟩) hHeld ?_
    rotate_left
    · intro w hSw; (try dsimp only at hSw); go_simp
      with_reducible rfl
    refine wpAnyH_take (i := 2) (v := ?_) rfl (by kernel_rfl) (by kernel_rfl) (by kernel_rfl) (fun _ _ _ h => h) (Or.inl ⟨by rfl, ?_⟩) hHeld ?_
    rotate_left
    · intro w hSw; (try dsimp only at hSw); go_simp
      with_reducible rfl
    refine wpAnyH_take (i := 3) (v := ?_) rfl (by kernel_rfl) (by kernel_rfl) (by kernel_rfl) (fun _ _ _ h => h) (Or.inl ⟨by rfl, ?_⟩) hHeld ?_
    rotate_left
    · intro w hSw; (try dsimp only at hSw); go_simp
      with_reducible rfl
    refine wpAnyH_take (i := 4) (v := ?_) rfl (by kernel_rfl) (by kernel_rfl) (by kernel_rfl) (fun _ _ _ h => h) (Or.inl ⟨by rfl, ?_⟩) hHeld ?_
    rotate_left
    · intro w hSw; (try dsimp only at hSw); go_simp
      with_reducible rfl
    refine wpAnyH_take (i := 5) (v := ?_) rfl (by kernel_rfl) (by kernel_rfl) (by kernel_rfl) (fun _ _ _ h => h) (Or.inl ⟨by rfl, ?_⟩) hHeld ?_
    rotate_left
    · intro w hSw; (try dsimp only at hSw); go_simp
      with_reducible rfl
    refine wpAnyH_take (i := 6) (v := ?_) rfl (by kernel_rfl) (by kernel_rfl) (by kernel_rfl) (fun _ _ _ h => h) (Or.inl ⟨by rfl, ?_⟩) hHeld ?_
    rotate_left
    · intro w hSw; (try dsimp only at hSw); go_simp
      with_reducible rfl
    refine wpAnyH_take (i := 7) (v := ?_) rfl (by kernel_rfl) (by kernel_rfl) (by kernel_rfl) (fun _ _ _ h => h) (Or.inl ⟨by rfl, ?_⟩) hHeld ?_
    rotate_left
    · intro w hSw; (try dsimp only at hSw); go_simp
      with_reducible rfl
    refine wpAnyH_take (i := 8) (v := ?_) rfl (by kernel_rfl) (by kernel_rfl) (by kernel_rfl) (fun _ _ _ h => h) (Or.inl ⟨by rfl, ?_⟩) hHeld ?_
    rotate_left
    · intro w hSw; (try dsimp only at hSw); go_simp
      with_reducible rfl
    refine wpAnyH_take (i := 9) (v := ?_) rfl (by kernel_rfl) (by kernel_rfl) (by kernel_rfl) (fun _ _ _ h => h) (Or.inl ⟨by rfl, ?_⟩) hHeld ?_
    rotate_left
    · intro w hSw; (try dsimp only at hSw); go_simp
      with_reducible rfl
    refine wpAnyH_take (i := 10) (v := ?_) rfl (by kernel_rfl) (by kernel_rfl) (by kernel_rfl) (fun _ _ _ h => h) (Or.inl ⟨by rfl, ?_⟩) hHeld ?_
    rotate_left
    · intro w hSw; (try dsimp only at hSw); go_simp
      with_reducible rfl
    refine wpAnyH_take (i := 11) (v := ?_) rfl (by kernel_rfl) (by kernel_rfl) (by kernel_rfl) (fun _ _ _ h => h) (Or.inl ⟨by rfl, ?_⟩) hHeld ?_
    rotate_left
    · intro w hSw; (try dsimp only at hSw); go_simp
      with_reducible rfl
    refine wpAnyH_ready (rs := [12, 13]) (by kernel_rfl) (by simp) ?_
    refine AllReadyH.cons rfl (fun K hK => ?_) (AllReadyH.cons rfl (fun K hK => ?_) AllReadyH.nil)
    · go_simp
      refine hK.out _ _ ?_ (fun hHeld => ?_)
      · first | exact HSX.out _ (((Below.refl _ W1).alloc (Nat.le_refl _) _).drew) | exact HSX.out _ ((((Below.refl _ W1).alloc (Nat.le_refl _) _).alloc (by simp) _).drew) | exact HSX.out _ ((Below.refl _ W1).drew.alloc (Nat.le_refl _) _) | exact HSX.out _ (((Below.refl _ W1).drew.alloc (Nat.le_refl _) _).alloc (by simp) _)
      refine wpAnyH_ready (rs := [13]) (by kernel_rfl) (by simp) ?_
      refine AllReadyH.cons rfl (fun K hK => ?_) AllReadyH.nil
      go_simp
      refine hK.out _ _ ?_ (fun hHeld => ?_)
      · first | exact HSX.out _ (((Below.refl _ W1).alloc (Nat.le_refl _) _).drew) | exact HSX.out _ ((((Below.refl _ W1).alloc (Nat.le_refl _) _).alloc (by simp) _).drew) | exact HSX.out _ ((Below.refl _ W1).drew.alloc (Nat.le_refl _) _) | exact HSX.out _ (((Below.refl _ W1).drew.alloc (Nat.le_refl _) _).alloc (by simp) _)
      refine wpAnyH_ready (rs := [14]) (by kernel_rfl) (by simp) ?_
      refine AllReadyH.cons rfl (fun K hK => ?_) AllReadyH.nil
      go_simp
      refine hK.out _ _ ?_ (fun hHeld => ?_)
      · first | exact HSX.out _ (((Below.refl _ W1).alloc (Nat.le_refl _) _).drew) | exact HSX.out _ ((((Below.refl _ W1).alloc (Nat.le_refl _) _).alloc (by simp) _).drew) | exact HSX.out _ ((Below.refl _ W1).drew.alloc (Nat.le_refl _) _) | exact HSX.out _ (((Below.refl _ W1).drew.alloc (Nat.le_refl _) _).alloc (by simp) _)
      refine wpAnyH_ready (rs := [15]) (by kernel_rfl) (by simp) ?_
      refine AllReadyH.cons rfl (fun K hK => ?_) AllReadyH.nil
      go_simp
      refine hK.out _ _ ?_ (fun hHeld => ?_)
      · first | exact HSX.out _ (((Below.refl _ W1).alloc (Nat.le_refl _) _).drew) | exact HSX.out _ ((((Below.refl _ W1).alloc (Nat.le_refl _) _).alloc (by simp) _).drew) | exact HSX.out _ ((Below.refl _ W1).drew.alloc (Nat.le_refl _) _) | exact HSX.out _ (((Below.refl _ W1).drew.alloc (Nat.le_refl _) _).alloc (by simp) _)
      refine wpAnyH_done (by kernel_rfl) ?_ _
      go_wp2_with fail
      go_meet
      first | exact ⟨_, _, rfl, rfl, HA.out⟩ | exact ⟨_, _, rfl, rfl, HA.out.call ((Below.refl _ _).drew)⟩
    · go_simp
      refine hK.out _ _ ?_ (fun hHeld => ?_)
      · first | exact HSX.out _ (((Below.refl _ W1).alloc (Nat.le_refl _) _).drew) | exact HSX.out _ ((((Below.refl _ W1).alloc (Nat.le_refl _) _).alloc (by simp) _).drew) | exact HSX.out _ ((Below.refl _ W1).drew.alloc (Nat.le_refl _) _) | exact HSX.out _ (((Below.refl _ W1).drew.alloc (Nat.le_refl _) _).alloc (by simp) _)
      refine wpAnyH_ready (rs := [12]) (by kernel_rfl) (by simp) ?_
      refine AllReadyH.cons rfl (fun K hK => ?_) AllReadyH.nil
      go_simp
      refine hK.out _ _ ?_ (fun hHeld => ?_)
      · first | exact HSX.out _ (((Below.refl _ W1).alloc (Nat.le_refl _) _).drew) | exact HSX.out _ ((((Below.refl _ W1).alloc (Nat.le_refl _) _).alloc (by simp) _).drew) | exact HSX.out _ ((Below.refl _ W1).drew.alloc (Nat.le_refl _) _) | exact HSX.out _ (((Below.refl _ W1).drew.alloc (Nat.le_refl _) _).alloc (by simp) _)
      refine wpAnyH_ready (rs := [14]) (by kernel_rfl) (by simp) ?_
      refine AllReadyH.cons rfl (fun K hK => ?_) AllReadyH.nil
      go_simp
      refine hK.out _ _ ?_ (fun hHeld => ?_)
      · first | exact HSX.out _ (((Below.refl _ W1).alloc (Nat.le_refl _) _).drew) | exact HSX.out _ ((((Below.refl _ W1).alloc (Nat.le_refl _) _).alloc (by simp) _).drew) | exact HSX.out _ ((Below.refl _ W1).drew.alloc (Nat.le_refl _) _) | exact HSX.out _ (((Below.refl _ W1).drew.alloc (Nat.le_refl _) _).alloc (by simp) _)
      refine wpAnyH_ready (rs := [15]) (by kernel_rfl) (by simp) ?_
      refine AllReadyH.cons rfl (fun K hK => ?_) AllReadyH.nil
      go_simp
      refine hK.out _ _ ?_ (fun hHeld => ?_)
      · first | exact HSX.out _ (((Below.refl _ W1).alloc (Nat.le_refl _) _).drew) | exact HSX.out _ ((((Below.refl _ W1).alloc (Nat.le_refl _) _).alloc (by simp) _).drew) | exact HSX.out _ ((Below.refl _ W1).drew.alloc (Nat.le_refl _) _) | exact HSX.out _ (((Below.refl _ W1).drew.alloc (Nat.le_refl _) _).alloc (by simp) _)
      refine wpAnyH_done (by kernel_rfl) ?_ _
      go_wp2_with fail
      go_meet
      first | exact ⟨_, _, rfl, rfl, HAs.out⟩ | exact ⟨_, _, rfl, rfl, HAs.out.call ((Below.refl _ _).drew)⟩
  case rest =>
    obtain ⟨g7, g8, rfl, rfl, HS⟩ := hcut
    obtain ⟨q7, -⟩ := cell_at HS.out.x7 1 (u := .string ⟨f1.2.text.toArray⟩) rfl
    obtain ⟨q0, -⟩ := cell_at ((HS.out.call ((Below.refl _ _).alloc (Nat.le_refl _) (.cells #[.string ⟨f1.2.text.toArray⟩] 9))).x0) 0 (u := .bool false) rfl
    go_upto_region 7 with fail
    obtain ⟨W1, hW1⟩ : ∃ W1, W1 = wc.alloc (.cells #[.string ⟨f1.2.text.toArray⟩] 9) := ⟨_, rfl⟩
    obtain ⟨g9, hg9⟩ : ∃ g, g = wc.heap.size := ⟨_, rfl⟩
    have S1 : Hid (AS w false (N + 1) (some ⟨b, o, none⟩) cx f1 fl w.heap.size g7 g8 W1) := by rw [hW1]; exact HS.out.call ((Below.refl _ _).alloc (Nat.le_refl _) _)
    have X1 : Hid (W1.heap[g9]? = some (.cells #[.string ⟨f1.2.text.toArray⟩] 9)) := by rw [hW1, hg9]; exact heap_new _ _
    rw [← hW1, ← hg9]
    clear hW1 hg9 q7 q0 HS
    have HSF : Hid (∀ W W' : World, AS w false (N + 1) (some ⟨b, o, none⟩) cx f1 fl w.heap.size g7 g8 W → W.heap[g9]? = some (.cells #[.string ⟨f1.2.text.toArray⟩] 9) → Below W.heap.size W W' → W'.cell? ⟨gt, 0, none⟩ = some (.slice A T.classes.length c) ∧ W'.cell? ⟨g9, 0, none⟩ = some (.string ⟨f1.2.text.toArray⟩) ∧ W'.cell? ⟨g7, 0, none⟩ = some (.string ⟨f1.1.toArray⟩) ∧ W'.cell? ⟨g7, 1, none⟩ = some (.string ⟨f1.2.text.toArray⟩) ∧ W'.cell? ⟨g7, 2, none⟩ = some (.int .i64 (f1.2.at_ : Int))) := fun W W' hS hX hb => by
      have h7 := (hS.call hb).x7
      exact ⟨(cell_at ((Ht.out.below (hS.hb.trans (hb.mono hS.hb.size))).row) 0 rfl).1, (cell_at (below_cells hX hb) 0 rfl).1, (cell_at h7 0 rfl).1, (cell_at h7 1 rfl).1, (cell_at h7 2 rfl).1⟩
    by_cases h16 : 8 ≤ T.classes.length
    · 
      have hI : (8 : Int) ≤ (T.classes.length : Int) := by omega
      have HE : Hid (addB names T ⟨false, fs⟩ = .bad f1.2.at_ 2) := by
        show _ = _
        unfold addB
        rw [if_neg (show ¬ (⟨false, fs⟩ : Item).tenant = true from Bool.false_ne_true), if_pos (.inl h16), HF1.out]
      refine wp_region_held_drew (S := fun W => W.cell? ⟨gt, 0, none⟩ = some (.slice A T.classes.length c) ∧ W.cell? ⟨g9, 0, none⟩ = some (.string ⟨f1.2.text.toArray⟩) ∧ W.cell? ⟨g7, 0, none⟩ = some (.string ⟨f1.1.toArray⟩) ∧ W.cell? ⟨g7, 1, none⟩ = some (.string ⟨f1.2.text.toArray⟩) ∧ W.cell? ⟨g7, 2, none⟩ = some (.int .i64 (f1.2.at_ : Int))) (by kernel_rfl) (HSF.out _ _ S1.out X1.out (Below.refl _ _).drew) (fun hHeld => ?_)
      refine wpAnyH_take (i := 0) (v := ?_) rfl (by kernel_rfl) (by kernel_rfl) (by kernel_rfl) (fun _ _ _ h => h) (Or.inl ⟨by rfl, ?_⟩) hHeld ?_
      rotate_left
      · intro w hSw; (try dsimp only at hSw); go_simp
        with_reducible rfl
      refine wpAnyH_take (i := 1) (v := ?_) rfl (by kernel_rfl) (by kernel_rfl) (by kernel_rfl) (fun _ _ _ h => h) (Or.inl ⟨by rfl, ?_⟩) hHeld ?_
      rotate_left
      · intro w hSw; (try dsimp only at hSw); go_simp
        with_reducible rfl
      refine wpAnyH_take (i := 2) (v := ?_) rfl (by kernel_rfl) (by kernel_rfl) (by kernel_rfl) (fun _ _ _ h => h) (Or.inl ⟨by rfl, ?_⟩) hHeld ?_
      rotate_left
      · intro w hSw; (try dsimp only at hSw); go_simp
        with_reducible rfl
      refine wpAnyH_take (i := 3) (v := ?_) rfl (by kernel_rfl) (by kernel_rfl) (by kernel_rfl) (fun _ _ _ h => h) (Or.inl ⟨by rfl, ?_⟩) hHeld ?_
      rotate_left
      · intro w hSw; (try dsimp only at hSw); go_simp
        with_reducible rfl
      refine wpAnyH_take (i := 4) (v := ?_) rfl (by kernel_rfl) (by kernel_rfl) (by kernel_rfl) (fun _ _ _ h => h) (Or.inl ⟨by rfl, ?_⟩) hHeld ?_
      rotate_left
      · intro w hSw; (try dsimp only at hSw); go_simp
        with_reducible rfl
      refine wpAnyH_take (i := 5) (v := ?_) rfl (by kernel_rfl) (by kernel_rfl) (by kernel_rfl) (fun _ _ _ h => h) (Or.inl ⟨by rfl, ?_⟩) hHeld ?_
      rotate_left
      · intro w hSw; (try dsimp only at hSw); go_simp
        with_reducible rfl
      refine wpAnyH_take (i := 6) (v := ?_) rfl (by kernel_rfl) (by kernel_rfl) (by kernel_rfl) (fun _ _ _ h => h) (Or.inl ⟨by rfl, ?_⟩) hHeld ?_
      rotate_left
      · intro w hSw; (try dsimp only at hSw); go_simp
        with_reducible rfl
      refine wpAnyH_take (i := 7) (v := ?_) rfl (by kernel_rfl) (by kernel_rfl) (by kernel_rfl) (fun _ _ _ h => h) (Or.inl ⟨by rfl, ?_⟩) hHeld ?_
      rotate_left
      · intro w hSw; (try dsimp only at hSw); go_simp
        with_reducible rfl
      refine wpAnyH_take (i := 8) (v := undef) rfl (by kernel_rfl) (by kernel_rfl) (by kernel_rfl) (fun _ _ _ h => h) (Or.inr ⟨by kernel_rfl, rfl⟩) hHeld ?_
      refine wpAnyH_take (i := 9) (v := undef) rfl (by kernel_rfl) (by kernel_rfl) (by kernel_rfl) (fun _ _ _ h => h) (Or.inr ⟨by kernel_rfl, rfl⟩) hHeld ?_
      refine wpAnyH_take (i := 10) (v := undef) rfl (by kernel_rfl) (by kernel_rfl) (by kernel_rfl) (fun _ _ _ h => h) (Or.inr ⟨by kernel_rfl, rfl⟩) hHeld ?_
      refine wpAnyH_take (i := 11) (v := ?_) rfl (by kernel_rfl) (by kernel_rfl) (by kernel_rfl) (fun _ _ _ h => h) (Or.inl ⟨by rfl, ?_⟩) hHeld ?_
      rotate_left
      · intro w hSw; (try dsimp only at hSw); go_simp
        with_reducible rfl
      refine wpAnyH_take (i := 12) (v := ?_) rfl (by kernel_rfl) (by kernel_rfl) (by kernel_rfl) (fun _ _ _ h => h) (Or.inl ⟨by rfl, ?_⟩) hHeld ?_
      rotate_left
      · intro w hSw; (try dsimp only at hSw); go_simp
        with_reducible rfl
      refine wpAnyH_ready (rs := [13]) (by kernel_rfl) (by simp) ?_
      refine AllReadyH.cons rfl (fun K hK => ?_) AllReadyH.nil
      go_simp
      go_at_call 53
      refine (fail_yes f1 2 _).mono ?_
      rintro e wb ⟨rfl, hbb⟩
      have hb2 := S1.out.hb.trans (((Below.refl _ _).drew.trans (hbb.mono (by simp))).mono S1.out.hb.size)
      unfold wrongE
      dsimp only
      refine ⟨rfl, ?_⟩
      show AddR B gt (addB names T ⟨false, fs⟩) w _ _
      rw [HE.out]
      exact ⟨rfl, hb2⟩
    · by_cases h12 : 12 < f1.2.text.length
      · 
        have hI : ¬ (8 : Int) ≤ (T.classes.length : Int) := by omega
        have hI2 : (T.classes.length : Int) < (8 : Int) := by omega
        have hI3 : (12 : Int) < (f1.2.text.length : Int) := by omega
        have HE : Hid (addB names T ⟨false, fs⟩ = .bad f1.2.at_ 2) := by
          show _ = _
          unfold addB
          rw [if_neg (show ¬ (⟨false, fs⟩ : Item).tenant = true from Bool.false_ne_true), if_pos (.inr (by rw [HF1.out]; exact h12)), HF1.out]
        refine wp_region_held_drew (S := fun W => W.cell? ⟨gt, 0, none⟩ = some (.slice A T.classes.length c) ∧ W.cell? ⟨g9, 0, none⟩ = some (.string ⟨f1.2.text.toArray⟩) ∧ W.cell? ⟨g7, 0, none⟩ = some (.string ⟨f1.1.toArray⟩) ∧ W.cell? ⟨g7, 1, none⟩ = some (.string ⟨f1.2.text.toArray⟩) ∧ W.cell? ⟨g7, 2, none⟩ = some (.int .i64 (f1.2.at_ : Int))) (by kernel_rfl) (HSF.out _ _ S1.out X1.out (Below.refl _ _).drew) (fun hHeld => ?_)
        refine wpAnyH_take (i := 0) (v := ?_) rfl (by kernel_rfl) (by kernel_rfl) (by kernel_rfl) (fun _ _ _ h => h) (Or.inl ⟨by rfl, ?_⟩) hHeld ?_
        rotate_left
        · intro w hSw; (try dsimp only at hSw); go_simp
          with_reducible rfl
        refine wpAnyH_take (i := 1) (v := ?_) rfl (by kernel_rfl) (by kernel_rfl) (by kernel_rfl) (fun _ _ _ h => h) (Or.inl ⟨by rfl, ?_⟩) hHeld ?_
        rotate_left
        · intro w hSw; (try dsimp only at hSw); go_simp
          with_reducible rfl
        refine wpAnyH_take (i := 2) (v := ?_) rfl (by kernel_rfl) (by kernel_rfl) (by kernel_rfl) (fun _ _ _ h => h) (Or.inl ⟨by rfl, ?_⟩) hHeld ?_
        rotate_left
        · intro w hSw; (try dsimp only at hSw); go_simp
          with_reducible rfl
        refine wpAnyH_take (i := 3) (v := ?_) rfl (by kernel_rfl) (by kernel_rfl) (by kernel_rfl) (fun _ _ _ h => h) (Or.inl ⟨by rfl, ?_⟩) hHeld ?_
        rotate_left
        · intro w hSw; (try dsimp only at hSw); go_simp
          with_reducible rfl
        refine wpAnyH_take (i := 4) (v := ?_) rfl (by kernel_rfl) (by kernel_rfl) (by kernel_rfl) (fun _ _ _ h => h) (Or.inl ⟨by rfl, ?_⟩) hHeld ?_
        rotate_left
        · intro w hSw; (try dsimp only at hSw); go_simp
          with_reducible rfl
        refine wpAnyH_take (i := 5) (v := ?_) rfl (by kernel_rfl) (by kernel_rfl) (by kernel_rfl) (fun _ _ _ h => h) (Or.inl ⟨by rfl, ?_⟩) hHeld ?_
        rotate_left
        · intro w hSw; (try dsimp only at hSw); go_simp
          with_reducible rfl
        refine wpAnyH_take (i := 6) (v := ?_) rfl (by kernel_rfl) (by kernel_rfl) (by kernel_rfl) (fun _ _ _ h => h) (Or.inl ⟨by rfl, ?_⟩) hHeld ?_
        rotate_left
        · intro w hSw; (try dsimp only at hSw); go_simp
          with_reducible rfl
        refine wpAnyH_take (i := 7) (v := ?_) rfl (by kernel_rfl) (by kernel_rfl) (by kernel_rfl) (fun _ _ _ h => h) (Or.inl ⟨by rfl, ?_⟩) hHeld ?_
        rotate_left
        · intro w hSw; (try dsimp only at hSw); go_simp
          with_reducible rfl
        refine wpAnyH_take (i := 8) (v := ?_) rfl (by kernel_rfl) (by kernel_rfl) (by kernel_rfl) (fun _ _ _ h => h) (Or.inl ⟨by kernel_rfl, ?_⟩) hHeld ?_
        rotate_left
        · intro w hSw; (try dsimp only at hSw); go_simp
          with_reducible rfl
        refine wpAnyH_take (i := 9) (v := ?_) rfl (by kernel_rfl) (by kernel_rfl) (by kernel_rfl) (fun _ _ _ h => h) (Or.inl ⟨by kernel_rfl, ?_⟩) hHeld ?_
        rotate_left
        · intro w hSw; (try dsimp only at hSw); go_simp
          with_reducible rfl
        refine wpAnyH_take (i := 10) (v := ?_) rfl (by kernel_rfl) (by kernel_rfl) (by kernel_rfl) (fun _ _ _ h => h) (Or.inl ⟨by kernel_rfl, ?_⟩) hHeld ?_
        rotate_left
        · intro w hSw; (try dsimp only at hSw); go_simp
          with_reducible rfl
        refine wpAnyH_take (i := 11) (v := ?_) rfl (by kernel_rfl) (by kernel_rfl) (by kernel_rfl) (fun _ _ _ h => h) (Or.inl ⟨by rfl, ?_⟩) hHeld ?_
        rotate_left
        · intro w hSw; (try dsimp only at hSw); go_simp
          with_reducible rfl
        refine wpAnyH_take (i := 12) (v := ?_) rfl (by kernel_rfl) (by kernel_rfl) (by kernel_rfl) (fun _ _ _ h => h) (Or.inl ⟨by rfl, ?_⟩) hHeld ?_
        rotate_left
        · intro w hSw; (try dsimp only at hSw); go_simp
          with_reducible rfl
        refine wpAnyH_ready (rs := [13]) (by kernel_rfl) (by simp) ?_
        refine AllReadyH.cons rfl (fun K hK => ?_) AllReadyH.nil
        go_simp
        go_at_call 53
        refine (fail_yes f1 2 _).mono ?_
        rintro e wb ⟨rfl, hbb⟩
        have hb2 := S1.out.hb.trans (((Below.refl _ _).drew.trans (hbb.mono (by simp))).mono S1.out.hb.size)
        unfold wrongE
        dsimp only
        refine ⟨rfl, ?_⟩
        show AddR B gt (addB names T ⟨false, fs⟩) w _ _
        rw [HE.out]
        exact ⟨rfl, hb2⟩
      · have hI : ¬ (8 : Int) ≤ (T.classes.length : Int) := by omega
        have hI2 : (T.classes.length : Int) < (8 : Int) := by omega
        have hI3 : ¬ (12 : Int) < (f1.2.text.length : Int) := by omega
        have hI4 : (f1.2.text.length : Int) ≤ (12 : Int) := by omega
        have HA5 : Hid (¬ (8 ≤ T.classes.length ∨ 12 < (firstF ⟨false, fs⟩).text.length)) := by
          show ¬ _
          rw [HF1.out]; omega
        refine wp_region_held_drew (S := fun W => W.cell? ⟨gt, 0, none⟩ = some (.slice A T.classes.length c) ∧ W.cell? ⟨g9, 0, none⟩ = some (.string ⟨f1.2.text.toArray⟩) ∧ W.cell? ⟨g7, 0, none⟩ = some (.string ⟨f1.1.toArray⟩) ∧ W.cell? ⟨g7, 1, none⟩ = some (.string ⟨f1.2.text.toArray⟩) ∧ W.cell? ⟨g7, 2, none⟩ = some (.int .i64 (f1.2.at_ : Int))) (by kernel_rfl) (HSF.out _ _ S1.out X1.out (Below.refl _ _).drew) (fun hHeld => ?_)
        refine wpAnyH_take (i := 0) (v := ?_) rfl (by kernel_rfl) (by kernel_rfl) (by kernel_rfl) (fun _ _ _ h => h) (Or.inl ⟨by rfl, ?_⟩) hHeld ?_
        rotate_left
        · intro w hSw; (try dsimp only at hSw); go_simp
          with_reducible rfl
        refine wpAnyH_take (i := 1) (v := ?_) rfl (by kernel_rfl) (by kernel_rfl) (by kernel_rfl) (fun _ _ _ h => h) (Or.inl ⟨by rfl, ?_⟩) hHeld ?_
        rotate_left
        · intro w hSw; (try dsimp only at hSw); go_simp
          with_reducible rfl
        refine wpAnyH_take (i := 2) (v := ?_) rfl (by kernel_rfl) (by kernel_rfl) (by kernel_rfl) (fun _ _ _ h => h) (Or.inl ⟨by rfl, ?_⟩) hHeld ?_
        rotate_left
        · intro w hSw; (try dsimp only at hSw); go_simp
          with_reducible rfl
        refine wpAnyH_take (i := 3) (v := ?_) rfl (by kernel_rfl) (by kernel_rfl) (by kernel_rfl) (fun _ _ _ h => h) (Or.inl ⟨by rfl, ?_⟩) hHeld ?_
        rotate_left
        · intro w hSw; (try dsimp only at hSw); go_simp
          with_reducible rfl
        refine wpAnyH_take (i := 4) (v := ?_) rfl (by kernel_rfl) (by kernel_rfl) (by kernel_rfl) (fun _ _ _ h => h) (Or.inl ⟨by rfl, ?_⟩) hHeld ?_
        rotate_left
        · intro w hSw; (try dsimp only at hSw); go_simp
          with_reducible rfl
        refine wpAnyH_take (i := 5) (v := ?_) rfl (by kernel_rfl) (by kernel_rfl) (by kernel_rfl) (fun _ _ _ h => h) (Or.inl ⟨by rfl, ?_⟩) hHeld ?_
        rotate_left
        · intro w hSw; (try dsimp only at hSw); go_simp
          with_reducible rfl
        refine wpAnyH_take (i := 6) (v := ?_) rfl (by kernel_rfl) (by kernel_rfl) (by kernel_rfl) (fun _ _ _ h => h) (Or.inl ⟨by rfl, ?_⟩) hHeld ?_
        rotate_left
        · intro w hSw; (try dsimp only at hSw); go_simp
          with_reducible rfl
        refine wpAnyH_take (i := 7) (v := ?_) rfl (by kernel_rfl) (by kernel_rfl) (by kernel_rfl) (fun _ _ _ h => h) (Or.inl ⟨by rfl, ?_⟩) hHeld ?_
        rotate_left
        · intro w hSw; (try dsimp only at hSw); go_simp
          with_reducible rfl
        refine wpAnyH_take (i := 8) (v := ?_) rfl (by kernel_rfl) (by kernel_rfl) (by kernel_rfl) (fun _ _ _ h => h) (Or.inl ⟨by kernel_rfl, ?_⟩) hHeld ?_
        rotate_left
        · intro w hSw; (try dsimp only at hSw); go_simp
          with_reducible rfl
        refine wpAnyH_take (i := 9) (v := ?_) rfl (by kernel_rfl) (by kernel_rfl) (by kernel_rfl) (fun _ _ _ h => h) (Or.inl ⟨by kernel_rfl, ?_⟩) hHeld ?_
        rotate_left
        · intro w hSw; (try dsimp only at hSw); go_simp
          with_reducible rfl
        refine wpAnyH_take (i := 10) (v := ?_) rfl (by kernel_rfl) (by kernel_rfl) (by kernel_rfl) (fun _ _ _ h => h) (Or.inl ⟨by kernel_rfl, ?_⟩) hHeld ?_
        rotate_left
        · intro w hSw; (try dsimp only at hSw); go_simp
          with_reducible rfl
        refine wpAnyH_take (i := 11) (v := ?_) rfl (by kernel_rfl) (by kernel_rfl) (by kernel_rfl) (fun _ _ _ h => h) (Or.inl ⟨by rfl, ?_⟩) hHeld ?_
        rotate_left
        · intro w hSw; (try dsimp only at hSw); go_simp
          with_reducible rfl
        refine wpAnyH_take (i := 12) (v := ?_) rfl (by kernel_rfl) (by kernel_rfl) (by kernel_rfl) (fun _ _ _ h => h) (Or.inl ⟨by rfl, ?_⟩) hHeld ?_
        rotate_left
        · intro w hSw; (try dsimp only at hSw); go_simp
          with_reducible rfl
        refine wpAnyH_ready (rs := [13]) (by kernel_rfl) (by simp) ?_
        refine AllReadyH.cons rfl (fun K hK => ?_) AllReadyH.nil
        go_simp
        go_at_call 53
        refine (fail_no f1 2 _).mono ?_
        rintro e w1 ⟨rfl, hb1⟩
        dsimp only
        have S2 := Lib.hid (S1.out.call ((Below.refl _ _).drew.trans (hb1.mono (by simp))))
        have X2 := Lib.hid (below_cells X1.out ((Below.refl _ _).drew.trans (hb1.mono (by simp))))
        refine hK.out _ _ (HSF.out _ _ S2.out X2.out (Below.refl _ _)) (fun hHeld => ?_)
        refine wpAnyH_done (by kernel_rfl) ?_ _
        clear hK K hHeld hb1 S1 X1
        clear h16 h12 hI hI2 hI3 hI4
        go_upto_region 8 with fail
        have hc6 : w1.drew.cell? ⟨g9, 0, none⟩ = some (.string ⟨f1.2.text.toArray⟩) := (cell_at X2.out 0 rfl).1
        have hsl6 : Sl w1.drew w1.drew.heap.size A (T.classes.flatMap clsCs) := own_sl (Ht.out.below S2.out.hb).own1
        have Hcall6 := Lib.hid (contains_63 f1.2.text g9 T.classes A c w1.drew (by unfold maxLen; omega) hsl6 hc6)
        clear hc6 hsl6
        cases hb6 : T.classes.any fun x => x.name == f1.2.text with
        | true =>
          
          have HE : Hid (addB names T ⟨false, fs⟩ = .bad f1.2.at_ 4) := by
            have hm : (firstF ⟨false, fs⟩).text ∈ T.classes.map ClassD.name := by
              rw [HF1.out]
              obtain ⟨x, hx, e⟩ := List.any_eq_true.1 hb6
              exact List.mem_map.2 ⟨x, hx, eq_of_beq e⟩
            show _ = _
            unfold addB
            rw [if_neg (show ¬ (⟨false, fs⟩ : Item).tenant = true from Bool.false_ne_true), if_neg HA5.out, if_pos hm, HF1.out]
          rw [hb6] at Hcall6
          clear hb6
          refine wp_region_held_drew (S := fun W => W.cell? ⟨gt, 0, none⟩ = some (.slice A T.classes.length c) ∧ W.cell? ⟨g9, 0, none⟩ = some (.string ⟨f1.2.text.toArray⟩) ∧ W.cell? ⟨g7, 0, none⟩ = some (.string ⟨f1.1.toArray⟩) ∧ W.cell? ⟨g7, 1, none⟩ = some (.string ⟨f1.2.text.toArray⟩) ∧ W.cell? ⟨g7, 2, none⟩ = some (.int .i64 (f1.2.at_ : Int))) (by kernel_rfl) (HSF.out _ _ S2.out X2.out (Below.refl _ _).drew) (fun hHeld => ?_)
          refine wpAnyH_take (i := 0) (v := ?_) rfl (by kernel_rfl) (by kernel_rfl) (by kernel_rfl) (fun _ _ _ h => h) (Or.inl ⟨by rfl, ?_⟩) hHeld ?_
          rotate_left
          · intro w hSw; (try dsimp only at hSw); go_simp
            with_reducible rfl
          refine wpAnyH_take (i := 1) (v := ?_) rfl (by kernel_rfl) (by kernel_rfl) (by kernel_rfl) (fun _ _ _ h => h) (Or.inl ⟨by rfl, ?_⟩) hHeld ?_
          rotate_left
          · intro w hSw; (try dsimp only at hSw); go_simp
            with_reducible rfl
          refine wpAnyH_take (i := 2) (v := ?_) rfl (by kernel_rfl) (by kernel_rfl) (by kernel_rfl) (fun _ _ _ h => h) (Or.inl ⟨by rfl, ?_⟩) hHeld ?_
          rotate_left
          · intro w hSw; (try dsimp only at hSw); go_simp
            with_reducible rfl
          refine wpAnyH_take (i := 3) (v := ?_) rfl (by kernel_rfl) (by kernel_rfl) (by kernel_rfl) (fun _ _ _ h => h) (Or.inl ⟨by rfl, ?_⟩) hHeld ?_
          rotate_left
          · intro w hSw; (try dsimp only at hSw); go_simp
            with_reducible rfl
          refine wpAnyH_take (i := 4) (v := ?_) rfl (by kernel_rfl) (by kernel_rfl) (by kernel_rfl) (fun _ _ _ h => h) (Or.inl ⟨by rfl, ?_⟩) hHeld ?_
          rotate_left
          · intro w hSw; (try dsimp only at hSw); go_simp
            with_reducible rfl
          refine wpAnyH_take (i := 5) (v := ?_) rfl (by kernel_rfl) (by kernel_rfl) (by kernel_rfl) (fun _ _ _ h => h) (Or.inl ⟨by rfl, ?_⟩) hHeld ?_
          rotate_left
          · intro w hSw; (try dsimp only at hSw); go_simp
            with_reducible rfl
          refine wpAnyH_take (i := 7) (v := ?_) rfl (by kernel_rfl) (by kernel_rfl) (by kernel_rfl) (fun _ _ _ h => h) (Or.inl ⟨by rfl, ?_⟩) hHeld ?_
          rotate_left
          · intro w hSw; (try dsimp only at hSw); go_simp
            with_reducible rfl
          refine wpAnyH_ready (rs := [6]) (by kernel_rfl) (by simp) ?_
          refine AllReadyH.cons rfl (fun K hK => ?_) AllReadyH.nil
          go_simp
          go_at_call 33
          refine Hcall6.out.mono ?_
          rintro e w3 ⟨rfl, hb3⟩
          have S3 := Lib.hid (S2.out.call ((Below.refl _ _).drew.trans (hb3.mono (by simp))))
          have X3 := Lib.hid (below_cells X2.out ((Below.refl _ _).drew.trans (hb3.mono (by simp))))
          dsimp only
          refine hK.out _ _ (HSF.out _ _ S3.out X3.out (Below.refl _ _)) (fun hHeld => ?_)
          refine wpAnyH_ready (rs := [8]) (by kernel_rfl) (by simp) ?_
          refine AllReadyH.cons rfl (fun K hK => ?_) AllReadyH.nil
          go_simp
          go_at_call 53
          refine (fail_yes f1 4 _).mono ?_
          rintro e wb ⟨rfl, hbb⟩
          have hb2 := S3.out.hb.trans (hbb.mono S3.out.hb.size)
          unfold wrongE
          dsimp only
          refine ⟨rfl, ?_⟩
          show AddR B gt (addB names T ⟨false, fs⟩) w _ _
          rw [HE.out]
          exact ⟨rfl, hb2⟩
        | false =>
          have HA6 : Hid (¬ (firstF ⟨false, fs⟩).text ∈ T.classes.map ClassD.name) := by
            show ¬ _
            rw [HF1.out]
            intro hm
            obtain ⟨x, hx, e⟩ := List.mem_map.1 hm
            have := List.any_eq_false.1 hb6 x hx
            rw [e] at this
            simp at this
          rw [hb6] at Hcall6
          clear hb6
          refine wp_region_held_drew (S := fun W => W.cell? ⟨gt, 0, none⟩ = some (.slice A T.classes.length c) ∧ W.cell? ⟨g9, 0, none⟩ = some (.string ⟨f1.2.text.toArray⟩) ∧ W.cell? ⟨g7, 0, none⟩ = some (.string ⟨f1.1.toArray⟩) ∧ W.cell? ⟨g7, 1, none⟩ = some (.string ⟨f1.2.text.toArray⟩) ∧ W.cell? ⟨g7, 2, none⟩ = some (.int .i64 (f1.2.at_ : Int))) (by kernel_rfl) (HSF.out _ _ S2.out X2.out (Below.refl _ _).drew) (fun hHeld => ?_)
          refine wpAnyH_take (i := 0) (v := ?_) rfl (by kernel_rfl) (by kernel_rfl) (by kernel_rfl) (fun _ _ _ h => h) (Or.inl ⟨by rfl, ?_⟩) hHeld ?_
          rotate_left
          · intro w hSw; (try dsimp only at hSw); go_simp
            with_reducible rfl
          refine wpAnyH_take (i := 1) (v := ?_) rfl (by kernel_rfl) (by kernel_rfl) (by kernel_rfl) (fun _ _ _ h => h) (Or.inl ⟨by rfl, ?_⟩) hHeld ?_
          rotate_left
          · intro w hSw; (try dsimp only at hSw); go_simp
            with_reducible rfl
          refine wpAnyH_take (i := 2) (v := ?_) rfl (by kernel_rfl) (by kernel_rfl) (by kernel_rfl) (fun _ _ _ h => h) (Or.inl ⟨by rfl, ?_⟩) hHeld ?_
          rotate_left
          · intro w hSw; (try dsimp only at hSw); go_simp
            with_reducible rfl
          refine wpAnyH_take (i := 3) (v := ?_) rfl (by kernel_rfl) (by kernel_rfl) (by kernel_rfl) (fun _ _ _ h => h) (Or.inl ⟨by rfl, ?_⟩) hHeld ?_
          rotate_left
          · intro w hSw; (try dsimp only at hSw); go_simp
            with_reducible rfl
          refine wpAnyH_take (i := 4) (v := ?_) rfl (by kernel_rfl) (by kernel_rfl) (by kernel_rfl) (fun _ _ _ h => h) (Or.inl ⟨by rfl, ?_⟩) hHeld ?_
          rotate_left
          · intro w hSw; (try dsimp only at hSw); go_simp
            with_reducible rfl
          refine wpAnyH_take (i := 5) (v := ?_) rfl (by kernel_rfl) (by kernel_rfl) (by kernel_rfl) (fun _ _ _ h => h) (Or.inl ⟨by rfl, ?_⟩) hHeld ?_
          rotate_left
          · intro w hSw; (try dsimp only at hSw); go_simp
            with_reducible rfl
          refine wpAnyH_take (i := 7) (v := ?_) rfl (by kernel_rfl) (by kernel_rfl) (by kernel_rfl) (fun _ _ _ h => h) (Or.inl ⟨by rfl, ?_⟩) hHeld ?_
          rotate_left
          · intro w hSw; (try dsimp only at hSw); go_simp
            with_reducible rfl
          refine wpAnyH_ready (rs := [6]) (by kernel_rfl) (by simp) ?_
          refine AllReadyH.cons rfl (fun K hK => ?_) AllReadyH.nil
          go_simp
          go_at_call 33
          refine Hcall6.out.mono ?_
          rintro e w3 ⟨rfl, hb3⟩
          have S3 := Lib.hid (S2.out.call ((Below.refl _ _).drew.trans (hb3.mono (by simp))))
          have X3 := Lib.hid (below_cells X2.out ((Below.refl _ _).drew.trans (hb3.mono (by simp))))
          dsimp only
          refine hK.out _ _ (HSF.out _ _ S3.out X3.out (Below.refl _ _)) (fun hHeld => ?_)
          refine wpAnyH_ready (rs := [8]) (by kernel_rfl) (by simp) ?_
          refine AllReadyH.cons rfl (fun K hK => ?_) AllReadyH.nil
          go_simp
          go_at_call 53
          refine (fail_no f1 4 _).mono ?_
          rintro e w4 ⟨rfl, hb4⟩
          have S4 := Lib.hid (S3.out.call hb4)
          have X4 := Lib.hid (below_cells X3.out hb4)
          dsimp only
          refine hK.out _ _ (HSF.out _ _ S4.out X4.out (Below.refl _ _)) (fun hHeld => ?_)
          refine wpAnyH_done (by kernel_rfl) ?_ _
          clear hK K hHeld hb4 hb3 S3 X3 S2 X2 Hcall6
          obtain ⟨z0, -⟩ := cell_at S4.out.x0 0 (u := .bool false) rfl
          obtain ⟨z1, -⟩ := cell_at S4.out.x0 1 (u := .slice (some ⟨b, o, none⟩) (N + 1) cx) rfl
          have hv := values_any false fs (some ⟨b, o, none⟩) cx w4 (by omega) (Hg.out.below S4.out.hb) ((Hs.out.below S4.out.hb).more S4.out.hb.size) Hf
          rw [hN] at hv
          have Hv := Lib.hid hv
          clear hv
          go_wp2_with fail
          refine Hv.out.mono ?_
          rintro e w5 ⟨gm, rfl, hmap, hb5, -⟩
          have S5 := Lib.hid (S4.out.call hb5)
          have X5 := Lib.hid (below_cells X4.out hb5)
          have M5 := Lib.hid hmap
          clear hmap hb5 S4 X4 z0 z1
          obtain ⟨z1, -⟩ := cell_at S5.out.x0 1 (u := .slice (some ⟨b, o, none⟩) (N + 1) cx) rfl
          have hcx1 : ¬ cx = 1 := by omega
          have hcx2 : ¬ 1 = cx := by omega
          go_wp2_with fail
          go_loopg [84] N (fun g s84 wr => ∃ k : Nat, s84 = .int .i64 (k : Int) ∧ g = N - k ∧ k ≤ N ∧ Hid (AS w false (N + 1) (some ⟨b, o, none⟩) cx f1 fl w.heap.size g7 g8 wr) ∧ Hid (wr.heap[g9]? = some (.cells #[.string ⟨f1.2.text.toArray⟩] 9)) ∧ Hid (MapIs wr gm fs) ∧ Hid (fieldsBad fs (fs.drop 1) = fieldsBad fs (fs.drop (k + 1))))
          case atStart => exact ⟨0, rfl, rfl, Nat.zero_le _, S5, X5, M5, rfl⟩
          case round =>
            obtain ⟨k, rfl, hgk, hk, SL, XL, ML, HFB⟩ := hrel
            have Hgk := Lib.hid hgk
            clear hgk z1
            by_cases hlt : k < N
            · have hI1 : (0 : Int) ≤ (k : Int) := by omega
              have hI2 : (k : Int) < (N : Int) := by omega
              obtain ⟨f, hf⟩ : ∃ x, fs[k + 1]? = some x := ⟨_, List.getElem?_eq_getElem (by omega)⟩
              obtain ⟨b3, o3, hA3, -, hc3⟩ := sl_at (f := fieldCs) (s := 3) (fun _ => rfl) Hs.out hf (by omega)
              injection hA3 with hA3
              injection hA3 with e1 e2 _
              subst e1 e2
              have k0 := (SL.out.hb.cell (p := ⟨b, o + ((k + 1) * 3 + 0), none⟩) hb).trans (hc3 0 _ rfl)
              have k1 := (SL.out.hb.cell (p := ⟨b, o + ((k + 1) * 3 + 1), none⟩) hb).trans (hc3 1 _ rfl)
              have k2 := (SL.out.hb.cell (p := ⟨b, o + ((k + 1) * 3 + 2), none⟩) hb).trans (hc3 2 _ rfl)
              rw [show o + ((k + 1) * 3 + 0) = o + 3 + k * 3 by omega] at k0
              rw [show o + ((k + 1) * 3 + 1) = o + 3 + k * 3 + 1 by omega] at k1
              rw [show o + ((k + 1) * 3 + 2) = o + 3 + k * 3 + 2 by omega] at k2
              unfold strV at k0 k1
              have hfo := Hf.out f (List.mem_of_getElem? hf)
              have hfw : f.1.length ≤ maxLen := by have := hfo.2.2; unfold maxLen; omega
              have hfl2 : f.2.text.length ≤ 2000 := hfo.2.1
              have hdr : fs.drop (k + 1) = f :: fs.drop (k + 1 + 1) := by
                obtain ⟨h1, h3⟩ := List.getElem?_eq_some_iff.1 hf
                rw [List.drop_eq_getElem_cons h1, h3]
              have hbA : Below wr.heap.size wr (wr.alloc (.cells #[.string ⟨f.1.toArray⟩, .string ⟨f.2.text.toArray⟩, .int .i64 (f.2.at_ : Int)] 65)) := (Below.refl _ _).alloc (Nat.le_refl _) _
              have F0 : Hid ((wr.alloc (.cells #[.string ⟨f.1.toArray⟩, .string ⟨f.2.text.toArray⟩, .int .i64 (f.2.at_ : Int)] 65)).heap[wr.heap.size]? = some (.cells #[.string ⟨f.1.toArray⟩, .string ⟨f.2.text.toArray⟩, .int .i64 (f.2.at_ : Int)] 65)) := heap_new _ _
              have S0 := Lib.hid (SL.out.call hbA)
              have X0 := Lib.hid (below_cells XL.out hbA)
              have M0 := Lib.hid (ML.out.below hbA)
              have hlk := M0.out.look_ok Hd.out (n := f.1) hfw
              have HLB : Hid (∀ W, MapIs W gm fs → (Instr.lookup 108 (.map (some gm)) (.string ⟨#[98, 117, 114, 115, 116]⟩) false).run Tryz.prog W = .ok (.int .i64 (nF kBurst fs : Nat)) W) := fun W hM => hM.look Hd.out (n := kBurst) (by decide)
              have HSG : Hid (∀ W W' : World, W.heap[wr.heap.size]? = some (.cells #[.string ⟨f.1.toArray⟩, .string ⟨f.2.text.toArray⟩, .int .i64 (f.2.at_ : Int)] 65) → Below W.heap.size W W' → W'.cell? ⟨wr.heap.size, 0, none⟩ = some (.string ⟨f.1.toArray⟩) ∧ W'.cell? ⟨wr.heap.size, 1, none⟩ = some (.string ⟨f.2.text.toArray⟩) ∧ W'.cell? ⟨wr.heap.size, 2, none⟩ = some (.int .i64 (f.2.at_ : Int))) := fun W W' hX hb => by
                have h7 := below_cells hX hb
                exact ⟨(cell_at h7 0 rfl).1, (cell_at h7 1 rfl).1, (cell_at h7 2 rfl).1⟩
              have HF2 := Lib.hid HFB.out
              rw [hdr] at HF2
              clear hc3 hf hdr hfo hbA SL XL ML HFB
              have HEB : Hid (∀ p e, fieldsBad fs (fs.drop 1) = some (p, e) → addB names T ⟨false, fs⟩ = .bad p e) := fun p e h => by
                unfold addB
                rw [if_neg (show ¬ (⟨false, fs⟩ : Item).tenant = true from Bool.false_ne_true), if_neg HA5.out, if_neg HA6.out]
                show (match fieldsBad fs (fs.drop 1) with | some (p, e) => BR.bad p e | none => _) = _
                rw [h]
              
              cases hno : numOfF f.1 fs with
              | none =>
                have hnz : nF f.1 fs = 0 := by unfold nF; rw [hno]; rfl
                rw [hno, hnz] at hlk
                have hlk : (Instr.lookup 108 (.map (some gm)) (.string ⟨f.1.toArray⟩) true).run Tryz.prog (wr.alloc (.cells #[.string ⟨f.1.toArray⟩, .string ⟨f.2.text.toArray⟩, .int .i64 (f.2.at_ : Int)] 65)) = .ok (.tuple #[.int .i64 0, .bool false]) _ := hlk
                have HF3 : Hid (fieldsBad fs (f :: fs.drop (k + 1 + 1)) = if 12 < f.2.text.length then some (f.2.at_, 2) else fieldsBad fs (fs.drop (k + 1 + 1))) := by
                  show _ = _
                  rw [fieldsBad, hno]
                clear hno hnz
                by_cases h12 : 12 < f.2.text.length
                · 
                  have hI3 : (12 : Int) < (f.2.text.length : Int) := by omega
                  have HE : Hid (addB names T ⟨false, fs⟩ = .bad f.2.at_ 2) := HEB.out _ _ (by rw [HF2.out, HF3.out, if_pos h12])
                  go_wp2_with fail
                  refine (fail_yes f 2 _).mono ?_
                  rintro e wb ⟨rfl, hbb⟩
                  have hb2 := S0.out.hb.trans (hbb.mono S0.out.hb.size)
                  unfold wrongE
                  go_wp2_with fail
                  refine ⟨rfl, ?_⟩
                  show AddR B gt (addB names T ⟨false, fs⟩) w _ _
                  rw [HE.out]
                  exact ⟨rfl, hb2⟩
                · 
                  have hI3 : ¬ (12 : Int) < (f.2.text.length : Int) := by omega
                  have hI4 : (f.2.text.length : Int) ≤ 12 := by omega
                  have HF4 : Hid (fieldsBad fs (fs.drop 1) = fieldsBad fs (fs.drop (k + 1 + 1))) := by show _ = _; rw [HF2.out, HF3.out, if_neg h12]
                  go_wp2_with fail
                  refine (fail_no f 2 _).mono ?_
                  rintro e wa ⟨rfl, hba⟩
                  have S1 := Lib.hid (S0.out.call hba)
                  have X1 := Lib.hid (below_cells X0.out hba)
                  have M1 := Lib.hid (M0.out.below hba)
                  have F1 := Lib.hid (below_cells F0.out hba)
                  clear hba hlk
                  go_upto_region 15 with fail
                  refine wp_region_held_drew (S := fun W => W.cell? ⟨wr.heap.size, 0, none⟩ = some (.string ⟨f.1.toArray⟩) ∧ W.cell? ⟨wr.heap.size, 1, none⟩ = some (.string ⟨f.2.text.toArray⟩) ∧ W.cell? ⟨wr.heap.size, 2, none⟩ = some (.int .i64 (f.2.at_ : Int))) (by kernel_rfl) (HSG.out _ _ F1.out (Below.refl _ _).drew) (fun hHeld => ?_)
                  refine wpAnyH_take (i := 0) (v := ?_) rfl (by kernel_rfl) (by kernel_rfl) (by kernel_rfl) (fun _ _ _ h => h) (Or.inl ⟨by rfl, ?_⟩) hHeld ?_
                  rotate_left
                  · intro w hSw; (try dsimp only at hSw); go_simp
                    with_reducible rfl
                  refine wpAnyH_take (i := 1) (v := ?_) rfl (by kernel_rfl) (by kernel_rfl) (by kernel_rfl) (fun _ _ _ h => h) (Or.inl ⟨by rfl, ?_⟩) hHeld ?_
                  rotate_left
                  · intro w hSw; (try dsimp only at hSw); go_simp
                    with_reducible rfl
                  refine wpAnyH_take (i := 2) (v := ?_) rfl (by kernel_rfl) (by kernel_rfl) (by kernel_rfl) (fun _ _ _ h => h) (Or.inl ⟨by rfl, ?_⟩) hHeld ?_
                  rotate_left
                  · intro w hSw; (try dsimp only at hSw); go_simp
                    with_reducible rfl
                  refine wpAnyH_take (i := 3) (v := undef) rfl (by kernel_rfl) (by kernel_rfl) (by kernel_rfl) (fun _ _ _ h => h) (Or.inr ⟨by kernel_rfl, rfl⟩) hHeld ?_
                  refine wpAnyH_take (i := 4) (v := undef) rfl (by kernel_rfl) (by kernel_rfl) (by kernel_rfl) (fun _ _ _ h => h) (Or.inr ⟨by kernel_rfl, rfl⟩) hHeld ?_
                  refine wpAnyH_take (i := 5) (v := undef) rfl (by kernel_rfl) (by kernel_rfl) (by kernel_rfl) (fun _ _ _ h => h) (Or.inr ⟨by kernel_rfl, rfl⟩) hHeld ?_
                  refine wpAnyH_take (i := 6) (v := undef) rfl (by kernel_rfl) (by kernel_rfl) (by kernel_rfl) (fun _ _ _ h => h) (Or.inr ⟨by kernel_rfl, rfl⟩) hHeld ?_
                  refine wpAnyH_take (i := 7) (v := undef) rfl (by kernel_rfl) (by kernel_rfl) (by kernel_rfl) (fun _ _ _ h => h) (Or.inr ⟨by kernel_rfl, rfl⟩) hHeld ?_
                  refine wpAnyH_take (i := 8) (v := ?_) rfl (by kernel_rfl) (by kernel_rfl) (by kernel_rfl) (fun _ _ _ h => h) (Or.inl ⟨by rfl, ?_⟩) hHeld ?_
                  rotate_left
                  · intro w hSw; (try dsimp only at hSw); go_simp
                    with_reducible rfl
                  refine wpAnyH_take (i := 9) (v := ?_) rfl (by kernel_rfl) (by kernel_rfl) (by kernel_rfl) (fun _ _ _ h => h) (Or.inl ⟨by rfl, ?_⟩) hHeld ?_
                  rotate_left
                  · intro w hSw; (try dsimp only at hSw); go_simp
                    with_reducible rfl
                  refine wpAnyH_ready (rs := [10]) (by kernel_rfl) (by simp) ?_
                  refine AllReadyH.cons rfl (fun K hK => ?_) AllReadyH.nil
                  go_simp
                  go_at_call 53
                  refine (fail_no f 1 _).mono ?_
                  rintro e w1 ⟨rfl, hb1⟩
                  have S2 := Lib.hid (S1.out.call ((Below.refl _ _).drew.trans (hb1.mono (by simp))))
                  have X2 := Lib.hid (below_cells X1.out ((Below.refl _ _).drew.trans (hb1.mono (by simp))))
                  have M2 := Lib.hid (M1.out.below ((Below.refl _ _).drew.trans (hb1.mono (by simp))))
                  have F2 := Lib.hid (below_cells F1.out ((Below.refl _ _).drew.trans (hb1.mono (by simp))))
                  dsimp only
                  refine hK.out _ _ (HSG.out _ _ F2.out (Below.refl _ _)) (fun hHeld => ?_)
                  refine wpAnyH_done (by kernel_rfl) ?_ _
                  clear hK K hHeld hb1
                  obtain ⟨m0, m1, m2⟩ := HSG.out _ _ F2.out (Below.refl _ _)
                  cases hq : f.1 == kRank with
                  | true =>
                    have hq2 : (f.1 == [114, 97, 110, 107]) = true := hq
                    have hlb := HLB.out _ M2.out
                    obtain ⟨v, hv⟩ : ∃ v, v = nF kBurst fs := ⟨_, rfl⟩
                    rw [← hv] at hlb
                    by_cases hv0 : v = 0
                    · have hvb : ((v : Int) == 0) = true := by rw [beq_iff_eq]; omega
                      clear hq
                      go_wp2_with fail
                      refine (fail_no f 1 _).mono ?_
                      rintro e wa ⟨rfl, hba⟩
                      have S3 := Lib.hid (S2.out.call hba)
                      have X3 := Lib.hid (below_cells X2.out hba)
                      have M3 := Lib.hid (M2.out.below hba)
                      have F3 := Lib.hid (below_cells F2.out hba)
                      clear hba
                      go_wp2_with fail
                      go_roundg (N - (k + 1))
                      case measure => rw [Hgk.out]; omega
                      case rel => exact ⟨k + 1, by go_num, rfl, by omega, S3, X3, M3, HF4⟩
                    · have hvb : ((v : Int) == 0) = false := by rw [beq_eq_false_iff_ne]; omega
                      clear hq
                      go_wp2_with fail
                      refine (fail_no f 1 _).mono ?_
                      rintro e wa ⟨rfl, hba⟩
                      have S3 := Lib.hid (S2.out.call hba)
                      have X3 := Lib.hid (below_cells X2.out hba)
                      have M3 := Lib.hid (M2.out.below hba)
                      have F3 := Lib.hid (below_cells F2.out hba)
                      clear hba
                      go_wp2_with fail
                      go_roundg (N - (k + 1))
                      case measure => rw [Hgk.out]; omega
                      case rel => exact ⟨k + 1, by go_num, rfl, by omega, S3, X3, M3, HF4⟩
                  | false =>
                    have hq2 : (f.1 == [114, 97, 110, 107]) = false := hq
                    clear hq
                    go_wp2_with fail
                    refine (fail_no f 1 _).mono ?_
                    rintro e wa ⟨rfl, hba⟩
                    have S3 := Lib.hid (S2.out.call hba)
                    have X3 := Lib.hid (below_cells X2.out hba)
                    have M3 := Lib.hid (M2.out.below hba)
                    have F3 := Lib.hid (below_cells F2.out hba)
                    clear hba
                    go_wp2_with fail
                    go_roundg (N - (k + 1))
                    case measure => rw [Hgk.out]; omega
                    case rel => exact ⟨k + 1, by go_num, rfl, by omega, S3, X3, M3, HF4⟩
              | some nn =>
                have hnz : nF f.1 fs = nn := by unfold nF; rw [hno]; rfl
                rw [hno, hnz] at hlk
                have hlk : (Instr.lookup 108 (.map (some gm)) (.string ⟨f.1.toArray⟩) true).run Tryz.prog (wr.alloc (.cells #[.string ⟨f.1.toArray⟩, .string ⟨f.2.text.toArray⟩, .int .i64 (f.2.at_ : Int)] 65)) = .ok (.tuple #[.int .i64 (nn : Nat), .bool true]) _ := hlk
                have HF3 : Hid (fieldsBad fs (f :: fs.drop (k + 1 + 1)) = if permB f.1 nn = false then some (f.2.at_, 1) else if f.1 = kRank ∧ nF kBurst fs = 0 ∧ 0 < nn then some (f.2.at_, 1) else fieldsBad fs (fs.drop (k + 1 + 1))) := by
                  show _ = _
                  rw [fieldsBad, hno]
                clear hno hnz
                go_wp2_with fail
                refine (fail_no f 2 _).mono ?_
                rintro e wa ⟨rfl, hba⟩
                have S1 := Lib.hid (S0.out.call hba)
                have X1 := Lib.hid (below_cells X0.out hba)
                have M1 := Lib.hid (M0.out.below hba)
                have F1 := Lib.hid (below_cells F0.out hba)
                clear hba hlk
                have hperm := permitted_any f.1 nn wa.drew (show Hid (Gl wa.drew) from (Hg.out.below S1.out.hb).below ((Below.refl _ _).drew))
                go_upto_region 15 with fail
                cases hp : permB f.1 nn with
                | false =>
                  
                  have HE : Hid (addB names T ⟨false, fs⟩ = .bad f.2.at_ 1) := HEB.out _ _ (by rw [HF2.out, HF3.out, if_pos hp])
                  rw [hp] at hperm
                  have Hperm := Lib.hid hperm
                  clear hperm hp
                  refine wp_region_held_drew (S := fun W => W.cell? ⟨wr.heap.size, 0, none⟩ = some (.string ⟨f.1.toArray⟩) ∧ W.cell? ⟨wr.heap.size, 1, none⟩ = some (.string ⟨f.2.text.toArray⟩) ∧ W.cell? ⟨wr.heap.size, 2, none⟩ = some (.int .i64 (f.2.at_ : Int))) (by kernel_rfl) (HSG.out _ _ F1.out (Below.refl _ _).drew) (fun hHeld => ?_)
                  refine wpAnyH_take (i := 0) (v := ?_) rfl (by kernel_rfl) (by kernel_rfl) (by kernel_rfl) (fun _ _ _ h => h) (Or.inl ⟨by rfl, ?_⟩) hHeld ?_
                  rotate_left
                  · intro w hSw; (try dsimp only at hSw); go_simp
                    with_reducible rfl
                  refine wpAnyH_take (i := 1) (v := ?_) rfl (by kernel_rfl) (by kernel_rfl) (by kernel_rfl) (fun _ _ _ h => h) (Or.inl ⟨by rfl, ?_⟩) hHeld ?_
                  rotate_left
                  · intro w hSw; (try dsimp only at hSw); go_simp
                    with_reducible rfl
                  refine wpAnyH_take (i := 2) (v := ?_) rfl (by kernel_rfl) (by kernel_rfl) (by kernel_rfl) (fun _ _ _ h => h) (Or.inl ⟨by rfl, ?_⟩) hHeld ?_
                  rotate_left
                  · intro w hSw; (try dsimp only at hSw); go_simp
                    with_reducible rfl
                  refine wpAnyH_take (i := 3) (v := ?_) rfl (by kernel_rfl) (by kernel_rfl) (by kernel_rfl) (fun _ _ _ h => h) (Or.inl ⟨by kernel_rfl, ?_⟩) hHeld ?_
                  rotate_left
                  · intro w hSw; (try dsimp only at hSw); go_simp
                    with_reducible rfl
                  refine wpAnyH_take (i := 4) (v := ?_) rfl (by kernel_rfl) (by kernel_rfl) (by kernel_rfl) (fun _ _ _ h => h) (Or.inl ⟨by kernel_rfl, ?_⟩) hHeld ?_
                  rotate_left
                  · intro w hSw; (try dsimp only at hSw); go_simp
                    with_reducible rfl
                  refine wpAnyH_take (i := 5) (v := ?_) rfl (by kernel_rfl) (by kernel_rfl) (by kernel_rfl) (fun _ _ _ h => h) (Or.inl ⟨by kernel_rfl, ?_⟩) hHeld ?_
                  rotate_left
                  · intro w hSw; (try dsimp only at hSw); go_simp
                    with_reducible rfl
                  refine wpAnyH_take (i := 9) (v := ?_) rfl (by kernel_rfl) (by kernel_rfl) (by kernel_rfl) (fun _ _ _ h => h) (Or.inl ⟨by rfl, ?_⟩) hHeld ?_
                  rotate_left
                  · intro w hSw; (try dsimp only at hSw); go_simp
                    with_reducible rfl
                  refine wpAnyH_ready (rs := [6]) (by kernel_rfl) (by simp) ?_
                  refine AllReadyH.cons rfl (fun K hK => ?_) AllReadyH.nil
                  go_simp
                  go_at_call 34
                  refine Hperm.out.mono ?_
                  rintro e wq ⟨rfl, hbq⟩
                  have S2 := Lib.hid (S1.out.call ((Below.refl _ _).drew.trans (hbq.mono (by simp))))
                  have X2 := Lib.hid (below_cells X1.out ((Below.refl _ _).drew.trans (hbq.mono (by simp))))
                  have M2 := Lib.hid (M1.out.below ((Below.refl _ _).drew.trans (hbq.mono (by simp))))
                  have F2 := Lib.hid (below_cells F1.out ((Below.refl _ _).drew.trans (hbq.mono (by simp))))
                  dsimp only
                  refine hK.out _ _ (HSG.out _ _ F2.out (Below.refl _ _)) (fun hHeld => ?_)
                  refine wpAnyH_take (i := 7) (v := ?_) rfl (by kernel_rfl) (by kernel_rfl) (by kernel_rfl) (fun _ _ _ h => h) (Or.inl ⟨by kernel_rfl, ?_⟩) hHeld ?_
                  rotate_left
                  · intro w hSw; (try dsimp only at hSw); go_simp
                    with_reducible rfl
                  refine wpAnyH_take (i := 8) (v := ?_) rfl (by kernel_rfl) (by kernel_rfl) (by kernel_rfl) (fun _ _ _ h => h) (Or.inl ⟨by rfl, ?_⟩) hHeld ?_
                  rotate_left
                  · intro w hSw; (try dsimp only at hSw); go_simp
                    with_reducible rfl
                  refine wpAnyH_ready (rs := [10]) (by kernel_rfl) (by simp) ?_
                  refine AllReadyH.cons rfl (fun K hK => ?_) AllReadyH.nil
                  go_simp
                  go_at_call 53
                  refine (fail_yes f 1 _).mono ?_
                  rintro e wb ⟨rfl, hbb⟩
                  have hb2 := S2.out.hb.trans (hbb.mono S2.out.hb.size)
                  unfold wrongE
                  dsimp only
                  refine ⟨rfl, ?_⟩
                  show AddR B gt (addB names T ⟨false, fs⟩) w _ _
                  rw [HE.out]
                  exact ⟨rfl, hb2⟩
                | true =>
                  have HF4 : Hid (fieldsBad fs (fs.drop 1) = if f.1 = kRank ∧ nF kBurst fs = 0 ∧ 0 < nn then some (f.2.at_, 1) else fieldsBad fs (fs.drop (k + 1 + 1))) := by show _ = _; rw [HF2.out, HF3.out, hp, if_neg (by simp)]
                  rw [hp] at hperm
                  have Hperm := Lib.hid hperm
                  clear hperm hp HF2 HF3
                  refine wp_region_held_drew (S := fun W => W.cell? ⟨wr.heap.size, 0, none⟩ = some (.string ⟨f.1.toArray⟩) ∧ W.cell? ⟨wr.heap.size, 1, none⟩ = some (.string ⟨f.2.text.toArray⟩) ∧ W.cell? ⟨wr.heap.size, 2, none⟩ = some (.int .i64 (f.2.at_ : Int))) (by kernel_rfl) (HSG.out _ _ F1.out (Below.refl _ _).drew) (fun hHeld => ?_)
                  refine wpAnyH_take (i := 0) (v := ?_) rfl (by kernel_rfl) (by kernel_rfl) (by kernel_rfl) (fun _ _ _ h => h) (Or.inl ⟨by rfl, ?_⟩) hHeld ?_
                  rotate_left
                  · intro w hSw; (try dsimp only at hSw); go_simp
                    with_reducible rfl
                  refine wpAnyH_take (i := 1) (v := ?_) rfl (by kernel_rfl) (by kernel_rfl) (by kernel_rfl) (fun _ _ _ h => h) (Or.inl ⟨by rfl, ?_⟩) hHeld ?_
                  rotate_left
                  · intro w hSw; (try dsimp only at hSw); go_simp
                    with_reducible rfl
                  refine wpAnyH_take (i := 2) (v := ?_) rfl (by kernel_rfl) (by kernel_rfl) (by kernel_rfl) (fun _ _ _ h => h) (Or.inl ⟨by rfl, ?_⟩) hHeld ?_
                  rotate_left
                  · intro w hSw; (try dsimp only at hSw); go_simp
                    with_reducible rfl
                  refine wpAnyH_take (i := 3) (v := ?_) rfl (by kernel_rfl) (by kernel_rfl) (by kernel_rfl) (fun _ _ _ h => h) (Or.inl ⟨by kernel_rfl, ?_⟩) hHeld ?_
                  rotate_left
                  · intro w hSw; (try dsimp only at hSw); go_simp
                    with_reducible rfl
                  refine wpAnyH_take (i := 4) (v := ?_) rfl (by kernel_rfl) (by kernel_rfl) (by kernel_rfl) (fun _ _ _ h => h) (Or.inl ⟨by kernel_rfl, ?_⟩) hHeld ?_
                  rotate_left
                  · intro w hSw; (try dsimp only at hSw); go_simp
                    with_reducible rfl
                  refine wpAnyH_take (i := 5) (v := ?_) rfl (by kernel_rfl) (by kernel_rfl) (by kernel_rfl) (fun _ _ _ h => h) (Or.inl ⟨by kernel_rfl, ?_⟩) hHeld ?_
                  rotate_left
                  · intro w hSw; (try dsimp only at hSw); go_simp
                    with_reducible rfl
                  refine wpAnyH_take (i := 9) (v := ?_) rfl (by kernel_rfl) (by kernel_rfl) (by kernel_rfl) (fun _ _ _ h => h) (Or.inl ⟨by rfl, ?_⟩) hHeld ?_
                  rotate_left
                  · intro w hSw; (try dsimp only at hSw); go_simp
                    with_reducible rfl
                  refine wpAnyH_ready (rs := [6]) (by kernel_rfl) (by simp) ?_
                  refine AllReadyH.cons rfl (fun K hK => ?_) AllReadyH.nil
                  go_simp
                  go_at_call 34
                  refine Hperm.out.mono ?_
                  rintro e wq ⟨rfl, hbq⟩
                  have S2 := Lib.hid (S1.out.call ((Below.refl _ _).drew.trans (hbq.mono (by simp))))
                  have X2 := Lib.hid (below_cells X1.out ((Below.refl _ _).drew.trans (hbq.mono (by simp))))
                  have M2 := Lib.hid (M1.out.below ((Below.refl _ _).drew.trans (hbq.mono (by simp))))
                  have F2 := Lib.hid (below_cells F1.out ((Below.refl _ _).drew.trans (hbq.mono (by simp))))
                  dsimp only
                  refine hK.out _ _ (HSG.out _ _ F2.out (Below.refl _ _)) (fun hHeld => ?_)
                  refine wpAnyH_take (i := 7) (v := ?_) rfl (by kernel_rfl) (by kernel_rfl) (by kernel_rfl) (fun _ _ _ h => h) (Or.inl ⟨by kernel_rfl, ?_⟩) hHeld ?_
                  rotate_left
                  · intro w hSw; (try dsimp only at hSw); go_simp
                    with_reducible rfl
                  refine wpAnyH_take (i := 8) (v := ?_) rfl (by kernel_rfl) (by kernel_rfl) (by kernel_rfl) (fun _ _ _ h => h) (Or.inl ⟨by rfl, ?_⟩) hHeld ?_
                  rotate_left
                  · intro w hSw; (try dsimp only at hSw); go_simp
                    with_reducible rfl
                  refine wpAnyH_ready (rs := [10]) (by kernel_rfl) (by simp) ?_
                  refine AllReadyH.cons rfl (fun K hK => ?_) AllReadyH.nil
                  go_simp
                  go_at_call 53
                  refine (fail_no f 1 _).mono ?_
                  rintro e w1 ⟨rfl, hb1⟩
                  have S3 := Lib.hid (S2.out.call hb1)
                  have X3 := Lib.hid (below_cells X2.out hb1)
                  have M3 := Lib.hid (M2.out.below hb1)
                  have F3 := Lib.hid (below_cells F2.out hb1)
                  dsimp only
                  refine hK.out _ _ (HSG.out _ _ F3.out (Below.refl _ _)) (fun hHeld => ?_)
                  refine wpAnyH_done (by kernel_rfl) ?_ _
                  clear hK K hHeld hb1
                  obtain ⟨m0, m1, m2⟩ := HSG.out _ _ F3.out (Below.refl _ _)
                  cases hq : f.1 == kRank with
                  | false =>
                    
                    have hq2 : (f.1 == [114, 97, 110, 107]) = false := hq
                    have HF5 : Hid (fieldsBad fs (fs.drop 1) = fieldsBad fs (fs.drop (k + 1 + 1))) := by show _ = _; rw [HF4.out, if_neg (fun h => by rw [h.1] at hq; simp at hq)]
                    have HF4 := HF5
                    clear hq
                    go_wp2_with fail
                    refine (fail_no f 1 _).mono ?_
                    rintro e wa ⟨rfl, hba⟩
                    have S4 := Lib.hid (S3.out.call hba)
                    have X4 := Lib.hid (below_cells X3.out hba)
                    have M4 := Lib.hid (M3.out.below hba)
                    have F4 := Lib.hid (below_cells F3.out hba)
                    clear hba
                    go_wp2_with fail
                    go_roundg (N - (k + 1))
                    case measure => rw [Hgk.out]; omega
                    case rel => exact ⟨k + 1, by go_num, rfl, by omega, S4, X4, M4, HF4⟩
                  | true =>
                    have hq2 : (f.1 == [114, 97, 110, 107]) = true := hq
                    have hqe : f.1 = kRank := eq_of_beq hq
                    have hlb := HLB.out _ M3.out
                    obtain ⟨v, hv⟩ : ∃ v, v = nF kBurst fs := ⟨_, rfl⟩
                    rw [← hv] at hlb HF4
                    by_cases hv0 : v = 0
                    · have hvb : ((v : Int) == 0) = true := by rw [beq_iff_eq]; omega
                      by_cases hn0 : 0 < nn
                      · have hnI : (0 : Int) < (nn : Int) := by omega
                        have HE : Hid (addB names T ⟨false, fs⟩ = .bad f.2.at_ 1) := HEB.out _ _ (by rw [HF4.out, if_pos ⟨hqe, hv0, hn0⟩])
                        clear hq hqe
                        go_wp2_with fail
                        refine (fail_yes f 1 _).mono ?_
                        rintro e wb ⟨rfl, hbb⟩
                        have hb2 := S3.out.hb.trans (hbb.mono S3.out.hb.size)
                        unfold wrongE
                        go_wp2_with fail
                        refine ⟨rfl, ?_⟩
                        show AddR B gt (addB names T ⟨false, fs⟩) w _ _
                        rw [HE.out]
                        exact ⟨rfl, hb2⟩
                      · have hnI : ¬ (0 : Int) < (nn : Int) := by omega
                        have hnI2 : (nn : Int) ≤ (0 : Int) := by omega
                        have HF5 : Hid (fieldsBad fs (fs.drop 1) = fieldsBad fs (fs.drop (k + 1 + 1))) := by show _ = _; rw [HF4.out, if_neg (fun h => hn0 h.2.2)]
                        have HF4 := HF5
                        clear hq hqe
                        go_wp2_with fail
                        refine (fail_no f 1 _).mono ?_
                        rintro e wa ⟨rfl, hba⟩
                        have S4 := Lib.hid (S3.out.call hba)
                        have X4 := Lib.hid (below_cells X3.out hba)
                        have M4 := Lib.hid (M3.out.below hba)
                        have F4 := Lib.hid (below_cells F3.out hba)
                        clear hba
                        go_wp2_with fail
                        go_roundg (N - (k + 1))
                        case measure => rw [Hgk.out]; omega
                        case rel => exact ⟨k + 1, by go_num, rfl, by omega, S4, X4, M4, HF4⟩
                    · have hvb : ((v : Int) == 0) = false := by rw [beq_eq_false_iff_ne]; omega
                      have HF5 : Hid (fieldsBad fs (fs.drop 1) = fieldsBad fs (fs.drop (k + 1 + 1))) := by show _ = _; rw [HF4.out, if_neg (fun h => hv0 h.2.1)]
                      have HF4 := HF5
                      clear hq hqe
                      go_wp2_with fail
                      refine (fail_no f 1 _).mono ?_
                      rintro e wa ⟨rfl, hba⟩
                      have S4 := Lib.hid (S3.out.call hba)
                      have X4 := Lib.hid (below_cells X3.out hba)
                      have M4 := Lib.hid (M3.out.below hba)
                      have F4 := Lib.hid (below_cells F3.out hba)
                      clear hba
                      go_wp2_with fail
                      go_roundg (N - (k + 1))
                      case measure => rw [Hgk.out]; omega
                      case rel => exact ⟨k + 1, by go_num, rfl, by omega, S4, X4, M4, HF4⟩
              
            · have hke : k = N := by omega
              have hI3 : ¬ (k : Int) < (N : Int) := by omega
              have HFN : Hid (fieldsBad fs (fs.drop 1) = none) := by
                show _ = _
                rw [HFB.out, List.drop_of_length_le (by omega)]; rfl
              obtain ⟨z0, -⟩ := cell_at SL.out.x0 0 (u := .bool false) rfl
              clear HFB
              go_upto_region 21 with fail
              clear z0
              have hN1 : (1 : Int) < (N : Int) + 1 := by omega
              have HE : Hid (addB names T ⟨false, fs⟩ = .ok ⟨T.classes ++ [⟨f1.2.text, fs2.2.text, nF kLosses fs, nF kWhole fs⟩], T.contracts⟩) := by
                show _ = _
                unfold addB
                rw [if_neg (show ¬ (⟨false, fs⟩ : Item).tenant = true from Bool.false_ne_true), if_neg HA5.out, if_neg HA6.out]
                show (match fieldsBad fs (fs.drop 1) with | some (p, e) => BR.bad p e | none => _) = _
                rw [HFN.out]
                show BR.ok _ = _
                rw [HF1.out, HS2.out]
              refine wp_region_held_drew (S := fun W => (W.cell? ⟨g9, 0, none⟩ = some (.string ⟨f1.2.text.toArray⟩) ∧ (W.cell? ⟨w.heap.size, 1, none⟩ = some (.slice (some ⟨b, o, none⟩) (N + 1) cx) ∧ W.cell? ⟨b, o + 3 + 1, none⟩ = some (.string ⟨fs2.2.text.toArray⟩))) ∧ (Instr.lookup 108 (.map (some gm)) (.string ⟨#[108, 111, 115, 115, 101, 115]⟩) false).run Tryz.prog W = .ok (.int .i64 (nF kLosses fs : Nat)) W ∧ (Instr.lookup 108 (.map (some gm)) (.string ⟨#[119, 104, 111, 108, 101]⟩) false).run Tryz.prog W = .ok (.int .i64 (nF kWhole fs : Nat)) W) (by kernel_rfl) (⟨⟨(cell_at XL.out 0 rfl).1, (cell_at SL.out.x0 1 rfl).1, HC2.out _ ((KeepT.below SL.out.hb).trans (KeepT.drewN _ 1))⟩, (ML.out.below ((Below.refl _ _).drew)).look Hd.out (n := kLosses) (by decide), (ML.out.below ((Below.refl _ _).drew)).look Hd.out (n := kWhole) (by decide)⟩) (fun hHeld => ?_)
              have S9 : Hid (AS w false (N + 1) (some ⟨b, o, none⟩) cx f1 fl w.heap.size g7 g8 wr.drew) := SL.out.call ((Below.refl _ _).drew)
              have X9 : Hid (wr.drew.heap[g9]? = some (.cells #[.string ⟨f1.2.text.toArray⟩] 9)) := XL.out
              have M9 : Hid (MapIs wr.drew gm fs) := ML.out.below ((Below.refl _ _).drew)
              clear hHeld SL XL ML
              generalize wr.drew = Wd at *
              have HSH : Hid (∀ W : World, W.heap[g9]? = some (.cells #[.string ⟨f1.2.text.toArray⟩] 9) → W.heap[w.heap.size]? = some (.cells #[.bool false, .slice (some ⟨b, o, none⟩) (N + 1) cx] 62) → W.cell? ⟨b, o + 3 + 1, none⟩ = some (.string ⟨fs2.2.text.toArray⟩) → MapIs W gm fs → (W.cell? ⟨g9, 0, none⟩ = some (.string ⟨f1.2.text.toArray⟩) ∧ (W.cell? ⟨w.heap.size, 1, none⟩ = some (.slice (some ⟨b, o, none⟩) (N + 1) cx) ∧ W.cell? ⟨b, o + 3 + 1, none⟩ = some (.string ⟨fs2.2.text.toArray⟩))) ∧ (Instr.lookup 108 (.map (some gm)) (.string ⟨#[108, 111, 115, 115, 101, 115]⟩) false).run Tryz.prog W = .ok (.int .i64 (nF kLosses fs : Nat)) W ∧ (Instr.lookup 108 (.map (some gm)) (.string ⟨#[119, 104, 111, 108, 101]⟩) false).run Tryz.prog W = .ok (.int .i64 (nF kWhole fs : Nat)) W) := fun W h9 h8 hf2 hM => ⟨⟨(cell_at h9 0 rfl).1, (cell_at h8 1 rfl).1, hf2⟩, hM.look Hd.out (n := kLosses) (by decide), hM.look Hd.out (n := kWhole) (by decide)⟩
              have T9 := Lib.hid (Ht.out.below S9.out.hb)
              obtain ⟨t0, v0⟩ := cell_at T9.out.row 0 (u := .slice A T.classes.length c) rfl
              have t1 : ∀ o : Obj, (Wd.alloc o).cell? ⟨gt, 0, none⟩ = some (.slice A T.classes.length c) ∧ (Wd.alloc o).frozen? ⟨gt, 0, none⟩ = false := fun o => cell_at (below_cells T9.out.row ((Below.refl _ _).alloc (Nat.le_refl _) o)) 0 rfl
              have H9 : Hid (∀ W', Below Wd.heap.size Wd W' → (W'.cell? ⟨g9, 0, none⟩ = some (.string ⟨f1.2.text.toArray⟩) ∧ (W'.cell? ⟨w.heap.size, 1, none⟩ = some (.slice (some ⟨b, o, none⟩) (N + 1) cx) ∧ W'.cell? ⟨b, o + 3 + 1, none⟩ = some (.string ⟨fs2.2.text.toArray⟩))) ∧ (Instr.lookup 108 (.map (some gm)) (.string ⟨#[108, 111, 115, 115, 101, 115]⟩) false).run Tryz.prog W' = .ok (.int .i64 (nF kLosses fs : Nat)) W' ∧ (Instr.lookup 108 (.map (some gm)) (.string ⟨#[119, 104, 111, 108, 101]⟩) false).run Tryz.prog W' = .ok (.int .i64 (nF kWhole fs : Nat)) W') := fun W' hb => HSH.out W' (below_cells X9.out hb) (below_cells S9.out.x0 hb) (HC2.out _ (KeepT.below (S9.out.hb.trans (hb.mono S9.out.hb.size)))) (M9.out.below hb)
              have hone : ∀ u, u ∈ clsCs ⟨f1.2.text, fs2.2.text, nF kLosses fs, nF kWhole fs⟩ → u.oneCell' = true := by
                intro u hu
                simp [clsCs] at hu
                rcases hu with rfl | rfl | rfl | rfl <;> rfl
              have hbA : T.classes.length + 1 ≤ maxLen := by have := hbig; unfold maxLen; omega
              have hbB : (T.classes.length + 1) * 48 ≤ 140737488355328 := by have := hbig; omega
              have hble : ∀ o : Obj, B ≤ (Wd.alloc o).heap.size := fun o => by have h1 := T9.out.le; have h3 := (Array.getElem?_eq_some_iff.1 T9.out.row).1; simp; omega
              have hHeld : (Wd.cell? ⟨g9, 0, none⟩ = some (.string ⟨f1.2.text.toArray⟩) ∧ (Wd.cell? ⟨w.heap.size, 1, none⟩ = some (.slice (some ⟨b, o, none⟩) (N + 1) cx) ∧ Wd.cell? ⟨b, o + 3 + 1, none⟩ = some (.string ⟨fs2.2.text.toArray⟩))) ∧ (Instr.lookup 108 (.map (some gm)) (.string ⟨#[108, 111, 115, 115, 101, 115]⟩) false).run Tryz.prog Wd = .ok (.int .i64 (nF kLosses fs : Nat)) Wd ∧ (Instr.lookup 108 (.map (some gm)) (.string ⟨#[119, 104, 111, 108, 101]⟩) false).run Tryz.prog Wd = .ok (.int .i64 (nF kWhole fs : Nat)) Wd := H9.out Wd (Below.refl _ _)
              refine wpAnyH_take (i := 0) (v := ?_) rfl (by kernel_rfl) (by kernel_rfl) (by kernel_rfl) (fun _ _ _ h => h) (Or.inl ⟨by rfl, ?_⟩) hHeld ?_
              rotate_left
              · intro w hSw; (try dsimp only at hSw); go_simp
                with_reducible rfl
              refine wpAnyH_take (i := 1) (v := ?_) rfl (by kernel_rfl) (by kernel_rfl) (by kernel_rfl) (fun _ _ _ h => h) (Or.inl ⟨by rfl, ?_⟩) hHeld ?_
              rotate_left
              · intro w hSw; (try dsimp only at hSw); go_simp
                with_reducible rfl
              refine wpAnyH_take (i := 2) (v := ?_) rfl (by kernel_rfl) (by kernel_rfl) (by kernel_rfl) (fun _ _ _ h => h) (Or.inl ⟨by rfl, ?_⟩) hHeld ?_
              rotate_left
              · intro w hSw; (try dsimp only at hSw); go_simp
                with_reducible rfl
              refine wpAnyH_take (i := 3) (v := ?_) rfl (by kernel_rfl) (by kernel_rfl) (by kernel_rfl) (fun _ _ _ h => h) (Or.inl ⟨by rfl, ?_⟩) hHeld ?_
              rotate_left
              · intro w hSw; (try dsimp only at hSw); go_simp
                with_reducible rfl
              refine wpAnyH_take (i := 5) (v := ?_) rfl (by kernel_rfl) (by kernel_rfl) (by kernel_rfl) (fun _ _ _ h => h) (Or.inl ⟨by rfl, ?_⟩) hHeld ?_
              rotate_left
              · intro w hSw; (try dsimp only at hSw); go_simp
                with_reducible rfl
              refine wpAnyH_take (i := 6) (v := ?_) rfl (by kernel_rfl) (by kernel_rfl) (by kernel_rfl) (fun _ _ _ h => h) (Or.inl ⟨by rfl, ?_⟩) hHeld ?_
              rotate_left
              · intro w hSw; (try dsimp only at hSw); go_simp
                with_reducible rfl
              refine wpAnyH_take (i := 7) (v := ?_) rfl (by kernel_rfl) (by kernel_rfl) (by kernel_rfl) (fun _ _ _ h => h) (Or.inl ⟨by rfl, ?_⟩) hHeld ?_
              rotate_left
              · intro w hSw; (try dsimp only at hSw); go_simp
                with_reducible rfl
              refine wpAnyH_take (i := 8) (v := ?_) rfl (by kernel_rfl) (by kernel_rfl) (by kernel_rfl) (fun _ _ _ h => h) (Or.inl ⟨by rfl, ?_⟩) hHeld ?_
              rotate_left
              · intro w hSw; (try dsimp only at hSw); go_simp
                with_reducible rfl
              refine wpAnyH_take (i := 9) (v := ?_) rfl (by kernel_rfl) (by kernel_rfl) (by kernel_rfl) (fun _ _ _ h => h) (Or.inl ⟨by rfl, ?_⟩) hHeld ?_
              rotate_left
              · intro w hSw; (try dsimp only at hSw); go_simp
                with_reducible rfl
              refine wpAnyH_take (i := 10) (v := ?_) rfl (by kernel_rfl) (by kernel_rfl) (by kernel_rfl) (fun _ _ _ h => h) (Or.inl ⟨by rfl, ?_⟩) hHeld ?_
              rotate_left
              · intro w hSw; (try dsimp only at hSw); go_simp
                with_reducible rfl
              refine wpAnyH_take (i := 11) (v := ?_) rfl (by kernel_rfl) (by kernel_rfl) (by kernel_rfl) (fun _ _ _ h => h) (Or.inl ⟨by rfl, ?_⟩) hHeld ?_
              rotate_left
              · intro w hSw; (try dsimp only at hSw); go_simp
                with_reducible rfl
              refine wpAnyH_take (i := 12) (v := ?_) rfl (by kernel_rfl) (by kernel_rfl) (by kernel_rfl) (fun _ _ _ h => h) (Or.inl ⟨by rfl, ?_⟩) hHeld ?_
              rotate_left
              · intro w hSw; (try dsimp only at hSw); go_simp
                with_reducible rfl
              refine wpAnyH_take (i := 13) (v := ?_) rfl (by kernel_rfl) (by kernel_rfl) (by kernel_rfl) (fun _ _ _ h => h) (Or.inl ⟨by rfl, ?_⟩) hHeld ?_
              rotate_left
              · intro w hSw; (try dsimp only at hSw); go_simp
                with_reducible rfl
              refine wpAnyH_take (i := 14) (v := ?_) rfl (by kernel_rfl) (by kernel_rfl) (by kernel_rfl) (fun _ _ _ h => h) (Or.inl ⟨by rfl, ?_⟩) hHeld ?_
              rotate_left
              · intro w hSw; (try dsimp only at hSw); go_simp
                with_reducible rfl
              refine wpAnyH_take (i := 15) (v := ?_) rfl (by kernel_rfl) (by kernel_rfl) (by kernel_rfl) (fun _ _ _ h => h) (Or.inl ⟨by rfl, ?_⟩) hHeld ?_
              rotate_left
              · intro w hSw; (try dsimp only at hSw); go_simp
                with_reducible rfl
              refine wpAnyH_take (i := 16) (v := ?_) rfl (by kernel_rfl) (by kernel_rfl) (by kernel_rfl) (fun _ _ _ h => h) (Or.inl ⟨by rfl, ?_⟩) hHeld ?_
              rotate_left
              · intro w hSw; (try dsimp only at hSw); go_simp
                with_reducible rfl
              refine wpAnyH_ready (rs := [4, 17]) (by kernel_rfl) (by simp) ?_
              refine AllReadyH.cons rfl (fun K hK => ?_) (AllReadyH.cons rfl (fun K hK => ?_) AllReadyH.nil)
              · go_simp
                refine hK.out _ _ ?_ (fun hHeld => ?_)
                · first | exact H9.out _ (Below.refl _ _) | exact H9.out _ ((Below.refl _ _).alloc (Nat.le_refl _) _)
                refine wpAnyH_ready (rs := [17]) (by kernel_rfl) (by simp) ?_
                refine AllReadyH.cons rfl (fun K hK => ?_) AllReadyH.nil
                go_simp
                refine hK.out _ _ ?_ (fun hHeld => ?_)
                · first | exact H9.out _ (Below.refl _ _) | exact H9.out _ ((Below.refl _ _).alloc (Nat.le_refl _) _)
                refine wpAnyH_ready (rs := [18]) (by kernel_rfl) (by simp) ?_
                refine AllReadyH.cons rfl (fun K hK => ?_) AllReadyH.nil
                refine step_append_sl rfl _ _ 23 rfl rfl rfl so22 (own_below T9.out.own1 ((Below.refl _ _).alloc (Nat.le_refl _) _)) (m := 1) (news := clsCs ⟨f1.2.text, fs2.2.text, nF kLosses fs, nF kWhole fs⟩) rfl (Sl.new _ _ _) hone hbA hbB (hble _) ?_
                intro A5 c5 w7 ho5 hg5
                have K7 : Hid (∀ ty : TypeId, ty ≠ 38 → KeepT ty Wd w7) := fun ty h => keep_append (Ne.symm h) T9.out.own1 hg5
                have G7 := Lib.hid ((K7.out 26 (by decide)).keep _ _ _ T9.out.row)
                have M7 := Lib.hid (M9.out.grown T9.out.own1 hg5)
                have HB7 : Hid (Below B Wd w7) := (((Below.refl B Wd).alloc (by have h1 := T9.out.le; have h3 := (Array.getElem?_eq_some_iff.1 T9.out.row).1; omega) _).grown hg5 (by have h1 := T9.out.le; have h3 := (Array.getElem?_eq_some_iff.1 T9.out.row).1; simp; omega) (fun j hj => own_ge T9.out.own1 hj))
                have HO7 := Lib.hid ho5
                have R9 := Lib.hid ((K7.out 9 (by decide)).keep _ _ _ X9.out)
                have R8 := Lib.hid ((K7.out 62 (by decide)).keep _ _ _ S9.out.x0)
                have Rf := Lib.hid (HC2.out w7 ((KeepT.below S9.out.hb).trans (K7.out 65 (by decide))))
                clear ho5 hg5
                obtain ⟨y0, u0⟩ := cell_at G7.out 0 (u := .slice A T.classes.length c) rfl
                refine hK.out _ _ (HSH.out _ R9.out R8.out Rf.out M7.out) (fun hHeld => ?_)
                refine wpAnyH_take (i := 19) (v := ?_) rfl (by kernel_rfl) (by kernel_rfl) (by kernel_rfl) (fun _ _ _ h => h) (Or.inl ⟨by rfl, ?_⟩) hHeld ?_
                rotate_left
                · intro w hSw; (try dsimp only at hSw); go_simp
                  with_reducible rfl
                refine wpAnyH_take (i := 20) (v := ?_) rfl (by kernel_rfl) (by kernel_rfl) (by kernel_rfl) (fun _ _ _ h => h) (Or.inl ⟨by rfl, ?_⟩) hHeld ?_
                rotate_left
                · intro w hSw; (try dsimp only at hSw); go_simp
                  with_reducible rfl
                refine wpAnyH_ready (rs := [21]) (by kernel_rfl) (by simp) ?_
                refine AllReadyH.cons rfl (fun K hK => ?_) AllReadyH.nil
                go_simp
                have hn9 : g9 ≠ gt := cells_other R9.out G7.out (by decide)
                have hn8 : w.heap.size ≠ gt := cells_other R8.out G7.out (by decide)
                refine hK.out _ _ (HSH.out _ ((Below.heap_setCell _ _ _ _ hn9).trans R9.out) ((Below.heap_setCell _ _ _ _ hn8).trans R8.out) (HC2.out _ (((KeepT.below S9.out.hb).trans (K7.out 65 (by decide))).trans (KeepT.setCell G7.out (by decide) 0 _))) (M7.out.setCell G7.out _ _)) (fun hHeld => ?_)
                refine wpAnyH_done (by kernel_rfl) ?_ _
                go_wp2_with fail
                go_end0
                show AddR B gt (addB names T ⟨false, fs⟩) w _ _
                rw [HE.out]
                have hgt := (Array.getElem?_eq_some_iff.1 Ht.out.row).1
                refine ⟨rfl, ⟨((S9.out.hb.mono (by have := Ht.out.le; omega)).trans HB7.out).setCell (p := ⟨gt, 0, none⟩) Ht.out.le _, fun ty h25 h43 h45 => ((KeepT.below S9.out.hb).trans (K7.out ty h45)).trans (KeepT.setCell G7.out (Ne.symm h25) 0 _)⟩, A5, T.classes.length + 1, c5, A', T.contracts.length, d, ?_⟩
                refine ⟨set_at G7.out 0 _, ?_, ?_, (by simp), rfl, Ht.out.le⟩
                · have h9 := own_setCell HO7.out G7.out (by decide) 0 (.slice A5 (T.classes.length + 1) c5)
                  rw [List.flatMap_append]
                  simpa using h9
                · exact own_keepT T9.out.own2 ((K7.out 46 (by decide)).trans (KeepT.setCell G7.out (by decide) 0 _))
              · go_simp
                refine hK.out _ _ ?_ (fun hHeld => ?_)
                · first | exact H9.out _ (Below.refl _ _) | exact H9.out _ ((Below.refl _ _).alloc (Nat.le_refl _) _)
                refine wpAnyH_ready (rs := [4]) (by kernel_rfl) (by simp) ?_
                refine AllReadyH.cons rfl (fun K hK => ?_) AllReadyH.nil
                go_simp
                refine hK.out _ _ ?_ (fun hHeld => ?_)
                · first | exact H9.out _ (Below.refl _ _) | exact H9.out _ ((Below.refl _ _).alloc (Nat.le_refl _) _)
                refine wpAnyH_ready (rs := [18]) (by kernel_rfl) (by simp) ?_
                refine AllReadyH.cons rfl (fun K hK => ?_) AllReadyH.nil
                refine step_append_sl rfl _ _ 23 rfl rfl rfl so22 (own_below T9.out.own1 ((Below.refl _ _).alloc (Nat.le_refl _) _)) (m := 1) (news := clsCs ⟨f1.2.text, fs2.2.text, nF kLosses fs, nF kWhole fs⟩) rfl (Sl.new _ _ _) hone hbA hbB (hble _) ?_
                intro A5 c5 w7 ho5 hg5
                have K7 : Hid (∀ ty : TypeId, ty ≠ 38 → KeepT ty Wd w7) := fun ty h => keep_append (Ne.symm h) T9.out.own1 hg5
                have G7 := Lib.hid ((K7.out 26 (by decide)).keep _ _ _ T9.out.row)
                have M7 := Lib.hid (M9.out.grown T9.out.own1 hg5)
                have HB7 : Hid (Below B Wd w7) := (((Below.refl B Wd).alloc (by have h1 := T9.out.le; have h3 := (Array.getElem?_eq_some_iff.1 T9.out.row).1; omega) _).grown hg5 (by have h1 := T9.out.le; have h3 := (Array.getElem?_eq_some_iff.1 T9.out.row).1; simp; omega) (fun j hj => own_ge T9.out.own1 hj))
                have HO7 := Lib.hid ho5
                have R9 := Lib.hid ((K7.out 9 (by decide)).keep _ _ _ X9.out)
                have R8 := Lib.hid ((K7.out 62 (by decide)).keep _ _ _ S9.out.x0)
                have Rf := Lib.hid (HC2.out w7 ((KeepT.below S9.out.hb).trans (K7.out 65 (by decide))))
                clear ho5 hg5
                obtain ⟨y0, u0⟩ := cell_at G7.out 0 (u := .slice A T.classes.length c) rfl
                refine hK.out _ _ (HSH.out _ R9.out R8.out Rf.out M7.out) (fun hHeld => ?_)
                refine wpAnyH_take (i := 19) (v := ?_) rfl (by kernel_rfl) (by kernel_rfl) (by kernel_rfl) (fun _ _ _ h => h) (Or.inl ⟨by rfl, ?_⟩) hHeld ?_
                rotate_left
                · intro w hSw; (try dsimp only at hSw); go_simp
                  with_reducible rfl
                refine wpAnyH_take (i := 20) (v := ?_) rfl (by kernel_rfl) (by kernel_rfl) (by kernel_rfl) (fun _ _ _ h => h) (Or.inl ⟨by rfl, ?_⟩) hHeld ?_
                rotate_left
                · intro w hSw; (try dsimp only at hSw); go_simp
                  with_reducible rfl
                refine wpAnyH_ready (rs := [21]) (by kernel_rfl) (by simp) ?_
                refine AllReadyH.cons rfl (fun K hK => ?_) AllReadyH.nil
                go_simp
                have hn9 : g9 ≠ gt := cells_other R9.out G7.out (by decide)
                have hn8 : w.heap.size ≠ gt := cells_other R8.out G7.out (by decide)
                refine hK.out _ _ (HSH.out _ ((Below.heap_setCell _ _ _ _ hn9).trans R9.out) ((Below.heap_setCell _ _ _ _ hn8).trans R8.out) (HC2.out _ (((KeepT.below S9.out.hb).trans (K7.out 65 (by decide))).trans (KeepT.setCell G7.out (by decide) 0 _))) (M7.out.setCell G7.out _ _)) (fun hHeld => ?_)
                refine wpAnyH_done (by kernel_rfl) ?_ _
                go_wp2_with fail
                go_end0
                show AddR B gt (addB names T ⟨false, fs⟩) w _ _
                rw [HE.out]
                have hgt := (Array.getElem?_eq_some_iff.1 Ht.out.row).1
                refine ⟨rfl, ⟨((S9.out.hb.mono (by have := Ht.out.le; omega)).trans HB7.out).setCell (p := ⟨gt, 0, none⟩) Ht.out.le _, fun ty h25 h43 h45 => ((KeepT.below S9.out.hb).trans (K7.out ty h45)).trans (KeepT.setCell G7.out (Ne.symm h25) 0 _)⟩, A5, T.classes.length + 1, c5, A', T.contracts.length, d, ?_⟩
                refine ⟨set_at G7.out 0 _, ?_, ?_, (by simp), rfl, Ht.out.le⟩
                · have h9 := own_setCell HO7.out G7.out (by decide) 0 (.slice A5 (T.classes.length + 1) c5)
                  rw [List.flatMap_append]
                  simpa using h9
                · exact own_keepT T9.out.own2 ((K7.out 46 (by decide)).trans (KeepT.setCell G7.out (by decide) 0 _))
end Go.Proofs.YtimmffncfkcpfaaGreatDoor
