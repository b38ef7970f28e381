/-
  The walk of the statement TreeNodesCount: it returns true for every script, where the library's table lies as it is laid.
-/
import Derived.Test.YtognbkmamhgkeaaDoorL1a
import Derived.Deep.RegionHeld3
namespace Go.Proofs.YtognbkmamhgkeaaDoor
open Go Go.RowKit Go.Walks

set_option maxRecDepth 100000 in
set_option maxHeartbeats 2000000 in
theorem nodesCount_short (ops : List OpN) (c : Nat) (A : Option Addr) (w : World) (Ht : Hid (Tab w)) (hn : ops.length ≤ 60) (Hsl : Hid (Sl w w.heap.size A (opCells ops))) :
    Calls Tryd.prog 3 #[.slice A ops.length c] w (TrueP w) := by
  have hn' : decide ((60 : Int) < (ops.length : Int)) = false := by simp; omega
  go_enter Tryd.func3, Tryd.ntmps3
  go_wp2_with (first
    | (go_at_call 9; refine (sanity_any _ Ht).mono ?_; rintro e w1 ⟨rfl, hb1⟩; have Hb1 := Lib.hid hb1; have Hs1 := Lib.hid ((Hsl.out.below hb1).more hb1.size); clear hb1)
    | (go_at_call 10; refine (play_any ops A c _ (by omega) Hs1).mono ?_; rintro e w2 ⟨v, Ts, rfl, htv⟩; obtain ⟨A2, c2, rfl, htr⟩ := htv.read; have Hb2 := Lib.hid (Hb1.out.trans (htv.below.mono Hb1.out.size)); have Htr := Lib.hid htr; have Hs2 := Lib.hid ((Hs1.out.below htv.below).more htv.below.size); clear htv htr)
    | (go_at_call 11; refine (rplay_any ops A c _ (by omega) Hs2).mono ?_; rintro e w3 ⟨v, rfl, hv⟩; obtain ⟨A3, c3, rfl, hvr⟩ := hv.read; have Hb3 := Lib.hid (Hb2.out.trans (hv.below.mono Hb2.out.size)); have Htr3 := Lib.hid (Htr.out.below hv.below); have Hvr := Lib.hid hvr; clear hv hvr Htr))
  have hpl := playL_len ops
  have HL : Hid ((playL ops).length = ops.length + 1) := hpl
  have hlen : (playL ops).length ≤ 61 := by omega
  clear hpl
  go_loopw [6] (fun ix wr => ∃ k : Nat, k ≤ (playL ops).length ∧ ix = .int .i64 k ∧ Hid (Below w3.heap.size w3 wr)) (fun ix _ => (playL ops).length - (intOf ix).toNat)
  case atStart => exact ⟨0, by omega, rfl, Below.refl _ _⟩
  case round =>
    obtain ⟨k, hk, rfl, HB⟩ := hrel
    by_cases hlt : k < (playL ops).length
    · obtain ⟨gT, oT, T, nT, l, rfl, hgT, hTs, hLs, hc0, hc1, hgood, hm⟩ := (Htr3.out.below HB.out).at_ hlt
      obtain ⟨gR, oR, A', c', l', rfl, hgR, hLs', hr0, hsl', hlc', hcm'⟩ := (Hvr.out.below HB.out).at_ hlt
      have hll : l' = l := by rw [hLs] at hLs'; injection hLs' with h; exact h.symm
      subst hll
      have hsrt := srt_play ops l' (List.mem_of_getElem? hLs)
      have hsm := playL_small ops l' (List.mem_of_getElem? hLs)
      have hcnt : (gthAll [(T, nT)]).length = countL l' := by rw [nodes_one hgood, count_al hgood hm hsrt]
      have hcnt2 : (gthAll [(T, nT), (T, nT)]).length = countL l' := by rw [nodes_same hgood, count_al hgood hm hsrt]
      have Hc1 := Lib.hid hcnt
      have Hc2 := Lib.hid hcnt2
      have Hgood := Lib.hid hgood
      have Hsl' := Lib.hid hsl'.sl
      have Hsrt := Lib.hid hsrt
      have hI1 : (0 : Int) ≤ (k : Int) := by omega
      have hI2 : (k : Int) < ((playL ops).length : Int) := by omega
      clear hTs hLs hLs' hcnt hcnt2 hgood hm hsrt hsl'
      have keepS : ∀ w' : World, Below wr.heap.size wr w' → (w'.cell? ⟨gT, oT + k * 2, none⟩ = some (ptrV (T.adr 2 0)) ∧ w'.cell? ⟨gT, oT + k * 2 + 1, none⟩ = some (.int .i64 nT)) ∧ w'.cell? ⟨gR, oR + k, none⟩ = some (.slice A' l'.length c') :=
        fun w' hb => ⟨⟨(hb.cell (p := ⟨gT, oT + k * 2, none⟩) hgT).trans hc0, (hb.cell (p := ⟨gT, oT + k * 2 + 1, none⟩) hgT).trans hc1⟩, (hb.cell (p := ⟨gR, oR + k, none⟩) hgR).trans hr0⟩
      have KS := Lib.hid keepS
      clear keepS
      have B0 : Hid (Below wr.heap.size wr wr.drew) := (Below.refl _ _).drew
      go_wp2_with fail
      go_region_held3 (fun w' => (w'.cell? ⟨gT, oT + k * 2, none⟩ = some (ptrV (T.adr 2 0)) ∧ w'.cell? ⟨gT, oT + k * 2 + 1, none⟩ = some (.int .i64 nT)) ∧ w'.cell? ⟨gR, oR + k, none⟩ = some (.slice A' l'.length c')) (first | exact hKeep | go_keep)
        (first
          | (go_at_call 13; refine (count_any l' A' c' _ (by omega) Hsrt ((Hsl'.out.below B1.out).more B1.out.size)).mono ?_; rintro e w6 ⟨rfl, hbx⟩; have B2 := Lib.hid (B1.out.trans (hbx.mono B1.out.size)); have hKeep := KS.out _ B2.out; clear hbx)
          | (go_at_call 12; have _t := B2; ((with_reducible refine (nodes2_w (wr := wr) Hgood.out ?_ Hc2.out ?_ ?_).mono ?_)); (first | exact Hgood.out.below (bA B2.out) | exact Hgood.out.below (bA (bA B2.out))); (first | exact bA B2.out | exact bA (bA B2.out)); (first | exact slN0 _ | exact slA (slN0 _) | exact slN1 _); rintro e w7 ⟨rfl, hB3, hbx⟩; have B3 := Lib.hid hB3; have Hbx := Lib.hid hbx; have hKeep := KS.out _ B3.out; clear hbx hB3 _t)
          | (go_at_call 12; have _t := B3; ((with_reducible refine (nodes1_w (wr := wr) Hgood.out Hc1.out ?_ ?_).mono ?_)); (first | exact B3.out | exact bA B3.out); (first | exact slN0 _ | exact slB (slA (slN0 _)) Hbx.out | exact slB (slN1 _) Hbx.out); rintro e w8 ⟨rfl, hB4, hbx'⟩; have B4 := Lib.hid hB4; have hKeep := KS.out _ B4.out; clear hbx' hB4 _t)
          | (go_at_call 12; ((with_reducible refine (nodes1_w (wr := wr) Hgood.out Hc1.out ?_ ?_).mono ?_)); (exact bA B0.out); (exact slN0 _); rintro e w5 ⟨rfl, hB1, hbx⟩; have B1 := Lib.hid hB1; have hKeep := KS.out _ B1.out; clear hbx hB1))
      all_goals
        go_wp2_with fail
        exact ⟨⟨k + 1, by omega, by go_num, HB.out.trans (B4.out.mono HB.out.size)⟩, by simp [intOf]; omega⟩
    · go_wp2_with (go_at_call 12; refine (nodes_any [] none 0 _ (by simp) (.inl rfl) (fun x hx => by cases hx)).mono ?_; rintro e w5 ⟨rfl, hbx⟩; have Hbx := Lib.hid hbx; clear hbx)
      go_ret
      exact ⟨rfl, Hb3.out.trans ((HB.out.trans (Hbx.out.mono HB.out.size)).mono Hb3.out.size)⟩

theorem nodesCount_any (ops : List OpN) (c : Nat) (A : Option Addr) (w : World) (Ht : Tab w) (hm : ops.length ≤ maxLen) (Hsl : Sl w w.heap.size A (opCells ops)) :
    Calls Tryd.prog 3 #[.slice A ops.length c] w (TrueP w) := by
  by_cases h : ops.length ≤ 60
  · exact nodesCount_short ops c A w Ht h Hsl
  · exact nodesCount_long _ c A w Ht (by omega) hm
end Go.Proofs.YtognbkmamhgkeaaDoor
