/-
  The walk of Parse's deferred closure: what a fault is turned into.
-/
import Derived.Test.YtimmffncfkcpfaaGreatDoorW11
import Derived.Defers
import Derived.Recover
import Derived.Laws.ResultCell
import Derived.RegionTactic
import Derived.Deep.RegionHeld3
namespace Go.Proofs.YtimmffncfkcpfaaGreatDoor
open Go Go.RowKit Go.Walks

theorem assert_yes (p en : Int) (w : World) : (Instr.typeAssert (.iface 48 (.agg #[.int .i64 p, .int .i64 en])) 20 48 true).run Tryz.prog w = .ok (.tuple #[.agg #[.int .i64 p, .int .i64 en], .bool true]) w := by kernel_rfl
theorem assert_nil (w : World) : (Instr.typeAssert .nilIface 20 48 true).run Tryz.prog w = .ok (.tuple #[.agg #[.int .i64 0, .int .i64 0], .bool false]) w := by kernel_rfl
/-- The blocks that the closure reads and writes. -/
structure CS (gt0 gt ga ge : Nat) (t : ByteArray) (w : World) : Prop where
  text : w.heap[gt0]? = some (.cells #[.string t] 9)
  terms : ∃ a b, w.heap[gt]? = some (.cells #[a, b] 26)
  spot : ∃ a b, w.heap[ga]? = some (.cells #[a, b] 28)
  err : ∃ a, w.heap[ge]? = some (.cells #[a] 29)
  nta : gt ≠ ga
  nte : gt ≠ ge
  nae : ga ≠ ge

theorem wp_hideQ {P : Program} {c : Code} {Q : Exit → Act → World → Prop} {a : Act} {w : World} (h : ∀ Q', Q' = Q → Code.wp P c Q' a w) : Code.wp P c Q a w := h Q rfl
/-- Line and column of an offset. -/
def spotV (t : ByteArray) (p : Nat) : Array Value := #[.int .i64 (IntKind.i64.wrap (1 + (Lib.countByte (List.take p t.data.toList) 10 : Nat))), .int .i64 (IntKind.i64.wrap ((p : Int) - Lib.lastIndexByte (t.extract 0 p) 10))]
theorem wp_state {P : Program} {c : Code} {Q : Exit → Act → World → Prop} {a a' : Act} {w : World} (h : a = a') (h2 : Code.wp P c Q a' w) : Code.wp P c Q a w := h ▸ h2
set_option maxRecDepth 100000 in
set_option maxHeartbeats 1000000 in
theorem catch_idle (a b c d : Nat) (w : World) :
    CallsD Tryz.prog 13 #[.pointer (some ⟨a, 0, none⟩), .pointer (some ⟨b, 0, none⟩), .pointer (some ⟨c, 0, none⟩), .pointer (some ⟨d, 0, none⟩)] .returning w fun e u' w' => e = .returned (.tuple #[]) ∧ u' = .returning ∧ Below w.heap.size w w' := by
  refine callsD_of_wpS Tryz.func13 rfl fun c₀ cs hu => ?_
  apply wpS_seq
  apply wpS_region
  simp [wpOpsS, go_sem, recoverD, hu, Tryz.ntmps13, Exit.thenS, assert_nil]
  refine wpS_of_wp ?_
  refine wp_hideQ fun Q hQ => ?_
  have HQ := Lib.hid hQ
  clear hQ
  refine wp_state (a' := { tmps := #[.pointer (some ⟨a, 0, none⟩), .pointer (some ⟨b, 0, none⟩), .pointer (some ⟨c, 0, none⟩), .pointer (some ⟨d, 0, none⟩), .pointer (some ⟨w.heap.size, 0, none⟩), .bool false, undef, .tuple #[.agg #[.int .i64 0, .int .i64 0], .bool false], .nilIface, .tuple #[.agg #[.int .i64 0, .int .i64 0], .bool false], .agg #[.int .i64 0, .int .i64 0], .bool false, undef, undef, undef, undef, undef, undef, undef, undef, undef, undef, undef, undef, undef, undef, undef, undef, undef], defers := [] }) (by kernel_rfl) ?_
  go_wp2_with fail
  rw [HQ.out]
  have hc : c₀ = { c₀ with mode := .returning } := by cases c₀; cases hu; rfl
  exact ⟨rfl, .returning, by rw [← hc], _, results_none rfl _ _ _, rfl, rfl, (Below.refl _ _).alloc (Nat.le_refl _) _⟩

set_option maxRecDepth 100000 in
set_option maxHeartbeats 4000000 in
theorem catch_panic (a b c d : Nat) (t : ByteArray) (p en : Nat) (w : World) (ht : t.size ≤ 2000) (hp : p ≤ t.size) (B : Nat) (hB : B ≤ b ∧ B ≤ c ∧ B ≤ d) (Hc : Hid (CS a b d c t w)) :
    CallsD Tryz.prog 13 #[.pointer (some ⟨a, 0, none⟩), .pointer (some ⟨b, 0, none⟩), .pointer (some ⟨c, 0, none⟩), .pointer (some ⟨d, 0, none⟩)] (.panicking [{ v := .iface 48 (.agg #[.int .i64 (p : Int), .int .i64 (en : Int)]), recovered := false }]) w fun e u' w' =>
      e = .returned (.tuple #[]) ∧ u' = .panicking [{ v := .iface 48 (.agg #[.int .i64 (p : Int), .int .i64 (en : Int)]), recovered := true }] ∧ w'.heap[b]? = some (.cells #[.slice none 0 0, .slice none 0 0] 26) ∧ w'.heap[c]? = some (.cells #[.int .i64 (en : Int)] 29) ∧ w'.heap[d]? = some (.cells (spotV t p) 28) ∧ Below B w w' := by
  have hlta := (Array.getElem?_eq_some_iff.1 Hc.out.text).1
  obtain ⟨b1, b2, hbr⟩ := Hc.out.terms
  obtain ⟨d1, d2, hdr⟩ := Hc.out.spot
  obtain ⟨c1, hcr⟩ := Hc.out.err
  have hltb := (Array.getElem?_eq_some_iff.1 hbr).1
  have hltc := (Array.getElem?_eq_some_iff.1 hcr).1
  have hltd := (Array.getElem?_eq_some_iff.1 hdr).1
  have hbd : ¬ b = d := Hc.out.nta
  have hbc : ¬ b = c := Hc.out.nte
  have hdc : ¬ d = c := Hc.out.nae
  have hdb : ¬ d = b := fun e => hbd e.symm
  have hcb : ¬ c = b := fun e => hbc e.symm
  have hcd : ¬ c = d := fun e => hdc e.symm
  have ha := assert_yes (p : Int) (en : Int) w
  refine callsD_of_wpS Tryz.func13 rfl fun c₀ cs hu => ?_
  apply wpS_seq
  apply wpS_region
  simp [wpOpsS, go_sem, recoverD, hu, Tryz.ntmps13, Exit.thenS, assert_yes]
  refine wpS_of_wp ?_
  refine wp_hideQ fun Q hQ => ?_
  have HQ := Lib.hid hQ
  have HQp : Hid (∀ (c : List PanicEntry) (a : Act) (d : Option Tmp) (v : Value) (w : World), Q (.panic c) (a.put d v) w → Q (.panic c) a w) := by
    rw [hQ]
    exact fun c a d v w h => ⟨by cases d <;> exact h.1, h.2⟩
  clear hQ hu
  refine wp_state (a' := { tmps := #[.pointer (some ⟨a, 0, none⟩), .pointer (some ⟨b, 0, none⟩), .pointer (some ⟨c, 0, none⟩), .pointer (some ⟨d, 0, none⟩), .pointer (some ⟨w.heap.size, 0, none⟩), .bool true, undef, .tuple #[.agg #[.int .i64 (p : Int), .int .i64 (en : Int)], .bool true], .iface 48 (.agg #[.int .i64 (p : Int), .int .i64 (en : Int)]), .tuple #[.agg #[.int .i64 (p : Int), .int .i64 (en : Int)], .bool true], .agg #[.int .i64 (p : Int), .int .i64 (en : Int)], .bool true, undef, undef, undef, undef, undef, undef, undef, undef, undef, undef, undef, undef, undef, undef, undef, undef, undef], defers := [] }) (by kernel_rfl) ?_
  have hW1b : Below w.heap.size w (w.alloc (.cells #[.int .i64 (p : Int), .int .i64 (en : Int)] 48)) := (Below.refl _ _).alloc (Nat.le_refl _) _
  have R66 := heap_new w (.cells #[.int .i64 (p : Int), .int .i64 (en : Int)] 48)
  have Ra := below_cells Hc.out.text hW1b
  have Rb := below_cells hbr hW1b
  have Rc := below_cells hcr hW1b
  have Rd := below_cells hdr hW1b
  obtain ⟨W1, hW1⟩ : ∃ W1, W1 = w.alloc (.cells #[.int .i64 (p : Int), .int .i64 (en : Int)] 48) := ⟨_, rfl⟩
  rw [← hW1] at hW1b R66 Ra Rb Rc Rd
  rw [← hW1]
  clear hW1 hbr hcr hdr
  obtain ⟨x0, -⟩ := cell_at Ra 0 (u := .string t) rfl
  obtain ⟨y0, -⟩ := cell_at R66 0 (u := .int .i64 (p : Int)) rfl
  obtain ⟨y1, -⟩ := cell_at R66 1 (u := .int .i64 (en : Int)) rfl
  obtain ⟨z0, u0⟩ := cell_at Rb 0 (u := b1) rfl
  obtain ⟨z1, u1⟩ := cell_at Rb 1 (u := b2) rfl
  obtain ⟨q0, v0⟩ := cell_at Rc 0 (u := c1) rfl
  have hI1 : (0 : Int) ≤ (p : Int) := by omega
  have hI2 : (p : Int) ≤ (t.size : Int) := by omega
  have hn1 : w.heap.size ≠ b := by omega
  have hn2 : w.heap.size ≠ c := by omega
  have hn3 : w.heap.size ≠ d := by omega
  go_upto_region 3 with fail
  refine wp_region_held_drew (S := fun W => W.cell? ⟨w.heap.size, 0, none⟩ = some (.int .i64 (p : Int)) ∧ W.cell? ⟨w.heap.size, 1, none⟩ = some (.int .i64 (en : Int))) (by kernel_rfl) ⟨y0, y1⟩ (fun hHeld => ?_)
  refine wpAnyH_take (i := 0) (v := ?_) rfl (by kernel_rfl) (by kernel_rfl) (by kernel_rfl) (fun _ _ _ h => HQp.out _ _ _ _ _ h) (Or.inl ⟨by rfl, ?_⟩) hHeld ?_
  rotate_left
  · intro w hSw; (try dsimp only at hSw); go_simp
    with_reducible rfl
  refine wpAnyH_take (i := 1) (v := ?_) rfl (by kernel_rfl) (by kernel_rfl) (by kernel_rfl) (fun _ _ _ h => HQp.out _ _ _ _ _ h) (Or.inl ⟨by rfl, ?_⟩) hHeld ?_
  rotate_left
  · intro w hSw; (try dsimp only at hSw); go_simp
    with_reducible rfl
  refine wpAnyH_take (i := 2) (v := ?_) rfl (by kernel_rfl) (by kernel_rfl) (by kernel_rfl) (fun _ _ _ h => HQp.out _ _ _ _ _ h) (Or.inl ⟨by rfl, ?_⟩) hHeld ?_
  rotate_left
  · intro w hSw; (try dsimp only at hSw); go_simp
    with_reducible rfl
  refine wpAnyH_ready (rs := [3]) (by kernel_rfl) (by simp) ?_
  refine AllReadyH.cons rfl (fun K hK => ?_) AllReadyH.nil
  go_simp
  have R66b : ((W1.setCell ⟨b, 0, none⟩ (.slice none 0 0)).setCell ⟨b, 1, none⟩ (.slice none 0 0)).heap[w.heap.size]? = _ := (Below.heap_setCell _ _ _ _ hn1).trans ((Below.heap_setCell _ _ _ _ hn1).trans R66)
  have Rbb : ((W1.setCell ⟨b, 0, none⟩ (.slice none 0 0)).setCell ⟨b, 1, none⟩ (.slice none 0 0)).heap[b]? = some (.cells #[.slice none 0 0, .slice none 0 0] 26) := set_at (set_at Rb 0 (.slice none 0 0)) 1 (.slice none 0 0)
  have Rcb : ((W1.setCell ⟨b, 0, none⟩ (.slice none 0 0)).setCell ⟨b, 1, none⟩ (.slice none 0 0)).heap[c]? = _ := (Below.heap_setCell _ _ _ _ hcb).trans ((Below.heap_setCell _ _ _ _ hcb).trans Rc)
  have Rdb : ((W1.setCell ⟨b, 0, none⟩ (.slice none 0 0)).setCell ⟨b, 1, none⟩ (.slice none 0 0)).heap[d]? = _ := (Below.heap_setCell _ _ _ _ hdb).trans ((Below.heap_setCell _ _ _ _ hdb).trans Rd)
  have HB1 : Below B w ((W1.setCell ⟨b, 0, none⟩ (.slice none 0 0)).setCell ⟨b, 1, none⟩ (.slice none 0 0)) := ((hW1b.mono (by omega)).setCell (p := ⟨b, 0, none⟩) hB.1 _).setCell (p := ⟨b, 1, none⟩) hB.1 _
  refine hK.out _ _ ⟨(cell_at R66b 0 rfl).1, (cell_at R66b 1 rfl).1⟩ (fun hHeld => ?_)
  obtain ⟨W2, hW2⟩ : ∃ W2, W2 = (W1.setCell ⟨b, 0, none⟩ (.slice none 0 0)).setCell ⟨b, 1, none⟩ (.slice none 0 0) := ⟨_, rfl⟩
  rw [← hW2] at R66b Rbb Rcb Rdb HB1 hHeld
  rw [← hW2]
  clear hW2 x0 y0 y1 z0 z1 u0 u1 q0 v0
  obtain ⟨q0, v0⟩ := cell_at Rcb 0 (u := c1) rfl
  refine wpAnyH_ready (rs := [4]) (by kernel_rfl) (by simp) ?_
  refine AllReadyH.cons rfl (fun K hK => ?_) AllReadyH.nil
  go_simp
  have R66c : (W2.setCell ⟨c, 0, none⟩ (.int .i64 (en : Int))).heap[w.heap.size]? = _ := (Below.heap_setCell _ _ _ _ hn2).trans R66b
  have Rbc : (W2.setCell ⟨c, 0, none⟩ (.int .i64 (en : Int))).heap[b]? = _ := (Below.heap_setCell _ _ _ _ hbc).trans Rbb
  have Rcc : (W2.setCell ⟨c, 0, none⟩ (.int .i64 (en : Int))).heap[c]? = some (.cells #[.int .i64 (en : Int)] 29) := set_at Rcb 0 (.int .i64 (en : Int))
  have Rdc : (W2.setCell ⟨c, 0, none⟩ (.int .i64 (en : Int))).heap[d]? = _ := (Below.heap_setCell _ _ _ _ hdc).trans Rdb
  have HB2 : Below B w (W2.setCell ⟨c, 0, none⟩ (.int .i64 (en : Int))) := HB1.setCell (p := ⟨c, 0, none⟩) hB.2.1 _
  refine hK.out _ _ ⟨(cell_at R66c 0 rfl).1, (cell_at R66c 1 rfl).1⟩ (fun hHeld => ?_)
  refine wpAnyH_done (by kernel_rfl) ?_ _
  clear hK K hHeld q0 v0
  obtain ⟨W3, hW3⟩ : ∃ W3, W3 = W2.setCell ⟨c, 0, none⟩ (.int .i64 (en : Int)) := ⟨_, rfl⟩
  rw [← hW3] at R66c Rbc Rcc Rdc HB2
  rw [← hW3]
  clear hW3
  obtain ⟨y0, -⟩ := cell_at R66c 0 (u := .int .i64 (p : Int)) rfl
  obtain ⟨y1, -⟩ := cell_at R66c 1 (u := .int .i64 (en : Int)) rfl
  obtain ⟨e0, f0⟩ := cell_at Rdc 0 (u := d1) rfl
  obtain ⟨e1, f1⟩ := cell_at Rdc 1 (u := d2) rfl
  have hsz : (t.extract 0 p).size < 4611686018427387904 := by
    have : (t.extract 0 p).size ≤ p := by
      rw [Lib.size_eq, Lib.extract_data, List.length_take]; omega
    omega
  go_upto_region 4 with fail
  refine wp_region_held_drew (S := fun W => W.cell? ⟨w.heap.size, 0, none⟩ = some (.int .i64 (p : Int)) ∧ W.cell? ⟨w.heap.size, 1, none⟩ = some (.int .i64 (en : Int))) (by kernel_rfl) ⟨y0, y1⟩ (fun hHeld => ?_)
  refine wpAnyH_take (i := 0) (v := ?_) rfl (by kernel_rfl) (by kernel_rfl) (by kernel_rfl) (fun _ _ _ h => HQp.out _ _ _ _ _ h) (Or.inl ⟨by rfl, ?_⟩) hHeld ?_
  rotate_left
  · intro w hSw; (try dsimp only at hSw); go_simp
    with_reducible rfl
  refine wpAnyH_take (i := 3) (v := ?_) rfl (by kernel_rfl) (by kernel_rfl) (by kernel_rfl) (fun _ _ _ h => HQp.out _ _ _ _ _ h) (Or.inl ⟨by rfl, ?_⟩) hHeld ?_
  rotate_left
  · intro w hSw; (try dsimp only at hSw); go_simp
    with_reducible rfl
  refine wpAnyH_take (i := 4) (v := ?_) rfl (by kernel_rfl) (by kernel_rfl) (by kernel_rfl) (fun _ _ _ h => HQp.out _ _ _ _ _ h) (Or.inl ⟨by rfl, ?_⟩) hHeld ?_
  rotate_left
  · intro w hSw; (try dsimp only at hSw); go_simp
    with_reducible rfl
  refine wpAnyH_take (i := 5) (v := ?_) rfl (by kernel_rfl) (by kernel_rfl) (by kernel_rfl) (fun _ _ _ h => HQp.out _ _ _ _ _ h) (Or.inl ⟨by rfl, ?_⟩) hHeld ?_
  rotate_left
  · intro w hSw; (try dsimp only at hSw); go_simp
    with_reducible rfl
  refine wpAnyH_ready (rs := [1]) (by kernel_rfl) (by simp) ?_
  refine AllReadyH.cons rfl (fun K hK => ?_) AllReadyH.nil
  go_simp
  go_at_call 14
  refine (Tryz.strings_Count_one _ _ _).mono ?_
  rintro e w8 ⟨rfl, hw8⟩
  rw [hw8]
  clear hw8
  dsimp only
  refine hK.out _ _ ⟨y0, y1⟩ (fun hHeld => ?_)
  refine wpAnyH_take (i := 2) (v := ?_) rfl (by kernel_rfl) (by kernel_rfl) (by kernel_rfl) (fun _ _ _ h => HQp.out _ _ _ _ _ h) (Or.inl ⟨by rfl, ?_⟩) hHeld ?_
  rotate_left
  · intro w hSw; (try dsimp only at hSw); go_simp
    with_reducible rfl
  refine wpAnyH_ready (rs := [6]) (by kernel_rfl) (by simp) ?_
  refine AllReadyH.cons rfl (fun K hK => ?_) AllReadyH.nil
  go_simp
  go_at_call 15
  refine (Tryz.strings_LastIndexByte _ _ hsz _).mono ?_
  rintro e w8 ⟨rfl, hw8⟩
  rw [hw8]
  clear hw8
  dsimp only
  refine hK.out _ _ ⟨y0, y1⟩ (fun hHeld => ?_)
  refine wpAnyH_take (i := 7) (v := ?_) rfl (by kernel_rfl) (by kernel_rfl) (by kernel_rfl) (fun _ _ _ h => HQp.out _ _ _ _ _ h) (Or.inl ⟨by rfl, ?_⟩) hHeld ?_
  rotate_left
  · intro w hSw; (try dsimp only at hSw); go_simp
    with_reducible rfl
  refine wpAnyH_take (i := 8) (v := ?_) rfl (by kernel_rfl) (by kernel_rfl) (by kernel_rfl) (fun _ _ _ h => HQp.out _ _ _ _ _ h) (Or.inl ⟨by rfl, ?_⟩) hHeld ?_
  rotate_left
  · intro w hSw; (try dsimp only at hSw); go_simp
    with_reducible rfl
  refine wpAnyH_ready (rs := [9]) (by kernel_rfl) (by simp) ?_
  refine AllReadyH.cons rfl (fun K hK => ?_) AllReadyH.nil
  go_simp
  obtain ⟨s1, hs1⟩ : ∃ v : Value, v = .int .i64 (IntKind.i64.wrap (1 + (Lib.countByte (List.take p t.data.toList) 10 : Nat))) := ⟨_, rfl⟩
  obtain ⟨s2, hs2⟩ : ∃ v : Value, v = .int .i64 (IntKind.i64.wrap ((p : Int) - Lib.lastIndexByte (t.extract 0 p) 10)) := ⟨_, rfl⟩
  have hsp : spotV t p = #[s1, s2] := by unfold spotV; rw [hs1, hs2]
  rw [hsp] at HQ
  rw [← hs1, ← hs2]
  have R66d : ((W3.setCell ⟨d, 0, none⟩ s1).setCell ⟨d, 1, none⟩ s2).heap[w.heap.size]? = _ := (Below.heap_setCell _ _ _ _ hn3).trans ((Below.heap_setCell _ _ _ _ hn3).trans R66c)
  refine hK.out _ _ ⟨(cell_at (show (((W3.setCell ⟨d, 0, none⟩ s1).setCell ⟨d, 1, none⟩ s2).drew.drew).heap[w.heap.size]? = _ from R66d) 0 rfl).1, (cell_at (show (((W3.setCell ⟨d, 0, none⟩ s1).setCell ⟨d, 1, none⟩ s2).drew.drew).heap[w.heap.size]? = _ from R66d) 1 rfl).1⟩ (fun hHeld => ?_)
  refine wpAnyH_done (by kernel_rfl) ?_ _
  go_wp2_with fail
  rw [HQ.out]
  refine ⟨rfl, _, rfl, _, results_none rfl _ _ _, rfl, rfl, ?_, ?_, ?_, ?_⟩
  · exact (Below.heap_setCell _ _ _ _ hbd).trans ((Below.heap_setCell _ _ _ _ hbd).trans Rbc)
  · exact (Below.heap_setCell _ _ _ _ hcd).trans ((Below.heap_setCell _ _ _ _ hcd).trans Rcc)
  · exact set_at (set_at Rdc 0 s1) 1 s2
  · exact ((HB2.setCell (p := ⟨d, 0, none⟩) hB.2.2 _).setCell (p := ⟨d, 1, none⟩) hB.2.2 _).drew.drew
end Go.Proofs.YtimmffncfkcpfaaGreatDoor
