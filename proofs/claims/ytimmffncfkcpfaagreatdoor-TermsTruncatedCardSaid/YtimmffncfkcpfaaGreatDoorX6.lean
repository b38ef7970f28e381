/-
  The walk of the examples that every statement plays.
-/
import Derived.Test.YtimmffncfkcpfaaGreatDoorW15
import Derived.Test.YtimmffncfkcpfaaGreatDoorX4
import Derived.Test.YtimmffncfkcpfaaGreatDoorX5
namespace Go.Proofs.YtimmffncfkcpfaaGreatDoor
open Go Go.RowKit Go.Walks

def exText1 : ByteArray := { data := ([99, 108, 97, 115, 115, 32, 103, 111, 108, 100, 32, 123, 32, 99, 111, 100, 101, 32, 114, 115, 59, 32, 108, 111, 115, 115, 101, 115, 32, 50, 59, 32, 119, 104, 111, 108, 101, 32, 52, 48, 59, 32, 125, 32, 116, 101, 110, 97, 110, 116, 32].append [97, 99, 109, 101, 32, 123, 32, 103, 117, 97, 114, 97, 110, 116, 101, 101, 32, 49, 48, 48, 59, 32, 98, 117, 114, 115, 116, 32, 50, 48, 32, 114, 97, 110, 107, 32, 50, 59, 32, 99, 108, 97, 115, 115, 32, 103, 111, 108, 100, 59, 32, 125]).toArray }
def exText2 : ByteArray := { data := #[116, 101, 110, 97, 110, 116, 32, 97, 32, 123, 32, 103, 117, 97, 114, 97, 110, 116, 101, 101, 32, 49, 59, 32, 99, 108, 97, 115, 115, 32, 98, 59, 32, 125] }
def gold : Bytes := [103, 111, 108, 100]
def exC : ClassD := ⟨gold, [114, 115], 2, 40⟩
def exD : ContrD := ⟨[97, 99, 109, 101], 100, 0, 20, 2, gold⟩
def exT : TermsD := ⟨[exC], [exD]⟩
theorem ex_parse1 : parseB exText1.data.toList = .ok exT := by kernel_rfl
theorem ex_parse2 : parseB exText2.data.toList = .bad 30 4 := by kernel_rfl
theorem ex_spot : spotR exText2 30 = #[.int .i64 1, .int .i64 31] := by kernel_rfl
theorem ex_check : checkB exT = (0, 0) := by kernel_rfl
def exTx : Bytes := (printB exT).1
theorem ex_print : printB exT = (exTx, 0) := by kernel_rfl
theorem ex_len : exTx.length = 104 := by kernel_rfl
theorem ex_fits : Fits exT := ok_fits (check_ok.1 (by rw [ex_check]))
theorem call_ok {t : ByteArray} {T : TermsD} (h : parseB t.data.toList = .ok T) (w : World) (Hg : Hid (Gl w)) : Calls Tryz.prog 6 #[.string t] w fun e w' => Below w.heap.size w w' ∧ ∃ v, e = .returned (.tuple #[v, .agg #[.int .i64 0, .int .i64 0], .int .i64 0]) ∧ TermsV w' T v := by
  have := parse_any t w Hg
  rw [h] at this
  exact this
theorem call_bad {t : ByteArray} {p en : Nat} (h : parseB t.data.toList = .bad p en) (w : World) (Hg : Hid (Gl w)) : Calls Tryz.prog 6 #[.string t] w fun e w' => Below w.heap.size w w' ∧ e = .returned (.tuple #[.agg #[.slice none 0 0, .slice none 0 0], .agg (spotR t p), .int .i64 (en : Int)]) := by
  have := parse_any t w Hg
  rw [h] at this
  exact this
theorem ex_call1 (w : World) (Hg : Hid (Gl w)) : Calls Tryz.prog 6 #[.string exText1] w fun e w' => Below w.heap.size w w' ∧ ∃ v, e = .returned (.tuple #[v, .agg #[.int .i64 0, .int .i64 0], .int .i64 0]) ∧ TermsV w' exT v := call_ok ex_parse1 w Hg
theorem ex_call2 (w : World) (Hg : Hid (Gl w)) : Calls Tryz.prog 6 #[.string exText2] w fun e w' => Below w.heap.size w w' ∧ e = .returned (.tuple #[.agg #[.slice none 0 0, .slice none 0 0], .agg #[.int .i64 1, .int .i64 31], .int .i64 4]) := by
  have := call_bad ex_parse2 w Hg
  rw [ex_spot] at this
  exact this
/-- In the examples: the terms' block g1, the spot's block g5, a cell of the contract. -/
structure EX (w : World) (g1 g5 : Nat) (p : Addr) (v : Array Value) (W : World) : Prop where
  below : Below w.heap.size w W
  x1 : W.heap[g1]? = some (.cells v 26)
  x5 : W.heap[g5]? = some (.cells #[.int .i64 1, .int .i64 31] 28)
  c20 : W.cell? p = some (.int .i64 20)
  tv : TermsV W exT (.agg v)
theorem EX.call {w W W' : World} {g1 g5 : Nat} {p : Addr} {v : Array Value} (h : EX w g1 g5 p v W) (hb : Below W.heap.size W W') : EX w g1 g5 p v W' :=
  ⟨h.below.trans (hb.mono h.below.size), below_cells h.x1 hb, below_cells h.x5 hb, (hb.cell (Lib.lt_of_cell h.c20)).trans h.c20, h.tv.below hb⟩

set_option maxRecDepth 100000 in
set_option maxHeartbeats 8000000 in
theorem sanity_any (w : World) (Hg : Hid (Gl w)) : Calls Tryz.prog 5 #[] w (BoolR true w) := by
  have HPR := Lib.hid ex_print
  have HLE := Lib.hid ex_len
  go_enter Tryz.func5, Tryz.ntmps5
  go_wp2_with fail
  refine (ex_call1 w Hg).mono ?_
  rintro e w1 ⟨hb1, v, rfl, hv⟩
  obtain ⟨A, c, A', d, hve, -, ht2, -⟩ := id hv
  have hve : v = .agg #[.slice A 1 c, .slice A' 1 d] := hve
  subst hve
  obtain ⟨b, o, hA, hbl, hcells⟩ := sl_at ctr_len ht2 (i := 0) (x := exD) rfl (by omega)
  subst hA
  have h20 : w1.cell? ⟨b, o + 3, none⟩ = some (.int .i64 20) := by
    have := hcells 3 _ rfl
    rwa [Nat.zero_mul, Nat.zero_add] at this
  have HV := Lib.hid hv
  have HB1 := Lib.hid hb1
  have H20 := Lib.hid h20
  clear hb1 hv h20 hcells ht2
  go_wp2_with fail
  obtain ⟨W1, hW1⟩ : ∃ W1, W1 = (w1.alloc (.cells #[.slice A 1 c, .slice (some ⟨b, o, none⟩) 1 d] 26)).alloc (.cells #[.int .i64 0, .int .i64 0] 28) := ⟨_, rfl⟩
  rw [← hW1]
  have hbW : Below w1.heap.size w1 W1 := by rw [hW1]; exact ((Below.refl _ _).alloc (Nat.le_refl _) _).alloc (by simp) _
  have hx1 : W1.heap[w1.heap.size]? = some (.cells #[.slice A 1 c, .slice (some ⟨b, o, none⟩) 1 d] 26) := by rw [hW1]; exact (Below.heap_alloc _ _ _ (by simp)).trans (heap_new _ _)
  have HBW := Lib.hid hbW
  have HX1 := Lib.hid hx1
  clear hW1 hbW hx1
  refine (ex_call2 W1 (Hg.out.below (HB1.out.trans (HBW.out.mono HB1.out.size)))).mono ?_
  rintro e w2 ⟨hb2, rfl⟩
  have HE2 : Hid (EX w w1.heap.size (w2.heap.size + 1) ⟨b, o + 3, none⟩ #[.slice A 1 c, .slice (some ⟨b, o, none⟩) 1 d] ((w2.alloc (.cells #[.slice none 0 0, .slice none 0 0] 26)).alloc (.cells #[.int .i64 1, .int .i64 31] 28))) := by
    have h1 : Below W1.heap.size W1 ((w2.alloc (.cells #[.slice none 0 0, .slice none 0 0] 26)).alloc (.cells #[.int .i64 1, .int .i64 31] 28)) := (hb2.alloc hb2.size _).alloc (by rw [World.size_alloc]; have := hb2.size; omega) _
    have h2 : Below w1.heap.size w1 ((w2.alloc (.cells #[.slice none 0 0, .slice none 0 0] 26)).alloc (.cells #[.int .i64 1, .int .i64 31] 28)) := HBW.out.trans (h1.mono HBW.out.size)
    refine ⟨HB1.out.trans (h2.mono HB1.out.size), below_cells HX1.out h1, ?_, (h2.cell (Lib.lt_of_cell H20.out)).trans H20.out, HV.out.below h2⟩
    have := heap_new (w2.alloc (.cells #[.slice none 0 0, .slice none 0 0] 26)) (.cells #[.int .i64 1, .int .i64 31] 28)
    rw [World.size_alloc] at this
    exact this
  have hchk : ∀ W, EX w w1.heap.size (w2.heap.size + 1) ⟨b, o + 3, none⟩ #[.slice A 1 c, .slice (some ⟨b, o, none⟩) 1 d] W → Calls Tryz.prog 11 #[.agg #[.slice A 1 c, .slice (some ⟨b, o, none⟩) 1 d]] W (CheckR (0, 0) W) := fun W h => by
    have := check_any exT _ W (Hg.out.below h.below) h.tv ex_fits
    rw [ex_check] at this
    exact this
  have hprt : ∀ W, EX w w1.heap.size (w2.heap.size + 1) ⟨b, o + 3, none⟩ #[.slice A 1 c, .slice (some ⟨b, o, none⟩) 1 d] W → Calls Tryz.prog 10 #[.agg #[.slice A 1 c, .slice (some ⟨b, o, none⟩) 1 d]] W (PrintR (exTx, 0) W) := fun W h => by
    have := print_any exT _ W (Hg.out.below h.below) h.tv ex_fits
    rw [HPR.out] at this
    exact this
  have hsam : ∀ W, EX w w1.heap.size (w2.heap.size + 1) ⟨b, o + 3, none⟩ #[.slice A 1 c, .slice (some ⟨b, o, none⟩) 1 d] W → Calls Tryz.prog 12 #[.agg #[.slice A 1 c, .slice (some ⟨b, o, none⟩) 1 d], .agg #[.slice A 1 c, .slice (some ⟨b, o, none⟩) 1 d]] W (BoolR true W) := fun W h => by
    have := same_any exT exT _ _ W h.tv h.tv
    rw [decide_eq_true rfl] at this
    exact this
  have HCHK := Lib.hid hchk
  have HPRT := Lib.hid hprt
  have HSAM := Lib.hid hsam
  clear hb2 hchk hprt hsam
  obtain ⟨x0, x1, -⟩ := two_cells HE2.out.x1
  go_wp2_with fail
  refine (HCHK.out _ HE2.out).mono ?_
  rintro e w3 ⟨rfl, hb3⟩
  have HE3 := Lib.hid (HE2.out.call hb3)
  clear hb3 x0 x1
  obtain ⟨x0, x1, -⟩ := two_cells HE3.out.x1
  go_wp2_with fail
  refine (HPRT.out _ HE3.out).mono ?_
  unfold PrintR strV
  rintro e w4 ⟨rfl, hb4⟩
  have HE4 := Lib.hid (HE3.out.call hb4)
  clear hb4 x0 x1
  obtain ⟨x0, x1, -⟩ := two_cells HE4.out.x1
  obtain ⟨-, y1, -⟩ := two_cells HE4.out.x5
  have c20 := HE4.out.c20
  have hlen : ((exTx.length : Int) == 104) = true := by rw [HLE.out]; rfl
  go_wp2_with (go_at_call 12; refine (HSAM.out _ HE4.out).mono ?_; rintro e w5 ⟨rfl, hb5⟩; have HE5 := Lib.hid (HE4.out.call hb5); clear hb5)
  go_ret
  exact ⟨rfl, HE5.out.below⟩
end Go.Proofs.YtimmffncfkcpfaaGreatDoor
