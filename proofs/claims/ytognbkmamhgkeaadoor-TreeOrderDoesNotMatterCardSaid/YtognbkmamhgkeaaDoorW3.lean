/-
  The walks of Tree.Get, Tree.Set and Tree.Clear: what each call returns and what it leaves in memory, for every tree that lies in memory and every block.
-/
import Derived.Test.YtognbkmamhgkeaaDoorW2
namespace Go.Proofs.YtognbkmamhgkeaaDoor
open Go Go.RowKit

/-- What a tree maps at an integer. -/
def atI (m : Nat → Option Int) (b : Int) : Option Int := if 0 ≤ b ∧ b < 4096 then m b.toNat else none

theorem below_drewN {B : Nat} {a w : World} (h : Below B a w) (n : Nat) : Below B a (w.drewN n) := ⟨h.os, h.tape, h.output, h.size, h.block⟩

theorem bit_test (has i : Nat) (hl : has < 65536) : (bits .and .u16 ((has : Int) / 2 ^ i) 1 != 0) = has.testBit i := by
  have e : ((has : Int) / 2 ^ i) = ((has / 2 ^ i : Nat) : Int) := by
    rw [Int.natCast_ediv]; congr 1
  have hle : has / 2 ^ i ≤ has := Nat.div_le_self _ _
  rw [e, Nat.testBit_eq_decide_div_mod_eq]
  generalize has / 2 ^ i = z at *
  have := bits_mask .u16 16 (by decide) (fun n h0 h1 => by simp [IntKind.wrap, IntKind.bits, IntKind.signed]; omega) 1 (by decide) (z : Int) (by omega) (by omega)
  have h2 : bits .and .u16 (z : Int) 1 = (z : Int) % 2 := by simpa using this
  rw [h2, Bool.eq_iff_iff]
  simp
  omega

def GetPost (w : World) (x : Option Int) (e : Ending) (w' : World) : Prop :=
  e = .returned (.tuple #[.int .i64 (x.getD 0), .bool x.isSome]) ∧ Below w.heap.size w w'

set_option maxHeartbeats 400000 in
theorem get_out (v : Value) (n b : Int) (w : World) (hb : ¬ (0 ≤ b ∧ b < 4096)) :
    Calls Tryd.prog 23 #[.agg #[v, .int .i64 n], .int .i64 b] w (GetPost w none) := by
  have hv : vldB b = false := by simp only [vldB]; exact decide_eq_false hb
  clear hb
  go_enter Tryd.func23, Tryd.ntmps23
  go_wp2_with (go_at_call 32; refine (valid_any _ _).mono ?_; rintro e w' ⟨rfl, rfl⟩)
  go_ret2
  exact ⟨rfl, (Below.refl _ _).alloc (Nat.le_refl _) _⟩

set_option maxHeartbeats 400000 in
theorem get_in (T : TV) (n : Int) (b : Nat) (w : World) (hb : b < 4096) (Hs : Hid (Sub w T 2 0)) :
    Calls Tryd.prog 23 #[.agg #[ptrV (T.adr 2 0), .int .i64 n], .int .i64 b] w (GetPost w (T.m b)) := by
  have hv : vldB b = true := by simp only [vldB]; exact decide_eq_true (by omega)
  go_enter Tryd.func23, Tryd.ntmps23
  go_wp2_with (go_at_call 32; refine (valid_any _ _).mono ?_; rintro e w' ⟨rfl, rfl⟩)
  go_loop [6, 7] (fun nd lv => ∃ L : Nat, L ≤ 2 ∧ lv = .int .i64 L ∧ nd = ptrV (T.adr L (b / 16 ^ (L + 1))) ∧ Hid (Sub w T L (b / 16 ^ (L + 1)))) (fun _ lv => (intOf lv).toNat)
  case atStart => exact ⟨2, Nat.le_refl _, rfl, by rw [show b / 16 ^ (2 + 1) = 0 from Nat.div_eq_of_lt hb], by rw [show b / 16 ^ (2 + 1) = 0 from Nat.div_eq_of_lt hb]; exact Hs⟩
  case round =>
    obtain ⟨L, hL, rfl, rfl, hs⟩ := hrel
    cases hadr : T.adr L (b / 16 ^ (L + 1)) with
    | none =>
      have hm : T.m b = none := by
        cases hc : T.m b with
        | none => rfl
        | some c =>
          have := hs.out.iff.2 ⟨b, rfl, by rw [hc]; rfl⟩
          rw [hadr] at this; cases this
      have Hm := Lib.hid hm
      clear hm hadr
      simp only [ptrV, padr_none]
      go_wp2_with fail
      go_ret2
      exact ⟨by rw [Hm.out]; rfl, (Below.refl _ _).alloc (Nat.le_refl _) _⟩
    | some g =>
      obtain ⟨has, cs, hrow, hlt, hold⟩ := oldRow_some hs.out.nd hadr
      have Hrow := Lib.hid hrow
      have Hold := Lib.hid hold
      have Hadr := Lib.hid hadr
      clear hrow hold hadr
      simp only [ptrV, padr_some]
      go_wp2_with fail
      refine (slot_any L _ _ (by omega) (by omega)).mono ?_
      rintro e w' ⟨rfl, rfl⟩
      obtain ⟨i, hi, hi16⟩ := hid_mod b L
      rw [← hi]
      have Hi := Lib.hid hi
      clear hi
      have hc0 : w.cell? ⟨g, 0, none⟩ = some (.int .u16 has) := by rw [cell_of_row _ _ _ _ _ _ Hrow.out]; exact Hold.out.1.c0
      have hck : w.cell? ⟨g, 1 + i, none⟩ = some (ptrV (kid T L (16 * (b / 16 ^ (L + 1)) + i))) := by rw [cell_of_row _ _ _ _ _ _ Hrow.out]; exact Hold.out.1.ck i hi16
      have hcc : w.cell? ⟨g, 17 + i, none⟩ = some (.int .i64 (chv T L (16 * (b / 16 ^ (L + 1)) + i))) := by rw [cell_of_row _ _ _ _ _ _ Hrow.out]; exact Hold.out.1.cc i hi16
      by_cases hL0 : L = 0
      · subst hL0
        go_wp2_with fail
        go_quiet (fail)
        go_wp2_with fail
        have hb1 : 16 * (b / 16) + i = b := by have := Hi.out; simp at this; omega
        have hbit := Hold.out.2 i hi16
        simp only [Nat.zero_add, Nat.pow_one, hb1, occ] at hbit
        rw [bit_test _ _ Hold.out.1.lt, hbit, hb1]
        go_ret2
        exact ⟨rfl, below_drewN ((Below.refl _ _).alloc (Nat.le_refl _) _) _⟩
      · have hL0' : ((L : Int) == 0) = false := by simp; omega
        go_wp2_with fail
        obtain ⟨M, rfl⟩ : ∃ M, L = M + 1 := ⟨L - 1, by omega⟩
        have hq1 : b / 16 ^ (M + 1) = 16 * (b / 16 ^ (M + 1 + 1)) + i := by
          have h2 := Hi.out
          have h3 := div_succ b (M + 1)
          generalize b / 16 ^ (M + 1 + 1) = z1 at *
          generalize b / 16 ^ (M + 1) = z2 at *
          omega
        refine ⟨⟨M, by omega, by go_num, by rw [hq1]; rfl, ?_⟩, by simp [intOf]⟩
        show Sub w T M (b / 16 ^ (M + 1))
        rw [hq1]; exact hs.out.2 i hi16

theorem get_any (T : TV) (n b : Int) (w : World) (Hs : Sub w T 2 0) :
    Calls Tryd.prog 23 #[.agg #[ptrV (T.adr 2 0), .int .i64 n], .int .i64 b] w (GetPost w (atI T.m b)) := by
  by_cases h : 0 ≤ b ∧ b < 4096
  · obtain ⟨k, rfl⟩ := Int.eq_ofNat_of_zero_le h.1
    have e : atI T.m (k : Int) = T.m k := by simp only [atI]; rw [if_pos h]; rfl
    rw [e]
    exact get_in T n k w (by omega) Hs
  · have e : atI T.m b = none := by simp only [atI]; rw [if_neg h]
    rw [e]
    exact get_out _ n b w h

theorem bcell {W w1 : World} (hb : Below W.heap.size W w1) : (∀ b o, b < W.heap.size → w1.cell? ⟨b, o, none⟩ = W.cell? ⟨b, o, none⟩) ∧ (∀ b o, b < W.heap.size → w1.frozen? ⟨b, o, none⟩ = W.frozen? ⟨b, o, none⟩) :=
  ⟨fun b o h => hb.cell (p := ⟨b, o, none⟩) h, fun b o h => hb.frozen (p := ⟨b, o, none⟩) h⟩

def TreeV (T : TV) (n : Int) : Value := .agg #[ptrV (T.adr 2 0), .int .i64 n]

/-- The two blocks of a receiver and of a result, behind a call that makes memory. -/
theorem two_below {w w1 : World} {A B : Obj} (h : Below ((w.alloc A).alloc B).heap.size ((w.alloc A).alloc B) w1) : Below w.heap.size w w1 :=
  (((Below.refl _ _).alloc (Nat.le_refl _) _).alloc (by simp) _).trans (h.mono (by simp; omega))

set_option maxHeartbeats 400000 in
theorem set_same (T : TV) (n b c : Int) (w : World) (Hs : Hid (Sub w T 2 0)) (h : (!(vldB b) || ((atI T.m b).isSome && ((atI T.m b).getD 0 == c))) = true) :
    Calls Tryd.prog 14 #[.agg #[ptrV (T.adr 2 0), .int .i64 n], .int .i64 b, .int .i64 c] w (fun e w' => e = .returned (TreeV T n) ∧ Below w.heap.size w w') := by
  have H := Lib.hid h
  clear h
  go_enter Tryd.func14, Tryd.ntmps14
  go_wp2_with fail
  refine (get_any T n b _ (Hs.out.below (((Below.refl _ _).alloc (Nat.le_refl _) _).alloc (by simp) _))).mono ?_
  rintro e w1 ⟨rfl, hb⟩
  obtain ⟨hc, hf⟩ := bcell hb
  have hsz := hb.size
  have Hb := Lib.hid hb
  clear hb
  simp only [World.size_alloc] at hc hf hsz
  cases hv : vldB b with
  | false =>
    go_wp2_with (go_at_call 32; refine (valid_any _ _).mono ?_; rintro e w' ⟨rfl, rfl⟩)
    refine bodyPost_ret (v := TreeV T n) (by simp [results, Tryd.results14, go_sem, TreeV, hc]) rfl ⟨rfl, ?_⟩
    exact ((two_below Hb.out).setCell (p := ⟨w.heap.size + 1, 0, none⟩) (by simp) _).setCell (p := ⟨w.heap.size + 1, 1, none⟩) (by simp) _
  | true =>
    have h2 := H.out
    rw [hv] at h2
    simp only [Bool.not_true, Bool.false_or, Bool.and_eq_true] at h2
    obtain ⟨h3, h4⟩ := h2
    go_wp2_with (go_at_call 32; refine (valid_any _ _).mono ?_; rintro e w' ⟨rfl, rfl⟩)
    refine bodyPost_ret (v := TreeV T n) (by simp [results, Tryd.results14, go_sem, TreeV, hc]) rfl ⟨rfl, ?_⟩
    exact ((two_below Hb.out).setCell (p := ⟨w.heap.size + 1, 0, none⟩) (by simp) _).setCell (p := ⟨w.heap.size + 1, 1, none⟩) (by simp) _

theorem two_cells {w : World} {g : Nat} {t : TypeId} {a b : Value} (h : w.heap[g]? = some (.cells #[a, b] t)) :
    w.cell? ⟨g, 0, none⟩ = some a ∧ w.cell? ⟨g, 1, none⟩ = some b ∧ w.frozen? ⟨g, 0, none⟩ = false ∧ w.frozen? ⟨g, 1, none⟩ = false := by
  simp [World.cell?, World.frozen?, h]

theorem set_two0 {w : World} {g : Nat} {t : TypeId} {a b : Value} (h : w.heap[g]? = some (.cells #[a, b] t)) (u : Value) : (w.setCell ⟨g, 0, none⟩ u).heap[g]? = some (.cells #[u, b] t) := by
  simp [World.setCell, Array.getElem?_modify, h]
theorem set_two1 {w : World} {g : Nat} {t : TypeId} {a b : Value} (h : w.heap[g]? = some (.cells #[a, b] t)) (u : Value) : (w.setCell ⟨g, 1, none⟩ u).heap[g]? = some (.cells #[a, u] t) := by
  simp [World.setCell, Array.getElem?_modify, h]

theorem two_rows {w w1 : World} {A B : Obj} (h : Below ((w.alloc A).alloc B).heap.size ((w.alloc A).alloc B) w1) : w1.heap[w.heap.size]? = some A ∧ w1.heap[w.heap.size + 1]? = some B :=
  ⟨(h.block _ (by simp; omega)).trans (heap_alloc2_old w A B), (h.block _ (by simp)).trans (heap_alloc2_new w A B)⟩

theorem sub_keep {w w2 w3 : World} {T : TV} {k B : Nat} {c : Int} (Hs : Sub w T 2 0) (h2 : Sub w2 (T.set B 2 k c) 2 0) (hm : ∀ x, x < w.heap.size ∨ B ≤ x → w3.heap[x]? = w2.heap[x]?) : Sub w3 (T.set B 2 k c) 2 0 :=
  Sub.move hm h2 (set_within Hs.within)
theorem set_root {T : TV} {B k : Nat} {c : Int} (hk : k < 4096) : (T.set B 2 k c).adr 2 0 = some B := by
  simp only [TV.set]; rw [if_pos ⟨Nat.le_refl _, (Nat.div_eq_of_lt hk).symm⟩]; rfl
theorem info31 : (Tryd.prog.info? 31).map (·.size) = some 2 := by kernel_rfl
theorem res14 (tmps : Array Value) (w : World) (g : Nat) (a b : Value) (hp : tmps.getD 6 undef = .pointer (some ⟨g, 0, none⟩)) (hg : w.heap[g]? = some (.cells #[a, b] 31)) :
    (results Tryd.f14 tmps).run Tryd.prog w = .ok (.agg #[a, b]) w :=
  results_cell_row (p := 6) (ty := 31) rfl tmps w g 31 #[a, b] (0, 0) _ hp hg Tryd.underlying31 rfl info31
theorem res15 (tmps : Array Value) (w : World) (g : Nat) (a b : Value) (hp : tmps.getD 4 undef = .pointer (some ⟨g, 0, none⟩)) (hg : w.heap[g]? = some (.cells #[a, b] 31)) :
    (results Tryd.f15 tmps).run Tryd.prog w = .ok (.agg #[a, b]) w :=
  results_cell_row (p := 4) (ty := 31) rfl tmps w g 31 #[a, b] (0, 0) _ hp hg Tryd.underlying31 rfl info31
theorem three_sets {w : World} {g x : Nat} {u v t : Value} (h0 : x ≠ g) (h1 : x ≠ g + 1) : (((w.setCell ⟨g, 0, none⟩ u).setCell ⟨g + 1, 0, none⟩ v).setCell ⟨g + 1, 1, none⟩ t).heap[x]? = w.heap[x]? :=
  (Below.heap_setCell _ _ _ _ h1).trans ((Below.heap_setCell _ _ _ _ h1).trans (Below.heap_setCell _ _ _ _ h0))

def SetNew (w : World) (T : TV) (k : Nat) (c n' : Int) (e : Ending) (w' : World) : Prop :=
  ∃ B, w.heap.size ≤ B ∧ e = .returned (TreeV (T.set B 2 k c) n') ∧ Below w.heap.size w w' ∧ Sub w' (T.set B 2 k c) 2 0

set_option maxHeartbeats 400000 in
theorem set_new0 (T : TV) (n c : Int) (k : Nat) (w : World) (hk : k < 4096) (h0 : 0 ≤ n) (hn : n ≤ 4096) (Hs : Hid (Sub w T 2 0)) (Hm : Hid (T.m k = none)) :
    Calls Tryd.prog 14 #[.agg #[ptrV (T.adr 2 0), .int .i64 n], .int .i64 k, .int .i64 c] w (SetNew w T k c (n + 1)) := by
  have hv : vldB (k : Int) = true := by simp only [vldB]; exact decide_eq_true (by omega)
  have hat : atI T.m (k : Int) = none := by simp only [atI]; rw [if_pos (by omega)]; exact Hm.out
  have Hat := Lib.hid hat
  clear hat
  go_enter Tryd.func14, Tryd.ntmps14
  go_wp2_with fail
  refine (get_any T n k _ (Hs.out.below (((Below.refl _ _).alloc (Nat.le_refl _) _).alloc (by simp) _))).mono ?_
  rintro e w1 ⟨rfl, hb⟩
  rw [Hat.out]
  obtain ⟨r0, r1⟩ := two_rows hb
  have Hb := Lib.hid hb
  have R0 := Lib.hid r0
  have R1 := Lib.hid r1
  clear hb
  obtain ⟨c00, c01, f00, f01⟩ := two_cells r0
  clear r0 r1
  go_wp2_with (go_at_call 32; refine (valid_any _ _).mono ?_; rintro e w' ⟨rfl, rfl⟩)
  have hbw : Below w.heap.size w (w1.setCell ⟨w.heap.size, 1, none⟩ (.int .i64 (n + 1))) := (two_below Hb.out).setCell (p := ⟨w.heap.size, 1, none⟩) (Nat.le_refl _) _
  refine (set_any 2 T 0 k c _ (by omega) hk (Nat.div_eq_of_lt hk) (Hs.out.below hbw)).mono ?_
  rintro e w2 ⟨rfl, hb2, _, hsub2⟩
  have hs1 : w.heap.size + 1 + 1 ≤ w1.heap.size := by have := Hb.out.size; simpa using this
  have q0 : w2.heap[w.heap.size]? = some (.cells #[ptrV (T.adr 2 0), .int .i64 (n + 1)] 31) := (hb2.block _ (by simp; omega)).trans (set_two1 R0.out _)
  have q1 : w2.heap[w.heap.size + 1]? = some (.cells #[.pointer none, .int .i64 0] 31) := (hb2.block _ (by simp; omega)).trans ((Below.heap_setCell _ _ _ _ (by simp)).trans R1.out)
  have hb3 : Below w.heap.size w w2 := hbw.trans (hb2.mono (by have := hbw.size; exact this))
  have Hb3 := Lib.hid hb3
  have Hsub2 := Lib.hid hsub2
  have Hle := Lib.hid hbw.size
  clear hb2 hsub2 hbw hb3 c00 c01 f00 f01
  simp only [World.size_setCell] at *
  obtain ⟨c00, c01, f00, f01⟩ := two_cells q0
  obtain ⟨c10, c11, f10, f11⟩ := two_cells q1
  have Q1 := Lib.hid q1
  clear q0 q1
  go_wp2_with fail
  refine bodyPost_ret (v := TreeV (T.set w1.heap.size 2 k c) (n + 1)) (by rw [TreeV, set_root hk]; exact res14 _ _ _ _ _ rfl (set_two1 (set_two0 ((Below.heap_setCell _ _ _ _ (by simp)).trans Q1.out) _) _)) rfl ⟨w1.heap.size, Hle.out, rfl, ?_, ?_⟩
  · exact ((Hb3.out.setCell (p := ⟨w.heap.size, 0, none⟩) (Nat.le_refl _) _).setCell (p := ⟨w.heap.size + 1, 0, none⟩) (by simp) _).setCell (p := ⟨w.heap.size + 1, 1, none⟩) (by simp) _
  · exact sub_keep Hs.out Hsub2.out (fun x hx => three_sets (by omega) (by omega))
set_option maxHeartbeats 400000 in
theorem set_new1 (T : TV) (n c : Int) (k : Nat) (w : World) (hk : k < 4096) (Hs : Hid (Sub w T 2 0)) (o : Int) (Hm : Hid (T.m k = some o)) (ho : (o == c) = false) :
    Calls Tryd.prog 14 #[.agg #[ptrV (T.adr 2 0), .int .i64 n], .int .i64 k, .int .i64 c] w (SetNew w T k c n) := by
  have hv : vldB (k : Int) = true := by simp only [vldB]; exact decide_eq_true (by omega)
  have hat : atI T.m (k : Int) = some o := by simp only [atI]; rw [if_pos (by omega)]; exact Hm.out
  have Hat := Lib.hid hat
  clear hat
  go_enter Tryd.func14, Tryd.ntmps14
  go_wp2_with fail
  refine (get_any T n k _ (Hs.out.below (((Below.refl _ _).alloc (Nat.le_refl _) _).alloc (by simp) _))).mono ?_
  rintro e w1 ⟨rfl, hb⟩
  rw [Hat.out]
  obtain ⟨r0, r1⟩ := two_rows hb
  have Hb := Lib.hid hb
  have R0 := Lib.hid r0
  have R1 := Lib.hid r1
  clear hb
  obtain ⟨c00, c01, f00, f01⟩ := two_cells r0
  clear r0 r1
  go_wp2_with (go_at_call 32; refine (valid_any _ _).mono ?_; rintro e w' ⟨rfl, rfl⟩)
  have hbw : Below w.heap.size w w1 := two_below Hb.out
  refine (set_any 2 T 0 k c _ (by omega) hk (Nat.div_eq_of_lt hk) (Hs.out.below hbw)).mono ?_
  rintro e w2 ⟨rfl, hb2, _, hsub2⟩
  have hs1 : w.heap.size + 1 + 1 ≤ w1.heap.size := by have := Hb.out.size; simpa using this
  have q0 : w2.heap[w.heap.size]? = some (.cells #[ptrV (T.adr 2 0), .int .i64 n] 31) := (hb2.block _ (by omega)).trans R0.out
  have q1 : w2.heap[w.heap.size + 1]? = some (.cells #[.pointer none, .int .i64 0] 31) := (hb2.block _ (by omega)).trans R1.out
  have hb3 : Below w.heap.size w w2 := hbw.trans (hb2.mono (by have := hbw.size; exact this))
  have Hb3 := Lib.hid hb3
  have Hsub2 := Lib.hid hsub2
  have Hle := Lib.hid hbw.size
  clear hb2 hsub2 hbw hb3 c00 c01 f00 f01
  obtain ⟨c00, c01, f00, f01⟩ := two_cells q0
  obtain ⟨c10, c11, f10, f11⟩ := two_cells q1
  have Q1 := Lib.hid q1
  clear q0 q1
  go_wp2_with fail
  refine bodyPost_ret (v := TreeV (T.set w1.heap.size 2 k c) n) (by rw [TreeV, set_root hk]; exact res14 _ _ _ _ _ rfl (set_two1 (set_two0 ((Below.heap_setCell _ _ _ _ (by simp)).trans Q1.out) _) _)) rfl ⟨w1.heap.size, Hle.out, rfl, ?_, ?_⟩
  · exact ((Hb3.out.setCell (p := ⟨w.heap.size, 0, none⟩) (Nat.le_refl _) _).setCell (p := ⟨w.heap.size + 1, 0, none⟩) (by simp) _).setCell (p := ⟨w.heap.size + 1, 1, none⟩) (by simp) _
  · exact sub_keep Hs.out Hsub2.out (fun x hx => three_sets (by omega) (by omega))
end Go.Proofs.YtognbkmamhgkeaaDoor
