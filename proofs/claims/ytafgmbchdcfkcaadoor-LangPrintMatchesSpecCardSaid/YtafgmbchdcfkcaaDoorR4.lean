/-
  The walks of the reference's parser: fail, is, must, kind.
  The reference's parser by the list of the tokens that are still to come.
-/
import Derived.Test.YtafgmbchdcfkcaaDoorR3
import Derived.Deep.RegionHeld3
import Derived.Deep.QuietTactic
import Derived.BigQuiet
import Derived.StillTailTactics
import Derived.Deep.DeepCutAuto
namespace Go.Proofs.YtafgmbchdcfkcaaDoor
open Go Go.RowKit Go.Walks

/-- The reference's parser in memory. -/
structure RP (w : World) (gp : Nat) (l : List Tok) (A : Option Addr) (c i : Nat) (bad : Int) : Prop where
  row : w.heap[gp]? = some (.cells #[.slice A l.length c, .int .i64 (i : Int), .int .i64 bad] 74)
  sl : SlT w w.heap.size 46 A (tokRs l)
section
variable {w W : World} {gp : Nat} {l : List Tok} {A : Option Addr} {c i : Nat} {bad : Int}
theorem RP.below (h : RP w gp l A c i bad) (hb : Below w.heap.size w W) : RP W gp l A c i bad :=
  ⟨(hb.block _ (Array.getElem?_eq_some_iff.1 h.row).1).trans h.row, h.sl.below hb hb.size⟩
theorem RP.cells (h : RP w gp l A c i bad) : w.cell? ⟨gp, 0, none⟩ = some (.slice A l.length c) ∧ w.cell? ⟨gp, 1, none⟩ = some (.int .i64 (i : Int)) ∧ w.cell? ⟨gp, 2, none⟩ = some (.int .i64 bad) ∧ w.frozen? ⟨gp, 0, none⟩ = false ∧ w.frozen? ⟨gp, 1, none⟩ = false ∧ w.frozen? ⟨gp, 2, none⟩ = false := three_cells h.row
theorem RP.tok (h : RP w gp l A c i bad) {T : Tok} (hT : l[i]? = some T) : ∃ b o, A = some ⟨b, o, none⟩ ∧ b < w.heap.size ∧ w.cell? ⟨b, o + i * 4, none⟩ = some (strV T.text) ∧ w.cell? ⟨b, o + i * 4 + 1, none⟩ = some (.int .i64 (T.at_ : Int)) ∧ w.cell? ⟨b, o + i * 4 + 2, none⟩ = some (.int .i64 (T.kind : Int)) ∧ w.cell? ⟨b, o + i * 4 + 3, none⟩ = some (.int .i64 (T.n : Int)) := by
  have h0 := tokRs_at l i T hT 0 _ rfl
  have h1 := tokRs_at l i T hT 1 _ rfl
  have h2 := tokRs_at l i T hT 2 _ rfl
  have h3 := tokRs_at l i T hT 3 _ rfl
  rcases h.sl.sl with he | ⟨b, o, e, hlt, hc⟩
  · rw [he] at h0; simp at h0
  · exact ⟨b, o, e, hlt, hc _ _ h0, by have := hc _ _ h1; rwa [← Nat.add_assoc] at this, by have := hc _ _ h2; rwa [← Nat.add_assoc] at this, by have := hc _ _ h3; rwa [← Nat.add_assoc] at this⟩
end
/-- All old blocks but gp stay, and the parser stands there anew. -/
def RPs (w : World) (gp : Nat) (l : List Tok) (A : Option Addr) (c i : Nat) (bad : Int) (w' : World) : Prop := RP w' gp l A c i bad ∧ RB gp w w'

set_option maxRecDepth 100000 in
set_option maxHeartbeats 2000000 in
theorem ris_any (l : List Tok) (A : Option Addr) (c i gp : Nat) (bad : Int) (s : Bytes) (T : Tok) (w : World) (Hp : Hid (RP w gp l A c i bad)) (hT : Hid (l[i]? = some T)) :
    Calls Tryd.prog 64 #[.pointer (some ⟨gp, 0, none⟩), strV s] w fun e w' => e = .returned (.bool (decide (bad < 0) && (decide (T.kind = 1) || decide (T.kind = 3)) && (T.text == s))) ∧ Below w.heap.size w w' := by
  obtain ⟨c0, c1, c2, -, -, -⟩ := Hp.out.cells
  obtain ⟨b, o, hA, hbl, t0, t1, t2, t3⟩ := Hp.out.tok hT.out
  subst hA
  have hil : i < l.length := (List.getElem?_eq_some_iff.1 hT.out).1
  have hI1 : (0 : Int) ≤ (i : Int) := by omega
  have hI2 : (i : Int) < (l.length : Int) := by omega
  go_enter Tryd.func64, Tryd.ntmps64
  go_wp2_with fail
  have KS : ∀ w' : World, Below w.heap.size w w' → (w'.cell? ⟨gp, 0, none⟩ = some (.slice (some ⟨b, o, none⟩) l.length c) ∧ w'.cell? ⟨gp, 1, none⟩ = some (.int .i64 (i : Int))) ∧ (w'.cell? ⟨b, o + i * 4, none⟩ = some (strV T.text) ∧ w'.cell? ⟨b, o + i * 4 + 1, none⟩ = some (.int .i64 (T.at_ : Int))) ∧ w'.cell? ⟨b, o + i * 4 + 2, none⟩ = some (.int .i64 (T.kind : Int)) ∧ w'.cell? ⟨b, o + i * 4 + 3, none⟩ = some (.int .i64 (T.n : Int)) := by
    have hgp := (Array.getElem?_eq_some_iff.1 Hp.out.row).1
    exact fun w' hb => ⟨⟨(hb.cell (p := ⟨gp, 0, none⟩) hgp).trans c0, (hb.cell (p := ⟨gp, 1, none⟩) hgp).trans c1⟩, ⟨(hb.cell (p := ⟨b, o + i * 4, none⟩) hbl).trans t0, (hb.cell (p := ⟨b, o + i * 4 + 1, none⟩) hbl).trans t1⟩, (hb.cell (p := ⟨b, o + i * 4 + 2, none⟩) hbl).trans t2, (hb.cell (p := ⟨b, o + i * 4 + 3, none⟩) hbl).trans t3⟩
  have HKS := Lib.hid KS
  clear KS
  go_region_held3 (fun w' => (w'.cell? ⟨gp, 0, none⟩ = some (.slice (some ⟨b, o, none⟩) l.length c) ∧ w'.cell? ⟨gp, 1, none⟩ = some (.int .i64 (i : Int))) ∧ (w'.cell? ⟨b, o + i * 4, none⟩ = some (strV T.text) ∧ w'.cell? ⟨b, o + i * 4 + 1, none⟩ = some (.int .i64 (T.at_ : Int))) ∧ w'.cell? ⟨b, o + i * 4 + 2, none⟩ = some (.int .i64 (T.kind : Int)) ∧ w'.cell? ⟨b, o + i * 4 + 3, none⟩ = some (.int .i64 (T.n : Int)))
    (first | exact HKS.out _ (Below.refl _ _).drew | exact HKS.out _ ((Below.refl _ _).drew.alloc (Nat.le_refl _) _))
    (first | fail)
  have c2a := cell_alloc c2
  by_cases hb0 : bad < 0
  · have hd0 : decide (bad < 0) = true := decide_eq_true hb0
    have HD := Lib.hid hd0
    by_cases hk1 : T.kind = 1
    · have q1 : ((T.kind : Int) == 1) = true := by rw [beq_iff_eq]; omega
      have HK := Lib.hid (decide_eq_true hk1)
      clear hk1
      go_wp2_with fail
      go_ret
      exact ⟨by rw [HD.out, HK.out]; simp, ((Below.refl _ _).alloc (Nat.le_refl _) _).drew⟩
    · have q1 : ((T.kind : Int) == 1) = false := by rw [beq_eq_false_iff_ne]; omega
      have HK := Lib.hid (decide_eq_false hk1)
      clear hk1
      by_cases hk3 : T.kind = 3
      · have q3 : ((T.kind : Int) == 3) = true := by rw [beq_iff_eq]; omega
        have HK3 := Lib.hid (decide_eq_true hk3)
        clear hk3
        go_wp2_with fail
        go_ret
        exact ⟨by rw [HD.out, HK.out, HK3.out]; simp, ((Below.refl _ _).alloc (Nat.le_refl _) _).drew⟩
      · have q3 : ((T.kind : Int) == 3) = false := by rw [beq_eq_false_iff_ne]; omega
        have HK3 := Lib.hid (decide_eq_false hk3)
        clear hk3
        go_wp2_with fail
        go_ret
        exact ⟨by rw [HD.out, HK.out, HK3.out]; simp, ((Below.refl _ _).alloc (Nat.le_refl _) _).drew⟩
  · have hd0 : decide (bad < 0) = false := decide_eq_false hb0
    have HD := Lib.hid hd0
    go_wp2_with fail
    go_ret
    exact ⟨by simp, ((Below.refl _ _).alloc (Nat.le_refl _) _).drew⟩

set_option maxRecDepth 100000 in
set_option maxHeartbeats 2000000 in
theorem rfail_any (l : List Tok) (A : Option Addr) (c i gp : Nat) (bad : Int) (T : Tok) (w : World) (Hp : Hid (RP w gp l A c i bad)) (hT : Hid (l[i]? = some T)) :
    Calls Tryd.prog 66 #[.pointer (some ⟨gp, 0, none⟩)] w fun e w' => e = .returned (.tuple #[]) ∧ RPs w gp l A c i (if bad < 0 then (T.at_ : Int) else bad) w' := by
  obtain ⟨c0, c1, c2, -, -, f2⟩ := Hp.out.cells
  obtain ⟨b, o, hA, hbl, t0, t1, t2, t3⟩ := Hp.out.tok hT.out
  have hA' := hA
  subst hA
  have hil : i < l.length := (List.getElem?_eq_some_iff.1 hT.out).1
  have hI1 : (0 : Int) ≤ (i : Int) := by omega
  have hI2 : (i : Int) < (l.length : Int) := by omega
  by_cases hb0 : bad < 0
  · rw [if_pos hb0]
    go_enter Tryd.func66, Tryd.ntmps66
    go_wp2_with fail
    go_still_tail 14, (by kernel_rfl)
    change wpList _ _ _ _ _ w.drew
    go_wp2_with fail
    go_end0
    refine ⟨rfl, ⟨?_, ?_⟩, ((RB.refl gp w).setCell 2 _).drew⟩
    · have := set_at Hp.out.row 2 (.int .i64 (T.at_ : Int))
      exact this
    · have h := Hp.out.sl.keepT (KeepT.setCell (ty := 46) Hp.out.row (by decide) 2 (.int .i64 (T.at_ : Int))) (B' := (w.setCell ⟨gp, 2, none⟩ (.int .i64 (T.at_ : Int))).heap.size) (by rw [World.size_setCell]; exact Nat.le_refl _)
      exact h
  · rw [if_neg hb0]
    go_enter Tryd.func66, Tryd.ntmps66
    go_wp2_with fail
    go_end0
    exact ⟨rfl, Hp.out, RB.refl _ _⟩

/-- In must and kind: the result's block and the token's. -/
structure MS (w : World) (gp : Nat) (l : List Tok) (A : Option Addr) (c i : Nat) (bad : Int) (T : Tok) (W : World) : Prop where
  rp : RP W gp l A c i bad
  rb : RB gp w W
  g0 : W.heap[w.heap.size]? = some (.cells z4 46)
  g1 : W.heap[w.heap.size + 1]? = some (.cells (tokR T) 46)
  lt : gp < w.heap.size
  p0 : ∃ cs : Array Value, w.heap[gp]? = some (.cells cs 74)
  s0 : SlT w w.heap.size 46 A (tokRs l)
section
variable {w W W' : World} {gp c i : Nat} {l : List Tok} {A : Option Addr} {bad : Int} {T : Tok}
theorem MS.start (h : RP w gp l A c i bad) : MS w gp l A c i bad T (((w.alloc (.cells z4 46)).alloc (.cells (tokR T) 46)).drew) := by
  have hb : Below w.heap.size w ((w.alloc (.cells z4 46)).alloc (.cells (tokR T) 46)).drew := (((Below.refl _ _).alloc (Nat.le_refl _) _).alloc (by simp) _).drew
  refine ⟨h.below hb, RB.of_below hb, (Below.heap_alloc _ _ _ (by simp)).trans (heap_new w _), ?_, (Array.getElem?_eq_some_iff.1 h.row).1, ⟨_, h.row⟩, h.sl⟩
  have := heap_new (w.alloc (.cells z4 46)) (.cells (tokR T) 46)
  rwa [World.size_alloc] at this
theorem MS.below (h : MS w gp l A c i bad T W) (hb : Below W.heap.size W W') : MS w gp l A c i bad T W' :=
  ⟨h.rp.below hb, h.rb.trans (RB.of_below hb), (hb.block _ (Array.getElem?_eq_some_iff.1 h.g0).1).trans h.g0, (hb.block _ (Array.getElem?_eq_some_iff.1 h.g1).1).trans h.g1, h.lt, h.p0, h.s0⟩
theorem MS.call {i' : Nat} {bad' : Int} (h : MS w gp l A c i bad T W) (hb : RB gp W W') (hp : RP W' gp l A c i' bad') : MS w gp l A c i' bad' T W' :=
  ⟨hp, h.rb.trans hb, hb.row (by have := h.lt; omega) h.g0, hb.row (by have := h.lt; omega) h.g1, h.lt, h.p0, h.s0⟩
theorem MS.next (h : MS w gp l A c i bad T W) : MS w gp l A c (i + 1) bad T (W.setCell ⟨gp, 1, none⟩ (.int .i64 ((i : Int) + 1))) := by
  refine h.call ((RB.refl gp W).setCell 1 _) ⟨?_, ?_⟩
  · have := set_at h.rp.row 1 (.int .i64 ((i : Int) + 1))
    rw [Int.natCast_add]
    exact this
  · exact h.rp.sl.keepT (KeepT.setCell (ty := 46) h.rp.row (by decide) 1 _) (by rw [World.size_setCell]; exact Nat.le_refl _)
/-- The result is stored. -/
theorem MS.out (h : MS w gp l A c i bad T W) : (W.setCells w.heap.size 0 (tokR T).toList).heap[w.heap.size]? = some (.cells (tokR T) 46) ∧ RPs w gp l A c i bad (W.setCells w.heap.size 0 (tokR T).toList) := by
  have hlt := h.lt
  refine ⟨by rw [heap_setCells (w := W) _ 0 h.g0]; rfl, ⟨?_, ?_⟩, RB.setCells (Nat.le_refl _) _ _ h.rb⟩
  · exact (heap_setCells_other (by omega) _ _ _).trans h.rp.row
  · obtain ⟨cs, hcs⟩ := h.p0
    have hrb := RB.setCells (Nat.le_refl _) (tokR T).toList 0 h.rb
    exact h.s0.keepT (KeepT.rb hrb hcs (by decide)) hrb.size
end
/-- The token is handed back; the parser has gone on (b), or noted an error. -/
def MoveP (w : World) (gp : Nat) (l : List Tok) (A : Option Addr) (c i : Nat) (bad : Int) (T : Tok) (b : Bool) (e : Ending) (w' : World) : Prop := e = .returned (.agg (tokR T)) ∧ RPs w gp l A c (if b then i + 1 else i) (if b then bad else if bad < 0 then (T.at_ : Int) else bad) w'
theorem info46b (cs : Array Value) (hs : cs.size = 4) : (Tryd.prog.info? 46).map (·.size) = some cs.size := by rw [hs]; exact info46
theorem tokR_one (T : Tok) : (tokR T).all (·.oneCell') = true := by
  refine all_oneCell_toArray (cs := [strV T.text, .int .i64 (T.at_ : Int), .int .i64 (T.kind : Int), .int .i64 (T.n : Int)]) (fun v hv => ?_)
  simp at hv
  rcases hv with rfl | rfl | rfl | rfl <;> rfl
def isB_ (bad : Int) (T : Tok) (s : Bytes) : Bool := decide (bad < 0) && (decide (T.kind = 1) || decide (T.kind = 3)) && (T.text == s)

set_option maxRecDepth 100000 in
set_option maxHeartbeats 2000000 in
theorem rmust_any (l : List Tok) (A : Option Addr) (c i gp : Nat) (bad : Int) (s : Bytes) (T : Tok) (w : World) (hl : l.length ≤ 2001) (Hp : Hid (RP w gp l A c i bad)) (hT : Hid (l[i]? = some T)) :
    Calls Tryd.prog 62 #[.pointer (some ⟨gp, 0, none⟩), strV s] w (MoveP w gp l A c i bad T (isB_ bad T s)) := by
  have hgp := (Array.getElem?_eq_some_iff.1 Hp.out.row).1
  have hil : i < l.length := (List.getElem?_eq_some_iff.1 hT.out).1
  have hI1 : (0 : Int) ≤ (i : Int) := by omega
  have hI2 : (i : Int) < (l.length : Int) := by omega
  obtain ⟨b, o, hA, hbl, t0, t1, t2, t3⟩ := Hp.out.tok hT.out
  have HA := Lib.hid hA
  have HKS : Hid (∀ w' : World, Below w.heap.size w w' → (w'.cell? ⟨gp, 0, none⟩ = some (.slice (some ⟨b, o, none⟩) l.length c) ∧ w'.cell? ⟨gp, 1, none⟩ = some (.int .i64 (i : Int))) ∧ (w'.cell? ⟨b, o + i * 4, none⟩ = some (strV T.text) ∧ w'.cell? ⟨b, o + i * 4 + 1, none⟩ = some (.int .i64 (T.at_ : Int))) ∧ w'.cell? ⟨b, o + i * 4 + 2, none⟩ = some (.int .i64 (T.kind : Int)) ∧ w'.cell? ⟨b, o + i * 4 + 3, none⟩ = some (.int .i64 (T.n : Int))) := by
    obtain ⟨c0, c1, c2, -, -, -⟩ := Hp.out.cells
    rw [hA] at c0
    exact fun w' hb => ⟨⟨(hb.cell (p := ⟨gp, 0, none⟩) hgp).trans c0, (hb.cell (p := ⟨gp, 1, none⟩) hgp).trans c1⟩, ⟨(hb.cell (p := ⟨b, o + i * 4, none⟩) hbl).trans t0, (hb.cell (p := ⟨b, o + i * 4 + 1, none⟩) hbl).trans t1⟩, (hb.cell (p := ⟨b, o + i * 4 + 2, none⟩) hbl).trans t2, (hb.cell (p := ⟨b, o + i * 4 + 3, none⟩) hbl).trans t3⟩
  clear t0 t1 t2 t3 hbl hA
  have hB0 : Below w.heap.size w (w.alloc (.cells z4 46)) := (Below.refl _ _).alloc (Nat.le_refl _) _
  have HB0 := Lib.hid hB0
  clear hB0
  go_enter Tryd.func62, Tryd.ntmps62
  go_wp2_with fail
  go_region_held3 (fun w' => (w'.cell? ⟨gp, 0, none⟩ = some (.slice (some ⟨b, o, none⟩) l.length c) ∧ w'.cell? ⟨gp, 1, none⟩ = some (.int .i64 (i : Int))) ∧ (w'.cell? ⟨b, o + i * 4, none⟩ = some (strV T.text) ∧ w'.cell? ⟨b, o + i * 4 + 1, none⟩ = some (.int .i64 (T.at_ : Int))) ∧ w'.cell? ⟨b, o + i * 4 + 2, none⟩ = some (.int .i64 (T.kind : Int)) ∧ w'.cell? ⟨b, o + i * 4 + 3, none⟩ = some (.int .i64 (T.n : Int)))
    (first | exact HKS.out _ HB0.out.drew | exact HKS.out _ (HB0.out.drew.alloc HB0.out.size _))
    (first | fail)
  obtain ⟨W0, hW0⟩ : ∃ W0, W0 = ((w.alloc (.cells z4 46)).alloc (.cells (tokR T) 46)).drew := ⟨_, rfl⟩
  have hM0 : MS w gp l A c i bad T W0 := by rw [hW0]; exact MS.start Hp.out
  unfold tokR at hW0
  rw [← hW0]
  clear hW0
  have M0 := Lib.hid hM0
  clear hM0
  have hcall := ris_any l A c i gp bad s T W0 M0.out.rp hT
  cases his : isB_ bad T s with
  | true =>
    rw [show (decide (bad < 0) && (decide (T.kind = 1) || decide (T.kind = 3)) && (T.text == s)) = true from his] at hcall
    have Hcall := Lib.hid hcall
    have His := Lib.hid his
    clear hcall his
    go_upto_region 5 with (go_at_call 64; refine Hcall.out.mono ?_; rintro e w1 ⟨rfl, hb1⟩; have M1 := Lib.hid (M0.out.below hb1); obtain ⟨c0, c1, c2, f0, f1, f2⟩ := M1.out.rp.cells; clear hb1)
    go_upto_region 6 with fail
    have M2 := Lib.hid M1.out.next
    go_wp2_with (first | (refine wpList_load_row rfl 46 _ rfl (w.heap.size + 1) rfl 46 (tokR T) (0, 0) _ M2.out.g1 Tryd.underlying46 rfl (info46b _ rfl) ?_) | (refine wpList_store_mid rfl 46 _ _ rfl w.heap.size 0 (tokR T) rfl rfl (there_of_row M2.out.g0 0 4 (Nat.le_refl _)) (info46b _ rfl) (tokR_one T) ?_))
    obtain ⟨o1, o2⟩ := M2.out.out
    refine bodyPost_ret (results_cell_row (p := 4) (ty := 46) rfl _ _ w.heap.size 46 _ (0, 0) _ rfl o1 Tryd.underlying46 rfl (info46b _ rfl)) rfl ⟨rfl, ?_⟩
    simp only [His.out, if_true]
    exact o2
  | false =>
    rw [show (decide (bad < 0) && (decide (T.kind = 1) || decide (T.kind = 3)) && (T.text == s)) = false from his] at hcall
    have Hcall := Lib.hid hcall
    have His := Lib.hid his
    clear hcall his
    go_wp2_with (first | (go_at_call 64; refine Hcall.out.mono ?_; rintro e w1 ⟨rfl, hb1⟩; have M1 := Lib.hid (M0.out.below hb1); clear hb1) | (go_at_call 66; refine (rfail_any l A c i gp bad T _ M1.out.rp hT).mono ?_; rintro e w2 ⟨rfl, hp2, hb2⟩; have M2 := Lib.hid (M1.out.call hb2 hp2); clear hp2 hb2) | (refine wpList_load_row rfl 46 _ rfl (w.heap.size + 1) rfl 46 (tokR T) (0, 0) _ M2.out.g1 Tryd.underlying46 rfl (info46b _ rfl) ?_) | (refine wpList_store_mid rfl 46 _ _ rfl w.heap.size 0 (tokR T) rfl rfl (there_of_row M2.out.g0 0 4 (Nat.le_refl _)) (info46b _ rfl) (tokR_one T) ?_))
    obtain ⟨o1, o2⟩ := M2.out.out
    refine bodyPost_ret (results_cell_row (p := 4) (ty := 46) rfl _ _ w.heap.size 46 _ (0, 0) _ rfl o1 Tryd.underlying46 rfl (info46b _ rfl)) rfl ⟨rfl, ?_⟩
    simp only [His.out, Bool.false_eq_true, if_false]
    exact o2
def isK_ (bad : Int) (T : Tok) (k : Nat) : Bool := decide (bad < 0) && decide (T.kind = k)
theorem isK_yes {bad : Int} {T : Tok} {k : Nat} (h : isK_ bad T k = true) : bad < 0 ∧ T.kind = k := by
  unfold isK_ at h
  simpa using h
theorem isK_no {bad : Int} {T : Tok} {k : Nat} (h : isK_ bad T k = false) (hb : bad < 0) : T.kind ≠ k := by
  unfold isK_ at h
  intro e
  simp [hb, e] at h
set_option maxRecDepth 100000 in
set_option maxHeartbeats 2000000 in
theorem rkind_any (l : List Tok) (A : Option Addr) (c i gp : Nat) (bad : Int) (k : Nat) (T : Tok) (w : World) (hl : l.length ≤ 2001) (Hp : Hid (RP w gp l A c i bad)) (hT : Hid (l[i]? = some T)) :
    Calls Tryd.prog 44 #[.pointer (some ⟨gp, 0, none⟩), .int .i64 (k : Int)] w (MoveP w gp l A c i bad T (isK_ bad T k)) := by
  have hgp := (Array.getElem?_eq_some_iff.1 Hp.out.row).1
  have hil : i < l.length := (List.getElem?_eq_some_iff.1 hT.out).1
  have hI1 : (0 : Int) ≤ (i : Int) := by omega
  have hI2 : (i : Int) < (l.length : Int) := by omega
  obtain ⟨b, o, hA, hbl, t0, t1, t2, t3⟩ := Hp.out.tok hT.out
  have HA := Lib.hid hA
  have HKS : Hid (∀ w' : World, Below w.heap.size w w' → (w'.cell? ⟨gp, 0, none⟩ = some (.slice (some ⟨b, o, none⟩) l.length c) ∧ w'.cell? ⟨gp, 1, none⟩ = some (.int .i64 (i : Int))) ∧ (w'.cell? ⟨b, o + i * 4, none⟩ = some (strV T.text) ∧ w'.cell? ⟨b, o + i * 4 + 1, none⟩ = some (.int .i64 (T.at_ : Int))) ∧ w'.cell? ⟨b, o + i * 4 + 2, none⟩ = some (.int .i64 (T.kind : Int)) ∧ w'.cell? ⟨b, o + i * 4 + 3, none⟩ = some (.int .i64 (T.n : Int))) := by
    obtain ⟨c0, c1, c2, -, -, -⟩ := Hp.out.cells
    rw [hA] at c0
    exact fun w' hb => ⟨⟨(hb.cell (p := ⟨gp, 0, none⟩) hgp).trans c0, (hb.cell (p := ⟨gp, 1, none⟩) hgp).trans c1⟩, ⟨(hb.cell (p := ⟨b, o + i * 4, none⟩) hbl).trans t0, (hb.cell (p := ⟨b, o + i * 4 + 1, none⟩) hbl).trans t1⟩, (hb.cell (p := ⟨b, o + i * 4 + 2, none⟩) hbl).trans t2, (hb.cell (p := ⟨b, o + i * 4 + 3, none⟩) hbl).trans t3⟩
  clear t0 t1 t2 t3 hbl hA
  have hB0 : Below w.heap.size w (w.alloc (.cells z4 46)) := (Below.refl _ _).alloc (Nat.le_refl _) _
  have HB0 := Lib.hid hB0
  clear hB0
  go_enter Tryd.func44, Tryd.ntmps44
  go_wp2_with fail
  go_region_held3 (fun w' => (w'.cell? ⟨gp, 0, none⟩ = some (.slice (some ⟨b, o, none⟩) l.length c) ∧ w'.cell? ⟨gp, 1, none⟩ = some (.int .i64 (i : Int))) ∧ (w'.cell? ⟨b, o + i * 4, none⟩ = some (strV T.text) ∧ w'.cell? ⟨b, o + i * 4 + 1, none⟩ = some (.int .i64 (T.at_ : Int))) ∧ w'.cell? ⟨b, o + i * 4 + 2, none⟩ = some (.int .i64 (T.kind : Int)) ∧ w'.cell? ⟨b, o + i * 4 + 3, none⟩ = some (.int .i64 (T.n : Int)))
    (first | exact HKS.out _ HB0.out.drew | exact HKS.out _ (HB0.out.drew.alloc HB0.out.size _))
    (first | fail)
  obtain ⟨W0, hW0⟩ : ∃ W0, W0 = ((w.alloc (.cells z4 46)).alloc (.cells (tokR T) 46)).drew := ⟨_, rfl⟩
  have hM0 : MS w gp l A c i bad T W0 := by rw [hW0]; exact MS.start Hp.out
  unfold tokR at hW0
  rw [← hW0]
  clear hW0
  have M0 := Lib.hid hM0
  clear hM0
  cases his : isK_ bad T k with
  | true =>
    obtain ⟨hb0, hk⟩ := isK_yes his
    have His := Lib.hid his
    clear his
    obtain ⟨c0, c1, c2, f0, f1, f2⟩ := M0.out.rp.cells
    obtain ⟨x0, x1, x2, x3, -, -, -, -⟩ := four_cells (show W0.heap[w.heap.size + 1]? = some (.cells #[strV T.text, .int .i64 (T.at_ : Int), .int .i64 (T.kind : Int), .int .i64 (T.n : Int)] 46) from M0.out.g1)
    have q0 : ¬ 0 ≤ bad := by omega
    have q1 : decide (0 ≤ bad) = false := decide_eq_false q0
    have q2 : ((T.kind : Int) == (k : Int)) = true := by rw [beq_iff_eq]; omega
    have q3 : ((T.kind : Int) != (k : Int)) = false := by rw [bne, q2]; rfl
    clear hk
    go_upto_region 6 with fail
    have M2 := Lib.hid M0.out.next
    go_wp2_with (first | (refine wpList_load_row rfl 46 _ rfl (w.heap.size + 1) rfl 46 (tokR T) (0, 0) _ M2.out.g1 Tryd.underlying46 rfl (info46b _ rfl) ?_) | (refine wpList_store_mid rfl 46 _ _ rfl w.heap.size 0 (tokR T) rfl rfl (there_of_row M2.out.g0 0 4 (Nat.le_refl _)) (info46b _ rfl) (tokR_one T) ?_))
    obtain ⟨o1, o2⟩ := M2.out.out
    refine bodyPost_ret (results_cell_row (p := 4) (ty := 46) rfl _ _ w.heap.size 46 _ (0, 0) _ rfl o1 Tryd.underlying46 rfl (info46b _ rfl)) rfl ⟨rfl, ?_⟩
    simp only [His.out, if_true]
    exact o2
  | false =>
    have His := Lib.hid his
    obtain ⟨c0, c1, c2, f0, f1, f2⟩ := M0.out.rp.cells
    obtain ⟨x0, x1, x2, x3, -, -, -, -⟩ := four_cells (show W0.heap[w.heap.size + 1]? = some (.cells #[strV T.text, .int .i64 (T.at_ : Int), .int .i64 (T.kind : Int), .int .i64 (T.n : Int)] 46) from M0.out.g1)
    go_upto_region 2 with fail
    go_cut [26] (fun s26 wx => s26 = .bool true ∧ wx = W0)
    case first =>
      by_cases hb0 : 0 ≤ bad
      · have q1 : decide (0 ≤ bad) = true := decide_eq_true hb0
        go_wp2_with fail
        go_meet
        exact ⟨rfl, rfl⟩
      · have q1 : decide (0 ≤ bad) = false := decide_eq_false hb0
        have q2 : ((T.kind : Int) == (k : Int)) = false := by
          rw [beq_eq_false_iff_ne]
          intro e
          have := isK_no his (by omega)
          omega
        have q3 : ((T.kind : Int) != (k : Int)) = true := by rw [bne, q2]; rfl
        clear his
        go_wp2_with fail
        go_meet
        exact ⟨rfl, rfl⟩
    case rest =>
    obtain ⟨rfl, hwc⟩ := hcut
    rw [hwc]
    clear hwc x0 x1 x2 x3 c0 c1 c2 f0 f1 f2 his
    go_wp2_with (first | (go_at_call 66; refine (rfail_any l A c i gp bad T _ M0.out.rp hT).mono ?_; rintro e w2 ⟨rfl, hp2, hb2⟩; have M2 := Lib.hid (M0.out.call hb2 hp2); clear hp2 hb2) | (refine wpList_load_row rfl 46 _ rfl (w.heap.size + 1) rfl 46 (tokR T) (0, 0) _ M2.out.g1 Tryd.underlying46 rfl (info46b _ rfl) ?_) | (refine wpList_store_mid rfl 46 _ _ rfl w.heap.size 0 (tokR T) rfl rfl (there_of_row M2.out.g0 0 4 (Nat.le_refl _)) (info46b _ rfl) (tokR_one T) ?_))
    obtain ⟨o1, o2⟩ := M2.out.out
    refine bodyPost_ret (results_cell_row (p := 4) (ty := 46) rfl _ _ w.heap.size 46 _ (0, 0) _ rfl o1 Tryd.underlying46 rfl (info46b _ rfl)) rfl ⟨rfl, ?_⟩
    simp only [His.out, Bool.false_eq_true, if_false]
    exact o2
end Go.Proofs.YtafgmbchdcfkcaaDoor
namespace Go.Proofs.YtafgmbchdcfkcaaDoor
open Go Go.RowKit Go.Walks

/-- A token's text tells its kind. -/
def GoodTok (T : Tok) : Prop := (3 < T.kind ∧ T.text = []) ∨ (1 ≤ T.kind ∧ T.kind ≤ 3 ∧ ∃ c s, T.text = c :: s ∧ (T.kind = 2 ↔ isD c = true))
structure WFl (l : List Tok) : Prop where
  good : ∀ T ∈ l, GoodTok T
  last : ∀ (i : Nat) (T : Tok), l[i]? = some T → T.kind ≤ 3 → i + 1 < l.length
theorem good_lex (s : Bytes) (a : Nat) : GoodTok (lexT s a) := by
  by_cases h3 : 3 < kindL s
  · exact .inl ⟨h3, lex0 h3⟩
  · have hp := lexLen_pos (s := s) (by omega)
    cases hs : s with
    | nil =>
      rw [hs] at h3
      exact absurd (show 3 < kindL [] by decide) h3
    | cons d r =>
      rw [hs] at h3 hp
      obtain ⟨k, hk⟩ : ∃ k, lexLen (d :: r) = k + 1 := ⟨lexLen (d :: r) - 1, by omega⟩
      have htx : (lexT (d :: r) a).text = d :: r.take k := by
        show (d :: r).take (lexLen (d :: r)) = _
        rw [hk, List.take_succ_cons]
      exact .inr ⟨by show 1 ≤ kindL (d :: r); rcases kind_cases (d :: r) with h | h | h | h | h <;> omega, by show kindL (d :: r) ≤ 3; omega, d, _, htx, (lex_head (s := d :: r) (c := d) (r := r.take k) htx).2.1⟩
theorem toksF_good : ∀ (f : Nat) (s : Bytes) (a : Nat) (T : Tok), T ∈ toksF f s a → GoodTok T
  | 0, _, _, T, h => by cases h
  | f + 1, s, a, T, h => by
    simp only [toksF] at h
    split at h
    · have : T = lexT (s.drop (skipS false s)) (a + skipS false s) := by simpa using h
      subst this
      exact good_lex _ _
    · rcases List.mem_cons.1 h with rfl | h
      · exact good_lex _ _
      · exact toksF_good f _ _ T h
theorem toksF_last : ∀ (f : Nat) (s : Bytes) (a : Nat), s.length < f → ∀ (i : Nat) (T : Tok), (toksF f s a)[i]? = some T → T.kind ≤ 3 → i + 1 < (toksF f s a).length
  | 0, s, a, hf, i, T, h, hk => by omega
  | f + 1, s, a, hf, i, T, h, hk => by
    have hne : ∀ (f : Nat) (s : Bytes) (a : Nat), 0 < f → 0 < (toksF f s a).length := by
      intro f s a hf
      cases f with
      | zero => omega
      | succ f =>
        simp only [toksF]
        split <;> simp
    simp only [toksF] at h ⊢
    by_cases h3 : 3 < (lexT (s.drop (skipS false s)) (a + skipS false s)).kind
    · rw [if_pos h3] at h
      cases i with
      | zero =>
        simp at h
        rw [← h] at hk
        omega
      | succ i => simp at h
    · rw [if_neg h3] at h ⊢
      have hp := lexLen_pos (s := s.drop (skipS false s)) (by simp only [lexT] at h3; omega)
      have hl := lexT_len (s.drop (skipS false s)) (a + skipS false s)
      have hle := lexLen_le (s.drop (skipS false s))
      rw [List.length_drop] at hle
      have hf' : (s.drop (skipS false s + (lexT (s.drop (skipS false s)) (a + skipS false s)).text.length)).length < f := by rw [List.length_drop]; omega
      cases i with
      | zero =>
        have := hne f (s.drop (skipS false s + (lexT (s.drop (skipS false s)) (a + skipS false s)).text.length)) (a + skipS false s + (lexT (s.drop (skipS false s)) (a + skipS false s)).text.length) (by omega)
        simp only [List.length_cons]
        omega
      | succ i =>
        have := toksF_last f _ _ hf' i T (by simpa using h) hk
        simp only [List.length_cons]
        omega
theorem wfl_toks (l : Bytes) : WFl (toks l 0) := ⟨toksF_good _ _ _, toksF_last _ _ _ (by rw [List.length_drop]; omega)⟩

/-- The reference's parser stands before the tokens of x, or has noted the error of x. -/
def RAt (w : World) (gp : Nat) (l : List Tok) (A : Option Addr) (c : Nat) : PR Unit → Prop
  | .ok _ ts => ∃ i, RP w gp l A c i (-1) ∧ i < l.length ∧ ts = l.drop i
  | .bad p => ∃ i, RP w gp l A c i (p : Int) ∧ i < l.length
def mustU (s : Bytes) (x : PR Unit) : PR Unit := x.next fun _ ts => (mustT s ts).next fun _ a => .ok () a
def kindU (k : Nat) (x : PR Unit) : PR Unit := x.next fun _ ts => (kindT k ts).next fun _ a => .ok () a
/-- T is the token that x stands before. -/
def Front (T : Tok) (x : PR Unit) : Prop := ∀ u ts, x = .ok u ts → ∃ r, ts = T :: r
def TokU (gp : Nat) (l : List Tok) (A : Option Addr) (c : Nat) (x y : PR Unit) (w : World) (e : Ending) (w' : World) : Prop := ∃ T, e = .returned (.agg (tokR T)) ∧ Front T x ∧ RAt w' gp l A c y ∧ RB gp w w'

section
variable {w W : World} {gp : Nat} {l : List Tok} {A : Option Addr} {c : Nat}
theorem RAt.below {x : PR Unit} (h : RAt w gp l A c x) (hb : Below w.heap.size w W) : RAt W gp l A c x := by
  cases x with
  | ok u ts => obtain ⟨i, h1, h2⟩ := h; exact ⟨i, h1.below hb, h2⟩
  | bad p => obtain ⟨i, h1, h2⟩ := h; exact ⟨i, h1.below hb, h2⟩
theorem is_tok {s : Bytes} {d : UInt8} {r : Bytes} (hs : s = d :: r) (hd : isD d = false) {T : Tok} (hT : GoodTok T) : isB_ (-1) T s = (T.text == s) := by
  unfold isB_
  rcases hT with ⟨h3, h0⟩ | ⟨h1', h3, c, q, h1, h2⟩
  · rw [h0, hs]
    simp
  · by_cases he : T.text = s
    · have hc : c = d := by
        rw [h1, hs] at he
        injection he
      have hk : T.kind ≠ 2 := fun e => by rw [← hc, h2.1 e] at hd; cases hd
      have hk' : T.kind = 1 ∨ T.kind = 3 := by omega
      rcases hk' with h | h <;> simp [h]
    · have : (T.text == s) = false := by simpa using he
      rw [this, Bool.and_false]
theorem good_kind {s : Bytes} (hs : s ≠ []) {T : Tok} (hT : GoodTok T) (h : T.text = s) : T.kind ≤ 3 := by
  rcases hT with ⟨h3, h0⟩ | ⟨_, h3, _⟩
  · rw [h] at h0; exact absurd h0 hs
  · exact h3
theorem drop_get {l : List Tok} {i : Nat} (h : i < l.length) : l.drop i = l[i] :: l.drop (i + 1) := List.drop_eq_getElem_cons h

theorem front_ok {i : Nat} (u : Unit) (hi : i < l.length) : Front l[i] (.ok u (l.drop i)) := by
  intro u' ts' e
  injection e with _ e
  exact ⟨l.drop (i + 1), by rw [← e]; exact drop_get hi⟩
theorem front_bad (T : Tok) (p : Nat) : Front T (.bad p) := fun u ts e => by cases e
theorem must_R (hw : WFl l) (hl : l.length ≤ 2001) (s : Bytes) {d : UInt8} {r : Bytes} (hs : s = d :: r) (hd : isD d = false) {x : PR Unit} (h : RAt w gp l A c x) :
    Calls Tryd.prog 62 #[.pointer (some ⟨gp, 0, none⟩), strV s] w (TokU gp l A c x (mustU s x) w) := by
  cases x with
  | ok u ts =>
    obtain ⟨i, hp, hi, rfl⟩ := h
    have hget := List.getElem?_eq_getElem hi
    have hgood := hw.good _ (List.getElem_mem hi)
    refine (rmust_any l A c i gp (-1) s l[i] w hl hp hget).mono ?_
    rintro e w' ⟨rfl, hrp, hrb⟩
    refine ⟨l[i], rfl, front_ok u hi, ?_, hrb⟩
    rw [is_tok hs hd hgood] at hrp
    show RAt w' gp l A c ((mustT s (l.drop i)).next fun _ a => .ok () a)
    rw [drop_get hi, mustT]
    cases he : (l[i].text == s) with
    | true =>
      rw [he] at hrp
      have hk := good_kind (s := s) (by rw [hs]; simp) hgood (by simpa using he)
      exact ⟨i + 1, by simpa using hrp, hw.last i _ hget hk, rfl⟩
    | false =>
      rw [he] at hrp
      exact ⟨i, by simpa using hrp, hi⟩
  | bad p =>
    obtain ⟨i, hp, hi⟩ := h
    have hget := List.getElem?_eq_getElem hi
    refine (rmust_any l A c i gp p s l[i] w hl hp hget).mono ?_
    rintro e w' ⟨rfl, hrp, hrb⟩
    have hb : isB_ (p : Int) l[i] s = false := by unfold isB_; rw [decide_eq_false (by omega)]; rfl
    rw [hb] at hrp
    refine ⟨l[i], rfl, front_bad _ p, ⟨i, ?_, hi⟩, hrb⟩
    simp only [Bool.false_eq_true, if_false] at hrp
    rwa [if_neg (by omega)] at hrp
theorem kind_R (hw : WFl l) (hl : l.length ≤ 2001) (k : Nat) (hk : k ≤ 3) {x : PR Unit} (h : RAt w gp l A c x) :
    Calls Tryd.prog 44 #[.pointer (some ⟨gp, 0, none⟩), .int .i64 (k : Int)] w (TokU gp l A c x (kindU k x) w) := by
  cases x with
  | ok u ts =>
    obtain ⟨i, hp, hi, rfl⟩ := h
    have hget := List.getElem?_eq_getElem hi
    refine (rkind_any l A c i gp (-1) k l[i] w hl hp hget).mono ?_
    rintro e w' ⟨rfl, hrp, hrb⟩
    refine ⟨l[i], rfl, front_ok u hi, ?_, hrb⟩
    show RAt w' gp l A c ((kindT k (l.drop i)).next fun _ a => .ok () a)
    rw [drop_get hi, kindT]
    by_cases he : l[i].kind = k
    · have hb : isK_ (-1) l[i] k = true := by unfold isK_; simp [he]
      rw [hb] at hrp
      rw [if_pos he]
      exact ⟨i + 1, by simpa using hrp, hw.last i _ hget (by omega), rfl⟩
    · have hb : isK_ (-1) l[i] k = false := by unfold isK_; simp [he]
      rw [hb] at hrp
      rw [if_neg he]
      exact ⟨i, by simpa using hrp, hi⟩
  | bad p =>
    obtain ⟨i, hp, hi⟩ := h
    have hget := List.getElem?_eq_getElem hi
    refine (rkind_any l A c i gp p k l[i] w hl hp hget).mono ?_
    rintro e w' ⟨rfl, hrp, hrb⟩
    have hb : isK_ (p : Int) l[i] k = false := by unfold isK_; rw [decide_eq_false (by omega)]; rfl
    rw [hb] at hrp
    refine ⟨l[i], rfl, front_bad _ p, ⟨i, ?_, hi⟩, hrb⟩
    simp only [Bool.false_eq_true, if_false] at hrp
    rwa [if_neg (by omega)] at hrp
def isU (s : Bytes) : PR Unit → Bool
  | .ok _ ts => headIs s ts
  | .bad _ => false
theorem is_R (hw : WFl l) (s : Bytes) {d : UInt8} {r : Bytes} (hs : s = d :: r) (hd : isD d = false) {x : PR Unit} (h : RAt w gp l A c x) :
    Calls Tryd.prog 64 #[.pointer (some ⟨gp, 0, none⟩), strV s] w fun e w' => e = .returned (.bool (isU s x)) ∧ Below w.heap.size w w' := by
  cases x with
  | ok u ts =>
    obtain ⟨i, hp, hi, rfl⟩ := h
    have hgood := hw.good _ (List.getElem_mem hi)
    refine (ris_any l A c i gp (-1) s l[i] w hp (List.getElem?_eq_getElem hi)).mono ?_
    rintro e w' ⟨rfl, hb⟩
    refine ⟨?_, hb⟩
    have := is_tok hs hd hgood
    unfold isB_ at this
    rw [this]
    show _ = Ending.returned (.bool (headIs s (l.drop i)))
    rw [drop_get hi]
    rfl
  | bad p =>
    obtain ⟨i, hp, hi⟩ := h
    refine (ris_any l A c i gp p s l[i] w hp (List.getElem?_eq_getElem hi)).mono ?_
    rintro e w' ⟨rfl, hb⟩
    refine ⟨?_, hb⟩
    rw [decide_eq_false (by omega)]
    rfl
end
end Go.Proofs.YtafgmbchdcfkcaaDoor
