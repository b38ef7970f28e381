/-
  The walk of the statement LangPrintMatchesSpec: it returns true for every two codes.
-/
import Derived.Test.YtafgmbchdcfkcaaDoorT5
import Derived.Test.YtafgmbchdcfkcaaDoorS10
namespace Go.Proofs.YtafgmbchdcfkcaaDoor
open Go Go.RowKit Go.Walks

theorem CB.cellsP {W : World} {g : Nat} {C : Code} {A : Option Addr} {c : Nat} (h : CB W g C A c) : W.cell? ⟨g, 0, none⟩ = some (strV C.name) ∧ W.cell? ⟨g, 1, none⟩ = some (.int .i64 C.field) ∧ W.cell? ⟨g, 2, none⟩ = some (.int .i64 C.data) ∧ W.cell? ⟨g, 3, none⟩ = some (.slice A C.par.length c) ∧ W.cell? ⟨g, 4, none⟩ = some (.int .i64 C.dom) :=
  ⟨(cell_at h.row 0 rfl).1, (cell_at h.row 1 rfl).1, (cell_at h.row 2 rfl).1, (cell_at h.row 3 rfl).1, (cell_at h.row 4 rfl).1⟩

set_option maxRecDepth 100000 in
set_option maxHeartbeats 4000000 in
theorem lawPrint_any (a b : Code) (ca cb : List Value) (w : World) (Hg : Hid (Gl w)) (Ha : Hid (CodeS w a ca)) (Hb : Hid (CodeS w b cb)) (La : Hid (CodeL a)) (Lb : Hid (CodeL b)) (hn : a.name.length ≤ maxLen) :
    Calls Tryd.prog 3 #[.agg ca.toArray, .agg cb.toArray] w (BoolR true w) := by
  obtain ⟨A, c, mc, rfl, h1, h2⟩ := id Ha.out
  obtain ⟨B, d, md, rfl, k1, k2⟩ := id Hb.out
  clear h1 h2 k1 k2
  have B0 := Lib.hid (((Below.refl w.heap.size w).alloc (Nat.le_refl _) (.cells (codeV a A c) 24)).alloc (by simp) (.cells (codeV b B d) 24))
  have D0 : Hid (CB ((w.alloc (.cells (codeV a A c) 24)).alloc (.cells (codeV b B d) 24)) w.heap.size a A c) :=
    ⟨(Below.heap_alloc _ _ _ (by simp)).trans (heap_new _ _), Ha.out.below B0.out⟩
  have F0 : Hid (CB ((w.alloc (.cells (codeV a A c) 24)).alloc (.cells (codeV b B d) 24)) (w.heap.size + 1) b B d) :=
    ⟨by have := heap_new (w.alloc (.cells (codeV a A c) 24)) (.cells (codeV b B d) 24); simpa using this, Hb.out.below B0.out⟩
  have HP : Hid (∀ W, CodeS W a (codeV a A c).toList → Gl W → Calls Tryd.prog 11 #[.agg (codeV a A c)] W (PrintR (printB a) W)) := fun W hc hg => print_any a (codeV a A c).toList W hg hc La hn
  have HR : Hid (∀ W, CodeS W a (codeV a A c).toList → Calls Tryd.prog 12 #[.agg (codeV a A c)] W (PrintR (printB a) W)) := fun W hc => printR_any a (codeV a A c).toList W hc La hn
  have HC : Hid (∀ W, CodeS W a (codeV a A c).toList → Calls Tryd.prog 14 #[.agg (codeV a A c)] W (NatR (checkB a) W)) := fun W hc => check_any a (codeV a A c).toList W hc La hn
  have HD : Hid (∀ W, CodeS W a (codeV a A c).toList → Calls Tryd.prog 15 #[.agg (codeV a A c)] W (NatR (checkB a) W)) := fun W hc => checkR_any a (codeV a A c).toList W hc La hn
  have HS : Hid (∀ W, CodeS W a (codeV a A c).toList → CodeS W b (codeV b B d).toList → Calls Tryd.prog 16 #[.agg (codeV a A c), .agg (codeV b B d)] W (BoolR (sameB a b) W)) := fun W hc hd => same_any a b (codeV a A c).toList (codeV b B d).toList W hc hd La Lb
  have HT : Hid (∀ W, CodeS W a (codeV a A c).toList → CodeS W b (codeV b B d).toList → Calls Tryd.prog 17 #[.agg (codeV a A c), .agg (codeV b B d)] W (BoolR (sameB a b) W)) := fun W hc hd => sameR_any a b (codeV a A c).toList (codeV b B d).toList W hc hd La Lb
  obtain ⟨pr, hpr⟩ : ∃ x, x = printB a := ⟨_, rfl⟩
  obtain ⟨ck, hck⟩ : ∃ x, x = checkB a := ⟨_, rfl⟩
  obtain ⟨sm, hsm⟩ : ∃ x, x = sameB a b := ⟨_, rfl⟩
  rw [← hpr] at HP HR
  rw [← hck] at HC HD
  rw [← hsm] at HS HT
  obtain ⟨tx, en⟩ := pr
  clear hpr hck hsm Ha Hb
  obtain ⟨x0, x1, x2, x3, x4⟩ := D0.out.cellsP
  obtain ⟨y0, y1, y2, y3, y4⟩ := F0.out.cellsP
  go_enter Tryd.func3, Tryd.ntmps3
  go_wp2_with fail
  refine (HP.out _ D0.out.code (Hg.out.below B0.out)).mono ?_
  rintro e w1 ⟨rfl, hb1⟩
  have B1 := Lib.hid (B0.out.trans (hb1.mono B0.out.size))
  have D1 := Lib.hid (D0.out.below hb1)
  have F1 := Lib.hid (F0.out.below hb1)
  clear hb1 B0 D0 F0 x0 x1 x2 x3 x4 y0 y1 y2 y3 y4
  obtain ⟨x0, x1, x2, x3, x4⟩ := D1.out.cellsP
  dsimp only
  go_wp2_with fail
  refine (HR.out _ D1.out.code).mono ?_
  rintro e w2 ⟨rfl, hb2⟩
  have B2 := Lib.hid (B1.out.trans (hb2.mono B1.out.size))
  have D2 := Lib.hid (D1.out.below hb2)
  have F2 := Lib.hid (F1.out.below hb2)
  clear hb2 B1 D1 F1 x0 x1 x2 x3 x4
  dsimp only
  go_upto_region 3 with fail
  have HK : Hid (∀ W, Below w2.heap.size w2 W → Gl W ∧ CodeS W a (codeV a A c).toList ∧ CodeS W b (codeV b B d).toList) := fun W hb => ⟨Hg.out.below (B2.out.trans (hb.mono B2.out.size)), (D2.out.below hb).code, (F2.out.below hb).code⟩
  have HKS : Hid (∀ W, Below w2.heap.size w2 W → ((W.cell? ⟨w.heap.size, 0, none⟩ = some (strV a.name) ∧ W.cell? ⟨w.heap.size, 1, none⟩ = some (.int .i64 a.field)) ∧ (W.cell? ⟨w.heap.size, 2, none⟩ = some (.int .i64 a.data) ∧ W.cell? ⟨w.heap.size, 3, none⟩ = some (.slice A a.par.length c)) ∧ W.cell? ⟨w.heap.size, 4, none⟩ = some (.int .i64 a.dom)) ∧ (W.cell? ⟨w.heap.size + 1, 0, none⟩ = some (strV b.name) ∧ W.cell? ⟨w.heap.size + 1, 1, none⟩ = some (.int .i64 b.field)) ∧ (W.cell? ⟨w.heap.size + 1, 2, none⟩ = some (.int .i64 b.data) ∧ W.cell? ⟨w.heap.size + 1, 3, none⟩ = some (.slice B b.par.length d)) ∧ W.cell? ⟨w.heap.size + 1, 4, none⟩ = some (.int .i64 b.dom)) := by
    intro W hb
    obtain ⟨x0, x1, x2, x3, x4⟩ := (D2.out.below hb).cellsP
    obtain ⟨y0, y1, y2, y3, y4⟩ := (F2.out.below hb).cellsP
    exact ⟨⟨⟨x0, x1⟩, ⟨x2, x3⟩, x4⟩, ⟨y0, y1⟩, ⟨y2, y3⟩, y4⟩
  clear D2 F2
  go_region_held3 (fun W => ((W.cell? ⟨w.heap.size, 0, none⟩ = some (strV a.name) ∧ W.cell? ⟨w.heap.size, 1, none⟩ = some (.int .i64 a.field)) ∧ (W.cell? ⟨w.heap.size, 2, none⟩ = some (.int .i64 a.data) ∧ W.cell? ⟨w.heap.size, 3, none⟩ = some (.slice A a.par.length c)) ∧ W.cell? ⟨w.heap.size, 4, none⟩ = some (.int .i64 a.dom)) ∧ (W.cell? ⟨w.heap.size + 1, 0, none⟩ = some (strV b.name) ∧ W.cell? ⟨w.heap.size + 1, 1, none⟩ = some (.int .i64 b.field)) ∧ (W.cell? ⟨w.heap.size + 1, 2, none⟩ = some (.int .i64 b.data) ∧ W.cell? ⟨w.heap.size + 1, 3, none⟩ = some (.slice B b.par.length d)) ∧ W.cell? ⟨w.heap.size + 1, 4, none⟩ = some (.int .i64 b.dom))
    (first | exact HKS.out _ HB17.out | exact HKS.out _ HB16.out | exact HKS.out _ HB15.out | exact HKS.out _ HB14.out | exact HKS.out _ HB13.out | exact HKS.out _ (Below.refl _ _).drew)
    (first
      | (go_at_call 13; refine (sanity_any _ (HK.out _ (Below.refl _ _).drew).1).mono ?_; rintro e w6 ⟨rfl, hb6⟩; have HB13 := Lib.hid ((Below.refl w2.heap.size w2).drew.trans hb6); clear hb6)
      | (go_at_call 14; refine (HC.out _ (HK.out _ HB13.out).2.1).mono ?_; rintro e w6 ⟨rfl, hb6⟩; have HB14 := Lib.hid (HB13.out.trans (hb6.mono HB13.out.size)); clear hb6)
      | (go_at_call 15; refine (HD.out _ (HK.out _ HB14.out).2.1).mono ?_; rintro e w6 ⟨rfl, hb6⟩; have HB15 := Lib.hid (HB14.out.trans (hb6.mono HB14.out.size)); clear hb6)
      | (go_at_call 16; refine (HS.out _ (HK.out _ HB15.out).2.1 (HK.out _ HB15.out).2.2).mono ?_; rintro e w6 ⟨rfl, hb6⟩; have HB16 := Lib.hid (HB15.out.trans (hb6.mono HB15.out.size)); clear hb6)
      | (go_at_call 17; refine (HT.out _ (HK.out _ HB16.out).2.1 (HK.out _ HB16.out).2.2).mono ?_; rintro e w6 ⟨rfl, hb6⟩; have HB17 := Lib.hid (HB16.out.trans (hb6.mono HB16.out.size)); clear hb6))
  all_goals
    first | go_ret | (go_wp2_with fail; go_ret)
    exact ⟨rfl, B2.out.trans (HB17.out.mono B2.out.size)⟩
end Go.Proofs.YtafgmbchdcfkcaaDoor
