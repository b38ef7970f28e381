/-
  The walk of the statement LangPrefix: it returns true for every code and number.
-/
import Derived.Test.YtafgmbchdcfkcaaDoorU6
import Derived.Test.YtafgmbchdcfkcaaDoorV4
namespace Go.Proofs.YtafgmbchdcfkcaaDoor
open Go Go.RowKit Go.Walks

theorem z_CB {W : World} {g : Nat} (h : W.heap[g]? = some (.cells z5 24)) : CB W g ⟨[], 0, 0, [], 0⟩ none 0 := ⟨h, ex0_S W⟩

set_option maxRecDepth 100000 in
set_option maxHeartbeats 4000000 in
theorem lawPrefix_any (a : Code) (n : Int) (ca : List Value) (w : World) (Hg : Hid (Gl w)) (Ha : Hid (CodeS w a ca)) (La : Hid (CodeL a)) (hn : a.name.length ≤ maxLen) :
    Calls Tryd.prog 9 #[.agg ca.toArray, .int .i64 n] w (BoolR true w) := by
  obtain ⟨A, c, mc, rfl, h1, h2⟩ := id Ha.out
  clear h1 h2
  have B0 := Lib.hid ((Below.refl w.heap.size w).alloc (Nat.le_refl _) (.cells (codeV a A c) 24))
  have D0 : Hid (CB (w.alloc (.cells (codeV a A c) 24)) w.heap.size a A c) := ⟨heap_new _ _, Ha.out.below B0.out⟩
  have hp : ∀ W, CodeS W a (codeV a A c).toList → Gl W → Calls Tryd.prog 11 #[.agg (codeV a A c)] W (PrintR (printB a) W) := fun W hc hg => print_any a (codeV a A c).toList W hg hc La hn
  obtain ⟨x0, x1, x2, x3, x4⟩ := D0.out.cellsC
  clear Ha
  have hP3 : (printB a).2 = 0 → (printB a).1.length ≤ 2000 := fun h => by
    obtain ⟨e, -, hl⟩ := printB_ok La.out.par h
    rw [e]; exact hl
  obtain ⟨pr, hpr⟩ : ∃ x, x = printB a := ⟨_, rfl⟩
  rw [← hpr] at hp hP3
  obtain ⟨tx, v⟩ := pr
  dsimp only at hP3
  have HP := Lib.hid hp
  clear hp hpr
  by_cases hv : v = 0
  · subst hv
    have hlen := hP3 rfl
    have HJ : Hid (Lib.indexByte (⟨tx.toArray⟩ : ByteArray).data.toList ((125 : Int)).toNat.toUInt8 = Lib.indexByte tx 125) := rfl
    clear hP3
    by_cases hn0 : n < 0
    · have hc : decide (n < 0) = true := decide_eq_true hn0
      go_enter Tryd.func9, Tryd.ntmps9
      go_wp2_with fail
      refine (HP.out _ D0.out.code (Hg.out.below B0.out)).mono ?_
      rintro e w1 ⟨rfl, hb1⟩
      have B1 := Lib.hid (B0.out.trans (hb1.mono B0.out.size))
      clear hb1 B0 D0 x0 x1 x2 x3 x4
      dsimp only
      go_wp2_with fail
      refine (sanity_any _ (Hg.out.below B1.out)).mono ?_
      rintro e w2 ⟨rfl, hb2⟩
      have B2 := Lib.hid (B1.out.trans (hb2.mono B1.out.size))
      clear hb2 B1
      go_wp2_with fail
      go_ret
      exact ⟨rfl, B2.out⟩
    · by_cases hn1 : Lib.indexByte tx 125 < n
      · go_enter Tryd.func9, Tryd.ntmps9
        go_wp2_with fail
        refine (HP.out _ D0.out.code (Hg.out.below B0.out)).mono ?_
        rintro e w1 ⟨rfl, hb1⟩
        have B1 := Lib.hid (B0.out.trans (hb1.mono B0.out.size))
        clear hb1 B0 D0 x0 x1 x2 x3 x4
        dsimp only
        go_wp2_with (go_at_call 27; refine (Tryd.strings_IndexByte _ _ _).mono ?_; rintro e w2 ⟨rfl, rfl⟩; rw [HJ.out])
        refine (sanity_any _ (Hg.out.below B1.out)).mono ?_
        rintro e w2 ⟨rfl, hb2⟩
        have B2 := Lib.hid (B1.out.trans (hb2.mono B1.out.size))
        clear hb2 B1
        go_wp2_with fail
        go_ret
        exact ⟨rfl, B2.out⟩
      · obtain ⟨m, rfl⟩ : ∃ m : Nat, n = m := ⟨n.toNat, by omega⟩
        obtain ⟨p, hpm, hms, hpp⟩ := parse_prefix hlen (n := m) (by omega)
        have hm0 : ¬ (m : Int) < 0 := hn0
        have hms' : (m : Int) ≤ (tx.length : Int) := by omega
        have hpm' : (p : Int) ≤ (m : Int) := by omega
        have hp0 : (0 : Int) ≤ (p : Int) := by omega
        have H18 : Hid (∀ W, Gl W → Calls Tryd.prog 18 #[.string ((⟨tx.toArray⟩ : ByteArray).extract 0 m)] W fun e w' => Below W.heap.size W w' ∧ e = .returned (.tuple #[.agg z5, .int .i64 (p : Int), .int .i64 3])) := fun W hg => by
          refine (parseOne_any _ W hg).mono ?_
          intro e w' h'
          have he : ((⟨tx.toArray⟩ : ByteArray).extract 0 m).data.toList = tx.take m := by rw [Lib.extract_data]; simp
          rw [he, hpp] at h'
          exact h'
        clear hpp hn0
        go_enter Tryd.func9, Tryd.ntmps9
        go_wp2_with fail
        refine (HP.out _ D0.out.code (Hg.out.below B0.out)).mono ?_
        rintro e w1 ⟨rfl, hb1⟩
        have B1 := Lib.hid (B0.out.trans (hb1.mono B0.out.size))
        clear hb1 B0 D0 x0 x1 x2 x3 x4
        dsimp only
        go_wp2_with (go_at_call 27; refine (Tryd.strings_IndexByte _ _ _).mono ?_; rintro e w2 ⟨rfl, rfl⟩; rw [HJ.out])
        refine (H18.out _ (Hg.out.below B1.out)).mono ?_
        rintro e w3 ⟨hb3, rfl⟩
        have B3 := Lib.hid ((B1.out.trans (hb3.mono B1.out.size)).alloc (B1.out.trans (hb3.mono B1.out.size)).size (.cells z5 24))
        have F3 : Hid (CB (w3.alloc (.cells z5 24)) w3.heap.size ⟨[], 0, 0, [], 0⟩ none 0) := z_CB (heap_new _ _)
        clear hb3 B1
        go_wp2_with fail
        refine (sanity_any _ (Hg.out.below B3.out)).mono ?_
        rintro e w4 ⟨rfl, hb4⟩
        have B4 := Lib.hid (B3.out.trans (hb4.mono B3.out.size))
        have F4 := Lib.hid (F3.out.below hb4)
        clear hb4 B3 F3
        obtain ⟨y0, y1, y2, y3, y4⟩ := F4.out.cellsC
        go_wp2_with fail
        have hcall := sameR_any ⟨[], 0, 0, [], 0⟩ ⟨[], 0, 0, [], 0⟩ (codeV ⟨[], 0, 0, [], 0⟩ none 0).toList z5.toList w4 F4.out.code (ex0_S w4) ex0_L ex0_L
        rw [sameB_self] at hcall
        refine hcall.mono ?_
        rintro e w5 ⟨rfl, hb5⟩
        have B5 := Lib.hid (B4.out.trans (hb5.mono B4.out.size))
        clear hb5 B4 F4 y0 y1 y2 y3 y4
        go_wp2_with fail
        go_ret
        exact ⟨rfl, B5.out⟩
  · have hv1 : ((v : Int) != 0) = true := by rw [bne_iff_ne]; omega
    clear hP3
    go_enter Tryd.func9, Tryd.ntmps9
    go_wp2_with fail
    refine (HP.out _ D0.out.code (Hg.out.below B0.out)).mono ?_
    rintro e w1 ⟨rfl, hb1⟩
    have B1 := Lib.hid (B0.out.trans (hb1.mono B0.out.size))
    clear hb1 B0 D0 x0 x1 x2 x3 x4
    dsimp only
    go_wp2_with fail
    refine (sanity_any _ (Hg.out.below B1.out)).mono ?_
    rintro e w2 ⟨rfl, hb2⟩
    have B2 := Lib.hid (B1.out.trans (hb2.mono B1.out.size))
    clear hb2 B1
    go_wp2_with fail
    go_ret
    exact ⟨rfl, B2.out⟩
end Go.Proofs.YtafgmbchdcfkcaaDoor
