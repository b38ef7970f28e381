/-
  The walk of the statement LangRoundTrip: it returns true for every code.
-/
import Derived.Test.YtafgmbchdcfkcaaDoorV3
import Derived.Test.YtafgmbchdcfkcaaDoorS11
namespace Go.Proofs.YtafgmbchdcfkcaaDoor
open Go Go.RowKit Go.Walks

theorem printB_ok {C : Code} (hl : C.par.length ≤ maxLen) (h : (printB C).2 = 0) : printB C = (printT C, 0) ∧ Ok C ∧ (printT C).length ≤ 2000 := by
  unfold printB at h ⊢
  by_cases h0 : checkB C = 0
  · rw [if_neg (fun e => e h0)] at h ⊢
    by_cases h1 : 2000 < (printT C).length
    · rw [if_pos h1] at h; cases h
    · rw [if_neg h1]; exact ⟨rfl, ok_of h0 hl, by omega⟩
  · rw [if_pos h0] at h; exact absurd h h0
theorem parse_txt {W : World} (hg : Gl W) {s : Bytes} {C : Code} (h : parseB true s = .ok [C]) : Calls Tryd.prog 18 #[.string ⟨s.toArray⟩] W fun e w' => Below W.heap.size W w' ∧ ∃ A c, e = .returned (.tuple #[.agg (codeV C A c), .int .i64 0, .int .i64 0]) ∧ CodeS w' C (codeV C A c).toList := by
  refine (parseOne_any ⟨s.toArray⟩ W hg).mono ?_
  intro e w' h'
  have hp : parseB true (⟨s.toArray⟩ : ByteArray).data.toList = .ok [C] := by rw [← h]
  rw [hp] at h'
  exact prow_of h'
theorem all_txt {W : World} (hg : Gl W) {s : Bytes} {Cs : List Code} (h : parseB false s = .ok Cs) : Calls Tryd.prog 20 #[.string ⟨s.toArray⟩] W fun e w' => Below W.heap.size W w' ∧ ∃ A c cc, e = .returned (.tuple #[.slice A Cs.length c, .int .i64 0, .int .i64 0]) ∧ Sl w' w'.heap.size A cc ∧ CodesS w' Cs cc := by
  refine (parseAll_any ⟨s.toArray⟩ W hg).mono ?_
  intro e w' h'
  have hp : parseB false (⟨s.toArray⟩ : ByteArray).data.toList = .ok Cs := by rw [← h]
  rw [hp] at h'
  exact arow_of h'

set_option maxRecDepth 100000 in
set_option maxHeartbeats 4000000 in
theorem lawRound_any (a : Code) (ca : List Value) (w : World) (Hg : Hid (Gl w)) (Ha : Hid (CodeS w a ca)) (La : Hid (CodeL a)) (hn : a.name.length ≤ maxLen) :
    Calls Tryd.prog 6 #[.agg ca.toArray] w (BoolR true w) := by
  obtain ⟨A, c, mc, rfl, h1, h2⟩ := id Ha.out
  clear h1 h2
  have B0 := Lib.hid ((Below.refl w.heap.size w).alloc (Nat.le_refl _) (.cells (codeV a A c) 24))
  have D0 : Hid (CB (w.alloc (.cells (codeV a A c) 24)) w.heap.size a A c) := ⟨heap_new _ _, Ha.out.below B0.out⟩
  have hp : ∀ W, CodeS W a (codeV a A c).toList → Gl W → Calls Tryd.prog 11 #[.agg (codeV a A c)] W (PrintR (printB a) W) := fun W hc hg => print_any a (codeV a A c).toList W hg hc La hn
  obtain ⟨x0, x1, x2, x3, x4⟩ := D0.out.cellsC
  clear Ha
  by_cases hen : (printB a).2 = 0
  · obtain ⟨hpr, hok, hlen⟩ := printB_ok La.out.par hen
    obtain ⟨hr1, hr2⟩ := round_one hok hlen
    rw [hpr] at hp
    clear hen hpr hok hlen
    obtain ⟨tx, htx⟩ : ∃ x, x = printT a := ⟨_, rfl⟩
    rw [← htx] at hp hr1 hr2
    have HP := Lib.hid hp
    have H18 : Hid (∀ W, Gl W → Calls Tryd.prog 18 #[.string ⟨tx.toArray⟩] W fun e w' => Below W.heap.size W w' ∧ ∃ A c, e = .returned (.tuple #[.agg (codeV a A c), .int .i64 0, .int .i64 0]) ∧ CodeS w' a (codeV a A c).toList) := fun W hg => parse_txt hg hr1
    have H20 : Hid (∀ W, Gl W → Calls Tryd.prog 20 #[.string ⟨tx.toArray⟩] W fun e w' => Below W.heap.size W w' ∧ ∃ A c cc, e = .returned (.tuple #[.slice A 1 c, .int .i64 0, .int .i64 0]) ∧ Sl w' w'.heap.size A cc ∧ CodesS w' [a] cc) := fun W hg => all_txt hg hr2
    clear hp hr1 hr2 htx
    go_enter Tryd.func6, Tryd.ntmps6
    go_wp2_with fail
    refine (HP.out _ D0.out.code (Hg.out.below B0.out)).mono ?_
    rintro e w1 ⟨rfl, hb1⟩
    have B1 := Lib.hid (B0.out.trans (hb1.mono B0.out.size))
    have D1 := Lib.hid (D0.out.below hb1)
    clear hb1 B0 D0 x0 x1 x2 x3 x4
    dsimp only
    go_wp2_with fail
    refine (H18.out _ (Hg.out.below B1.out)).mono ?_
    rintro e w2 ⟨hb2, A2, c2, rfl, hC2⟩
    have B2 := Lib.hid ((B1.out.trans (hb2.mono B1.out.size)).alloc (B1.out.trans (hb2.mono B1.out.size)).size (.cells (codeV a A2 c2) 24))
    have D2 := Lib.hid ((D1.out.below hb2).below ((Below.refl _ _).alloc (Nat.le_refl _) (.cells (codeV a A2 c2) 24)))
    have F2 : Hid (CB (w2.alloc (.cells (codeV a A2 c2) 24)) w2.heap.size a A2 c2) := ⟨heap_new _ _, hC2.below ((Below.refl _ _).alloc (Nat.le_refl _) _)⟩
    clear hb2 hC2 B1 D1
    go_wp2_with fail
    refine (H20.out _ (Hg.out.below B2.out)).mono ?_
    rintro e w3 ⟨hb3, A3, c3, cc3, rfl, hs3, hC3⟩
    have B3 := Lib.hid (B2.out.trans (hb3.mono B2.out.size))
    have D3 := Lib.hid (D2.out.below hb3)
    have F3 := Lib.hid (F2.out.below hb3)
    have S3 := Lib.hid hs3
    have C3 := Lib.hid hC3
    clear hb3 B2 D2 F2 hs3 hC3
    go_wp2_with fail
    refine (sanity_any _ (Hg.out.below B3.out)).mono ?_
    rintro e w4 ⟨rfl, hb4⟩
    have B4 := Lib.hid (B3.out.trans (hb4.mono B3.out.size))
    have D4 := Lib.hid (D3.out.below hb4)
    have F4 := Lib.hid (F3.out.below hb4)
    have S4 := Lib.hid ((S3.out.below hb4).more hb4.size)
    have C4 := Lib.hid (C3.out.below hb4)
    clear hb4 B3 D3 F3 S3 C3
    obtain ⟨x0, x1, x2, x3, x4⟩ := D4.out.cellsC
    obtain ⟨y0, y1, y2, y3, y4⟩ := F4.out.cellsC
    go_wp2_with fail
    refine (sameR_self La.out D4.out F4.out).mono ?_
    rintro e w5 ⟨rfl, hb5⟩
    have B5 := Lib.hid (B4.out.trans (hb5.mono B4.out.size))
    have D5 := Lib.hid (D4.out.below hb5)
    have S5 := Lib.hid ((S4.out.below hb5).more hb5.size)
    have C5 := Lib.hid (C4.out.below hb5)
    clear hb5 B4 D4 F4 S4 C4 x0 x1 x2 x3 x4 y0 y1 y2 y3 y4
    obtain ⟨x0, x1, x2, x3, x4⟩ := D5.out.cellsC
    have hb6 := (Below.refl w5.heap.size w5).alloc (Nat.le_refl _) (.cells (codeV a A c) 24)
    have hS6 : Sl (w5.alloc (.cells (codeV a A c) 24)) (w5.alloc (.cells (codeV a A c) 24)).heap.size (some ⟨w5.heap.size, 0, none⟩) (codeV a A c).toList :=
      .inr ⟨w5.heap.size, 0, rfl, by simp, fun j u hu => by rw [Nat.zero_add]; exact (cell_at (heap_new _ _) j (by simpa using hu)).1⟩
    have hC6 : CodesS (w5.alloc (.cells (codeV a A c) 24)) [a] (codeV a A c).toList := ⟨(codeV a A c).toList, [], by simp, D5.out.code.below hb6, rfl⟩
    have hcall := sameAllR_any [a] [a] A3 (some ⟨w5.heap.size, 0, none⟩) c3 1 cc3 (codeV a A c).toList (w5.alloc (.cells (codeV a A c) 24)) ((S5.out.below hb6).more hb6.size) hS6 (C5.out.below hb6) hC6 (fun C hC => by rw [List.mem_singleton] at hC; rw [hC]; exact La.out) (fun C hC => by rw [List.mem_singleton] at hC; rw [hC]; exact La.out) (by simp [maxLen])
    rw [sameAllB_self] at hcall
    have Hcall := Lib.hid hcall
    have B6 := Lib.hid (B5.out.trans (hb6.mono B5.out.size))
    clear hcall hS6 hC6 hb6 S5 C5
    go_wp2_with fail
    refine Hcall.out.mono ?_
    rintro e w6 ⟨rfl, hb6⟩
    have B7 := Lib.hid (B6.out.trans (hb6.mono B6.out.size))
    clear hb6
    go_wp2_with fail
    go_ret
    exact ⟨rfl, B7.out⟩
  · obtain ⟨pr, hpr⟩ : ∃ x, x = printB a := ⟨_, rfl⟩
    rw [← hpr] at hp hen
    obtain ⟨tx, v⟩ := pr
    dsimp only at hen
    have HP := Lib.hid hp
    have hv1 : ((v : Int) != 0) = true := by rw [bne_iff_ne]; omega
    clear hp hpr hen
    go_enter Tryd.func6, Tryd.ntmps6
    go_wp2_with fail
    refine (HP.out _ D0.out.code (Hg.out.below B0.out)).mono ?_
    rintro e w1 ⟨rfl, hb1⟩
    have B1 := Lib.hid (B0.out.trans (hb1.mono B0.out.size))
    clear hb1 B0 D0 x0 x1 x2 x3 x4
    dsimp only
    go_wp2_with fail
    refine (sanity_any _ (Hg.out.below B1.out)).mono ?_
    rintro e w2 ⟨rfl, hb2⟩
    have B2 := Lib.hid (B1.out.trans (hb2.mono B1.out.size))
    clear hb2 B1
    go_wp2_with fail
    go_ret
    exact ⟨rfl, B2.out⟩
end Go.Proofs.YtafgmbchdcfkcaaDoor
