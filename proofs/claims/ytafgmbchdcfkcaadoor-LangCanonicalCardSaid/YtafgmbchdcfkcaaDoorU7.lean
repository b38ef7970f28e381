/-
  The walk of the statement LangCanonical: it returns true for every text.
-/
import Derived.Test.YtafgmbchdcfkcaaDoorU6
import Derived.Test.YtafgmbchdcfkcaaDoorV5
namespace Go.Proofs.YtafgmbchdcfkcaaDoor
open Go Go.RowKit Go.Walks

theorem buildRow_bad {R : Row} {d tp p e : Nat} (h : buildRow R d tp = .bad p e) : e ≠ 0 := by
  unfold buildRow at h
  split at h
  · injection h with _ h; omega
  · split at h
    · injection h with _ h; omega
    · split at h
      · injection h with _ h; omega
      · split at h
        · injection h with _ h; omega
        · cases h
theorem buildRows_bad {d tp p e : Nat} : ∀ {Rs : List Row} {acc : List (List Int)}, buildRows d tp acc Rs = .bad p e → e ≠ 0
  | [], acc, h => by cases h
  | R :: Rs, acc, h => by
    rw [buildRows] at h
    split at h
    · cases hb : buildRow R d tp with
      | bad p' e' =>
        rw [hb] at h
        injection h with _ h
        rw [← h]; exact buildRow_bad hb
      | ok row => rw [hb] at h; exact buildRows_bad (Rs := Rs) h
    · injection h with _ h; omega
theorem buildS_bad {S : Src} {p e : Nat} (h : buildS S = .bad p e) : e ≠ 0 := by
  unfold buildS at h
  split at h
  · split at h
    · split at h
      · cases hb : buildRows S.data.n (topN S.field.n) [] S.rows with
        | bad q e' =>
          rw [hb] at h
          injection h with _ h
          rw [← h]; exact buildRows_bad hb
        | ok rs =>
          rw [hb] at h
          change buildDom S rs = _ at h
          unfold buildDom at h
          split at h
          · cases h
          · split at h
            · cases h
            · injection h with _ h; omega
      · injection h with _ h; omega
    · injection h with _ h; omega
  · injection h with _ h; omega
theorem codesB_bad {p e : Nat} : ∀ {Ss : List Src} {ns : List Bytes} {acc : List Code}, codesB ns acc Ss = .bad p e → e ≠ 0
  | [], ns, acc, h => by cases h
  | S :: Ss, ns, acc, h => by
    rw [codesB] at h
    split at h
    · split at h
      · injection h with _ h; omega
      · cases hb : buildS S with
        | bad p' e' =>
          rw [hb] at h
          injection h with _ h
          rw [← h]; exact buildS_bad hb
        | ok C => rw [hb] at h; exact codesB_bad (Ss := Ss) h
    · injection h with _ h; omega
theorem parseB_bad {sg : Bool} {t : Bytes} {p e : Nat} (h : parseB sg t = .bad p e) : e ≠ 0 := by
  unfold parseB at h
  split at h
  · injection h with _ h; omega
  · unfold srcsB at h
    split at h
    · injection h with _ h; omega
    · exact codesB_bad h

set_option maxRecDepth 100000 in
set_option maxHeartbeats 4000000 in
theorem lawCanonical_any (t : ByteArray) (w : World) (Hg : Hid (Gl w)) : Calls Tryd.prog 7 #[.string t] w (BoolR true w) := by
  have h18 := fun W (hg : Gl W) => parseOne_any t W hg
  cases hx : parseB true t.data.toList with
  | bad p en =>
    have hv := parseB_bad hx
    have hv1 : ((en : Int) != 0) = true := by rw [bne_iff_ne]; omega
    rw [hx] at h18
    have H18 : Hid (∀ W, Gl W → Calls Tryd.prog 18 #[.string t] W fun e w' => Below W.heap.size W w' ∧ e = .returned (.tuple #[.agg z5, .int .i64 (p : Int), .int .i64 (en : Int)])) := fun W hg => h18 W hg
    clear h18 hx hv
    go_enter Tryd.func7, Tryd.ntmps7
    go_wp2_with fail
    refine (H18.out _ Hg.out).mono ?_
    rintro e w1 ⟨hb1, rfl⟩
    have B1 := Lib.hid (hb1.alloc hb1.size (.cells z5 24))
    clear hb1
    go_wp2_with fail
    refine (sanity_any _ (Hg.out.below B1.out)).mono ?_
    rintro e w2 ⟨rfl, hb2⟩
    have B2 := Lib.hid (B1.out.trans (hb2.mono B1.out.size))
    clear hb2 B1
    go_wp2_with fail
    go_ret
    exact ⟨rfl, B2.out⟩
  | ok Cs =>
    obtain ⟨C, rfl, hck⟩ := parse_checked hx
    have hL := parseB_L hx C (by simp)
    have hok := ok_of hck hL.par
    have hn : C.name.length ≤ maxLen := by have := hok.len; unfold maxLen; omega
    have HL := Lib.hid hL
    have H18 : Hid (∀ W, Gl W → Calls Tryd.prog 18 #[.string t] W fun e w' => Below W.heap.size W w' ∧ ∃ A c, e = .returned (.tuple #[.agg (codeV C A c), .int .i64 0, .int .i64 0]) ∧ CodeS w' C (codeV C A c).toList) := fun W hg => (h18 W hg).mono fun e w' h => by rw [hx] at h; exact prow_of h
    have HCk : Hid (∀ W A c, CodeS W C (codeV C A c).toList → Calls Tryd.prog 14 #[.agg (codeV C A c)] W (NatR 0 W)) := fun W A c hc => by
      have := check_any C (codeV C A c).toList W hc hL hn
      rw [hck] at this
      exact this
    have hp : ∀ W A c, CodeS W C (codeV C A c).toList → Gl W → Calls Tryd.prog 11 #[.agg (codeV C A c)] W (PrintR (printB C) W) := fun W A c hc hg => print_any C (codeV C A c).toList W hg hc hL hn
    have hpr : printB C = if 2000 < (printT C).length then ([], 2) else (printT C, 0) := by unfold printB; rw [if_neg (fun e => e hck)]
    clear h18 hx hL hck
    by_cases hlen : 2000 < (printT C).length
    · rw [if_pos hlen] at hpr
      rw [hpr] at hp
      have HP := Lib.hid hp
      clear hp hpr hok hn hlen
      go_enter Tryd.func7, Tryd.ntmps7
      go_wp2_with fail
      refine (H18.out _ Hg.out).mono ?_
      rintro e w1 ⟨hb1, A1, c1, rfl, hC1⟩
      have B1 := Lib.hid (hb1.alloc hb1.size (.cells (codeV C A1 c1) 24))
      have D1 : Hid (CB (w1.alloc (.cells (codeV C A1 c1) 24)) w1.heap.size C A1 c1) := ⟨heap_new _ _, hC1.below ((Below.refl _ _).alloc (Nat.le_refl _) _)⟩
      clear hb1 hC1
      obtain ⟨x0, x1, x2, x3, x4⟩ := D1.out.cellsC
      go_wp2_with fail
      refine (HP.out _ _ _ D1.out.code (Hg.out.below B1.out)).mono ?_
      rintro e w2 ⟨rfl, hb2⟩
      have B2 := Lib.hid (B1.out.trans (hb2.mono B1.out.size))
      have D2 := Lib.hid (D1.out.below hb2)
      clear hb2 B1 D1 x0 x1 x2 x3 x4
      go_wp2_with fail
      refine (sanity_any _ (Hg.out.below B2.out)).mono ?_
      rintro e w3 ⟨rfl, hb3⟩
      have B3 := Lib.hid (B2.out.trans (hb3.mono B2.out.size))
      have D3 := Lib.hid (D2.out.below hb3)
      clear hb3 B2 D2
      obtain ⟨x0, x1, x2, x3, x4⟩ := D3.out.cellsC
      go_wp2_with fail
      refine (HCk.out _ _ _ D3.out.code).mono ?_
      rintro e w4 ⟨rfl, hb4⟩
      have B4 := Lib.hid (B3.out.trans (hb4.mono B3.out.size))
      clear hb4 B3 D3 x0 x1 x2 x3 x4
      go_wp2_with fail
      go_ret
      exact ⟨rfl, B4.out⟩
    · rw [if_neg hlen] at hpr
      rw [hpr] at hp
      obtain ⟨hr1, -⟩ := round_one hok (by omega)
      clear hpr hok hn hlen
      obtain ⟨tx, htx⟩ : ∃ x, x = printT C := ⟨_, rfl⟩
      rw [← htx] at hp hr1
      have HP := Lib.hid hp
      have H18b : Hid (∀ W, Gl W → Calls Tryd.prog 18 #[.string ⟨tx.toArray⟩] W fun e w' => Below W.heap.size W w' ∧ ∃ A c, e = .returned (.tuple #[.agg (codeV C A c), .int .i64 0, .int .i64 0]) ∧ CodeS w' C (codeV C A c).toList) := fun W hg => parse_txt hg hr1
      clear hp hr1 htx
      go_enter Tryd.func7, Tryd.ntmps7
      go_wp2_with fail
      refine (H18.out _ Hg.out).mono ?_
      rintro e w1 ⟨hb1, A1, c1, rfl, hC1⟩
      have B1 := Lib.hid (hb1.alloc hb1.size (.cells (codeV C A1 c1) 24))
      have D1 : Hid (CB (w1.alloc (.cells (codeV C A1 c1) 24)) w1.heap.size C A1 c1) := ⟨heap_new _ _, hC1.below ((Below.refl _ _).alloc (Nat.le_refl _) _)⟩
      clear hb1 hC1 H18
      obtain ⟨x0, x1, x2, x3, x4⟩ := D1.out.cellsC
      go_wp2_with fail
      refine (HP.out _ _ _ D1.out.code (Hg.out.below B1.out)).mono ?_
      rintro e w2 ⟨rfl, hb2⟩
      have B2 := Lib.hid (B1.out.trans (hb2.mono B1.out.size))
      have D2 := Lib.hid (D1.out.below hb2)
      clear hb2 B1 D1 x0 x1 x2 x3 x4
      go_wp2_with fail
      refine (H18b.out _ (Hg.out.below B2.out)).mono ?_
      rintro e w3 ⟨hb3, A3, c3, rfl, hC3⟩
      have B3 := Lib.hid ((B2.out.trans (hb3.mono B2.out.size)).alloc (B2.out.trans (hb3.mono B2.out.size)).size (.cells (codeV C A3 c3) 24))
      have D3 := Lib.hid ((D2.out.below hb3).below ((Below.refl _ _).alloc (Nat.le_refl _) (.cells (codeV C A3 c3) 24)))
      have F3 : Hid (CB (w3.alloc (.cells (codeV C A3 c3) 24)) w3.heap.size C A3 c3) := ⟨heap_new _ _, hC3.below ((Below.refl _ _).alloc (Nat.le_refl _) _)⟩
      clear hb3 hC3 B2 D2
      obtain ⟨y0, y1, y2, y3, y4⟩ := F3.out.cellsC
      go_wp2_with fail
      refine (HP.out _ _ _ F3.out.code (Hg.out.below B3.out)).mono ?_
      rintro e w4 ⟨rfl, hb4⟩
      have B4 := Lib.hid (B3.out.trans (hb4.mono B3.out.size))
      have D4 := Lib.hid (D3.out.below hb4)
      have F4 := Lib.hid (F3.out.below hb4)
      clear hb4 B3 D3 F3 y0 y1 y2 y3 y4
      go_wp2_with fail
      refine (sanity_any _ (Hg.out.below B4.out)).mono ?_
      rintro e w5 ⟨rfl, hb5⟩
      have B5 := Lib.hid (B4.out.trans (hb5.mono B4.out.size))
      have D5 := Lib.hid (D4.out.below hb5)
      have F5 := Lib.hid (F4.out.below hb5)
      clear hb5 B4 D4 F4
      obtain ⟨x0, x1, x2, x3, x4⟩ := D5.out.cellsC
      go_wp2_with fail
      refine (HCk.out _ _ _ D5.out.code).mono ?_
      rintro e w6 ⟨rfl, hb6⟩
      have B6 := Lib.hid (B5.out.trans (hb6.mono B5.out.size))
      have D6 := Lib.hid (D5.out.below hb6)
      have F6 := Lib.hid (F5.out.below hb6)
      clear hb6 B5 D5 F5 x0 x1 x2 x3 x4
      obtain ⟨x0, x1, x2, x3, x4⟩ := D6.out.cellsC
      obtain ⟨y0, y1, y2, y3, y4⟩ := F6.out.cellsC
      go_wp2_with fail
      refine (sameR_self HL.out D6.out F6.out).mono ?_
      rintro e w7 ⟨rfl, hb7⟩
      have B7 := Lib.hid (B6.out.trans (hb7.mono B6.out.size))
      clear hb7 B6 D6 F6 x0 x1 x2 x3 x4 y0 y1 y2 y3 y4
      go_wp2_with fail
      go_ret
      exact ⟨rfl, B7.out⟩
end Go.Proofs.YtafgmbchdcfkcaaDoor
