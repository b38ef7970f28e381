/-
  The walk of the reference's Check.
-/
import Derived.Test.YtafgmbchdcfkcaaDoorT1
import Derived.Deep.DeepCutAuto
namespace Go.Proofs.YtafgmbchdcfkcaaDoor
open Go Go.RowKit Go.Walks

theorem topN_le (f : Nat) : topN f ≤ 65535 := by unfold topN; split <;> omega
theorem rowOk_bad {d f : Int} {row : List Int} {k : Nat} {x : Int} (hx : row[k]? = some x) (h : ¬ (0 ≤ x ∧ x ≤ (topN f.toNat : Int))) : rowOkB d f row = false := by
  have hall : row.all (fun x => decide (0 ≤ x) && decide (x ≤ (topN f.toNat : Int))) = false := all_no hx (by
    rw [Bool.and_eq_false_iff]
    by_cases h0 : 0 ≤ x
    · right; exact decide_eq_false fun h1 => h ⟨h0, h1⟩
    · left; exact decide_eq_false h0)
  unfold rowOkB
  rw [hall]; simp
theorem rowOk_zero {d f : Int} {row : List Int} (h : ∀ (k : Nat) (x : Int), row[k]? = some x → x = 0) : rowOkB d f row = false := by
  have hany : row.any (fun x => decide (1 ≤ x)) = false := by
    rw [List.any_eq_false]
    intro x hx
    obtain ⟨k, hk⟩ := List.mem_iff_getElem?.1 hx
    rw [h k x hk]; simp
  unfold rowOkB
  rw [hany]; simp
theorem rowOk_yes {d f : Int} {row : List Int} (hl : (row.length : Int) = d) (h : ∀ (k : Nat) (x : Int), row[k]? = some x → 0 ≤ x ∧ x ≤ (topN f.toNat : Int)) (hp : ¬ ∀ (k : Nat) (x : Int), row[k]? = some x → x = 0) : rowOkB d f row = true := by
  unfold rowOkB
  rw [decide_eq_true hl, Bool.true_and, Bool.and_eq_true]
  refine ⟨all_yes fun k x _ hx => by obtain ⟨a, b⟩ := h k x hx; simp [a, b], ?_⟩
  rw [List.any_eq_true]
  apply Classical.byContradiction
  intro hn
  apply hp
  intro k x hx
  obtain ⟨a, b⟩ := h k x hx
  by_cases h1 : 1 ≤ x
  · exact absurd ⟨x, List.mem_of_getElem? hx, by simp [h1]⟩ hn
  · omega

set_option maxRecDepth 100000 in
set_option maxHeartbeats 16000000 in
theorem checkR_any (a : Code) (ca : List Value) (w : World) (Ha : Hid (CodeS w a ca)) (La : Hid (CodeL a)) (hn : a.name.length ≤ maxLen) : Calls Tryd.prog 15 #[.agg ca.toArray] w (NatR (checkB a) w) := by
  obtain ⟨A, c, mc, rfl, h1, h2⟩ := Ha.out
  have Hs1 := Lib.hid h1
  have Hs2 := Lib.hid h2
  have S0 := Lib.hid (CW.start w (codeV a A c))
  obtain ⟨nm, f, d, par, dom⟩ := a
  have hla := La.out.par
  unfold intC
  dsimp only at hla Hs1 Hs2 S0 hn ⊢
  have hword := word_any ⟨nm.toArray⟩ (w.alloc (.cells (codeV ⟨nm, f, d, par, dom⟩ A c) 24)) (by show nm.toArray.size ≤ maxLen; simpa using hn)
  unfold maxLen at hla hn
  obtain ⟨x0, -⟩ := cell_at S0.out.x 0 rfl
  obtain ⟨x1, -⟩ := cell_at S0.out.x 1 rfl
  obtain ⟨x2, -⟩ := cell_at S0.out.x 2 rfl
  obtain ⟨x3, -⟩ := cell_at S0.out.x 3 rfl
  obtain ⟨x4, -⟩ := cell_at S0.out.x 4 rfl
  clear h1 h2 Ha
  obtain ⟨W, hW⟩ : ∃ W, W = widthI ⟨nm, f, d, par, dom⟩ := ⟨_, rfl⟩
  cases hwd : wordB nm with
  | false =>
    have hw0 : wordB (⟨nm.toArray⟩ : ByteArray).data.toList = false := hwd
    rw [hw0] at hword
    have Hword := Lib.hid hword
    have Hc : Hid (checkB ⟨nm, f, d, par, dom⟩ = 4) := by show _ = _; unfold checkB; rw [if_pos hwd]
    clear hword hw0 hwd
    go_enter Tryd.func15, Tryd.ntmps15
    go_wp2_with (go_at_call 37; refine Hword.out.mono ?_; rintro e w' ⟨rfl, hw'⟩; have hw2 := hw'.symm; subst hw2)
    go_ret
    exact ⟨by rw [Hc.out] <;> rfl, S0.out.below⟩
  | true =>
    have hw0 : wordB (⟨nm.toArray⟩ : ByteArray).data.toList = true := hwd
    rw [hw0] at hword
    have Hword := Lib.hid hword
    clear hword hw0
    by_cases hl : 12 < nm.length
    · have q1 : (12 : Int) < (nm.length : Int) := by omega
      have Hc : Hid (checkB ⟨nm, f, d, par, dom⟩ = 2) := by show _ = _; unfold checkB; rw [if_neg (by simp [hwd]), if_pos hl]
      clear hwd
      go_enter Tryd.func15, Tryd.ntmps15
      go_wp2_with (go_at_call 37; refine Hword.out.mono ?_; rintro e w' ⟨rfl, hw'⟩; have hw2 := hw'.symm; subst hw2)
      go_ret
      exact ⟨by rw [Hc.out] <;> rfl, S0.out.below⟩
    · have q1 : ¬ (12 : Int) < (nm.length : Int) := by omega
      by_cases hf : f = 8 ∨ f = 16
      · rcases hf with hf | hf
        · subst hf
          have Htop : Hid (∀ W : World, Calls Tryd.prog 38 #[.int .i64 8] W fun e w' => e = .returned (.int .i64 255) ∧ w' = W) := fun W => topR_any 8 W
          have Hc : Hid (checkB ⟨nm, 8, d, par, dom⟩ = if d < 1 ∨ 31 < d ∨ par = [] then 1 else if 32 < W then 2 else if par.all (rowOkB d 8) = false then 1 else if dom < 1 ∨ W < dom then 1 else 0) := by show _ = _; unfold checkB; rw [if_neg (by simp [hwd]), if_neg hl, if_neg (fun h => by simp at h), hW]
          have htp0 : 0 ≤ (topN (8 : Int).toNat : Int) := by omega
          have htp1 : (topN (8 : Int).toNat : Int) ≤ 65535 := by have := topN_le (8 : Int).toNat; omega
          clear hwd
          have hWv : wrap64 (d + (par.length : Int)) = W := hW.symm
          clear hW
          by_cases hdr : d < 1 ∨ 31 < d ∨ par = []
          · have Hc2 : Hid (checkB ⟨nm, 8, d, par, dom⟩ = 1) := by show _ = _; rw [Hc.out, if_pos hdr]
            rcases hdr with h1 | h1 | h1
            · have e1 : decide (d < 1) = true := decide_eq_true h1
              go_enter Tryd.func15, Tryd.ntmps15
              go_wp2_with (go_at_call 37; refine Hword.out.mono ?_; rintro e w' ⟨rfl, hw'⟩; have hw2 := hw'.symm; subst hw2)
              go_ret
              exact ⟨by rw [Hc2.out] <;> rfl, S0.out.below⟩
            · have e1 : ¬ d < 1 := by omega
              go_enter Tryd.func15, Tryd.ntmps15
              go_wp2_with (go_at_call 37; refine Hword.out.mono ?_; rintro e w' ⟨rfl, hw'⟩; have hw2 := hw'.symm; subst hw2)
              go_ret
              exact ⟨by rw [Hc2.out] <;> rfl, S0.out.below⟩
            · subst h1
              go_enter Tryd.func15, Tryd.ntmps15
              go_wp2_with (go_at_call 37; refine Hword.out.mono ?_; rintro e w' ⟨rfl, hw'⟩; have hw2 := hw'.symm; subst hw2)
              all_goals
                go_ret
                exact ⟨by rw [Hc2.out] <;> rfl, S0.out.below⟩
          · have e1 : ¬ d < 1 := fun h => hdr (.inl h)
            have e2 : ¬ 31 < d := fun h => hdr (.inr (.inl h))
            have e3 : ((par.length : Int) == 0) = false := by
              rw [beq_eq_false_iff_ne]
              intro h
              exact hdr (.inr (.inr (List.eq_nil_of_length_eq_zero (by omega))))
            have Hc2 : Hid (checkB ⟨nm, 8, d, par, dom⟩ = if 32 < W then 2 else if par.all (rowOkB d 8) = false then 1 else if dom < 1 ∨ W < dom then 1 else 0) := by show _ = _; rw [Hc.out, if_neg hdr]
            clear hdr Hc
            by_cases hw32 : 32 < W
            · have Hc3 : Hid (checkB ⟨nm, 8, d, par, dom⟩ = 2) := by show _ = _; rw [Hc2.out, if_pos hw32]
              go_enter Tryd.func15, Tryd.ntmps15
              go_wp2_with (go_at_call 37; refine Hword.out.mono ?_; rintro e w' ⟨rfl, hw'⟩; have hw2 := hw'.symm; subst hw2)
              go_ret
              exact ⟨by rw [Hc3.out] <;> rfl, S0.out.below⟩
            · have Hc3 : Hid (checkB ⟨nm, 8, d, par, dom⟩ = if par.all (rowOkB d 8) = false then 1 else if dom < 1 ∨ W < dom then 1 else 0) := by show _ = _; rw [Hc2.out, if_neg hw32]
              clear Hc2
              go_enter Tryd.func15, Tryd.ntmps15
              go_wp2_with (go_at_call 37; refine Hword.out.mono ?_; rintro e w' ⟨rfl, hw'⟩; have hw2 := hw'.symm; subst hw2)
              clear hWv e3 x0 x1 x2 x3 x4 hw32
              go_loopg [4] par.length (fun g s4 wr => ∃ k : Nat, s4 = .int .i64 (k : Int) ∧ g = par.length - k ∧ k ≤ par.length ∧ Hid (CW w (codeV ⟨nm, 8, d, par, dom⟩ A c) wr) ∧ Hid (∀ (j : Nat) (r : List Int), j < k → par[j]? = some r → rowOkB d 8 r = true))
              case atStart => exact ⟨0, rfl, rfl, by omega, S0.out, fun j r h => absurd h (by omega)⟩
              case round =>
                obtain ⟨k, rfl, hg, hk, HS, HQ⟩ := hrel
                have Hg := Lib.hid hg
                clear hg S0
                obtain ⟨x1, -⟩ := cell_at HS.out.x 1 rfl
                obtain ⟨x2, -⟩ := cell_at HS.out.x 2 rfl
                obtain ⟨x3, -⟩ := cell_at HS.out.x 3 rfl
                obtain ⟨x4, -⟩ := cell_at HS.out.x 4 rfl
                by_cases hlt : k < par.length
                · obtain ⟨row, hrow⟩ : ∃ r, par[k]? = some r := ⟨_, List.getElem?_eq_getElem hlt⟩
                  obtain ⟨b1, o1, A1, q1, hA, m1, t1⟩ := rowS Hs1.out Hs2.out HS.out.below hrow
                  subst hA
                  have Hrow := Lib.hid hrow
                  have hI1 : (0 : Int) ≤ (k : Int) := by omega
                  have hI2 : (k : Int) < (par.length : Int) := by omega
                  clear hrow t1
                  by_cases hlen : (row.length : Int) = d
                  · have g1 : ((row.length : Int) != d) = false := by rw [bne_eq_false_iff_eq]; exact hlen
                    have Hlen := Lib.hid hlen
                    have hrl : row.length ≤ 31 := by omega
                    go_upto_region 16 with fail
                    go_quiet (fail)
                    go_wp2_with fail
                    clear g1 x1 x2 x3 x4 m1
                    go_loopg [5, 6] row.length (fun g s5 s6 wr => ∃ (j : Nat) (sm : Int), s5 = .int .i64 sm ∧ s6 = .int .i64 (j : Int) ∧ g = row.length - j ∧ j ≤ row.length ∧ 0 ≤ sm ∧ sm ≤ 65535 * j ∧ Hid (CW w (codeV ⟨nm, 8, d, par, dom⟩ (some ⟨b1, o1, none⟩) c) wr) ∧ Hid (∀ (i : Nat) (x : Int), i < j → row[i]? = some x → 0 ≤ x ∧ x ≤ (topN (8 : Int).toNat : Int)) ∧ Hid (sm = 0 ↔ ∀ (i : Nat) (x : Int), i < j → row[i]? = some x → x = 0))
                    case atStart => exact ⟨0, 0, rfl, rfl, rfl, by omega, by omega, by omega, HS.out.drewN _, (fun i x h => absurd h (by omega)), ⟨fun _ i x h => absurd h (by omega), fun _ => rfl⟩⟩
                    case round =>
                      obtain ⟨j, sm, rfl, rfl, hgj, hj, hs0, hs1, HS2, HR, HZ⟩ := hrel
                      have Hgj := Lib.hid hgj
                      clear hgj
                      obtain ⟨x1, -⟩ := cell_at HS2.out.x 1 rfl
                      obtain ⟨x2, -⟩ := cell_at HS2.out.x 2 rfl
                      obtain ⟨x3, -⟩ := cell_at HS2.out.x 3 rfl
                      obtain ⟨b1', o1', A1', q1', hA', m1, t1⟩ := rowS Hs1.out Hs2.out HS2.out.below Hrow.out
                      injection hA' with hA'
                      injection hA' with ee1 ee2
                      subst ee1; subst ee2
                      by_cases hjl : j < row.length
                      · obtain ⟨x, hx⟩ : ∃ x, row[j]? = some x := ⟨_, List.getElem?_eq_getElem hjl⟩
                        obtain ⟨b3, o3, h3, -, n1⟩ := intS t1 hx
                        subst h3
                        have Hx := Lib.hid hx
                        have hJ1 : (0 : Int) ≤ (j : Int) := by omega
                        have hJ2 : (j : Int) < (row.length : Int) := by omega
                        have hJ3 : (j : Int) < d := by have := Hlen.out; omega
                        clear t1 hx hlen
                        by_cases hx0 : x < 0
                        · have Hno : Hid (checkB ⟨nm, 8, d, par, dom⟩ = 1) := by show _ = _; rw [Hc3.out, if_pos (all_no Hrow.out (rowOk_bad Hx.out (fun h => by omega)))]
                          go_wp2_with fail
                          go_ret
                          exact ⟨by rw [Hno.out] <;> rfl, HS2.out.below⟩
                        · by_cases hxt : x ≤ (topN (8 : Int).toNat : Int)
                          · have hxt2 : ¬ (255 : Int) < x := by have h : (topN (8 : Int).toNat : Int) = 255 := rfl; omega
                            have hx65 : x ≤ 65535 := by omega
                            have HR2 : Hid (∀ (i : Nat) (y : Int), i < j + 1 → row[i]? = some y → 0 ≤ y ∧ y ≤ (topN (8 : Int).toNat : Int)) := by
                              intro i y hi hy
                              rcases Nat.lt_or_ge i j with h | h
                              · exact HR.out i y h hy
                              · have : i = j := by omega
                                subst this
                                rw [Hx.out] at hy
                                injection hy with hy
                                omega
                            have HZ2 : Hid (sm + x = 0 ↔ ∀ (i : Nat) (y : Int), i < j + 1 → row[i]? = some y → y = 0) := by
                              constructor
                              · intro h i y hi hy
                                rcases Nat.lt_or_ge i j with h' | h'
                                · exact HZ.out.1 (by omega) i y h' hy
                                · have : i = j := by omega
                                  subst this
                                  rw [Hx.out] at hy
                                  injection hy with hy
                                  omega
                              · intro h
                                have h1 := h j x (by omega) Hx.out
                                have h2 := HZ.out.2 (fun i y hi hy => h i y (by omega) hy)
                                omega
                            go_wp2_with (go_at_call 38; refine (Htop.out _).mono ?_; rintro e w' ⟨rfl, hw'⟩; have hw2 := hw'.symm; subst hw2)
                            go_roundg (row.length - (j + 1))
                            case measure => rw [Hgj.out]; omega
                            case rel => exact ⟨j + 1, sm + x, rfl, by go_num, rfl, by omega, by omega, by omega, HS2.out, HR2.out, HZ2.out⟩
                          · have hxt2 : (255 : Int) < x := by have h : (topN (8 : Int).toNat : Int) = 255 := rfl; omega
                            have Hno : Hid (checkB ⟨nm, 8, d, par, dom⟩ = 1) := by show _ = _; rw [Hc3.out, if_pos (all_no Hrow.out (rowOk_bad Hx.out (fun h => hxt h.2)))]
                            go_wp2_with (go_at_call 38; refine (Htop.out _).mono ?_; rintro e w' ⟨rfl, hw'⟩; have hw2 := hw'.symm; subst hw2)
                            go_ret
                            exact ⟨by rw [Hno.out] <;> rfl, HS2.out.below⟩
                      · have hje : j = row.length := by omega
                        have hJ3 : ¬ (j : Int) < d := by have := Hlen.out; omega
                        clear t1
                        by_cases hsm : sm = 0
                        · have Hno : Hid (checkB ⟨nm, 8, d, par, dom⟩ = 1) := by show _ = _; rw [Hc3.out, if_pos (all_no Hrow.out (rowOk_zero (fun i y hy => HZ.out.1 hsm i y (by rw [hje]; exact (List.getElem?_eq_some_iff.1 hy).1) hy)))]
                          have q0 : (sm == 0) = true := by rw [beq_iff_eq]; exact hsm
                          clear hsm hlen hje
                          go_wp2_with fail
                          go_ret
                          exact ⟨by rw [Hno.out] <;> rfl, HS2.out.below⟩
                        · have q0 : (sm == 0) = false := by rw [beq_eq_false_iff_ne]; exact hsm
                          have hok : rowOkB d 8 row = true := rowOk_yes Hlen.out (fun i y hy => HR.out i y (by rw [hje]; exact (List.getElem?_eq_some_iff.1 hy).1) hy) (fun h => hsm (HZ.out.2 (fun i y _ hy => h i y hy)))
                          have HQ3 : Hid (∀ (j : Nat) (r : List Int), j < k + 1 → par[j]? = some r → rowOkB d 8 r = true) := by
                            intro j r hj hr
                            rcases Nat.lt_or_ge j k with h | h
                            · exact HQ.out j r h hr
                            · have : j = k := by omega
                              subst this
                              rw [Hrow.out] at hr
                              injection hr with hr
                              rw [← hr]; exact hok
                          clear hok hsm hlen hje
                          go_wp2_with fail
                          go_roundg (par.length - (k + 1))
                          case measure => rw [Hg.out]; omega
                          case rel => exact ⟨k + 1, by go_num, rfl, by omega, HS2.out, HQ3.out⟩
                  · have g1 : ((row.length : Int) != d) = true := by rw [bne_iff_ne]; exact hlen
                    have Hno : Hid (checkB ⟨nm, 8, d, par, dom⟩ = 1) := by show _ = _; rw [Hc3.out, if_pos (all_no Hrow.out (rowOk_len hlen))]
                    clear hlen
                    go_wp2_with fail
                    go_quiet (fail)
                    go_wp2_with fail
                    go_ret
                    exact ⟨by rw [Hno.out] <;> rfl, (HS.out.drewN _).below⟩
                · have Hc4 : Hid (checkB ⟨nm, 8, d, par, dom⟩ = if dom < 1 ∨ W < dom then 1 else 0) := by
                    show _ = _
                    rw [Hc3.out, if_neg]
                    rw [all_yes (fun j r h1 h2 => HQ.out j r (by omega) h2)]; simp
                  by_cases hd1 : dom < 1
                  · have Hc5 : Hid (checkB ⟨nm, 8, d, par, dom⟩ = 1) := by show _ = _; rw [Hc4.out, if_pos (.inl hd1)]
                    go_wp2_with fail
                    go_ret
                    exact ⟨by rw [Hc5.out] <;> rfl, HS.out.below⟩
                  · by_cases hd2 : W < dom
                    · have Hc5 : Hid (checkB ⟨nm, 8, d, par, dom⟩ = 1) := by show _ = _; rw [Hc4.out, if_pos (.inr hd2)]
                      go_wp2_with fail
                      go_ret
                      exact ⟨by rw [Hc5.out] <;> rfl, HS.out.below⟩
                    · have Hc5 : Hid (checkB ⟨nm, 8, d, par, dom⟩ = 0) := by show _ = _; rw [Hc4.out, if_neg (fun h => h.elim hd1 hd2)]
                      go_wp2_with fail
                      go_ret
                      exact ⟨by rw [Hc5.out] <;> rfl, HS.out.below⟩
        · subst hf
          have Htop : Hid (∀ W : World, Calls Tryd.prog 38 #[.int .i64 16] W fun e w' => e = .returned (.int .i64 65535) ∧ w' = W) := fun W => topR_any 16 W
          have Hc : Hid (checkB ⟨nm, 16, d, par, dom⟩ = if d < 1 ∨ 31 < d ∨ par = [] then 1 else if 32 < W then 2 else if par.all (rowOkB d 16) = false then 1 else if dom < 1 ∨ W < dom then 1 else 0) := by show _ = _; unfold checkB; rw [if_neg (by simp [hwd]), if_neg hl, if_neg (fun h => by simp at h), hW]
          have htp0 : 0 ≤ (topN (16 : Int).toNat : Int) := by omega
          have htp1 : (topN (16 : Int).toNat : Int) ≤ 65535 := by have := topN_le (16 : Int).toNat; omega
          clear hwd
          have hWv : wrap64 (d + (par.length : Int)) = W := hW.symm
          clear hW
          by_cases hdr : d < 1 ∨ 31 < d ∨ par = []
          · have Hc2 : Hid (checkB ⟨nm, 16, d, par, dom⟩ = 1) := by show _ = _; rw [Hc.out, if_pos hdr]
            rcases hdr with h1 | h1 | h1
            · have e1 : decide (d < 1) = true := decide_eq_true h1
              go_enter Tryd.func15, Tryd.ntmps15
              go_wp2_with (go_at_call 37; refine Hword.out.mono ?_; rintro e w' ⟨rfl, hw'⟩; have hw2 := hw'.symm; subst hw2)
              go_ret
              exact ⟨by rw [Hc2.out] <;> rfl, S0.out.below⟩
            · have e1 : ¬ d < 1 := by omega
              go_enter Tryd.func15, Tryd.ntmps15
              go_wp2_with (go_at_call 37; refine Hword.out.mono ?_; rintro e w' ⟨rfl, hw'⟩; have hw2 := hw'.symm; subst hw2)
              go_ret
              exact ⟨by rw [Hc2.out] <;> rfl, S0.out.below⟩
            · subst h1
              go_enter Tryd.func15, Tryd.ntmps15
              go_wp2_with (go_at_call 37; refine Hword.out.mono ?_; rintro e w' ⟨rfl, hw'⟩; have hw2 := hw'.symm; subst hw2)
              all_goals
                go_ret
                exact ⟨by rw [Hc2.out] <;> rfl, S0.out.below⟩
          · have e1 : ¬ d < 1 := fun h => hdr (.inl h)
            have e2 : ¬ 31 < d := fun h => hdr (.inr (.inl h))
            have e3 : ((par.length : Int) == 0) = false := by
              rw [beq_eq_false_iff_ne]
              intro h
              exact hdr (.inr (.inr (List.eq_nil_of_length_eq_zero (by omega))))
            have Hc2 : Hid (checkB ⟨nm, 16, d, par, dom⟩ = if 32 < W then 2 else if par.all (rowOkB d 16) = false then 1 else if dom < 1 ∨ W < dom then 1 else 0) := by show _ = _; rw [Hc.out, if_neg hdr]
            clear hdr Hc
            by_cases hw32 : 32 < W
            · have Hc3 : Hid (checkB ⟨nm, 16, d, par, dom⟩ = 2) := by show _ = _; rw [Hc2.out, if_pos hw32]
              go_enter Tryd.func15, Tryd.ntmps15
              go_wp2_with (go_at_call 37; refine Hword.out.mono ?_; rintro e w' ⟨rfl, hw'⟩; have hw2 := hw'.symm; subst hw2)
              go_ret
              exact ⟨by rw [Hc3.out] <;> rfl, S0.out.below⟩
            · have Hc3 : Hid (checkB ⟨nm, 16, d, par, dom⟩ = if par.all (rowOkB d 16) = false then 1 else if dom < 1 ∨ W < dom then 1 else 0) := by show _ = _; rw [Hc2.out, if_neg hw32]
              clear Hc2
              go_enter Tryd.func15, Tryd.ntmps15
              go_wp2_with (go_at_call 37; refine Hword.out.mono ?_; rintro e w' ⟨rfl, hw'⟩; have hw2 := hw'.symm; subst hw2)
              clear hWv e3 x0 x1 x2 x3 x4 hw32
              go_loopg [4] par.length (fun g s4 wr => ∃ k : Nat, s4 = .int .i64 (k : Int) ∧ g = par.length - k ∧ k ≤ par.length ∧ Hid (CW w (codeV ⟨nm, 16, d, par, dom⟩ A c) wr) ∧ Hid (∀ (j : Nat) (r : List Int), j < k → par[j]? = some r → rowOkB d 16 r = true))
              case atStart => exact ⟨0, rfl, rfl, by omega, S0.out, fun j r h => absurd h (by omega)⟩
              case round =>
                obtain ⟨k, rfl, hg, hk, HS, HQ⟩ := hrel
                have Hg := Lib.hid hg
                clear hg S0
                obtain ⟨x1, -⟩ := cell_at HS.out.x 1 rfl
                obtain ⟨x2, -⟩ := cell_at HS.out.x 2 rfl
                obtain ⟨x3, -⟩ := cell_at HS.out.x 3 rfl
                obtain ⟨x4, -⟩ := cell_at HS.out.x 4 rfl
                by_cases hlt : k < par.length
                · obtain ⟨row, hrow⟩ : ∃ r, par[k]? = some r := ⟨_, List.getElem?_eq_getElem hlt⟩
                  obtain ⟨b1, o1, A1, q1, hA, m1, t1⟩ := rowS Hs1.out Hs2.out HS.out.below hrow
                  subst hA
                  have Hrow := Lib.hid hrow
                  have hI1 : (0 : Int) ≤ (k : Int) := by omega
                  have hI2 : (k : Int) < (par.length : Int) := by omega
                  clear hrow t1
                  by_cases hlen : (row.length : Int) = d
                  · have g1 : ((row.length : Int) != d) = false := by rw [bne_eq_false_iff_eq]; exact hlen
                    have Hlen := Lib.hid hlen
                    have hrl : row.length ≤ 31 := by omega
                    go_upto_region 16 with fail
                    go_quiet (fail)
                    go_wp2_with fail
                    clear g1 x1 x2 x3 x4 m1
                    go_loopg [5, 6] row.length (fun g s5 s6 wr => ∃ (j : Nat) (sm : Int), s5 = .int .i64 sm ∧ s6 = .int .i64 (j : Int) ∧ g = row.length - j ∧ j ≤ row.length ∧ 0 ≤ sm ∧ sm ≤ 65535 * j ∧ Hid (CW w (codeV ⟨nm, 16, d, par, dom⟩ (some ⟨b1, o1, none⟩) c) wr) ∧ Hid (∀ (i : Nat) (x : Int), i < j → row[i]? = some x → 0 ≤ x ∧ x ≤ (topN (16 : Int).toNat : Int)) ∧ Hid (sm = 0 ↔ ∀ (i : Nat) (x : Int), i < j → row[i]? = some x → x = 0))
                    case atStart => exact ⟨0, 0, rfl, rfl, rfl, by omega, by omega, by omega, HS.out.drewN _, (fun i x h => absurd h (by omega)), ⟨fun _ i x h => absurd h (by omega), fun _ => rfl⟩⟩
                    case round =>
                      obtain ⟨j, sm, rfl, rfl, hgj, hj, hs0, hs1, HS2, HR, HZ⟩ := hrel
                      have Hgj := Lib.hid hgj
                      clear hgj
                      obtain ⟨x1, -⟩ := cell_at HS2.out.x 1 rfl
                      obtain ⟨x2, -⟩ := cell_at HS2.out.x 2 rfl
                      obtain ⟨x3, -⟩ := cell_at HS2.out.x 3 rfl
                      obtain ⟨b1', o1', A1', q1', hA', m1, t1⟩ := rowS Hs1.out Hs2.out HS2.out.below Hrow.out
                      injection hA' with hA'
                      injection hA' with ee1 ee2
                      subst ee1; subst ee2
                      by_cases hjl : j < row.length
                      · obtain ⟨x, hx⟩ : ∃ x, row[j]? = some x := ⟨_, List.getElem?_eq_getElem hjl⟩
                        obtain ⟨b3, o3, h3, -, n1⟩ := intS t1 hx
                        subst h3
                        have Hx := Lib.hid hx
                        have hJ1 : (0 : Int) ≤ (j : Int) := by omega
                        have hJ2 : (j : Int) < (row.length : Int) := by omega
                        have hJ3 : (j : Int) < d := by have := Hlen.out; omega
                        clear t1 hx hlen
                        by_cases hx0 : x < 0
                        · have Hno : Hid (checkB ⟨nm, 16, d, par, dom⟩ = 1) := by show _ = _; rw [Hc3.out, if_pos (all_no Hrow.out (rowOk_bad Hx.out (fun h => by omega)))]
                          go_wp2_with fail
                          go_ret
                          exact ⟨by rw [Hno.out] <;> rfl, HS2.out.below⟩
                        · by_cases hxt : x ≤ (topN (16 : Int).toNat : Int)
                          · have hxt2 : ¬ (65535 : Int) < x := by have h : (topN (16 : Int).toNat : Int) = 65535 := rfl; omega
                            have hx65 : x ≤ 65535 := by omega
                            have HR2 : Hid (∀ (i : Nat) (y : Int), i < j + 1 → row[i]? = some y → 0 ≤ y ∧ y ≤ (topN (16 : Int).toNat : Int)) := by
                              intro i y hi hy
                              rcases Nat.lt_or_ge i j with h | h
                              · exact HR.out i y h hy
                              · have : i = j := by omega
                                subst this
                                rw [Hx.out] at hy
                                injection hy with hy
                                omega
                            have HZ2 : Hid (sm + x = 0 ↔ ∀ (i : Nat) (y : Int), i < j + 1 → row[i]? = some y → y = 0) := by
                              constructor
                              · intro h i y hi hy
                                rcases Nat.lt_or_ge i j with h' | h'
                                · exact HZ.out.1 (by omega) i y h' hy
                                · have : i = j := by omega
                                  subst this
                                  rw [Hx.out] at hy
                                  injection hy with hy
                                  omega
                              · intro h
                                have h1 := h j x (by omega) Hx.out
                                have h2 := HZ.out.2 (fun i y hi hy => h i y (by omega) hy)
                                omega
                            go_wp2_with (go_at_call 38; refine (Htop.out _).mono ?_; rintro e w' ⟨rfl, hw'⟩; have hw2 := hw'.symm; subst hw2)
                            go_roundg (row.length - (j + 1))
                            case measure => rw [Hgj.out]; omega
                            case rel => exact ⟨j + 1, sm + x, rfl, by go_num, rfl, by omega, by omega, by omega, HS2.out, HR2.out, HZ2.out⟩
                          · have hxt2 : (65535 : Int) < x := by have h : (topN (16 : Int).toNat : Int) = 65535 := rfl; omega
                            have Hno : Hid (checkB ⟨nm, 16, d, par, dom⟩ = 1) := by show _ = _; rw [Hc3.out, if_pos (all_no Hrow.out (rowOk_bad Hx.out (fun h => hxt h.2)))]
                            go_wp2_with (go_at_call 38; refine (Htop.out _).mono ?_; rintro e w' ⟨rfl, hw'⟩; have hw2 := hw'.symm; subst hw2)
                            go_ret
                            exact ⟨by rw [Hno.out] <;> rfl, HS2.out.below⟩
                      · have hje : j = row.length := by omega
                        have hJ3 : ¬ (j : Int) < d := by have := Hlen.out; omega
                        clear t1
                        by_cases hsm : sm = 0
                        · have Hno : Hid (checkB ⟨nm, 16, d, par, dom⟩ = 1) := by show _ = _; rw [Hc3.out, if_pos (all_no Hrow.out (rowOk_zero (fun i y hy => HZ.out.1 hsm i y (by rw [hje]; exact (List.getElem?_eq_some_iff.1 hy).1) hy)))]
                          have q0 : (sm == 0) = true := by rw [beq_iff_eq]; exact hsm
                          clear hsm hlen hje
                          go_wp2_with fail
                          go_ret
                          exact ⟨by rw [Hno.out] <;> rfl, HS2.out.below⟩
                        · have q0 : (sm == 0) = false := by rw [beq_eq_false_iff_ne]; exact hsm
                          have hok : rowOkB d 16 row = true := rowOk_yes Hlen.out (fun i y hy => HR.out i y (by rw [hje]; exact (List.getElem?_eq_some_iff.1 hy).1) hy) (fun h => hsm (HZ.out.2 (fun i y _ hy => h i y hy)))
                          have HQ3 : Hid (∀ (j : Nat) (r : List Int), j < k + 1 → par[j]? = some r → rowOkB d 16 r = true) := by
                            intro j r hj hr
                            rcases Nat.lt_or_ge j k with h | h
                            · exact HQ.out j r h hr
                            · have : j = k := by omega
                              subst this
                              rw [Hrow.out] at hr
                              injection hr with hr
                              rw [← hr]; exact hok
                          clear hok hsm hlen hje
                          go_wp2_with fail
                          go_roundg (par.length - (k + 1))
                          case measure => rw [Hg.out]; omega
                          case rel => exact ⟨k + 1, by go_num, rfl, by omega, HS2.out, HQ3.out⟩
                  · have g1 : ((row.length : Int) != d) = true := by rw [bne_iff_ne]; exact hlen
                    have Hno : Hid (checkB ⟨nm, 16, d, par, dom⟩ = 1) := by show _ = _; rw [Hc3.out, if_pos (all_no Hrow.out (rowOk_len hlen))]
                    clear hlen
                    go_wp2_with fail
                    go_quiet (fail)
                    go_wp2_with fail
                    go_ret
                    exact ⟨by rw [Hno.out] <;> rfl, (HS.out.drewN _).below⟩
                · have Hc4 : Hid (checkB ⟨nm, 16, d, par, dom⟩ = if dom < 1 ∨ W < dom then 1 else 0) := by
                    show _ = _
                    rw [Hc3.out, if_neg]
                    rw [all_yes (fun j r h1 h2 => HQ.out j r (by omega) h2)]; simp
                  by_cases hd1 : dom < 1
                  · have Hc5 : Hid (checkB ⟨nm, 16, d, par, dom⟩ = 1) := by show _ = _; rw [Hc4.out, if_pos (.inl hd1)]
                    go_wp2_with fail
                    go_ret
                    exact ⟨by rw [Hc5.out] <;> rfl, HS.out.below⟩
                  · by_cases hd2 : W < dom
                    · have Hc5 : Hid (checkB ⟨nm, 16, d, par, dom⟩ = 1) := by show _ = _; rw [Hc4.out, if_pos (.inr hd2)]
                      go_wp2_with fail
                      go_ret
                      exact ⟨by rw [Hc5.out] <;> rfl, HS.out.below⟩
                    · have Hc5 : Hid (checkB ⟨nm, 16, d, par, dom⟩ = 0) := by show _ = _; rw [Hc4.out, if_neg (fun h => h.elim hd1 hd2)]
                      go_wp2_with fail
                      go_ret
                      exact ⟨by rw [Hc5.out] <;> rfl, HS.out.below⟩
      · have g1 : (f != 8) = true := by rw [bne_iff_ne]; exact fun h => hf (.inl h)
        have g2 : (f != 16) = true := by rw [bne_iff_ne]; exact fun h => hf (.inr h)
        have Hc : Hid (checkB ⟨nm, f, d, par, dom⟩ = 1) := by show _ = _; unfold checkB; rw [if_neg (by simp [hwd]), if_neg hl, if_pos hf]
        clear hf hwd
        go_enter Tryd.func15, Tryd.ntmps15
        go_wp2_with (go_at_call 37; refine Hword.out.mono ?_; rintro e w' ⟨rfl, hw'⟩; have hw2 := hw'.symm; subst hw2)
        go_ret
        exact ⟨by rw [Hc.out] <;> rfl, S0.out.below⟩
end Go.Proofs.YtafgmbchdcfkcaaDoor
