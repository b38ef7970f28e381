/-
  The walk of the reference's Print: the plain printer's text, or what is wrong with the code.
-/
import Derived.Test.YtafgmbchdcfkcaaDoorT2
import Derived.Test.YtafgmbchdcfkcaaDoorT4
import Derived.Deep.RegionHeld3
namespace Go.Proofs.YtafgmbchdcfkcaaDoor
open Go Go.RowKit Go.Walks

def pr1 (nm : Bytes) : Bytes := [99, 111, 100, 101, 32] ++ nm
def pr2 (nm : Bytes) : Bytes := pr1 nm ++ [32, 123, 10, 9, 102, 105, 101, 108, 100, 32]
def pr3 (nm : Bytes) (f : Int) : Bytes := pr2 nm ++ Lib.itoa f
def pr4 (nm : Bytes) (f : Int) : Bytes := pr3 nm f ++ [59, 10, 9, 100, 97, 116, 97, 32]
def pr5 (nm : Bytes) (f d : Int) : Bytes := pr4 nm f ++ Lib.itoa d
def pr6 (nm : Bytes) (f d : Int) : Bytes := pr5 nm f d ++ [59, 10]
def pl1 (l : Bytes) : Bytes := l ++ [9]
def pl2 (l : Bytes) (r : List Int) : Bytes := pl1 l ++ rowR r
def pl3 (l : Bytes) (r : List Int) : Bytes := pl2 l r ++ [10]
def pe1 (l : Bytes) : Bytes := l ++ [9, 100, 111, 109, 97, 105, 110, 32]
def pe2 (l : Bytes) (d : Int) : Bytes := pe1 l ++ Lib.itoa d
def pe3 (l : Bytes) (d : Int) : Bytes := pe2 l d ++ [59, 10, 125, 10]
theorem pr6_eq (C : Code) : pr6 C.name C.field C.data = headTxt C ++ lineTx (fieldTx C.field) ++ lineTx (dataTx C.data) := by
  simp [pr6, pr5, pr4, pr3, pr2, pr1, headTxt, lineTx, fieldTx, dataTx]
theorem pl3_eq (l : Bytes) (r : List Int) : pl3 l r = l ++ lineTx (rowTx r) := by simp [pl3, pl2, pl1, rowR, lineTx]
theorem pe3_eq (l : Bytes) (d : Int) : pe3 l d = l ++ lineTx (domTx d) ++ [125, 10] := by simp [pe3, pe2, pe1, lineTx, domTx]
theorem pr1_len (nm : Bytes) : (pr1 nm).length = nm.length + 5 := by simp [pr1]
theorem pr2_len (nm : Bytes) : (pr2 nm).length = nm.length + 15 := by simp [pr2, pr1]
theorem pr3_len (nm : Bytes) (f : Int) : (pr3 nm f).length = nm.length + 15 + (Lib.itoa f).length := by simp [pr3, pr2_len]
theorem pr4_len (nm : Bytes) (f : Int) : (pr4 nm f).length = nm.length + 23 + (Lib.itoa f).length := by simp [pr4, pr3_len]; omega
theorem pr5_len (nm : Bytes) (f d : Int) : (pr5 nm f d).length = nm.length + 23 + (Lib.itoa f).length + (Lib.itoa d).length := by simp [pr5, pr4_len]
theorem pr6_len (nm : Bytes) (f d : Int) : (pr6 nm f d).length = nm.length + 25 + (Lib.itoa f).length + (Lib.itoa d).length := by simp [pr6, pr5_len]; omega
theorem rowR_len (r : List Int) : (rowR r).length = (rowTx r).length + 1 := by simp [rowR]
theorem pl1_len (l : Bytes) : (pl1 l).length = l.length + 1 := by simp [pl1]
theorem pl2_len (l : Bytes) (r : List Int) : (pl2 l r).length = l.length + 2 + (rowTx r).length := by simp [pl2, pl1, rowR]; omega
theorem pl3_len (l : Bytes) (r : List Int) : (pl3 l r).length = l.length + 3 + (rowTx r).length := by simp [pl3, pl2_len]; omega
theorem pe1_len (l : Bytes) : (pe1 l).length = l.length + 8 := by simp [pe1]
theorem pe2_len (l : Bytes) (d : Int) : (pe2 l d).length = l.length + 8 + (Lib.itoa d).length := by simp [pe2, pe1_len]

set_option maxRecDepth 100000 in
set_option maxHeartbeats 4000000 in
theorem printR_any (a : Code) (ca : List Value) (w : World) (Ha : Hid (CodeS w a ca)) (La : Hid (CodeL a)) (hn : a.name.length ≤ maxLen) : Calls Tryd.prog 12 #[.agg ca.toArray] w (PrintR (printB a) w) := by
  obtain ⟨A, c, mc, rfl, h1, h2⟩ := Ha.out
  have Hs1 := Lib.hid h1
  have Hs2 := Lib.hid h2
  have S0 := Lib.hid (CW.start w (codeV a A c))
  have hchk := checkR_any a (codeV a A c).toList (w.alloc (.cells (codeV a A c) 24)) (Ha.out.below S0.out.below) La hn
  have hp6 := pr6_eq a
  obtain ⟨nm, f, d, par, dom⟩ := a
  unfold intC
  dsimp only at Hs1 Hs2 S0 hn hchk hp6 ⊢
  have HP6e := Lib.hid hp6
  obtain ⟨x0, -⟩ := cell_at S0.out.x 0 rfl
  obtain ⟨x1, -⟩ := cell_at S0.out.x 1 rfl
  obtain ⟨x2, -⟩ := cell_at S0.out.x 2 rfl
  obtain ⟨x3, -⟩ := cell_at S0.out.x 3 rfl
  obtain ⟨x4, -⟩ := cell_at S0.out.x 4 rfl
  clear h1 h2 Ha hp6
  by_cases hck : checkB ⟨nm, f, d, par, dom⟩ = 0
  · have Hok := Lib.hid (ok_of hck La.out.par)
    rw [hck] at hchk
    have Hchk := Lib.hid hchk
    have Hpr : Hid (printB ⟨nm, f, d, par, dom⟩ = if 2000 < (printT ⟨nm, f, d, par, dom⟩).length then ([], 2) else (printT ⟨nm, f, d, par, dom⟩, 0)) := by show _ = _; unfold printB; rw [if_neg (fun h => h hck)]
    clear hchk hck
    have k1 := Hok.out.len
    have k2 := Hok.out.d1
    have k3 := Hok.out.d2
    have k4 := Hok.out.width
    have k5 := Hok.out.dom1
    have k6 := Hok.out.dom2
    have k7 : 1 ≤ f ∧ f ≤ 16 := by rcases Hok.out.field with h | h <;> (dsimp only at h; omega)
    obtain ⟨k7, k8⟩ := k7
    dsimp only at k1 k2 k3 k4 k5 k6
    have z1 := itoa_len f (by omega) (by omega)
    have z2 := itoa_len d (by omega) (by omega)
    have z3 := itoa_len dom (by omega) (by omega)
    have q1 : ¬ 9223372036854775807 < 5 + nm.length := by omega
    have q2 : ¬ 9223372036854775807 < (pr1 nm).length + 10 := by rw [pr1_len]; omega
    have q3 : ¬ 9223372036854775807 < (pr2 nm).length + (Lib.itoa f).length := by rw [pr2_len]; omega
    have q4 : ¬ 9223372036854775807 < (pr3 nm f).length + 8 := by rw [pr3_len]; omega
    have q5 : ¬ 9223372036854775807 < (pr4 nm f).length + (Lib.itoa d).length := by rw [pr4_len]; omega
    have q6 : ¬ 9223372036854775807 < (pr5 nm f d).length + 2 := by rw [pr5_len]; omega
    have c1 : (⟨#[99, 111, 100, 101, 32]⟩ : ByteArray) ++ ⟨nm.toArray⟩ = ⟨(pr1 nm).toArray⟩ := cat_eq [99, 111, 100, 101, 32] nm
    have c2 : (⟨(pr1 nm).toArray⟩ : ByteArray) ++ ⟨#[32, 123, 10, 9, 102, 105, 101, 108, 100, 32]⟩ = ⟨(pr2 nm).toArray⟩ := cat_eq (pr1 nm) [32, 123, 10, 9, 102, 105, 101, 108, 100, 32]
    have c3 : (⟨(pr2 nm).toArray⟩ : ByteArray) ++ ⟨(Lib.itoa f).toArray⟩ = ⟨(pr3 nm f).toArray⟩ := cat_eq _ _
    have c4 : (⟨(pr3 nm f).toArray⟩ : ByteArray) ++ ⟨#[59, 10, 9, 100, 97, 116, 97, 32]⟩ = ⟨(pr4 nm f).toArray⟩ := cat_eq (pr3 nm f) [59, 10, 9, 100, 97, 116, 97, 32]
    have c5 : (⟨(pr4 nm f).toArray⟩ : ByteArray) ++ ⟨(Lib.itoa d).toArray⟩ = ⟨(pr5 nm f d).toArray⟩ := cat_eq _ _
    have c6 : (⟨(pr5 nm f d).toArray⟩ : ByteArray) ++ ⟨#[59, 10]⟩ = ⟨(pr6 nm f d).toArray⟩ := cat_eq (pr5 nm f d) [59, 10]
    have hl6' : (pr6 nm f d).length ≤ 100 := by rw [pr6_len]; omega
    go_enter Tryd.func12, Tryd.ntmps12
    go_upto_region 4 with (go_at_call 15; refine Hchk.out.mono ?_; rintro e w1 ⟨rfl, hb1⟩; have HB1 := Lib.hid hb1; clear hb1)
    have hx1 := below_cells S0.out.x HB1.out
    have HX1 := Lib.hid hx1
    have HB2 := Lib.hid (S0.out.below.trans (HB1.out.mono S0.out.below.size))
    have HKS : Hid (∀ w' : World, Below w1.heap.size w1 w' → (w'.cell? ⟨w.heap.size, 0, none⟩ = some (.string ⟨nm.toArray⟩) ∧ w'.cell? ⟨w.heap.size, 1, none⟩ = some (.int .i64 f)) ∧ w'.cell? ⟨w.heap.size, 2, none⟩ = some (.int .i64 d)) := by
      intro w' hb
      have h := below_cells hx1 hb
      exact ⟨⟨(cell_at h 0 rfl).1, (cell_at h 1 rfl).1⟩, (cell_at h 2 rfl).1⟩
    clear hx1 x0 x1 x2 x3 x4
    go_cut [5] (fun s5 wx => s5 = .string ⟨(pr6 nm f d).toArray⟩ ∧ Hid (Below w1.heap.size w1 wx))
    case first =>
      go_region_held3 (fun w' => (w'.cell? ⟨w.heap.size, 0, none⟩ = some (.string ⟨nm.toArray⟩) ∧ w'.cell? ⟨w.heap.size, 1, none⟩ = some (.int .i64 f)) ∧ w'.cell? ⟨w.heap.size, 2, none⟩ = some (.int .i64 d))
        (first | exact HKS.out _ HB7.out | exact HKS.out _ HB6.out | exact HKS.out _ (Below.refl _ _).drew)
        ((go_at_call 31; refine (numR_any _ (by omega) (by omega) _).mono ?_; rintro e w6 ⟨rfl, hb6⟩; (first | (have HB7 := Lib.hid (HB6.out.trans (hb6.mono HB6.out.size)); clear hb6) | (have HB6 := Lib.hid ((Below.refl w1.heap.size w1).drew.trans hb6); clear hb6))))
      all_goals
        first | go_meet | (go_wp2_with fail; go_meet)
        exact ⟨rfl, HB7.out⟩
    case rest =>
    obtain ⟨rfl, hb3⟩ := hcut
    have HB3 := Lib.hid hb3.out
    have HX3 := Lib.hid (below_cells HX1.out HB3.out)
    have HW3 := Lib.hid (HB2.out.trans (HB3.out.mono HB2.out.size))
    clear hb3 HKS q1 q2 q3 q4 q5 q6 c1 c2 c3 c4 c5 c6
    have hpl : par.length ≤ 31 := by omega
    obtain ⟨l6, hl6e⟩ : ∃ l6, l6 = pr6 nm f d := ⟨_, rfl⟩
    rw [← hl6e] at hl6' ⊢
    have HP6 : Hid (l6 = headTxt ⟨nm, f, d, par, dom⟩ ++ lineTx (fieldTx f) ++ lineTx (dataTx d)) := by show _ = _; rw [hl6e]; exact HP6e.out
    clear hl6e HP6e
    go_wp2_with fail
    go_loopg [5, 6] par.length (fun g s5 s6 wr => ∃ (k : Nat) (l : Bytes), s5 = .string ⟨l.toArray⟩ ∧ s6 = .int .i64 (k : Int) ∧ g = par.length - k ∧ k ≤ par.length ∧ l.length ≤ 100 + k * 1500 ∧ Hid (CW w (codeV ⟨nm, f, d, par, dom⟩ A c) wr) ∧ Hid (l6 ++ rowsTx par = l ++ rowsTx (par.drop k)))
    case atStart => exact ⟨0, l6, rfl, rfl, by omega, by omega, by omega, ⟨HW3.out, HX3.out⟩, rfl⟩
    case round =>
      obtain ⟨k, l, rfl, rfl, hgk, hk, hl, HP, HL⟩ := hrel
      have Hgk := Lib.hid hgk
      clear hgk HW3 HX3
      by_cases hlt : k < par.length
      · obtain ⟨row, hrow⟩ : ∃ r, par[k]? = some r := ⟨_, List.getElem?_eq_getElem hlt⟩
        obtain ⟨b1, o1, A1, r1, hA, m1, t1⟩ := rowS Hs1.out Hs2.out HP.out.below hrow
        obtain ⟨hr1, hr2, hr3⟩ := rowOk_spec Hok.out (List.mem_of_getElem? hrow)
        have hrl : row.length ≤ 31 := by dsimp only at hr1; omega
        have hrt := rowTx_len hrl hr2
        have HL2 : Hid (l6 ++ rowsTx par = pl3 l row ++ rowsTx (par.drop (k + 1))) := by show _ = _; rw [HL.out, rowsTx_step hrow, pl3_eq, List.append_assoc]
        have hl2 : (pl3 l row).length ≤ 100 + (k + 1) * 1500 := by rw [pl3_len]; omega
        have Hcall := Lib.hid (rowR_any row A1 r1 wr t1 hrl hr2)
        have q1 : ¬ 9223372036854775807 < l.length + 1 := by omega
        have q2 : ¬ 9223372036854775807 < (pl1 l).length + (rowR row).length := by rw [pl1_len, rowR_len]; omega
        have q3 : ¬ 9223372036854775807 < (pl2 l row).length + 1 := by rw [pl2_len]; omega
        have c1 : (⟨l.toArray⟩ : ByteArray) ++ ⟨#[9]⟩ = ⟨(pl1 l).toArray⟩ := cat_eq l [9]
        have c2 : (⟨(pl1 l).toArray⟩ : ByteArray) ++ ⟨(rowR row).toArray⟩ = ⟨(pl2 l row).toArray⟩ := cat_eq _ _
        have c3 : (⟨(pl2 l row).toArray⟩ : ByteArray) ++ ⟨#[10]⟩ = ⟨(pl3 l row).toArray⟩ := cat_eq (pl2 l row) [10]
        obtain ⟨x3, -⟩ := cell_at HP.out.x 3 rfl
        subst hA
        have hI1 : (0 : Int) ≤ (k : Int) := by omega
        have hI2 : (k : Int) < (par.length : Int) := by omega
        clear hrow t1 hr1 hr2 hr3 hrt
        go_wp2_with fail
        refine Hcall.out.mono ?_
        rintro e w7 ⟨rfl, hb7⟩
        have HP7 : Hid (CW w (codeV ⟨nm, f, d, par, dom⟩ (some ⟨b1, o1, none⟩) c) w7) := ⟨HP.out.below.trans (hb7.mono HP.out.below.size), below_cells HP.out.x hb7⟩
        clear hb7 x3 m1
        go_wp2_with fail
        go_roundg (par.length - (k + 1))
        case measure => rw [Hgk.out]; omega
        case rel => exact ⟨k + 1, pl3 l row, rfl, by go_num, rfl, by omega, hl2, HP7.out, HL2.out⟩
      · have hke : k = par.length := by omega
        subst hke
        have hI2 : ¬ (par.length : Int) < (par.length : Int) := by omega
        have Hle : Hid (printT ⟨nm, f, d, par, dom⟩ = pe3 l dom) := by
          show _ = _
          have : l6 ++ rowsTx par = l := by rw [HL.out, List.drop_length]; simp [rowsTx]
          unfold printT
          dsimp only
          rw [← HP6.out, this, pe3_eq]
        have q1 : ¬ 9223372036854775807 < l.length + 8 := by omega
        have q2 : ¬ 9223372036854775807 < (pe1 l).length + (Lib.itoa dom).length := by rw [pe1_len]; omega
        have q3 : ¬ 9223372036854775807 < (pe2 l dom).length + 4 := by rw [pe2_len]; omega
        have c1 : (⟨l.toArray⟩ : ByteArray) ++ ⟨#[9, 100, 111, 109, 97, 105, 110, 32]⟩ = ⟨(pe1 l).toArray⟩ := cat_eq l [9, 100, 111, 109, 97, 105, 110, 32]
        have c2 : (⟨(pe1 l).toArray⟩ : ByteArray) ++ ⟨(Lib.itoa dom).toArray⟩ = ⟨(pe2 l dom).toArray⟩ := cat_eq _ _
        have c3 : (⟨(pe2 l dom).toArray⟩ : ByteArray) ++ ⟨#[59, 10, 125, 10]⟩ = ⟨(pe3 l dom).toArray⟩ := cat_eq (pe2 l dom) [59, 10, 125, 10]
        clear HL hlt Hgk
        obtain ⟨x3, -⟩ := cell_at HP.out.x 3 rfl
        obtain ⟨x4, -⟩ := cell_at HP.out.x 4 rfl
        by_cases hbig : 2000 < (pe3 l dom).length
        · have hb1 : (2000 : Int) < ((pe3 l dom).length : Int) := by omega
          have Hp2 : Hid (printB ⟨nm, f, d, par, dom⟩ = ([], 2)) := by show _ = _; rw [Hpr.out, Hle.out, if_pos hbig]
          clear hbig
          go_wp2_with fail
          refine (numR_any dom (by omega) (by omega) _).mono ?_
          rintro e w7 ⟨rfl, hb7⟩
          have HB7 := Lib.hid (HP.out.below.trans (hb7.mono HP.out.below.size))
          clear hb7 x3 x4
          go_wp2_with fail
          go_ret2
          exact ⟨by rw [Hp2.out] <;> rfl, HB7.out⟩
        · have hb1 : ¬ (2000 : Int) < ((pe3 l dom).length : Int) := by omega
          have Hp2 : Hid (printB ⟨nm, f, d, par, dom⟩ = (pe3 l dom, 0)) := by show _ = _; rw [Hpr.out, Hle.out, if_neg hbig]
          clear hbig
          go_wp2_with fail
          refine (numR_any dom (by omega) (by omega) _).mono ?_
          rintro e w7 ⟨rfl, hb7⟩
          have HB7 := Lib.hid (HP.out.below.trans (hb7.mono HP.out.below.size))
          clear hb7 x3 x4
          go_wp2_with fail
          go_ret2
          exact ⟨by rw [Hp2.out] <;> rfl, HB7.out⟩
  · have Hchk := Lib.hid hchk
    have hne : checkB ⟨nm, f, d, par, dom⟩ ≠ 0 := hck
    have Hpr : Hid (printB ⟨nm, f, d, par, dom⟩ = ([], checkB ⟨nm, f, d, par, dom⟩)) := by show _ = _; unfold printB; rw [if_pos hne]
    obtain ⟨v, hv⟩ : ∃ v, v = checkB ⟨nm, f, d, par, dom⟩ := ⟨_, rfl⟩
    rw [← hv] at Hchk Hpr
    have hv0 : ¬ v = 0 := by rw [hv]; exact hne
    have hv1 : ((v : Int) != 0) = true := by rw [bne_iff_ne]; omega
    clear hchk hck hne hv
    go_enter Tryd.func12, Tryd.ntmps12
    go_wp2_with (go_at_call 15; refine Hchk.out.mono ?_; rintro e w1 ⟨rfl, hb1⟩; have HB1 := Lib.hid (S0.out.below.trans (hb1.mono S0.out.below.size)); clear hb1)
    go_ret2
    exact ⟨by rw [Hpr.out] <;> rfl, HB1.out⟩
end Go.Proofs.YtafgmbchdcfkcaaDoor
