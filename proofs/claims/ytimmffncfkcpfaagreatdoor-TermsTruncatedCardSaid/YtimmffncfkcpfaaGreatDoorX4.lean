/-
  The walk of the program's Print (printed by gen_print.py).
-/
import Derived.Test.YtimmffncfkcpfaaGreatDoorX3
namespace Go.Proofs.YtimmffncfkcpfaaGreatDoor
open Go Go.RowKit Go.Walks

def clsP (a : Bytes) : Bytes := sClass ++ a ++ sCode
def clsQ (a b : Bytes) : Bytes := sClass ++ a ++ sCode ++ b
def clsHead (a b : Bytes) : Bytes := sClass ++ a ++ sCode ++ b ++ kSemi
def tenHead (a : Bytes) : Bytes := sTenant ++ a ++ sBrace
def clsTail (a : Bytes) : Bytes := sCls ++ a ++ sEnd
theorem class_tx (a b : Bytes) (l w : Int) : classTx ⟨a, b, l, w⟩ = clsHead a b ++ numTx kLosses l ++ kSemi ++ numTx kWhole w ++ sEnd := rfl
theorem contr_tx (a c : Bytes) (g s b r : Int) : contrTx ⟨a, g, s, b, r, c⟩ = tenHead a ++ numTx kGuar g ++ snapTx s ++ burstTx b r ++ clsTail c := rfl
def PrintR (x : Bytes × Nat) (w : World) (e : Ending) (w' : World) : Prop := e = .returned (.tuple #[strV x.1, .int .i64 (x.2 : Int)]) ∧ Below w.heap.size w w'
theorem flat_step {α : Type} (f : α → Bytes) {l : List α} {k : Nat} {x : α} (h : l[k]? = some x) : (l.take (k + 1)).flatMap f = (l.take k).flatMap f ++ f x := by
  rw [List.take_add_one, h]
  simp
theorem ok_fits {T : TermsD} (h : Ok T) : Fits T := by
  have hn : ∀ {x : Bytes}, nameB x = true → x.length ≤ 140737488355328 := fun h => by have := (name_word h).2; omega
  exact ⟨fun C hC => ⟨hn (h.cs C hC).name, hn (h.cs C hC).code⟩, fun D hD => ⟨hn (h.ts D hD).1.tenant, hn (h.ts D hD).1.cls⟩⟩

set_option maxRecDepth 100000 in
set_option maxHeartbeats 16000000 in
theorem print_any (T : TermsD) (v : Value) (w : World) (Hg : Hid (Gl w)) (Hv : Hid (TermsV w T v)) (Hf : Hid (Fits T)) : Calls Tryz.prog 10 #[v] w (PrintR (printB T) w) := by
  have hba : Below w.heap.size w (w.alloc (.cells v.cells 26)) := (Below.refl _ _).alloc (Nat.le_refl _) _
  have hchk := check_any T v (w.alloc (.cells v.cells 26)) (Hg.out.below hba) (Hv.out.below hba) Hf
  obtain ⟨A, c, A', d, rfl, hs1, hs2, hc1, hc2, hc3, hc4⟩ := Hv.out
  obtain ⟨n, hn⟩ : ∃ n, n = T.classes.length := ⟨_, rfl⟩
  obtain ⟨m, hm⟩ : ∃ m, m = T.contracts.length := ⟨_, rfl⟩
  rw [← hn, ← hm] at hchk
  rw [← hn, ← hm]
  rw [← hn] at hc1
  rw [← hm] at hc2
  have Hn := Lib.hid hn
  have Hm := Lib.hid hm
  have Hs1 := Lib.hid hs1
  have Hs2 := Lib.hid hs2
  have hchk2 : Calls Tryz.prog 11 #[.agg #[.slice A n c, .slice A' m d]] (w.alloc (.cells #[.slice A n c, .slice A' m d] 26)) (CheckR (checkB T) (w.alloc (.cells #[.slice A n c, .slice A' m d] 26))) := hchk
  have HB0 : Hid (Below w.heap.size w (w.alloc (.cells #[.slice A n c, .slice A' m d] 26))) := (Below.refl _ _).alloc (Nat.le_refl _) _
  have HX0 := Lib.hid (heap_new w (.cells #[.slice A n c, .slice A' m d] 26))
  unfold maxLen at hc3 hc4
  clear hs1 hs2 Hv hn hm hba hchk
  obtain ⟨x0, x1, -⟩ := two_cells HX0.out
  by_cases hck : (checkB T).2 = 0
  · have HOK := Lib.hid (check_ok.1 hck)
    have h00 := check_zero hck
    rw [h00] at hchk2
    have Hchk := Lib.hid hchk2
    have Hpr : Hid (printB T = if 2000 < (printT T).length then ([], 2) else (printT T, 0)) := by show _ = _; unfold printB; rw [if_neg (fun h => h hck)]
    have hn8 : n ≤ 8 := by have := HOK.out.cn; have := Hn.out; omega
    have hm16 : m ≤ 16 := by have := HOK.out.tn; have := Hm.out; omega
    clear hchk2 hck h00
    go_enter Tryz.func10, Tryz.ntmps10
    go_wp2_with fail
    refine Hchk.out.mono ?_
    rintro e w1 ⟨rfl, hb1⟩
    have hx1 := below_cells HX0.out hb1
    have hw1 : w.heap.size < w1.heap.size := (Array.getElem?_eq_some_iff.1 hx1).1
    have HP1 : Hid (PT w #[.slice A n c, .slice A' m d] w1.heap.size [] none (w1.alloc (.cells #[.pointer none, .slice none 0 0] 87))) :=
      ⟨(HB0.out.trans (hb1.mono HB0.out.size)).alloc (by omega) _, (Below.heap_alloc _ _ _ hw1).trans hx1, BdAt.start w1 (Nat.le_refl _), hw1⟩
    generalize hbk : w1.heap.size = b at HP1
    clear hb1 hx1 hw1 x0 x1
    obtain ⟨x0, -⟩ := two_cells HP1.out.x
    go_wp2_with fail
    clear x0
    go_loopg [22] n (fun g s22 wr => ∃ (k : Nat) (gb : Option Nat), s22 = .int .i64 (k : Int) ∧ g = n - k ∧ k ≤ n ∧ Hid (PT w #[.slice A n c, .slice A' m d] b ((T.classes.take k).flatMap classTx) gb wr) ∧ ((T.classes.take k).flatMap classTx).length ≤ k * 300)
    case atStart => exact ⟨0, none, rfl, rfl, Nat.zero_le _, HP1.out, Nat.zero_le _⟩
    case round =>
      obtain ⟨k, gb, rfl, hg, hk, HP, hl⟩ := hrel
      have Hgg := Lib.hid hg
      clear hg HP1
      by_cases hlt : k < n
      · have hI1 : (0 : Int) ≤ (k : Int) := by omega
        have hI2 : (k : Int) < (n : Int) := by omega
        obtain ⟨C, hC⟩ : ∃ x, T.classes[k]? = some x := ⟨_, List.getElem?_eq_getElem (by have := Hn.out; omega)⟩
        obtain ⟨bb, o, hA, hb, hcells⟩ := sl_at cls_len Hs1.out hC (by omega)
        subst hA
        have k0 := (HP.out.below.cell (p := ⟨bb, o + (k * 4 + 0), none⟩) hb).trans (hcells 0 _ rfl)
        have k1 := (HP.out.below.cell (p := ⟨bb, o + (k * 4 + 1), none⟩) hb).trans (hcells 1 _ rfl)
        have k2 := (HP.out.below.cell (p := ⟨bb, o + (k * 4 + 2), none⟩) hb).trans (hcells 2 _ rfl)
        have k3 := (HP.out.below.cell (p := ⟨bb, o + (k * 4 + 3), none⟩) hb).trans (hcells 3 _ rfl)
        rw [Nat.add_zero] at k0
        rw [← Nat.add_assoc] at k1 k2 k3
        have hok := HOK.out.cs C (List.mem_of_getElem? hC)
        have HST := Lib.hid (flat_step classTx hC)
        obtain ⟨nm, cd, ls, wh⟩ := C
        have hnm := (name_word hok.name).2
        have hcd := (name_word hok.code).2
        have hls := perm_losses.1 hok.losses
        have hwh := perm_whole.1 hok.whole
        dsimp only at k0 k1 k2 k3 hnm hcd hls hwh
        have HP1 : Hid (PC w #[.slice (some ⟨bb, o, none⟩) n c, .slice A' m d] b wr.heap.size #[.string ⟨nm.toArray⟩, .string ⟨cd.toArray⟩, .int .i64 ls, .int .i64 wh] 38 ((T.classes.take k).flatMap classTx) gb (wr.alloc (.cells #[.string ⟨nm.toArray⟩, .string ⟨cd.toArray⟩, .int .i64 ls, .int .i64 wh] 38))) := PC.start HP.out _ 38 (by decide) (by decide)
        obtain ⟨y0, y1, y2, y3, -⟩ := four_cells HP1.out.row
        have p1 : (clsP nm).length = nm.length + 14 := by unfold clsP sClass sCode; simp
        have p2 : (clsQ nm cd).length = nm.length + cd.length + 14 := by unfold clsQ sClass sCode; simp; omega
        have p3 : (clsHead nm cd).length = nm.length + cd.length + 15 := by unfold clsHead sClass sCode kSemi; simp; omega
        have p4 := numTx_len kLosses ls (by omega) (by omega)
        have p5 := numTx_len kWhole wh (by omega) (by omega)
        have p6 : kLosses.length = 6 := rfl
        have p7 : kWhole.length = 5 := rfl
        have p8 : kSemi.length = 1 := rfl
        have p9 : sEnd.length = 4 := rfl
        have q1 : ¬ 9223372036854775807 < 6 + nm.length := by omega
        have q2 : ¬ 9223372036854775807 < 6 + nm.length + 8 := by omega
        have q3 : ¬ 9223372036854775807 < nm.length + 6 + 8 := by omega
        have q4 : ¬ 9223372036854775807 < (clsP nm).length + cd.length := by omega
        have q5 : ¬ 9223372036854775807 < (clsQ nm cd).length + 1 := by omega
        have c1 : ((⟨#[99, 108, 97, 115, 115, 32]⟩ : ByteArray) ++ ⟨nm.toArray⟩) = ⟨(99 :: 108 :: 97 :: 115 :: 115 :: 32 :: nm).toArray⟩ := cat_eq [99, 108, 97, 115, 115, 32] nm
        have c2 : ((⟨(99 :: 108 :: 97 :: 115 :: 115 :: 32 :: nm).toArray⟩ : ByteArray) ++ ⟨#[32, 123, 32, 99, 111, 100, 101, 32]⟩) = ⟨(clsP nm).toArray⟩ := cat_eq _ [32, 123, 32, 99, 111, 100, 101, 32]
        have c3 : ((⟨(clsP nm).toArray⟩ : ByteArray) ++ ⟨cd.toArray⟩) = ⟨(clsQ nm cd).toArray⟩ := cat_eq _ _
        have c4 : ((⟨(clsQ nm cd).toArray⟩ : ByteArray) ++ ⟨#[59]⟩) = ⟨(clsHead nm cd).toArray⟩ := cat_eq _ [59]
        clear hcells hC hok HP
        generalize hlk : (T.classes.take k).flatMap classTx = l at HP1 hl HST
        have HLK := Lib.hid hlk
        clear hlk
        go_wp2_with fail
        refine (write_any (clsHead nm cd) HP1.out.pt.bd (by (try simp only [List.length_append]); omega) HP1.out.pt.size).mono ?_
        rintro e w2 hwr
        obtain ⟨rfl, -⟩ := id hwr
        obtain ⟨g2, hp2⟩ := HP1.out.wrote hwr
        have HP2 := Lib.hid hp2
        clear hwr hp2
        obtain ⟨y22, -⟩ := cell_at HP2.out.row 2 rfl
        go_wp2_with fail
        clear c1 c2 c3 c4 q1 q2 q3 q4 q5 k0 k1 k2 k3 y0 y1 y2 y3
        refine (number_any kLosses ls (Hg.out.below HP2.out.pt.below) (Lib.hid HP2.out.pt.bd) (by omega) (by omega) (by decide) (by (try simp only [List.length_append]); omega) HP2.out.pt.size).mono ?_
        rintro e w3 hwr
        obtain ⟨rfl, -⟩ := id hwr
        obtain ⟨g3, hp3⟩ := HP2.out.num hwr
        have HP3 := Lib.hid hp3
        clear hwr hp3
        go_wp2_with fail
        refine (write_any kSemi HP3.out.pt.bd (by (try simp only [List.length_append]); omega) HP3.out.pt.size).mono ?_
        rintro e w4 hwr
        obtain ⟨rfl, -⟩ := id hwr
        obtain ⟨g4, hp4⟩ := HP3.out.wrote hwr
        have HP4 := Lib.hid hp4
        clear hwr hp4
        obtain ⟨y43, -⟩ := cell_at HP4.out.row 3 rfl
        go_wp2_with fail
        refine (number_any kWhole wh (Hg.out.below HP4.out.pt.below) (Lib.hid HP4.out.pt.bd) (by omega) (by omega) (by decide) (by (try simp only [List.length_append]); omega) HP4.out.pt.size).mono ?_
        rintro e w5 hwr
        obtain ⟨rfl, -⟩ := id hwr
        obtain ⟨g5, hp5⟩ := HP4.out.num hwr
        have HP5 := Lib.hid hp5
        clear hwr hp5
        go_wp2_with fail
        refine (write_any sEnd HP5.out.pt.bd (by (try simp only [List.length_append]); omega) HP5.out.pt.size).mono ?_
        rintro e w6 hwr
        obtain ⟨rfl, -⟩ := id hwr
        obtain ⟨g6, hp6⟩ := HP5.out.wrote hwr
        have HP6 := Lib.hid hp6
        clear hwr hp6
        go_wp2_with fail
        go_roundg (n - (k + 1))
        case measure => rw [Hgg.out]; omega
        case rel =>
          have he : (T.classes.take (k + 1)).flatMap classTx = l ++ clsHead nm cd ++ numTx kLosses ls ++ kSemi ++ numTx kWhole wh ++ sEnd := by
            rw [HST.out, class_tx]; simp only [List.append_assoc]
          refine ⟨k + 1, g6, by go_num, rfl, by omega, ?_, ?_⟩
          · rw [he]; exact HP6.out.pt
          · rw [he]; simp only [List.length_append]; omega
      · have hke : k = n := by omega
        subst hke
        have hI3 : ¬ (k : Int) < (k : Int) := by omega
        obtain ⟨-, x1, -⟩ := two_cells HP.out.x
        have hL : (T.classes.take k).flatMap classTx = T.classes.flatMap classTx := by rw [List.take_of_length_le (by have := Hn.out; omega)]
        rw [hL] at HP hl
        clear hL
        go_wp2_with fail
        clear x1
        go_loopg [47] m (fun g s47 wr => ∃ (j : Nat) (gb : Option Nat), s47 = .int .i64 (j : Int) ∧ g = m - j ∧ j ≤ m ∧ Hid (PT w #[.slice A k c, .slice A' m d] b (T.classes.flatMap classTx ++ (T.contracts.take j).flatMap contrTx) gb wr) ∧ (T.classes.flatMap classTx ++ (T.contracts.take j).flatMap contrTx).length ≤ 2400 + j * 500)
        case atStart => exact ⟨0, gb, rfl, rfl, Nat.zero_le _, by rw [List.take_zero, List.flatMap_nil, List.append_nil]; exact HP.out, by rw [List.take_zero, List.flatMap_nil, List.append_nil]; omega⟩
        case round =>
          obtain ⟨j, gb, rfl, hg2, hj, HP2, hl2⟩ := hrel
          have Hg2 := Lib.hid hg2
          clear hg2 HP
          by_cases hlt2 : j < m
          · have hJ1 : (0 : Int) ≤ (j : Int) := by omega
            have hJ2 : (j : Int) < (m : Int) := by omega
            obtain ⟨D, hD⟩ : ∃ x, T.contracts[j]? = some x := ⟨_, List.getElem?_eq_getElem (by have := Hm.out; omega)⟩
            obtain ⟨bb, o, hA, hb, hcells⟩ := sl_at ctr_len Hs2.out hD (by omega)
            subst hA
            have k0 := (HP2.out.below.cell (p := ⟨bb, o + (j * 6 + 0), none⟩) hb).trans (hcells 0 _ rfl)
            have k1 := (HP2.out.below.cell (p := ⟨bb, o + (j * 6 + 1), none⟩) hb).trans (hcells 1 _ rfl)
            have k2 := (HP2.out.below.cell (p := ⟨bb, o + (j * 6 + 2), none⟩) hb).trans (hcells 2 _ rfl)
            have k3 := (HP2.out.below.cell (p := ⟨bb, o + (j * 6 + 3), none⟩) hb).trans (hcells 3 _ rfl)
            have k4 := (HP2.out.below.cell (p := ⟨bb, o + (j * 6 + 4), none⟩) hb).trans (hcells 4 _ rfl)
            have k5 := (HP2.out.below.cell (p := ⟨bb, o + (j * 6 + 5), none⟩) hb).trans (hcells 5 _ rfl)
            rw [Nat.add_zero] at k0
            rw [← Nat.add_assoc] at k1 k2 k3 k4 k5
            have hok := (HOK.out.ts D (List.mem_of_getElem? hD)).1
            have HST := Lib.hid (flat_step contrTx hD)
            obtain ⟨tn, gu, sn, bu, rk, cl⟩ := D
            have htn := (name_word hok.tenant).2
            have hcl := (name_word hok.cls).2
            have hgu := perm_guar.1 hok.guar
            have hsn := perm_snap.1 hok.snap
            have hbu := perm_burst.1 hok.burst
            have hrk := perm_rank.1 hok.rank
            dsimp only at k0 k1 k2 k3 k4 k5 htn hcl hgu hsn hbu hrk
            have HP1 : Hid (PC w #[.slice A k c, .slice (some ⟨bb, o, none⟩) m d] b wr.heap.size #[.string ⟨tn.toArray⟩, .int .i64 gu, .int .i64 sn, .int .i64 bu, .int .i64 rk, .string ⟨cl.toArray⟩] 46 (T.classes.flatMap classTx ++ (T.contracts.take j).flatMap contrTx) gb (wr.alloc (.cells #[.string ⟨tn.toArray⟩, .int .i64 gu, .int .i64 sn, .int .i64 bu, .int .i64 rk, .string ⟨cl.toArray⟩] 46))) := PC.start HP2.out _ 46 (by decide) (by decide)
            obtain ⟨y0, -⟩ := cell_at HP1.out.row 0 rfl
            have p1 : (tenHead tn).length = tn.length + 9 := by unfold tenHead sTenant sBrace; simp
            have p2 : (clsTail cl).length = cl.length + 12 := by unfold clsTail sCls sEnd; simp
            have p3 := numTx_len kGuar gu (by omega) (by omega)
            have p4 := numTx_len kSnap sn (by omega) (by omega)
            have p5 := numTx_len kBurst bu (by omega) (by omega)
            have p6 := numTx_len kRank rk (by omega) (by omega)
            have p7 : kGuar.length = 9 := rfl
            have p8 : kSnap.length = 9 := rfl
            have p9 : kBurst.length = 5 := rfl
            have p10 : kRank.length = 4 := rfl
            have p11 : kSemi.length = 1 := rfl
            have q1 : ¬ 9223372036854775807 < 7 + tn.length := by omega
            have q2 : ¬ 9223372036854775807 < 7 + tn.length + 2 := by omega
            have q3 : ¬ 9223372036854775807 < tn.length + 7 + 2 := by omega
            have q4 : ¬ 9223372036854775807 < 8 + cl.length := by omega
            have q5 : ¬ 9223372036854775807 < 8 + cl.length + 4 := by omega
            have q6 : ¬ 9223372036854775807 < cl.length + 8 + 4 := by omega
            have c1 : ((⟨#[116, 101, 110, 97, 110, 116, 32]⟩ : ByteArray) ++ ⟨tn.toArray⟩) = ⟨(116 :: 101 :: 110 :: 97 :: 110 :: 116 :: 32 :: tn).toArray⟩ := cat_eq [116, 101, 110, 97, 110, 116, 32] tn
            have c2 : ((⟨(116 :: 101 :: 110 :: 97 :: 110 :: 116 :: 32 :: tn).toArray⟩ : ByteArray) ++ ⟨#[32, 123]⟩) = ⟨(tenHead tn).toArray⟩ := cat_eq _ [32, 123]
            have c3 : ((⟨#[59, 32, 99, 108, 97, 115, 115, 32]⟩ : ByteArray) ++ ⟨cl.toArray⟩) = ⟨(59 :: 32 :: 99 :: 108 :: 97 :: 115 :: 115 :: 32 :: cl).toArray⟩ := cat_eq [59, 32, 99, 108, 97, 115, 115, 32] cl
            have c4 : ((⟨(59 :: 32 :: 99 :: 108 :: 97 :: 115 :: 115 :: 32 :: cl).toArray⟩ : ByteArray) ++ ⟨#[59, 32, 125, 10]⟩) = ⟨(clsTail cl).toArray⟩ := cat_eq _ [59, 32, 125, 10]
            clear hcells hD hok HP2
            have hst : T.classes.flatMap classTx ++ (T.contracts.take (j + 1)).flatMap contrTx = (T.classes.flatMap classTx ++ (T.contracts.take j).flatMap contrTx) ++ contrTx ⟨tn, gu, sn, bu, rk, cl⟩ := by rw [HST.out, List.append_assoc]
            generalize T.classes.flatMap classTx ++ (T.contracts.take j).flatMap contrTx = l at HP1 hl2 hst
            have HSTT := Lib.hid hst
            clear hst HST
            by_cases hs0 : 0 < sn
            · have HS : Hid (snapTx sn = kSemi ++ numTx kSnap sn) := by show _ = _; unfold snapTx; rw [if_pos hs0]
              by_cases hb0 : 0 < bu
              · have HBU : Hid (burstTx bu rk = kSemi ++ numTx kBurst bu ++ numTx kRank rk) := by show _ = _; unfold burstTx; rw [if_pos hb0]
                go_wp2_with fail
                refine (write_any (tenHead tn) HP1.out.pt.bd (by (try simp only [List.length_append]); omega) HP1.out.pt.size).mono ?_
                rintro e w2 hwr
                obtain ⟨rfl, -⟩ := id hwr
                obtain ⟨g2, hp2⟩ := HP1.out.wrote hwr
                have HP2 := Lib.hid hp2
                clear hwr hp2
                obtain ⟨y21, -⟩ := cell_at HP2.out.row 1 rfl
                go_wp2_with fail
                clear c1 c2 q1 q2 q3 k0 k1 k2 k3 k4 k5 y0
                refine (number_any kGuar gu (Hg.out.below HP2.out.pt.below) (Lib.hid HP2.out.pt.bd) (by omega) (by omega) (by decide) (by (try simp only [List.length_append]); omega) HP2.out.pt.size).mono ?_
                rintro e w3 hwr
                obtain ⟨rfl, -⟩ := id hwr
                obtain ⟨g3, hp3⟩ := HP2.out.num hwr
                have HP3 := Lib.hid hp3
                clear hwr hp3
                obtain ⟨y32, -⟩ := cell_at HP3.out.row 2 rfl
                go_wp2_with fail
                refine (write_any kSemi HP3.out.pt.bd (by (try simp only [List.length_append]); omega) HP3.out.pt.size).mono ?_
                rintro e w4 hwr
                obtain ⟨rfl, -⟩ := id hwr
                obtain ⟨g4, hp4⟩ := HP3.out.wrote hwr
                have HP4 := Lib.hid hp4
                clear hwr hp4
                obtain ⟨y42, -⟩ := cell_at HP4.out.row 2 rfl
                go_wp2_with fail
                refine (number_any kSnap sn (Hg.out.below HP4.out.pt.below) (Lib.hid HP4.out.pt.bd) (by omega) (by omega) (by decide) (by (try simp only [List.length_append]); omega) HP4.out.pt.size).mono ?_
                rintro e w5 hwr
                obtain ⟨rfl, -⟩ := id hwr
                obtain ⟨g5, hp5⟩ := HP4.out.num hwr
                have HP5 := Lib.hid hp5
                clear hwr hp5
                obtain ⟨y53, -⟩ := cell_at HP5.out.row 3 rfl
                go_wp2_with fail
                refine (write_any kSemi HP5.out.pt.bd (by (try simp only [List.length_append]); omega) HP5.out.pt.size).mono ?_
                rintro e w6 hwr
                obtain ⟨rfl, -⟩ := id hwr
                obtain ⟨g6, hp6⟩ := HP5.out.wrote hwr
                have HP6 := Lib.hid hp6
                clear hwr hp6
                obtain ⟨y63, -⟩ := cell_at HP6.out.row 3 rfl
                go_wp2_with fail
                refine (number_any kBurst bu (Hg.out.below HP6.out.pt.below) (Lib.hid HP6.out.pt.bd) (by omega) (by omega) (by decide) (by (try simp only [List.length_append]); omega) HP6.out.pt.size).mono ?_
                rintro e w7 hwr
                obtain ⟨rfl, -⟩ := id hwr
                obtain ⟨g7, hp7⟩ := HP6.out.num hwr
                have HP7 := Lib.hid hp7
                clear hwr hp7
                obtain ⟨y74, -⟩ := cell_at HP7.out.row 4 rfl
                go_wp2_with fail
                refine (number_any kRank rk (Hg.out.below HP7.out.pt.below) (Lib.hid HP7.out.pt.bd) (by omega) (by omega) (by decide) (by (try simp only [List.length_append]); omega) HP7.out.pt.size).mono ?_
                rintro e w8 hwr
                obtain ⟨rfl, -⟩ := id hwr
                obtain ⟨g8, hp8⟩ := HP7.out.num hwr
                have HP8 := Lib.hid hp8
                clear hwr hp8
                obtain ⟨y85, -⟩ := cell_at HP8.out.row 5 rfl
                go_wp2_with fail
                refine (write_any (clsTail cl) HP8.out.pt.bd (by (try simp only [List.length_append]); omega) HP8.out.pt.size).mono ?_
                rintro e w9 hwr
                obtain ⟨rfl, -⟩ := id hwr
                obtain ⟨g9, hp9⟩ := HP8.out.wrote hwr
                have HP9 := Lib.hid hp9
                clear hwr hp9
                go_wp2_with fail
                go_roundg (m - (j + 1))
                case measure => rw [Hg2.out]; omega
                case rel =>
                  have he : T.classes.flatMap classTx ++ (T.contracts.take (j + 1)).flatMap contrTx = l ++ tenHead tn ++ numTx kGuar gu ++ kSemi ++ numTx kSnap sn ++ kSemi ++ numTx kBurst bu ++ numTx kRank rk ++ clsTail cl := by
                    rw [HSTT.out, contr_tx, HS.out, HBU.out]; simp only [List.append_assoc]
                  refine ⟨j + 1, g9, by go_num, rfl, by omega, ?_, ?_⟩
                  · rw [he]; exact HP9.out.pt
                  · rw [he]; simp only [List.length_append]; omega
              · have HBU : Hid (burstTx bu rk = []) := by show _ = _; unfold burstTx; rw [if_neg hb0]
                go_wp2_with fail
                refine (write_any (tenHead tn) HP1.out.pt.bd (by (try simp only [List.length_append]); omega) HP1.out.pt.size).mono ?_
                rintro e w2 hwr
                obtain ⟨rfl, -⟩ := id hwr
                obtain ⟨g2, hp2⟩ := HP1.out.wrote hwr
                have HP2 := Lib.hid hp2
                clear hwr hp2
                obtain ⟨y21, -⟩ := cell_at HP2.out.row 1 rfl
                go_wp2_with fail
                clear c1 c2 q1 q2 q3 k0 k1 k2 k3 k4 k5 y0
                refine (number_any kGuar gu (Hg.out.below HP2.out.pt.below) (Lib.hid HP2.out.pt.bd) (by omega) (by omega) (by decide) (by (try simp only [List.length_append]); omega) HP2.out.pt.size).mono ?_
                rintro e w3 hwr
                obtain ⟨rfl, -⟩ := id hwr
                obtain ⟨g3, hp3⟩ := HP2.out.num hwr
                have HP3 := Lib.hid hp3
                clear hwr hp3
                obtain ⟨y32, -⟩ := cell_at HP3.out.row 2 rfl
                go_wp2_with fail
                refine (write_any kSemi HP3.out.pt.bd (by (try simp only [List.length_append]); omega) HP3.out.pt.size).mono ?_
                rintro e w4 hwr
                obtain ⟨rfl, -⟩ := id hwr
                obtain ⟨g4, hp4⟩ := HP3.out.wrote hwr
                have HP4 := Lib.hid hp4
                clear hwr hp4
                obtain ⟨y42, -⟩ := cell_at HP4.out.row 2 rfl
                go_wp2_with fail
                refine (number_any kSnap sn (Hg.out.below HP4.out.pt.below) (Lib.hid HP4.out.pt.bd) (by omega) (by omega) (by decide) (by (try simp only [List.length_append]); omega) HP4.out.pt.size).mono ?_
                rintro e w5 hwr
                obtain ⟨rfl, -⟩ := id hwr
                obtain ⟨g5, hp5⟩ := HP4.out.num hwr
                have HP5 := Lib.hid hp5
                clear hwr hp5
                obtain ⟨y53, -⟩ := cell_at HP5.out.row 3 rfl
                obtain ⟨y55, -⟩ := cell_at HP5.out.row 5 rfl
                go_wp2_with fail
                refine (write_any (clsTail cl) HP5.out.pt.bd (by (try simp only [List.length_append]); omega) HP5.out.pt.size).mono ?_
                rintro e w6 hwr
                obtain ⟨rfl, -⟩ := id hwr
                obtain ⟨g6, hp6⟩ := HP5.out.wrote hwr
                have HP6 := Lib.hid hp6
                clear hwr hp6
                go_wp2_with fail
                go_roundg (m - (j + 1))
                case measure => rw [Hg2.out]; omega
                case rel =>
                  have he : T.classes.flatMap classTx ++ (T.contracts.take (j + 1)).flatMap contrTx = l ++ tenHead tn ++ numTx kGuar gu ++ kSemi ++ numTx kSnap sn ++ clsTail cl := by
                    rw [HSTT.out, contr_tx, HS.out, HBU.out]; simp only [List.append_assoc, List.nil_append]
                  refine ⟨j + 1, g6, by go_num, rfl, by omega, ?_, ?_⟩
                  · rw [he]; exact HP6.out.pt
                  · rw [he]; simp only [List.length_append]; omega
            · have HS : Hid (snapTx sn = []) := by show _ = _; unfold snapTx; rw [if_neg hs0]
              by_cases hb0 : 0 < bu
              · have HBU : Hid (burstTx bu rk = kSemi ++ numTx kBurst bu ++ numTx kRank rk) := by show _ = _; unfold burstTx; rw [if_pos hb0]
                go_wp2_with fail
                refine (write_any (tenHead tn) HP1.out.pt.bd (by (try simp only [List.length_append]); omega) HP1.out.pt.size).mono ?_
                rintro e w2 hwr
                obtain ⟨rfl, -⟩ := id hwr
                obtain ⟨g2, hp2⟩ := HP1.out.wrote hwr
                have HP2 := Lib.hid hp2
                clear hwr hp2
                obtain ⟨y21, -⟩ := cell_at HP2.out.row 1 rfl
                go_wp2_with fail
                clear c1 c2 q1 q2 q3 k0 k1 k2 k3 k4 k5 y0
                refine (number_any kGuar gu (Hg.out.below HP2.out.pt.below) (Lib.hid HP2.out.pt.bd) (by omega) (by omega) (by decide) (by (try simp only [List.length_append]); omega) HP2.out.pt.size).mono ?_
                rintro e w3 hwr
                obtain ⟨rfl, -⟩ := id hwr
                obtain ⟨g3, hp3⟩ := HP2.out.num hwr
                have HP3 := Lib.hid hp3
                clear hwr hp3
                obtain ⟨y32, -⟩ := cell_at HP3.out.row 2 rfl
                obtain ⟨y33, -⟩ := cell_at HP3.out.row 3 rfl
                go_wp2_with fail
                refine (write_any kSemi HP3.out.pt.bd (by (try simp only [List.length_append]); omega) HP3.out.pt.size).mono ?_
                rintro e w4 hwr
                obtain ⟨rfl, -⟩ := id hwr
                obtain ⟨g4, hp4⟩ := HP3.out.wrote hwr
                have HP4 := Lib.hid hp4
                clear hwr hp4
                obtain ⟨y43, -⟩ := cell_at HP4.out.row 3 rfl
                go_wp2_with fail
                refine (number_any kBurst bu (Hg.out.below HP4.out.pt.below) (Lib.hid HP4.out.pt.bd) (by omega) (by omega) (by decide) (by (try simp only [List.length_append]); omega) HP4.out.pt.size).mono ?_
                rintro e w5 hwr
                obtain ⟨rfl, -⟩ := id hwr
                obtain ⟨g5, hp5⟩ := HP4.out.num hwr
                have HP5 := Lib.hid hp5
                clear hwr hp5
                obtain ⟨y54, -⟩ := cell_at HP5.out.row 4 rfl
                go_wp2_with fail
                refine (number_any kRank rk (Hg.out.below HP5.out.pt.below) (Lib.hid HP5.out.pt.bd) (by omega) (by omega) (by decide) (by (try simp only [List.length_append]); omega) HP5.out.pt.size).mono ?_
                rintro e w6 hwr
                obtain ⟨rfl, -⟩ := id hwr
                obtain ⟨g6, hp6⟩ := HP5.out.num hwr
                have HP6 := Lib.hid hp6
                clear hwr hp6
                obtain ⟨y65, -⟩ := cell_at HP6.out.row 5 rfl
                go_wp2_with fail
                refine (write_any (clsTail cl) HP6.out.pt.bd (by (try simp only [List.length_append]); omega) HP6.out.pt.size).mono ?_
                rintro e w7 hwr
                obtain ⟨rfl, -⟩ := id hwr
                obtain ⟨g7, hp7⟩ := HP6.out.wrote hwr
                have HP7 := Lib.hid hp7
                clear hwr hp7
                go_wp2_with fail
                go_roundg (m - (j + 1))
                case measure => rw [Hg2.out]; omega
                case rel =>
                  have he : T.classes.flatMap classTx ++ (T.contracts.take (j + 1)).flatMap contrTx = l ++ tenHead tn ++ numTx kGuar gu ++ kSemi ++ numTx kBurst bu ++ numTx kRank rk ++ clsTail cl := by
                    rw [HSTT.out, contr_tx, HS.out, HBU.out]; simp only [List.append_assoc, List.nil_append]
                  refine ⟨j + 1, g7, by go_num, rfl, by omega, ?_, ?_⟩
                  · rw [he]; exact HP7.out.pt
                  · rw [he]; simp only [List.length_append]; omega
              · have HBU : Hid (burstTx bu rk = []) := by show _ = _; unfold burstTx; rw [if_neg hb0]
                go_wp2_with fail
                refine (write_any (tenHead tn) HP1.out.pt.bd (by (try simp only [List.length_append]); omega) HP1.out.pt.size).mono ?_
                rintro e w2 hwr
                obtain ⟨rfl, -⟩ := id hwr
                obtain ⟨g2, hp2⟩ := HP1.out.wrote hwr
                have HP2 := Lib.hid hp2
                clear hwr hp2
                obtain ⟨y21, -⟩ := cell_at HP2.out.row 1 rfl
                go_wp2_with fail
                clear c1 c2 q1 q2 q3 k0 k1 k2 k3 k4 k5 y0
                refine (number_any kGuar gu (Hg.out.below HP2.out.pt.below) (Lib.hid HP2.out.pt.bd) (by omega) (by omega) (by decide) (by (try simp only [List.length_append]); omega) HP2.out.pt.size).mono ?_
                rintro e w3 hwr
                obtain ⟨rfl, -⟩ := id hwr
                obtain ⟨g3, hp3⟩ := HP2.out.num hwr
                have HP3 := Lib.hid hp3
                clear hwr hp3
                obtain ⟨y32, -⟩ := cell_at HP3.out.row 2 rfl
                obtain ⟨y33, -⟩ := cell_at HP3.out.row 3 rfl
                obtain ⟨y35, -⟩ := cell_at HP3.out.row 5 rfl
                go_wp2_with fail
                refine (write_any (clsTail cl) HP3.out.pt.bd (by (try simp only [List.length_append]); omega) HP3.out.pt.size).mono ?_
                rintro e w4 hwr
                obtain ⟨rfl, -⟩ := id hwr
                obtain ⟨g4, hp4⟩ := HP3.out.wrote hwr
                have HP4 := Lib.hid hp4
                clear hwr hp4
                go_wp2_with fail
                go_roundg (m - (j + 1))
                case measure => rw [Hg2.out]; omega
                case rel =>
                  have he : T.classes.flatMap classTx ++ (T.contracts.take (j + 1)).flatMap contrTx = l ++ tenHead tn ++ numTx kGuar gu ++ clsTail cl := by
                    rw [HSTT.out, contr_tx, HS.out, HBU.out]; simp only [List.append_assoc, List.nil_append]
                  refine ⟨j + 1, g4, by go_num, rfl, by omega, ?_, ?_⟩
                  · rw [he]; exact HP4.out.pt
                  · rw [he]; simp only [List.length_append]; omega
          · have hjm : j = m := by omega
            subst hjm
            have hJ4 : ¬ (j : Int) < (j : Int) := by omega
            have hL : T.classes.flatMap classTx ++ (T.contracts.take j).flatMap contrTx = printT T := by rw [List.take_of_length_le (by have := Hm.out; omega)]; rfl
            rw [hL] at HP2 hl2
            have Hlen := Lib.hid (len_any HP2.out.bd)
            have Hstr := Lib.hid (Tryz.Builder_String_any b b _ wr HP2.out.bd.is HP2.out.size)
            clear hL
            by_cases hbig : 2000 < (printT T).length
            · have hb1 : (2000 : Int) < ((printT T).length : Int) := by omega
              have Hp2 : Hid (printB T = ([], 2)) := by show _ = _; rw [Hpr.out, if_pos hbig]
              go_wp2_with (go_at_call 29; refine Hlen.out.mono ?_; rintro e w' ⟨rfl, hw'⟩; subst hw')
              go_ret2
              exact ⟨by rw [Hp2.out] <;> rfl, HP2.out.below⟩
            · have hb1 : ¬ (2000 : Int) < ((printT T).length : Int) := by omega
              have Hp2 : Hid (printB T = (printT T, 0)) := by show _ = _; rw [Hpr.out, if_neg hbig]
              go_wp2_with (first | (go_at_call 29; refine Hlen.out.mono ?_; rintro e w' ⟨rfl, hw'⟩; subst hw') | (go_at_call 30; refine Hstr.out.mono ?_; rintro e wz ⟨rfl, hwr⟩; have HBz := Lib.hid (HP2.out.below.trans (hwr.mono (Nat.le_of_lt HP2.out.lt))); clear hwr))
              go_ret2
              exact ⟨by rw [Hp2.out] <;> rfl, HBz.out⟩
  · have hcn : (((checkB T).2 : Int) != 0) = true := by rw [bne_iff_ne]; omega
    have Hpr : Hid (printB T = ([], (checkB T).2)) := by show _ = _; unfold printB; rw [if_pos hck]
    have Hchk := Lib.hid hchk2
    clear hchk2 hck
    go_enter Tryz.func10, Tryz.ntmps10
    go_wp2_with fail
    refine Hchk.out.mono ?_
    rintro e w1 ⟨rfl, hb1⟩
    have HB1 := Lib.hid (HB0.out.trans (hb1.mono HB0.out.size))
    clear hb1 x0 x1
    go_wp2_with fail
    go_ret2
    exact ⟨by rw [Hpr.out] <;> rfl, HB1.out⟩
end Go.Proofs.YtimmffncfkcpfaaGreatDoor
