/-
  The walk of the reference's parity.
  The walk of the reference's local.
-/
import Derived.Test.YtafgmbchdcfkcaaDoorR13
import Derived.Deep.QuietTactic
import Derived.BigQuiet
import Derived.Deep.DeepCutAuto
namespace Go.Proofs.YtafgmbchdcfkcaaDoor
open Go Go.RowKit Go.Walks

set_option maxRecDepth 100000 in
set_option maxHeartbeats 4000000 in
theorem parity_R (K : Tok) (a : List Tok) (A B : Option Addr) (c m d data top : Nat) (w : World) (hd : data ≤ 31) (htop : top ≤ 65535) (Hs : Hid (SlT w w.heap.size 46 A (tokRs a))) :
    Calls Tryd.prog 67 #[.agg #[strV K.text, .int .i64 (K.at_ : Int), .int .i64 (K.kind : Int), .int .i64 (K.n : Int), .slice A a.length c, .slice B m d], .int .i64 (data : Int), .int .i64 (top : Int)] w (RowR (parityB K.at_ a data top) w) := by
  have P0 := Lib.hid (PS.start w #[strV K.text, .int .i64 (K.at_ : Int), .int .i64 (K.kind : Int), .int .i64 (K.n : Int), .slice A a.length c, .slice B m d])
  obtain ⟨x1, -⟩ := cell_at P0.out.x 1 rfl
  obtain ⟨x4, -⟩ := cell_at P0.out.x 4 rfl
  by_cases hlen : a.length = data
  · have Hlen := Lib.hid hlen
    have q1 : ((a.length : Int) != (data : Int)) = false := by rw [bne_eq_false_iff_eq]; omega
    clear hlen
    go_enter Tryd.func67, Tryd.ntmps67
    go_wp2_with fail
    clear x1 x4 q1
    go_loopg [9, 10, 11] data (fun g s9 s10 s11 wr => ∃ (j : Nat) (A' : Option Addr) (c' sum : Nat), s9 = .slice A' j c' ∧ s10 = .int .i64 (sum : Int) ∧ s11 = .int .i64 (j : Int) ∧ j ≤ data ∧ g = data - j ∧ Hid (sum ≤ j * 65535) ∧ Hid (PS w #[strV K.text, .int .i64 (K.at_ : Int), .int .i64 (K.kind : Int), .int .i64 (K.n : Int), .slice A a.length c, .slice B m d] A' j c' ((a.take j).map fun T => (T.n : Int)) wr) ∧ Hid (coefBad false top a = coefBad false top (a.drop j)) ∧ Hid (sumN a = sum + sumN (a.drop j)))
    case atStart => exact ⟨0, none, 0, 0, rfl, rfl, rfl, by omega, rfl, (show _ ≤ _ by omega), P0.out, rfl, (show _ = _ by simp)⟩
    case round =>
      obtain ⟨j, A', c', sum, rfl, rfl, rfl, hj, hg, HSm, HP, HC, HSu⟩ := hrel
      have Hgk := Lib.hid hg
      clear hg P0
      obtain ⟨x1, -⟩ := cell_at HP.out.x 1 rfl
      obtain ⟨x4, -⟩ := cell_at HP.out.x 4 rfl
      by_cases hlt : j < data
      · obtain ⟨T, hT⟩ : ∃ T, a[j]? = some T := ⟨_, List.getElem?_eq_getElem (by rw [Hlen.out]; exact hlt)⟩
        have HT := Lib.hid hT
        obtain ⟨b, o, hA, m1, m3⟩ := tok_cells Hs.out HP.out.below hT
        have hjl : j < a.length := (List.getElem?_eq_some_iff.1 hT).1
        subst hA
        clear hT
        have hI1 : (0 : Int) ≤ (j : Int) := by omega
        have hI2 : (j : Int) < (data : Int) := by omega
        have hI3 : (j : Int) < (a.length : Int) := by omega
        have hsm := HSm.out
        by_cases hc1 : T.n ≤ top
        · have hc2 : ¬ (top : Int) < (T.n : Int) := by omega
          have hc3 : ¬ top < T.n := by omega
          have hcond : T.n ≤ top ∧ ¬ (false = true ∧ T.n = 0) := ⟨hc1, fun h => by cases h.1⟩
          have Hcb := Lib.hid (coefBad_step HT.out hcond)
          have Hss := Lib.hid (sumN_step HT.out)
          have Htk : Hid ((a.take (j + 1)).map (fun T => (T.n : Int)) = (a.take j).map (fun T => (T.n : Int)) ++ [(T.n : Int)]) := by
            show _ = _
            rw [List.take_add_one, HT.out]; simp
          have hb1 : j + 1 ≤ maxLen := by unfold maxLen; omega
          have hb2 : (j + 1) * 8 ≤ 140737488355328 := by omega
          have hone : ∀ u ∈ [Value.int .i64 (T.n : Int)], u.oneCell' = true := by intro u hu; simp at hu; subst hu; rfl
          have Hone := Lib.hid hone
          clear hcond hone
          go_wp2_with (at_builtin; refine wpList_append_sl rfl _ _ 61 rfl rfl rfl so61 (HP.out.o.alloc _) (m := 1) (news := [.int .i64 (T.n : Int)]) rfl (Sl.new _ _ _) Hone.out hb1 hb2 (Nat.le_trans HP.out.below.size (by simp)) ?_; intro A5 c5 w5 ho5 hg5; have HP5 := Lib.hid (HP.out.step ho5 hg5); clear ho5 hg5)
          go_roundg (data - (j + 1))
          case measure => rw [Hgk.out]; omega
          case rel => exact ⟨j + 1, A5, c5, sum + T.n, rfl, by go_num, by go_num, by omega, rfl, (show _ ≤ _ by have := HSm.out; omega), (by rw [Htk.out]; exact HP5.out), (by show _ = _; rw [HC.out, Hcb.out]), (by show _ = _; rw [HSu.out, Hss.out]; omega)⟩
        · have hc2 : (top : Int) < (T.n : Int) := by omega
          have hc3 : top < T.n := by omega
          have hcond : ¬ (T.n ≤ top ∧ ¬ (false = true ∧ T.n = 0)) := fun h => hc1 h.1
          have Hcb := Lib.hid (coefBad_stop HT.out hcond)
          have Hbad : Hid (parityB K.at_ a data top = .bad T.at_ 1) := by show _ = _; unfold parityB; rw [if_neg (fun h => h Hlen.out)]; simp only [HC.out, Hcb.out]
          clear hcond
          go_wp2_with fail
          go_quiet (fail)
          go_wp2_with fail
          refine bodyPost_ret (results_tmp3 rfl _ _ _) rfl ?_
          show RowR (parityB K.at_ a data top) w _ _
          rw [Hbad.out]
          exact ⟨(HP.out.drewN _).below, rfl⟩
      · have hje : j = data := by omega
        subst hje
        have Hcn : Hid (coefBad false top a = none) := by show _ = _; rw [HC.out, ← Hlen.out, List.drop_length]; rfl
        have Hsn : Hid (sumN a = sum) := by show _ = _; rw [HSu.out, ← Hlen.out, List.drop_length]; rfl
        have hP := HP.out
        rw [← Hlen.out, List.take_length, Hlen.out] at hP
        have HP' := Lib.hid hP
        clear hP HC HSu HP
        by_cases hs : sum = 0
        · have hs2 : ((sum : Int) == 0) = true := by rw [beq_iff_eq]; omega
          have Hbad : Hid (parityB K.at_ a j top = .bad K.at_ 1) := by show _ = _; unfold parityB; rw [if_neg (fun h => h Hlen.out)]; simp only [Hcn.out, Hsn.out, hs, if_true]
          clear hs
          go_wp2_with fail
          go_quiet (fail)
          go_wp2_with fail
          refine bodyPost_ret (results_tmp3 rfl _ _ _) rfl ?_
          show RowR (parityB K.at_ a j top) w _ _
          rw [Hbad.out]
          exact ⟨(HP'.out.drewN _).below, rfl⟩
        · have hs2 : ((sum : Int) == 0) = false := by rw [beq_eq_false_iff_ne]; omega
          have Hok : Hid (parityB K.at_ a j top = .ok (a.map fun T => (T.n : Int))) := by show _ = _; unfold parityB; rw [if_neg (fun h => h Hlen.out)]; simp only [Hcn.out, Hsn.out]; rw [if_neg hs]
          clear hs
          go_wp2_with fail
          refine bodyPost_ret (results_tmp3 rfl _ _ _) rfl ?_
          show RowR (parityB K.at_ a j top) w _ _
          rw [Hok.out]
          exact ⟨HP'.out.below, A', c', (by rw [List.length_map, Hlen.out]; rfl), HP'.out.slt⟩
  · have q1 : ((a.length : Int) != (data : Int)) = true := by rw [bne_iff_ne]; omega
    have Hbad : Hid (parityB K.at_ a data top = .bad K.at_ 1) := by show _ = _; unfold parityB; rw [if_pos hlen]
    clear hlen
    go_enter Tryd.func67, Tryd.ntmps67
    go_wp2_with fail
    go_quiet (fail)
    go_wp2_with fail
    refine bodyPost_ret (results_tmp3 rfl _ _ _) rfl ?_
    show RowR (parityB K.at_ a data top) w _ _
    rw [Hbad.out]
    exact ⟨(P0.out.drewN _).below, rfl⟩
end Go.Proofs.YtafgmbchdcfkcaaDoor
namespace Go.Proofs.YtafgmbchdcfkcaaDoor
open Go Go.RowKit Go.Walks

/-- In the reference's local: the line's block, the row's. -/
structure LS (w : World) (cs : Array Value) (row : List Int) (W : World) : Prop where
  below : Below w.heap.size w W
  x : W.heap[w.heap.size]? = some (.cells cs 101)
  rw : W.heap[w.heap.size + 1]? = some (.cells (row.map intC).toArray 3)
section
variable {w W : World} {cs : Array Value} {row : List Int}
theorem LS.set (h : LS w cs row W) (j : Nat) (n : Int) : LS w cs (row.set j n) (W.setCell ⟨w.heap.size + 1, j, none⟩ (.int .i64 n)) := by
  refine ⟨h.below.setCell (p := ⟨w.heap.size + 1, j, none⟩) (by show w.heap.size ≤ w.heap.size + 1; omega) _, (Below.heap_setCell _ _ _ _ (by simp)).trans h.x, ?_⟩
  have := set_at h.rw j (.int .i64 n)
  rw [this]
  congr 2
  simp [intC, List.map_set]
theorem LS.drewN (h : LS w cs row W) (q : Nat) : LS w cs row (W.drewN q) := ⟨below_drewN h.below q, h.x, h.rw⟩
theorem LS.cell (h : LS w cs row W) {j : Nat} (hj : j < row.length) : W.cell? ⟨w.heap.size + 1, j, none⟩ = some (.int .i64 row[j]) ∧ W.frozen? ⟨w.heap.size + 1, j, none⟩ = false := cell_at h.rw j (by simp [hj])
theorem LS.slt (h : LS w cs row W) : SlT W W.heap.size 3 (some ⟨w.heap.size + 1, 0, none⟩) (row.map intC) :=
  .inr ⟨w.heap.size + 1, 0, _, _, rfl, (Array.getElem?_eq_some_iff.1 h.rw).1, h.rw, fun j u hu => by simpa using hu⟩
theorem LS.start {W0 : World} (hB : Below w.heap.size w W0) (hX : W0.heap[w.heap.size]? = some (.cells cs 101)) (hs : W0.heap.size = w.heap.size + 1) (data : Nat) : LS w cs (List.replicate data 0) (W0.alloc (.cells (Array.replicate data (intC 0)) 3)) := by
  refine ⟨hB.alloc (by omega) _, (Below.heap_alloc _ _ _ (by omega)).trans hX, ?_⟩
  have := heap_new W0 (.cells (Array.replicate data (intC 0)) 3)
  rw [hs] at this
  rw [this]
  congr 2
  simp
end
/-- The last index read; -1 ahead of the first. -/
def lastI (a : List Tok) (j : Nat) : Int := if j = 0 then -1 else ((a[j - 1]?.map fun T : Tok => (T.n : Int)).getD (-1))
theorem lastI_succ {a : List Tok} {j : Nat} {T : Tok} (h : a[j]? = some T) : lastI a (j + 1) = T.n := by
  unfold lastI
  rw [if_neg (by omega), Nat.add_sub_cancel, h]; rfl

set_option maxRecDepth 100000 in
set_option maxHeartbeats 8000000 in
theorem local_R (K : Tok) (a bb : List Tok) (A B : Option Addr) (c d data top : Nat) (w : World) (hd : data ≤ 31) (ha : a.length ≤ 2010) (hbl : bb.length ≤ 2010) (Hs : Hid (SlT w w.heap.size 46 A (tokRs a))) (Hs2 : Hid (SlT w w.heap.size 46 B (tokRs bb))) :
    Calls Tryd.prog 68 #[.agg #[strV K.text, .int .i64 (K.at_ : Int), .int .i64 (K.kind : Int), .int .i64 (K.n : Int), .slice A a.length c, .slice B bb.length d], .int .i64 (data : Int), .int .i64 (top : Int)] w (RowR (localB K.at_ a bb data top) w) := by
  have hmk := fun wx => run_make_row' (P := Tryd.prog) 61 3 (.int .i64 0) 8 Tryd.underlying61 info3 rfl .i64 .i64 data (by omega) (by omega) wx
  rw [made_cells] at hmk
  have P0 := Lib.hid (PS.start w #[strV K.text, .int .i64 (K.at_ : Int), .int .i64 (K.kind : Int), .int .i64 (K.n : Int), .slice A a.length c, .slice B bb.length d])
  have Hmk := Lib.hid hmk
  clear hmk
  go_enter Tryd.func68, Tryd.ntmps68
  go_wp2_with fail
  go_loopg [9] a.length (fun g s9 wr => ∃ j : Nat, s9 = .int .i64 (j : Int) ∧ j ≤ a.length ∧ g = a.length - j ∧ Hid (PS w #[strV K.text, .int .i64 (K.at_ : Int), .int .i64 (K.kind : Int), .int .i64 (K.n : Int), .slice A a.length c, .slice B bb.length d] none 0 0 [] wr ∧ wr.heap.size = w.heap.size + 1) ∧ Hid (idxBad data (-1) a = idxBad data (lastI a j) (a.drop j)))
  case atStart => exact ⟨0, rfl, by omega, rfl, ⟨P0.out, World.size_alloc _ _⟩, rfl⟩
  case round =>
    obtain ⟨j, rfl, hj, hg, HW, HI⟩ := hrel
    have Hgk := Lib.hid hg
    clear hg
    have HP := Lib.hid HW.out.1
    obtain ⟨x1, -⟩ := cell_at HP.out.x 1 rfl
    obtain ⟨x4, -⟩ := cell_at HP.out.x 4 rfl
    obtain ⟨x5, -⟩ := cell_at HP.out.x 5 rfl
    by_cases hlt : j < a.length
    · obtain ⟨T, hT⟩ : ∃ T, a[j]? = some T := ⟨_, List.getElem?_eq_getElem hlt⟩
      have HT := Lib.hid hT
      obtain ⟨b, o, hA, m1, m3⟩ := tok_cells Hs.out HP.out.below hT
      have HA := Lib.hid hA
      rw [hA] at x4
      clear hA hT
      have hI1 : (0 : Int) ≤ (j : Int) := by omega
      have hI3 : (j : Int) < (a.length : Int) := by omega
      go_upto_region 4 with fail
      go_cut [47] (fun s47 wx => s47 = .bool (!decide (T.n < data ∧ lastI a j < (T.n : Int))) ∧ ∃ q, wx = wr.drewN q)
      case first =>
        by_cases hd1 : T.n < data
        · have h1 : ¬ (data : Int) ≤ (T.n : Int) := by omega
          have h1' : ¬ data ≤ T.n := by omega
          by_cases hj0 : j = 0
          · have hv : Hid (decide (T.n < data ∧ lastI a j < (T.n : Int)) = true) := decide_eq_true ⟨hd1, by rw [hj0]; show (-1 : Int) < _; omega⟩
            subst hj0
            go_quiet (fail)
            go_wp2_with fail
            go_meet
            exact ⟨by rw [hv.out]; rfl, _, rfl⟩
          · obtain ⟨U, hU⟩ : ∃ U, a[j - 1]? = some U := ⟨_, List.getElem?_eq_getElem (by omega)⟩
            have hla : lastI a j = U.n := by unfold lastI; rw [if_neg hj0, hU]; rfl
            have hv : Hid (decide (T.n < data ∧ lastI a j < (T.n : Int)) = decide ((U.n : Int) < (T.n : Int))) := by show _ = _; rw [hla]; simp [hd1]
            obtain ⟨b', o', hA', -, n3⟩ := tok_cells Hs.out HP.out.below hU
            rw [HA.out] at hA'
            injection hA' with hA'
            injection hA' with e1 e2
            subst e1; subst e2
            have hw1 : IntKind.i64.wrap ((j : Int) - 1) = ((j - 1 : Nat) : Int) := by rw [IntWalk.i64_in _ (by omega)]; omega
            have hw2 : (0 : Int) ≤ ((j - 1 : Nat) : Int) := by omega
            have hw3 : ((j - 1 : Nat) : Int) < (a.length : Int) := by omega
            have hpos : (0 : Int) < (j : Int) := by omega
            have hpos2 : 0 < j := by omega
            clear hU hla hj0
            by_cases hcmp : U.n < T.n
            · have hq1 : ¬ (T.n : Int) ≤ (U.n : Int) := by omega
              have hq2 : ¬ T.n ≤ U.n := by omega
              have hv2 : Hid (decide ((U.n : Int) < (T.n : Int)) = true) := decide_eq_true (by omega)
              clear hcmp
              go_quiet (fail)
              go_wp2_with fail
              go_meet
              exact ⟨by rw [hv.out, hv2.out]; rfl, _, rfl⟩
            · have hq1 : (T.n : Int) ≤ (U.n : Int) := by omega
              have hq2 : T.n ≤ U.n := by omega
              have hv2 : Hid (decide ((U.n : Int) < (T.n : Int)) = false) := decide_eq_false (by omega)
              clear hcmp
              go_quiet (fail)
              go_wp2_with fail
              go_meet
              exact ⟨by rw [hv.out, hv2.out]; rfl, _, rfl⟩
        · have h1 : (data : Int) ≤ (T.n : Int) := by omega
          have h1' : data ≤ T.n := by omega
          have hv : Hid (decide (T.n < data ∧ lastI a j < (T.n : Int)) = false) := decide_eq_false fun h => hd1 h.1
          clear hd1
          go_quiet (fail)
          go_wp2_with fail
          go_meet
          exact ⟨by rw [hv.out]; rfl, _, rfl⟩
      case rest =>
      obtain ⟨rfl, q, hwc⟩ := hcut
      have HWc : Hid (PS w #[strV K.text, .int .i64 (K.at_ : Int), .int .i64 (K.kind : Int), .int .i64 (K.n : Int), .slice A a.length c, .slice B bb.length d] none 0 0 [] wc ∧ wc.heap.size = w.heap.size + 1) := by
        rw [hwc]
        exact ⟨HW.out.1.drewN q, HW.out.2⟩
      clear hwc
      by_cases hcond : T.n < data ∧ lastI a j < (T.n : Int)
      · have Hst := Lib.hid (idxBad_step HT.out hcond)
        rw [← lastI_succ HT.out] at Hst
        rw [decide_eq_true hcond]
        clear hcond HP x1 x4 x5
        go_wp2_with fail
        go_roundg (a.length - (j + 1))
        case measure => rw [Hgk.out]; omega
        case rel => exact ⟨j + 1, by go_num, by omega, rfl, HWc.out, (by show _ = _; rw [HI.out, Hst.out])⟩
      · have Hst := Lib.hid (idxBad_stop HT.out hcond)
        have Hbad : Hid (localB K.at_ a bb data top = .bad T.at_ 1) := by show _ = _; unfold localB; simp only [HI.out, Hst.out]
        have HPc := Lib.hid HWc.out.1
        obtain ⟨y1, -⟩ := cell_at HPc.out.x 1 rfl
        obtain ⟨y4, -⟩ := cell_at HPc.out.x 4 rfl
        obtain ⟨b', o', hA', n1, -⟩ := tok_cells Hs.out HPc.out.below HT.out
        rw [hA'] at y4
        rw [decide_eq_false hcond]
        clear hcond HP x1 x4 x5 m1 m3 hA'
        go_wp2_with fail
        go_quiet (fail)
        go_wp2_with fail
        refine bodyPost_ret (results_tmp3 rfl _ _ _) rfl ?_
        show RowR (localB K.at_ a bb data top) w _ _
        rw [Hbad.out]
        exact ⟨(HPc.out.drewN _).below, rfl⟩
    · have hje : j = a.length := by omega
      subst hje
      have Hnone : Hid (idxBad data (-1) a = none) := by show _ = _; rw [HI.out, List.drop_length]; rfl
      have HL0 : Hid (LS w #[strV K.text, .int .i64 (K.at_ : Int), .int .i64 (K.kind : Int), .int .i64 (K.n : Int), .slice A a.length c, .slice B bb.length d] (List.replicate data 0) (wr.alloc (.cells (Array.replicate data (intC 0)) 3))) := LS.start HP.out.below HP.out.x HW.out.2 data
      have hsz : wr.heap.size = w.heap.size + 1 := HW.out.2
      have Hsz := Lib.hid hsz
      clear hlt Hgk HI hsz HW
      by_cases hlen : a.length = bb.length
      · have hl1 : ((a.length : Int) != (bb.length : Int)) = false := by rw [bne_eq_false_iff_eq]; omega
        have Hlen := Lib.hid hlen
        clear hlen
        have hmk := Hmk.out
        go_wp2_with fail
        rw [Hsz.out]
        clear hmk x1 x4 x5 hl1
        have HLs := Lib.hid HL0.out
        clear HL0 HP Hmk
        go_loopg [11] bb.length (fun g s11 wr => ∃ (k : Nat) (row : List Int), s11 = .int .i64 (k : Int) ∧ g = bb.length - k ∧ k ≤ bb.length ∧ row.length = data ∧ Hid (LS w #[strV K.text, .int .i64 (K.at_ : Int), .int .i64 (K.kind : Int), .int .i64 (K.n : Int), .slice A a.length c, .slice B bb.length d] row wr) ∧ Hid (coefBad true top bb = coefBad true top (bb.drop k)) ∧ Hid (fillL true a 0 bb (List.replicate data 0) = fillL true a k (bb.drop k) row))
        case atStart => exact ⟨0, List.replicate data 0, rfl, rfl, by omega, by simp, HLs.out, rfl, rfl⟩
        case round =>
          clear HLs
          obtain ⟨k, row, rfl, hgk, hk, hrl, HL, HCB, HFi⟩ := hrel
          have Hgk := Lib.hid hgk
          clear hgk
          obtain ⟨x1, -⟩ := cell_at HL.out.x 1 rfl
          obtain ⟨x4, -⟩ := cell_at HL.out.x 4 rfl
          obtain ⟨x5, -⟩ := cell_at HL.out.x 5 rfl
          by_cases hlt : k < bb.length
          · obtain ⟨T, hT⟩ : ∃ T, bb[k]? = some T := ⟨_, List.getElem?_eq_getElem hlt⟩
            have HT := Lib.hid hT
            obtain ⟨b, o, hA, m1, m3⟩ := tok_cells Hs2.out HL.out.below hT
            rw [hA] at x5
            have hki : k < a.length := by have := Hlen.out; omega
            obtain ⟨U, hU⟩ : ∃ U, a[k]? = some U := ⟨_, List.getElem?_eq_getElem hki⟩
            obtain ⟨b1, o1, hA1, -, n3⟩ := tok_cells Hs.out HL.out.below hU
            rw [hA1] at x4
            have hUd := idxBad_none Hnone.out U (List.mem_of_getElem? hU)
            have hI1 : (0 : Int) ≤ (k : Int) := by omega
            have hI2 : (k : Int) < (bb.length : Int) := by omega
            have hI3 : (k : Int) < (a.length : Int) := by omega
            have hJ1 : (U.n : Int) < (data : Int) := by omega
            obtain ⟨r0, r1⟩ := HL.out.cell (j := U.n) (by omega)
            have hat : atJ true a k = U.n := by simp [atJ, hU]
            have hfs := fillL_step (loc := true) (idx := a) (row := row) HT.out
            rw [hat] at hfs
            have Hfs := Lib.hid hfs
            clear hfs hat hU hA hA1 hT
            by_cases hz0 : T.n = 0
            · have hz : ((T.n : Int) == 0) = true := by rw [beq_iff_eq]; omega
              have hcond : ¬ (T.n ≤ top ∧ ¬ (true = true ∧ T.n = 0)) := fun h => h.2 ⟨rfl, hz0⟩
              have Hcb := Lib.hid (coefBad_stop HT.out hcond)
              clear hcond hz0
              have Hbad : Hid (localB K.at_ a bb data top = .bad T.at_ 1) := by show _ = _; unfold localB; simp only [Hnone.out]; rw [if_neg (show ¬ a.length ≠ bb.length from fun h => h Hlen.out)]; simp only [HCB.out, Hcb.out]
              go_wp2_with fail
              go_quiet (fail)
              go_wp2_with fail
              refine bodyPost_ret (results_tmp3 rfl _ _ _) rfl ?_
              show RowR (localB K.at_ a bb data top) w _ _
              rw [Hbad.out]
              exact ⟨(HL.out.drewN _).below, rfl⟩
            · have hz : ((T.n : Int) == 0) = false := by rw [beq_eq_false_iff_ne]; omega
              by_cases hc1 : T.n ≤ top
              · have hc2 : ¬ (top : Int) < (T.n : Int) := by omega
                have hc3 : ¬ top < T.n := by omega
                have hc4 : decide ((top : Int) < (T.n : Int)) = false := decide_eq_false hc2
                have hc5 : decide (top < T.n) = false := decide_eq_false hc3
                have hcond : T.n ≤ top ∧ ¬ (true = true ∧ T.n = 0) := ⟨hc1, fun h => hz0 h.2⟩
                have Hcb := Lib.hid (coefBad_step HT.out hcond)
                clear hcond hz0
                go_wp2_with fail
                go_roundg (bb.length - (k + 1))
                case measure => rw [Hgk.out]; omega
                case rel => exact ⟨k + 1, _, by go_num, rfl, by omega, (by rw [List.length_set]; exact hrl), HL.out.set U.n _, (by show _ = _; rw [HCB.out, Hcb.out]), (by exact HFi.out.trans Hfs.out)⟩
              · have hc2 : (top : Int) < (T.n : Int) := by omega
                have hc3 : top < T.n := by omega
                have hc4 : decide ((top : Int) < (T.n : Int)) = true := decide_eq_true hc2
                have hc5 : decide (top < T.n) = true := decide_eq_true hc3
                have hcond : ¬ (T.n ≤ top ∧ ¬ (true = true ∧ T.n = 0)) := fun h => hc1 h.1
                have Hcb := Lib.hid (coefBad_stop HT.out hcond)
                clear hcond hz0
                have Hbad : Hid (localB K.at_ a bb data top = .bad T.at_ 1) := by show _ = _; unfold localB; simp only [Hnone.out]; rw [if_neg (show ¬ a.length ≠ bb.length from fun h => h Hlen.out)]; simp only [HCB.out, Hcb.out]
                go_wp2_with fail
                go_quiet (fail)
                go_wp2_with fail
                refine bodyPost_ret (results_tmp3 rfl _ _ _) rfl ?_
                show RowR (localB K.at_ a bb data top) w _ _
                rw [Hbad.out]
                exact ⟨(HL.out.drewN _).below, rfl⟩
          · have hke : k = bb.length := by omega
            subst hke
            have Hcn : Hid (coefBad true top bb = none) := by show _ = _; rw [HCB.out, List.drop_length]; rfl
            have Hfn : Hid (fillL true a 0 bb (List.replicate data 0) = row) := by show _ = _; rw [HFi.out, List.drop_length]; rfl
            have Hok : Hid (localB K.at_ a bb data top = .ok row) := by show _ = _; unfold localB; simp only [Hnone.out]; rw [if_neg (show ¬ a.length ≠ bb.length from fun h => h Hlen.out)]; simp only [Hcn.out, Hfn.out]
            have Hrl := Lib.hid hrl
            clear HCB HFi hlt Hgk hrl
            go_wp2_with fail
            refine bodyPost_ret (results_tmp3 rfl _ _ _) rfl ?_
            show RowR (localB K.at_ a bb data top) w _ _
            rw [Hok.out]
            exact ⟨HL.out.below, some ⟨w.heap.size + 1, 0, none⟩, data, (by rw [Hrl.out]; rfl), HL.out.slt⟩
      · have hl1 : ((a.length : Int) != (bb.length : Int)) = true := by rw [bne_iff_ne]; omega
        have Hbad : Hid (localB K.at_ a bb data top = .bad K.at_ 1) := by show _ = _; unfold localB; simp only [Hnone.out]; rw [if_pos hlen]
        clear hlen
        go_wp2_with fail
        go_quiet (fail)
        go_wp2_with fail
        refine bodyPost_ret (results_tmp3 rfl _ _ _) rfl ?_
        show RowR (localB K.at_ a bb data top) w _ _
        rw [Hbad.out]
        exact ⟨(HP.out.drewN _).below, rfl⟩
end Go.Proofs.YtafgmbchdcfkcaaDoor
