/-
  The walks of demand and of a line's build.
-/
import Derived.Test.YtafgmbchdcfkcaaDoorKq
import Derived.Test.YtafgmbchdcfkcaaDoorLt
import Derived.Deep.OwnRows
import Derived.Deep.DeepCutAuto
import Derived.Deep.RegionHeld
namespace Go.Proofs.YtafgmbchdcfkcaaDoor
open Go Go.RowKit Go.Walks

theorem demand_ok (p e : Int) (w : World) : Calls Tryd.prog 60 #[.bool true, .int .i64 p, .int .i64 e] w fun en w' => en = .returned (.tuple #[]) ∧ w' = w := by
  go_enter Tryd.func60, Tryd.ntmps60
  go_wp2_with fail
  first | (go_end0; exact ⟨rfl, rfl⟩) | exact ⟨rfl, rfl, rfl⟩
theorem demand_no (p e : Int) (w : World) : Calls Tryd.prog 60 #[.bool false, .int .i64 p, .int .i64 e] w fun en w' => en = wrongE p e ∧ w' = w := by
  go_enter Tryd.func60, Tryd.ntmps60
  go_wp2_with fail
  exact ⟨rfl, rfl, rfl⟩
theorem isField_any (n : Nat) (w : World) : Calls Tryd.prog 34 #[.int .i64 (n : Int)] w fun e w' => e = .returned (.bool (decide (n = 8 ∨ n = 16))) ∧ w' = w := by
  by_cases h8 : n = 8
  · subst h8
    go_enter Tryd.func34, Tryd.ntmps34
    go_wp2_with fail
    go_ret
    exact ⟨rfl, rfl⟩
  · by_cases h16 : n = 16
    · subst h16
      go_enter Tryd.func34, Tryd.ntmps34
      go_wp2_with fail
      go_ret
      exact ⟨rfl, rfl⟩
    · have h1 : ((n : Int) == 8) = false := by rw [beq_eq_false_iff_ne]; omega
      have h2 : ((n : Int) == 16) = false := by rw [beq_eq_false_iff_ne]; omega
      have h3 : decide (n = 8 ∨ n = 16) = false := by simp [h8, h16]
      rw [h3]
      clear h3
      go_enter Tryd.func34, Tryd.ntmps34
      go_wp2_with fail
      go_ret
      exact ⟨rfl, rfl⟩

theorem info3 : (Tryd.prog.info? 3).map (fun i => (i.zero, i.size, i.bytes)) = some (some (.int .i64 0), 1, 8) := by kernel_rfl
abbrev intC (n : Int) : Value := .int .i64 n
theorem made_cells (n : Nat) : madeCells #[.int .i64 0] n = ((List.replicate n (0 : Int)).map intC).toArray := by
  rw [← Array.toList_inj, toList_madeCells_one]
  simp [intC]

/-- In a line's build: its own blocks. -/
structure LB (w : World) (gx gR : Nat) (cs : Array Value) (row : List Int) (W : World) : Prop where
  below : Below w.heap.size w W
  x : W.heap[gx]? = some (.cells cs 117)
  rw : W.heap[gR]? = some (.cells (row.map intC).toArray 3)
  lx : w.heap.size ≤ gx
  lr : w.heap.size ≤ gR
section
variable {w W : World} {gx gR : Nat} {cs : Array Value} {row : List Int}
theorem LB.alloc (h : LB w gx gR cs row W) (o : Obj) : LB w gx gR cs row (W.alloc o) :=
  ⟨h.below.alloc h.below.size _, (Below.heap_alloc _ _ _ (Array.getElem?_eq_some_iff.1 h.x).1).trans h.x, (Below.heap_alloc _ _ _ (Array.getElem?_eq_some_iff.1 h.rw).1).trans h.rw, h.lx, h.lr⟩
theorem LB.ne (h : LB w gx gR cs row W) : gx ≠ gR := fun e => by
  have h1 := h.x
  have h2 := h.rw
  rw [e, h2] at h1
  injection h1 with h1
  injection h1 with _ h1
  exact absurd h1 (by decide)
theorem LB.set (h : LB w gx gR cs row W) (j : Nat) (n : Int) : LB w gx gR cs (row.set j n) (W.setCell ⟨gR, j, none⟩ (.int .i64 n)) := by
  refine ⟨h.below.setCell (p := ⟨gR, j, none⟩) h.lr _, (Below.heap_setCell _ _ _ _ h.ne).trans h.x, ?_, h.lx, h.lr⟩
  have := set_at h.rw j (.int .i64 n)
  rw [this]
  congr 2
  simp [intC, List.map_set]
theorem LB.lt (h : LB w gx gR cs row W) : gx < W.heap.size ∧ gR < W.heap.size := ⟨(Array.getElem?_eq_some_iff.1 h.x).1, (Array.getElem?_eq_some_iff.1 h.rw).1⟩
theorem LB.cell (h : LB w gx gR cs row W) {j : Nat} (hj : j < row.length) : W.cell? ⟨gR, j, none⟩ = some (.int .i64 row[j]) ∧ W.frozen? ⟨gR, j, none⟩ = false := cell_at h.rw j (by simp [hj])
end
theorem markCells_at : ∀ (ts : List Tok) (k : Nat) (T : Tok), ts[k]? = some T → (markCells ts)[k * 3]? = some (.int .i64 (T.at_ : Int)) ∧ (markCells ts)[k * 3 + 1]? = some (.int .i64 (T.n : Int)) ∧ (markCells ts)[k * 3 + 2]? = some (strV T.text)
  | [], _, _, h => by simp at h
  | T :: ts, 0, U, h => by
    simp at h
    subst h
    exact ⟨rfl, rfl, rfl⟩
  | T :: ts, k + 1, U, h => by
    have ih := markCells_at ts k U (by simpa using h)
    have e : markCells (T :: ts) = tokCells T ++ markCells ts := rfl
    rw [e]
    refine ⟨?_, ?_, ?_⟩
    · rw [List.getElem?_append_right (by simp [tokCells]; omega)]
      have : (k + 1) * 3 - (tokCells T).length = k * 3 := by simp [tokCells]; omega
      rw [this]; exact ih.1
    · rw [List.getElem?_append_right (by simp [tokCells]; omega)]
      have : (k + 1) * 3 + 1 - (tokCells T).length = k * 3 + 1 := by simp [tokCells]; omega
      rw [this]; exact ih.2.1
    · rw [List.getElem?_append_right (by simp [tokCells]; omega)]
      have : (k + 1) * 3 + 2 - (tokCells T).length = k * 3 + 2 := by simp [tokCells]; omega
      rw [this]; exact ih.2.2
/-- A mark of a slice of marks, in a later world. -/
theorem mark_cells {w W : World} {A : Option Addr} {ts : List Tok} (h : SlT w w.heap.size 92 A (markCells ts)) (hb : Below w.heap.size w W) {k : Nat} {T : Tok} (hk : ts[k]? = some T) :
    ∃ b o, A = some ⟨b, o, none⟩ ∧ W.cell? ⟨b, o + k * 3, none⟩ = some (.int .i64 (T.at_ : Int)) ∧ W.cell? ⟨b, o + k * 3 + 1, none⟩ = some (.int .i64 (T.n : Int)) ∧ W.cell? ⟨b, o + k * 3 + 2, none⟩ = some (strV T.text) := by
  obtain ⟨h0, h1, h2⟩ := markCells_at ts k T hk
  rcases h.sl with he | ⟨b, o, e, hlt, hc⟩
  · rw [he] at h0; simp at h0
  · exact ⟨b, o, e, (hb.cell hlt).trans (hc _ _ h0), (hb.cell hlt).trans (by have := hc _ _ h1; rwa [← Nat.add_assoc] at this), (hb.cell hlt).trans (by have := hc _ _ h2; rwa [← Nat.add_assoc] at this)⟩

def LineP (data : Nat) (x : BR (List Int)) (w : World) (e : Ending) (w' : World) : Prop := match x with
  | .ok row => (∃ A c, e = .returned (.slice A data c) ∧ row.length = data ∧ SlT w' w'.heap.size 3 A (row.map intC)) ∧ Below w.heap.size w w'
  | .bad p en => e = wrongE p en ∧ Below w.heap.size w w'

theorem LB.start {w : World} {cs : Array Value} {data : Nat} : LB w w.heap.size (w.heap.size + 1) cs (List.replicate data 0) ((w.alloc (.cells cs 117)).alloc (.cells (Array.replicate data (intC 0)) 3)) := by
  refine ⟨((Below.refl _ _).alloc (Nat.le_refl _) _).alloc (by simp) _, (Below.heap_alloc _ _ _ (by simp)).trans (heap_new w _), ?_, Nat.le_refl _, by omega⟩
  have := heap_new (w.alloc (.cells cs 117)) (.cells (Array.replicate data (intC 0)) 3)
  rw [World.size_alloc] at this
  rw [this]
  congr 2
  simp
theorem LB.xa {w W : World} {gx gR : Nat} {cs : Array Value} {row : List Int} (h : LB w gx gR cs row W) {k : Nat} {u : Value} (hu : cs[k]? = some u) (o : Obj) : (W.alloc o).cell? ⟨gx, k, none⟩ = some u := (cell_at (h.alloc o).x k hu).1
theorem LB.ra {w W : World} {gx gR : Nat} {cs : Array Value} {row : List Int} (h : LB w gx gR cs row W) {j : Nat} (hj : j < row.length) (o : Obj) : (W.alloc o).cell? ⟨gR, j, none⟩ = some (.int .i64 row[j]) := ((h.alloc o).cell hj).1
theorem LB.fa {w W : World} {gx gR : Nat} {cs : Array Value} {row : List Int} (h : LB w gx gR cs row W) {j : Nat} (hj : j < row.length) (o : Obj) : (W.alloc o).frozen? ⟨gR, j, none⟩ = false := ((h.alloc o).cell hj).2
theorem cell_alloc {W : World} {a : Addr} {v : Value} (h : W.cell? a = some v) (o : Obj) : (W.alloc o).cell? a = some v := by rw [World.cell?_alloc_some W a o (by rw [h]; rfl)]; exact h
theorem LB.slt {w W : World} {gx gR : Nat} {cs : Array Value} {row : List Int} (h : LB w gx gR cs row W) : SlT W W.heap.size 3 (some ⟨gR, 0, none⟩) (row.map intC) :=
  .inr ⟨gR, 0, _, _, rfl, h.lt.2, h.rw, fun j u hu => by simpa using hu⟩
theorem idxBad_step {data : Nat} {last : Int} {idx : List Tok} {k : Nat} {T : Tok} (h : idx[k]? = some T) (hc : T.n < data ∧ last < (T.n : Int)) : idxBad data last (idx.drop k) = idxBad data T.n (idx.drop (k + 1)) := by
  have hl := (List.getElem?_eq_some_iff.1 h)
  rw [List.drop_eq_getElem_cons hl.1, hl.2, idxBad, if_pos hc]
theorem idxBad_stop {data : Nat} {last : Int} {idx : List Tok} {k : Nat} {T : Tok} (h : idx[k]? = some T) (hc : ¬ (T.n < data ∧ last < (T.n : Int))) : idxBad data last (idx.drop k) = some T.at_ := by
  have hl := (List.getElem?_eq_some_iff.1 h)
  rw [List.drop_eq_getElem_cons hl.1, hl.2, idxBad, if_neg hc]
theorem coefBad_step {loc : Bool} {top : Nat} {ts : List Tok} {k : Nat} {T : Tok} (h : ts[k]? = some T) (hc : T.n ≤ top ∧ ¬ (loc = true ∧ T.n = 0)) : coefBad loc top (ts.drop k) = coefBad loc top (ts.drop (k + 1)) := by
  have hl := (List.getElem?_eq_some_iff.1 h)
  rw [List.drop_eq_getElem_cons hl.1, hl.2, coefBad, if_pos hc]
theorem coefBad_stop {loc : Bool} {top : Nat} {ts : List Tok} {k : Nat} {T : Tok} (h : ts[k]? = some T) (hc : ¬ (T.n ≤ top ∧ ¬ (loc = true ∧ T.n = 0))) : coefBad loc top (ts.drop k) = some T.at_ := by
  have hl := (List.getElem?_eq_some_iff.1 h)
  rw [List.drop_eq_getElem_cons hl.1, hl.2, coefBad, if_neg hc]
theorem fillL_step {loc : Bool} {idx ts : List Tok} {k : Nat} {T : Tok} {row : List Int} (h : ts[k]? = some T) : fillL loc idx k (ts.drop k) row = fillL loc idx (k + 1) (ts.drop (k + 1)) (row.set (atJ loc idx k) (T.n : Int)) := by
  have hl := (List.getElem?_eq_some_iff.1 h)
  rw [List.drop_eq_getElem_cons hl.1, hl.2, fillL]
theorem sumN_step {ts : List Tok} {k : Nat} {T : Tok} (h : ts[k]? = some T) : sumN (ts.drop k) = T.n + sumN (ts.drop (k + 1)) := by
  have hl := (List.getElem?_eq_some_iff.1 h)
  rw [List.drop_eq_getElem_cons hl.1, hl.2, sumN]

set_option maxRecDepth 100000 in
set_option maxHeartbeats 16000000 in
theorem line_any (at_ : Nat) (loc : Bool) (idx coefs : List Tok) (data top : Nat) (A1 A2 : Option Addr) (q1 q2 : Nat) (w : World) (hd : data ≤ 31) (htop : top ≤ 65535) (hl1 : idx.length ≤ 2001) (hl2 : coefs.length ≤ 2001) (Hs1 : Hid (SlT w w.heap.size 92 A1 (markCells idx))) (Hs2 : Hid (SlT w w.heap.size 92 A2 (markCells coefs))) :
    Calls Tryd.prog 80 #[.agg #[.int .i64 (at_ : Int), .bool loc, .slice A1 idx.length q1, .slice A2 coefs.length q2], .int .i64 (data : Int), .int .i64 (top : Int)] w (LineP data (buildRow ⟨at_, loc, idx, coefs⟩ data top) w) := by
  have hmk := fun wx => run_make_row' (P := Tryd.prog) 61 3 (.int .i64 0) 8 Tryd.underlying61 info3 rfl .i64 .i64 data (by omega) (by omega) wx
  rw [made_cells] at hmk
  have L0 := Lib.hid (LB.start (w := w) (cs := #[.int .i64 (at_ : Int), .bool loc, .slice A1 idx.length q1, .slice A2 coefs.length q2]) (data := data))
  go_enter Tryd.func80, Tryd.ntmps80
  go_wp2_with fail
  clear hmk
  go_loopg [9, 21] idx.length (fun g s9 s21 wr => ∃ (k : Nat) (last : Int), g = idx.length - k ∧ s9 = .int .i64 last ∧ s21 = .int .i64 (k : Int) ∧ k ≤ idx.length ∧ Hid (-1 ≤ last ∧ last < 100000) ∧ Hid (LB w w.heap.size (w.heap.size + 1) #[.int .i64 (at_ : Int), .bool loc, .slice A1 idx.length q1, .slice A2 coefs.length q2] (List.replicate data 0) wr) ∧ Hid (idxBad data (-1) idx = idxBad data last (idx.drop k)))
  case atStart => exact ⟨0, -1, rfl, rfl, rfl, by omega, (show _ ∧ _ by omega), L0.out, rfl⟩
  case round =>
    obtain ⟨k, last, hgk, rfl, rfl, hk, HLs, HL, HB⟩ := hrel
    have Hgk := Lib.hid hgk
    clear hgk
    by_cases hlt : k < idx.length
    · obtain ⟨T, hT⟩ : ∃ T, idx[k]? = some T := ⟨_, List.getElem?_eq_getElem hlt⟩
      have HT := Lib.hid hT
      obtain ⟨b, o, hA, m0, m1, m2⟩ := mark_cells Hs1.out HL.out.below hT
      subst hA
      clear hT
      have hI1 : (0 : Int) ≤ (k : Int) := by omega
      have hI2 : (k : Int) < (idx.length : Int) := by omega
      by_cases hc : T.n < data ∧ last < (T.n : Int)
      · have Hst := Lib.hid (idxBad_step HT.out hc)
        obtain ⟨hc1, hc2⟩ := hc
        have hc1' : (T.n : Int) < (data : Int) := by omega
        go_wp2_with (go_at_call 60; refine (demand_ok _ _ _).mono ?_; rintro e w' ⟨rfl, rfl⟩)
        go_roundg (idx.length - (k + 1))
        case measure => rw [Hgk.out]; omega
        case rel => exact ⟨k + 1, T.n, rfl, rfl, by go_num, by omega, (show _ ∧ _ by omega), HL.out.alloc _, (by show _ = _; rw [HB.out, Hst.out])⟩
      · have Hst := Lib.hid (idxBad_stop HT.out hc)
        have Hbad : Hid (buildRow ⟨at_, loc, idx, coefs⟩ data top = .bad T.at_ 1) := by show _ = _; unfold buildRow; simp only [HB.out, Hst.out]
        by_cases hc1 : T.n < data
        · have hc1' : (T.n : Int) < (data : Int) := by omega
          have hc2 : ¬ last < (T.n : Int) := fun h => hc ⟨hc1, h⟩
          clear hc
          go_wp2_with (go_at_call 60; refine (demand_no _ _ _).mono ?_; rintro e w' ⟨rfl, rfl⟩; unfold wrongE)
          exact ⟨rfl, by show LineP _ (buildRow ⟨at_, loc, idx, coefs⟩ data top) w _ _; rw [Hbad.out]; exact ⟨rfl, (HL.out.alloc _).below⟩⟩
        · have hc1' : ¬ (T.n : Int) < (data : Int) := by omega
          clear hc
          go_wp2_with (go_at_call 60; refine (demand_no _ _ _).mono ?_; rintro e w' ⟨rfl, rfl⟩; unfold wrongE)
          exact ⟨rfl, by show LineP _ (buildRow ⟨at_, loc, idx, coefs⟩ data top) w _ _; rw [Hbad.out]; exact ⟨rfl, (HL.out.alloc _).below⟩⟩
    · have hke : k = idx.length := by omega
      subst hke
      have Hnone : Hid (idxBad data (-1) idx = none) := by show _ = _; rw [HB.out, List.drop_length]; rfl
      obtain ⟨x0, x1, x2, x3, y0, y1, y2, y3⟩ := four_cells HL.out.x
      clear hlt Hgk HB HLs
      go_upto_if 43 with fail
      go_cut [12] (fun s12 wx => s12 = .int .i64 (wantN ⟨at_, loc, idx, coefs⟩ data : Nat) ∧ wx = wr)
      case first =>
        cases loc with
        | true =>
          go_wp2_with fail
          go_meet
          exact ⟨rfl, rfl⟩
        | false =>
          go_wp2_with fail
          go_meet
          exact ⟨rfl, rfl⟩
      case rest =>
        obtain ⟨rfl, rfl⟩ := hcut
        by_cases hwant : coefs.length = wantN ⟨at_, loc, idx, coefs⟩ data
        · have Hwant := Lib.hid hwant
          have hwb : ((coefs.length : Int) == (wantN ⟨at_, loc, idx, coefs⟩ data : Nat)) = true := by rw [beq_iff_eq]; omega
          clear hwant
          go_wp2_with (go_at_call 60; refine (demand_ok _ _ _).mono ?_; rintro e w' ⟨rfl, rfl⟩)
          clear hwb x0 x1 x2 x3 y0 y1 y2 y3
          go_loopg [8, 58] coefs.length (fun g s8 s58 wr => ∃ (k sum : Nat) (row : List Int), g = coefs.length - k ∧ s8 = .int .i64 (sum : Int) ∧ s58 = .int .i64 (k : Int) ∧ k ≤ coefs.length ∧ Hid (sum ≤ k * 65535) ∧ row.length = data ∧ Hid (LB w w.heap.size (w.heap.size + 1) #[.int .i64 (at_ : Int), .bool loc, .slice A1 idx.length q1, .slice A2 coefs.length q2] row wr) ∧ Hid (coefBad loc top coefs = coefBad loc top (coefs.drop k)) ∧ Hid (fillL loc idx 0 coefs (List.replicate data 0) = fillL loc idx k (coefs.drop k) row) ∧ Hid (sumN coefs = sum + sumN (coefs.drop k)))
          case atStart => exact ⟨0, 0, List.replicate data 0, rfl, rfl, rfl, by omega, (show _ ≤ _ by omega), by simp, HL.out, rfl, rfl, (show _ = _ by simp)⟩
          case round =>
            clear HL
            obtain ⟨k, sum, row, hgk, rfl, rfl, hk, HSm, hrl, HL, HCB, HFi, HSu⟩ := hrel
            have Hgk := Lib.hid hgk
            clear hgk
            obtain ⟨x0, x1, x2, x3, y0, y1, y2, y3⟩ := four_cells HL.out.x
            by_cases hlt : k < coefs.length
            · obtain ⟨T, hT⟩ : ∃ T, coefs[k]? = some T := ⟨_, List.getElem?_eq_getElem hlt⟩
              have HT := Lib.hid hT
              obtain ⟨b, o, hA, m0, m1, m2⟩ := mark_cells Hs2.out HL.out.below hT
              subst hA
              clear hT
              have hI1 : (0 : Int) ≤ (k : Int) := by omega
              have hI2 : (k : Int) < (coefs.length : Int) := by omega
              have hsm := HSm.out
              have Hss := Lib.hid (sumN_step HT.out)
              have hgr := HL.out.lt.2
              have hg1 : ¬ wr.heap.size = w.heap.size + 1 := by omega
              have hg2 : ¬ w.heap.size + 1 = wr.heap.size := by omega
              clear hgr
              have xa1 := HL.out.xa (k := 1) (u := .bool loc) rfl
              have xa2 := HL.out.xa (k := 2) (u := .slice A1 idx.length q1) rfl
              cases loc with
              | true =>
              have hki : k < idx.length := by have := Hwant.out; unfold wantN at this; simp at this; omega
              obtain ⟨U, hU⟩ : ∃ U, idx[k]? = some U := ⟨_, List.getElem?_eq_getElem hki⟩
              obtain ⟨b1, o1, hA1, n0, n1, n2⟩ := mark_cells Hs1.out HL.out.below hU
              subst hA1
              have hUd := idxBad_none Hnone.out U (List.mem_of_getElem? hU)
              have hJ1 : (U.n : Int) < (data : Int) := by omega
              have hK2 : (k : Int) < (idx.length : Int) := by omega
              obtain ⟨r0, r1⟩ := HL.out.cell (j := U.n) (by omega)
              have ra := HL.out.ra (j := U.n) (by omega)
              have rf := HL.out.fa (j := U.n) (by omega)
              have na := cell_alloc n1
              have hat : atJ true idx k = U.n := by simp [atJ, hU]
              have hfs := fillL_step (loc := true) (idx := idx) (row := row) HT.out
              rw [hat] at hfs
              have Hfs := Lib.hid hfs
              clear hfs hat hU n0 n2
              by_cases hc1 : T.n ≤ top
              · have hc1' : (T.n : Int) ≤ (top : Int) := by omega
                by_cases hz0 : T.n = 0
                · have hz : ((T.n : Int) == 0) = true := by rw [beq_iff_eq]; omega
                  have hcond : ¬ (T.n ≤ top ∧ ¬ (true = true ∧ T.n = 0)) := by exact fun h => h.2 ⟨rfl, hz0⟩
                  have Hcb := Lib.hid (coefBad_stop HT.out hcond)
                  clear hcond hz0
                  have Hbad : Hid (buildRow ⟨at_, true, idx, coefs⟩ data top = .bad T.at_ 1) := by show _ = _; unfold buildRow; simp only [Hnone.out]; rw [if_neg (fun h => h Hwant.out)]; simp only [HCB.out, Hcb.out]
                  go_wp2_with (go_at_call 60; refine (demand_no _ _ _).mono ?_; rintro e w' ⟨rfl, rfl⟩; unfold wrongE)
                  exact ⟨rfl, by show LineP _ (buildRow ⟨at_, true, idx, coefs⟩ data top) w _ _; rw [Hbad.out]; exact ⟨rfl, (HL.out.alloc _).below⟩⟩
                · have hz : ((T.n : Int) == 0) = false := by rw [beq_eq_false_iff_ne]; omega
                  have hcond : T.n ≤ top ∧ ¬ (true = true ∧ T.n = 0) := by exact ⟨hc1, fun h => hz0 h.2⟩
                  have Hcb := Lib.hid (coefBad_step HT.out hcond)
                  clear hcond hz0
                  go_wp2_with (go_at_call 60; refine (demand_ok _ _ _).mono ?_; rintro e w' ⟨rfl, rfl⟩)
                  go_roundg (coefs.length - (k + 1))
                  case measure => rw [Hgk.out]; omega
                  case rel => exact ⟨k + 1, sum + T.n, _, rfl, by go_num, by go_num, by omega, (show _ ≤ _ by have := HSm.out; omega), (by rw [List.length_set]; exact hrl), (HL.out.alloc _).set U.n _, (by show _ = _; rw [HCB.out, Hcb.out]), (by exact HFi.out.trans Hfs.out), (by show _ = _; rw [HSu.out, Hss.out]; omega)⟩
              · have hc1' : ¬ (T.n : Int) ≤ (top : Int) := by omega
                have hcond : ¬ (T.n ≤ top ∧ ¬ (true = true ∧ T.n = 0)) := by exact fun h => hc1 h.1
                have Hcb := Lib.hid (coefBad_stop HT.out hcond)
                clear hcond
                have Hbad : Hid (buildRow ⟨at_, true, idx, coefs⟩ data top = .bad T.at_ 1) := by show _ = _; unfold buildRow; simp only [Hnone.out]; rw [if_neg (fun h => h Hwant.out)]; simp only [HCB.out, Hcb.out]
                go_wp2_with (go_at_call 60; refine (demand_no _ _ _).mono ?_; rintro e w' ⟨rfl, rfl⟩; unfold wrongE)
                exact ⟨rfl, by show LineP _ (buildRow ⟨at_, true, idx, coefs⟩ data top) w _ _; rw [Hbad.out]; exact ⟨rfl, (HL.out.alloc _).below⟩⟩
              | false =>
              have hkd : k < data := by have := Hwant.out; unfold wantN at this; simp at this; omega
              have hJ1 : (k : Int) < (data : Int) := by omega
              obtain ⟨r0, r1⟩ := HL.out.cell (j := k) (by omega)
              have ra := HL.out.ra (j := k) (by omega)
              have rf := HL.out.fa (j := k) (by omega)
              have Hfs := Lib.hid (fillL_step (loc := false) (idx := idx) (row := row) HT.out)
              by_cases hc1 : T.n ≤ top
              · have hc1' : (T.n : Int) ≤ (top : Int) := by omega
                have hcond : T.n ≤ top ∧ ¬ (false = true ∧ T.n = 0) := by exact ⟨hc1, fun h => by cases h.1⟩
                have Hcb := Lib.hid (coefBad_step HT.out hcond)
                clear hcond
                go_wp2_with (go_at_call 60; refine (demand_ok _ _ _).mono ?_; rintro e w' ⟨rfl, rfl⟩)
                go_roundg (coefs.length - (k + 1))
                case measure => rw [Hgk.out]; omega
                case rel => exact ⟨k + 1, sum + T.n, _, rfl, by go_num, by go_num, by omega, (show _ ≤ _ by have := HSm.out; omega), (by rw [List.length_set]; exact hrl), (HL.out.alloc _).set k _, (by show _ = _; rw [HCB.out, Hcb.out]), (by exact HFi.out.trans Hfs.out), (by show _ = _; rw [HSu.out, Hss.out]; omega)⟩
              · have hc1' : ¬ (T.n : Int) ≤ (top : Int) := by omega
                have hcond : ¬ (T.n ≤ top ∧ ¬ (false = true ∧ T.n = 0)) := by exact fun h => hc1 h.1
                have Hcb := Lib.hid (coefBad_stop HT.out hcond)
                clear hcond
                have Hbad : Hid (buildRow ⟨at_, false, idx, coefs⟩ data top = .bad T.at_ 1) := by show _ = _; unfold buildRow; simp only [Hnone.out]; rw [if_neg (fun h => h Hwant.out)]; simp only [HCB.out, Hcb.out]
                go_wp2_with (go_at_call 60; refine (demand_no _ _ _).mono ?_; rintro e w' ⟨rfl, rfl⟩; unfold wrongE)
                exact ⟨rfl, by show LineP _ (buildRow ⟨at_, false, idx, coefs⟩ data top) w _ _; rw [Hbad.out]; exact ⟨rfl, (HL.out.alloc _).below⟩⟩
            · have hke : k = coefs.length := by omega
              subst hke
              have Hcn : Hid (coefBad loc top coefs = none) := by show _ = _; rw [HCB.out, List.drop_length]; rfl
              have Hfn : Hid (fillL loc idx 0 coefs (List.replicate data 0) = row) := by show _ = _; rw [HFi.out, List.drop_length]; rfl
              have Hsn : Hid (sumN coefs = sum) := by show _ = _; rw [HSu.out, List.drop_length]; rfl
              have Hrow : Hid (buildRow ⟨at_, loc, idx, coefs⟩ data top = if sum = 0 then .bad at_ 1 else .ok row) := by show _ = _; unfold buildRow; simp only [Hnone.out]; rw [if_neg (fun h => h Hwant.out)]; simp only [Hcn.out, Hsn.out, Hfn.out]
              clear HSm HCB HFi HSu hlt Hgk
              by_cases hs : sum = 0
              · have hsi : ¬ 0 < sum := by omega
                have hsj : ¬ (0 : Int) < (sum : Int) := by omega
                have Hbad : Hid (buildRow ⟨at_, loc, idx, coefs⟩ data top = .bad at_ 1) := by show _ = _; rw [Hrow.out, if_pos hs]
                clear hs
                go_wp2_with (go_at_call 60; refine (demand_no _ _ _).mono ?_; rintro e w' ⟨rfl, rfl⟩; unfold wrongE)
                exact ⟨rfl, by show LineP _ (buildRow ⟨at_, loc, idx, coefs⟩ data top) w _ _; rw [Hbad.out]; exact ⟨rfl, HL.out.below⟩⟩
              · have hsi : 0 < sum := by omega
                have hsj : (0 : Int) < (sum : Int) := by omega
                have Hok : Hid (buildRow ⟨at_, loc, idx, coefs⟩ data top = .ok row) := by show _ = _; rw [Hrow.out, if_neg hs]
                clear hs
                go_wp2_with (go_at_call 60; refine (demand_ok _ _ _).mono ?_; rintro e w' ⟨rfl, rfl⟩)
                go_ret
                show LineP _ (buildRow ⟨at_, loc, idx, coefs⟩ data top) w _ _
                rw [Hok.out]
                exact ⟨⟨_, _, rfl, hrl, HL.out.slt⟩, HL.out.below⟩
        · have hwb : ((coefs.length : Int) == (wantN ⟨at_, loc, idx, coefs⟩ data : Nat)) = false := by rw [beq_eq_false_iff_ne]; omega
          have Hbad : Hid (buildRow ⟨at_, loc, idx, coefs⟩ data top = .bad at_ 1) := by show _ = _; unfold buildRow; simp only [Hnone.out]; rw [if_pos hwant]
          go_wp2_with (go_at_call 60; refine (demand_no _ _ _).mono ?_; rintro e w' ⟨rfl, rfl⟩; unfold wrongE)
          exact ⟨rfl, by show LineP _ (buildRow ⟨at_, loc, idx, coefs⟩ data top) w _ _; rw [Hbad.out]; exact ⟨rfl, HL.out.below⟩⟩
end Go.Proofs.YtafgmbchdcfkcaaDoor
