/-
  The walk of Check.
-/
import Derived.Test.YtdfhbnfhkckkbaaGreatDoorW8
namespace Go.Proofs.YtdfhbnfhkckkbaaGreatDoor
open Go Go.RowKit Go.Walks

theorem six_at {W : World} {B : Nat} {A : Option Addr} {l : List Int} (h : Sl W B A (l.map intC)) (hl : l.length = 6) : ∃ b o, A = some ⟨b, o, none⟩ ∧ ∀ j, j < l.length → W.cell? ⟨b, o + j, none⟩ = some (.int .i64 (l.getD j 0)) := by
  obtain ⟨b, o, hA, -, -⟩ := int_at h (k := 0) (x := l[0]'(by omega)) (List.getElem?_eq_getElem _)
  refine ⟨b, o, hA, fun j hj => ?_⟩
  obtain ⟨b', o', hA', -, hc⟩ := int_at h (k := j) (x := l[j]) (List.getElem?_eq_getElem hj)
  rw [hA] at hA'
  obtain ⟨rfl, rfl⟩ : b = b' ∧ o = o' := by simpa using hA'
  rw [hc]
  simp [List.getD, List.getElem?_eq_getElem hj]
theorem min_any (l : List Int) (hl : l.length = 6) (A : Option Addr) (c : Nat) (W : World) (Hs : Hid (Sl W W.heap.size A (l.map intC))) : Calls Tryz.prog 38 #[.slice A 6 c] W (ValR (.int .i64 (Lib.minOf l)) W) := by
  obtain ⟨b, o, rfl, hc⟩ := six_at Hs.out hl
  refine (Tryz.slices_Min_int b o 6 c l W (by omega) (by omega) (by omega) hc).mono ?_
  rintro e w ⟨rfl, hw⟩
  rw [List.take_of_length_le (by omega)]
  exact ⟨rfl, hw⟩
theorem max_any (l : List Int) (hl : l.length = 6) (A : Option Addr) (c : Nat) (W : World) (Hs : Hid (Sl W W.heap.size A (l.map intC))) : Calls Tryz.prog 39 #[.slice A 6 c] W (ValR (.int .i64 (Lib.maxOf l)) W) := by
  obtain ⟨b, o, rfl, hc⟩ := six_at Hs.out hl
  refine (Tryz.slices_Max_int b o 6 c l W (by omega) (by omega) (by omega) hc).mono ?_
  rintro e w ⟨rfl, hw⟩
  rw [List.take_of_length_le (by omega)]
  exact ⟨rfl, hw⟩
theorem cfg_minmax (a b c d e f : Int) : cfgB [a, b, c, d, e, f] = true ↔ 0 ≤ Lib.minOf [a, b, c, d, e, f] ∧ Lib.maxOf [a, b, c, d, e, f] ≤ 65536 := by
  simp only [cfgB, List.all_cons, List.all_nil, Bool.and_true, Bool.and_eq_true, argB, decide_eq_true_eq, Lib.minOf, Lib.maxOf, List.headD_cons, List.foldl_cons, List.foldl_nil]
  omega
theorem args_wrong (top : Int) (l : List Int) : l.all (argB top) = !l.any (wrongB top) := by
  rw [List.any_eq_not_all_not, Bool.not_not]
  congr 1
  funext n
  rw [wrong_arg, Bool.not_not]
def CheckR (x : Int × Nat) (w : World) (e : Ending) (w' : World) : Prop := e = .returned (.tuple #[.int .i64 x.1, .int .i64 (x.2 : Int)]) ∧ Below w.heap.size w w'
/-- In Check: the script's block. -/
structure CK (w : World) (g : Nat) (cs : Array Value) (W : World) : Prop where
  below : Below w.heap.size w W
  row : W.heap[g]? = some (.cells cs 35)
theorem CK.call {w W W' : World} {g : Nat} {cs : Array Value} (h : CK w g cs W) (hb : Below W.heap.size W W') : CK w g cs W' := ⟨h.below.trans (hb.mono h.below.size), (hb.block _ (Array.getElem?_eq_some_iff.1 h.row).1).trans h.row⟩
theorem CK.start (w : World) (cs : Array Value) : CK w w.heap.size cs (w.alloc (.cells cs 35)) := ⟨(Below.refl _ _).alloc (Nat.le_refl _) _, heap_new _ _⟩
theorem CK.cells {w W : World} {g : Nat} {a b c d e f : Int} {T U : Option Addr} {nt tc ns uc : Nat} (h : CK w g (scrCs a b c d e f T nt tc U ns uc) W) :
    (W.cell? ⟨g, 0, none⟩ = some (.int .i64 a) ∧ W.cell? ⟨g, 1, none⟩ = some (.int .i64 b) ∧ W.cell? ⟨g, 2, none⟩ = some (.int .i64 c) ∧ W.cell? ⟨g, 3, none⟩ = some (.int .i64 d) ∧ W.cell? ⟨g, 4, none⟩ = some (.int .i64 e) ∧ W.cell? ⟨g, 5, none⟩ = some (.int .i64 f)) ∧ W.cell? ⟨g, 6, none⟩ = some (.slice T nt tc) ∧ W.cell? ⟨g, 7, none⟩ = some (.slice U ns uc) :=
  ⟨⟨(cell_at h.row 0 rfl).1, (cell_at h.row 1 rfl).1, (cell_at h.row 2 rfl).1, (cell_at h.row 3 rfl).1, (cell_at h.row 4 rfl).1, (cell_at h.row 5 rfl).1⟩, (cell_at h.row 6 rfl).1, (cell_at h.row 7 rfl).1⟩

set_option maxRecDepth 100000 in
set_option maxHeartbeats 1000000 in
theorem check_any (S : ScriptD) (v : Value) (w : World) (Hg : Hid (Gl w)) (Hv : Hid (ScriptS w S v)) (HL : Hid (ScriptL S)) : Calls Tryz.prog 12 #[v] w (CheckR (checkB S) w) := by
  obtain ⟨a, b, c, d, e, f, T, tc, U, uc, rfl, hp⟩ := Hv.out
  obtain ⟨nt, hnt⟩ : ∃ n, n = S.texts.length := ⟨_, rfl⟩
  obtain ⟨ns, hns⟩ : ∃ n, n = S.steps.length := ⟨_, rfl⟩
  obtain ⟨ms, hms, hst⟩ := hp.stp
  have Hms := Lib.hid hms
  have Hst := Lib.hid hst
  have Hp := Lib.hid hp
  have hntl : nt ≤ 9223372036854775807 := by have := HL.out.tl; unfold maxLen at this; omega
  have hnsl : ns ≤ 9223372036854775807 := by have := HL.out.sl; unfold maxLen at this; omega
  obtain ⟨x, hx⟩ : ∃ x, x = checkB S := ⟨_, rfl⟩
  rw [← hnt, ← hns, ← hx]
  unfold checkB at hx
  rw [hp.cfg] at hx
  rw [← hnt, ← hns] at hx
  have HX := Lib.hid hx
  have Hnt := Lib.hid hnt
  have Hns := Lib.hid hns
  have hcm := cfg_minmax a b c d e f
  obtain ⟨mn, hmn⟩ : ∃ m, m = Lib.minOf [a, b, c, d, e, f] := ⟨_, rfl⟩
  obtain ⟨mx, hmx⟩ : ∃ m, m = Lib.maxOf [a, b, c, d, e, f] := ⟨_, rfl⟩
  have Hmin : Hid (∀ A W, Sl W W.heap.size A ([a, b, c, d, e, f].map intC) → Calls Tryz.prog 38 #[.slice A 6 6] W (ValR (.int .i64 mn) W)) := fun A W h => by rw [hmn]; exact min_any _ rfl A 6 W h
  have Hmax : Hid (∀ A W, Sl W W.heap.size A ([a, b, c, d, e, f].map intC) → Calls Tryz.prog 39 #[.slice A 6 6] W (ValR (.int .i64 mx) W)) := fun A W h => by rw [hmx]; exact max_any _ rfl A 6 W h
  rw [← hmn, ← hmx] at hcm
  have Hcm := Lib.hid hcm
  clear hmn hmx hcm hx hnt hns hp hms hst Hv
  obtain ⟨g, hgg⟩ : ∃ g, g = w.heap.size := ⟨_, rfl⟩
  obtain ⟨W0, hW0⟩ : ∃ W, W = w.alloc (.cells (scrCs a b c d e f T nt tc U ns uc) 35) := ⟨_, rfl⟩
  have HC0 : Hid (CK w g (scrCs a b c d e f T nt tc U ns uc) W0) := by rw [hW0, hgg]; exact CK.start w _
  obtain ⟨⟨z0, z1, z2, z3, z4, z5⟩, -, -⟩ := HC0.out.cells
  go_enter Tryz.func12, Tryz.ntmps12
  go_upto_region 1 with fail
  rw [← hW0, ← hgg]
  clear hW0 hgg
  go_wp2_with fail
  refine (numbers_any a b c d e f W0).mono ?_
  rintro en w1 ⟨A1, rfl, hO⟩
  have HC1 := Lib.hid (HC0.out.call hO.below)
  have HO := Lib.hid hO
  clear hO z0 z1 z2 z3 z4 z5
  have Hmin1 := Lib.hid (Hmin.out _ _ (own_sl HO.out.o))
  have Hmax1 := Lib.hid (Hmax.out _ _ (own_sl HO.out.o))
  clear Hmin Hmax
  obtain ⟨-, z6, z7⟩ := HC1.out.cells
  go_wp2_with fail
  refine Hmin1.out.mono ?_
  rintro en w2 ⟨rfl, hw⟩
  obtain rfl := hw.symm
  by_cases hmn : mn < 0
  · have HX' : Hid (x = (-1, 1)) := by
      show _ = _
      rw [HX.out, if_pos (by rw [Hcm.out]; exact fun h => by have := h.1; omega)]
    go_wp2_with fail
    go_ret2
    rw [HX'.out]
    exact ⟨rfl, HC1.out.below⟩
  have hmn' : 0 ≤ mn := by omega
  go_wp2_with fail
  refine Hmax1.out.mono ?_
  rintro en w2 ⟨rfl, hw⟩
  obtain rfl := hw.symm
  by_cases hmx : (65536 : Int) < mx
  · have HX' : Hid (x = (-1, 1)) := by
      show _ = _
      rw [HX.out, if_pos (by rw [Hcm.out]; exact fun h => by have := h.2; omega)]
    go_wp2_with fail
    go_ret2
    rw [HX'.out]
    exact ⟨rfl, HC1.out.below⟩
  have HX1 : Hid (x = if 16 < nt ∨ 1000 < ns ∨ S.texts.any (fun t => decide (2000 < t.length)) then (-1, 2) else stepsB nt 0 S.steps) := by
    show _ = _
    rw [HX.out, if_neg (fun h => h (Hcm.out.2 ⟨by omega, by omega⟩))]
  have hmx' : mx ≤ 65536 := by omega
  by_cases h16 : 16 < nt
  · have q1 : (16 : Int) < (nt : Int) := by omega
    have HX' : Hid (x = (-1, 2)) := by show _ = _; rw [HX1.out, if_pos (.inl h16)]
    clear h16
    go_wp2_with fail
    go_ret2
    rw [HX'.out]
    exact ⟨rfl, HC1.out.below⟩
  have q16 : ¬ (16 : Int) < (nt : Int) := by omega
  by_cases h1000 : 1000 < ns
  · have q1 : (1000 : Int) < (ns : Int) := by omega
    have HX' : Hid (x = (-1, 2)) := by show _ = _; rw [HX1.out, if_pos (.inr (.inl h1000))]
    clear h1000
    go_wp2_with fail
    go_ret2
    rw [HX'.out]
    exact ⟨rfl, HC1.out.below⟩
  have q1000 : ¬ (1000 : Int) < (ns : Int) := by omega
  have Hl1 := hasLong_any S.texts T tc w1 HL.out.tl ((Hp.out.txt.below HC1.out.below).more HC1.out.below.size)
  rw [← Hnt.out] at Hl1
  cases hlong : S.texts.any (fun t => decide (2000 < t.length)) with
  | true =>
    rw [hlong] at Hl1
    have HX' : Hid (x = (-1, 2)) := by show _ = _; rw [HX1.out, if_pos (.inr (.inr hlong))]
    have Hl2 := Lib.hid Hl1
    clear Hl1 hlong h16 h1000
    go_wp2_with fail
    refine Hl2.out.mono ?_
    rintro en w2 ⟨rfl, hw⟩
    obtain rfl := hw.symm
    go_wp2_with fail
    go_ret2
    rw [HX'.out]
    exact ⟨rfl, HC1.out.below⟩
  | false =>
    rw [hlong] at Hl1
    have HX2 : Hid (x = stepsB nt 0 S.steps) := by
      show _ = _
      rw [HX1.out, if_neg]
      rintro (h | h | h)
      · exact h16 h
      · exact h1000 h
      · rw [hlong] at h; cases h
    have Hl2 := Lib.hid Hl1
    clear Hl1 hlong h16 h1000
    go_wp2_with fail
    refine Hl2.out.mono ?_
    rintro en w2 ⟨rfl, hw⟩
    obtain rfl := hw.symm
    clear Hl2 Hmin1 Hmax1 HX HX1 Hcm hmn hmn' hmx hmx'
    go_wp2_with fail
    go_loopg [42] ns (fun gh s42 wr => ∃ k : Nat, s42 = .int .i64 (k : Int) ∧ gh = ns - k ∧ k ≤ ns ∧ Hid (CK w g (scrCs a b c d e f T nt tc U ns uc) wr) ∧ Hid (stepsB nt 0 S.steps = stepsB nt k (S.steps.drop k)))
    case atStart => exact ⟨0, rfl, rfl, Nat.zero_le _, HC1, rfl⟩
    case round =>
      obtain ⟨k, rfl, hgh, hk, HC, HS⟩ := hrel
      by_cases hlt : k < ns
      · have hI1 : (0 : Int) ≤ (k : Int) := by omega
        have hI2 : (k : Int) < (ns : Int) := by omega
        obtain ⟨y, hy⟩ : ∃ y, S.steps[k]? = some y := ⟨S.steps[k]'(by rw [← Hns.out]; exact hlt), List.getElem?_eq_getElem _⟩
        obtain ⟨b, o, A, cc, hU, hbw, hck, hcs, hsl, hcc⟩ := step_at Hms.out Hst.out HC.out.below hy
        subst hU
        have Hdr : Hid (S.steps.drop k = y :: S.steps.drop (k + 1)) := by
          obtain ⟨h1, h2⟩ := List.getElem?_eq_some_iff.1 hy
          show _ = _
          rw [List.drop_eq_getElem_cons h1, h2]
        have Hy := Lib.hid hy
        have HA : Hid (∀ W, Below wr.heap.size wr W → Sl W W.heap.size A (y.args.map intC)) := fun W hb => (hsl.below hb).more hb.size
        obtain ⟨q, hq⟩ : ∃ q, q = y.args.length := ⟨_, rfl⟩
        have hqm : q ≤ 9223372036854775807 := by rw [hq]; have := HL.out.arg y (List.mem_of_getElem? hy); unfold maxLen at this; omega
        have Hlen : Hid (y.args.length = q) := hq.symm
        obtain ⟨kd, hkd⟩ : ∃ kd, kd = y.kind := ⟨_, rfl⟩
        rw [← hq] at hcs
        obtain ⟨g7, hg7⟩ : ∃ g, g = wr.heap.size := ⟨_, rfl⟩
        obtain ⟨g8, hg8⟩ : ∃ g, g = wr.heap.size + 1 := ⟨_, rfl⟩
        obtain ⟨W1, hW1⟩ : ∃ W, W = wr.alloc (.cells #[.int .i64 y.kind, .slice A q cc] 69) := ⟨_, rfl⟩
        obtain ⟨W2, hW2⟩ : ∃ W, W = W1.alloc (.cells #[.int .i64 2147483647] 3) := ⟨_, rfl⟩
        have hb1 : Below wr.heap.size wr W1 := by rw [hW1]; exact (Below.refl _ _).alloc (Nat.le_refl _) _
        have hr7 : W1.heap[g7]? = some (.cells #[.int .i64 y.kind, .slice A q cc] 69) := by rw [hW1, hg7]; exact heap_new _ _
        have hs1 : W1.heap.size = g8 := by rw [hW1, hg8]; simp
        have hb2 : Below W1.heap.size W1 W2 := by rw [hW2]; exact (Below.refl _ _).alloc (Nat.le_refl _) _
        have hr8 : W2.heap[g8]? = some (.cells #[.int .i64 2147483647] 3) := by rw [hW2, ← hs1]; exact heap_new _ _
        have hr72 : W2.heap[g7]? = some (.cells #[.int .i64 y.kind, .slice A q cc] 69) := (hb2.block _ (Array.getElem?_eq_some_iff.1 hr7).1).trans hr7
        have HBr2 : Hid (Below wr.heap.size wr W2) := hb1.trans (hb2.mono hb1.size)
        have hle8 : wr.heap.size ≤ g8 := by omega
        have Hr72 := Lib.hid hr72
        have Hr8 := Lib.hid hr8
        clear hsl hcc hy hq hkd hb1 hr7 hs1 hb2 hr8 hr72
        obtain ⟨-, z6, z7⟩ := HC.out.cells
        go_upto_region 11 with fail
        rw [← hg8, ← hg7, ← hW1, ← hW2]
        clear hg7 hg8 hW1 hW2 hck hcs z6 z7
        obtain ⟨-, z6, z7⟩ := (HC.out.call HBr2.out).cells
        obtain ⟨y0, y1, -⟩ := two_cells Hr72.out
        obtain ⟨y2, y3⟩ := cell_at Hr8.out 0 rfl
        by_cases hk2 : y.kind ≤ 2
        · have htop : topB nt y.kind = (nt : Int) - 1 := if_pos hk2
          obtain ⟨W4, hW4⟩ : ∃ W, W = W2.setCell ⟨g8, 0, none⟩ (.int .i64 ((nt : Int) - 1)) := ⟨_, rfl⟩
          have HB4 : Hid (Below wr.heap.size wr W4) := by rw [hW4]; exact HBr2.out.setCell (p := ⟨g8, 0, none⟩) hle8 _
          have HC4 := Lib.hid (HC.out.call HB4.out)
          have hr8 : W4.heap[g8]? = some (.cells #[.int .i64 ((nt : Int) - 1)] 3) := by rw [hW4]; exact set_at Hr8.out 0 _
          have hne : g7 ≠ g8 := cells_other Hr72.out Hr8.out (by decide)
          have hr7 : W4.heap[g7]? = some (.cells #[.int .i64 y.kind, .slice A q cc] 69) := by rw [hW4]; exact (Below.heap_setCell _ _ _ _ hne).trans Hr72.out
          have hc8 : Hid (W4.cell? ⟨g8, 0, none⟩ = some (.int .i64 (topB nt y.kind))) := by rw [htop]; exact (cell_at hr8 0 rfl).1
          clear htop
          go_upto_region 13 with fail
          rw [← hW4]
          clear hW4 y0 y1 y2 y3 z6 z7
          obtain ⟨y0, y1, -⟩ := two_cells hr7
          clear hr7 hr8
          have Hf := Lib.hid (fits_any y.kind y.args.length W4 (Hg.out.below HC4.out.below))
          have Hh := Lib.hid (hasWrong_any (topB nt y.kind) g8 y.args A cc W4 (HL.out.arg y (List.mem_of_getElem? Hy.out)) (HA.out W4 HB4.out) hc8)
          cases hfit : fitsB y.kind y.args.length with
          | false =>
            rw [hfit] at Hf
            have HE : Hid (x = ((k : Int), 1)) := by
              show _ = _
              rw [HX2.out, HS.out, Hdr.out, stepsB, if_neg]
              unfold stepB
              rw [hfit]
              simp
            clear hfit
            go_wp2_with fail
            rw [← Hlen.out]
            refine Hf.out.mono ?_
            rintro en w6 ⟨rfl, hw⟩
            obtain rfl := hw.symm
            go_wp2_with fail
            go_ret2
            rw [HE.out]
            exact ⟨rfl, HC4.out.below⟩
          | true =>
            rw [hfit] at Hf
            cases hbad : y.args.any (wrongB (topB nt y.kind)) with
            | true =>
              rw [hbad] at Hh
              have HE : Hid (x = ((k : Int), 1)) := by
                show _ = _
                rw [HX2.out, HS.out, Hdr.out, stepsB, if_neg]
                unfold stepB
                rw [args_wrong, hbad]
                simp
              clear hfit hbad
              go_wp2_with fail
              rw [← Hlen.out]
              refine Hf.out.mono ?_
              rintro en w6 ⟨rfl, hw⟩
              obtain rfl := hw.symm
              rw [Hlen.out]
              go_wp2_with fail
              rw [← Hlen.out]
              refine Hh.out.mono ?_
              rintro en w6 ⟨rfl, hw⟩
              obtain rfl := hw.symm
              rw [Hlen.out]
              go_wp2_with fail
              go_ret2
              rw [HE.out]
              exact ⟨rfl, HC4.out.below⟩
            | false =>
              rw [hbad] at Hh
              have HS' : Hid (stepsB nt 0 S.steps = stepsB nt (k + 1) (S.steps.drop (k + 1))) := by
                show _ = _
                rw [HS.out, Hdr.out, stepsB, if_pos]
                unfold stepB
                rw [hfit, args_wrong, hbad]
                rfl
              clear hfit hbad
              go_wp2_with fail
              rw [← Hlen.out]
              refine Hf.out.mono ?_
              rintro en w6 ⟨rfl, hw⟩
              obtain rfl := hw.symm
              rw [Hlen.out]
              go_wp2_with fail
              rw [← Hlen.out]
              refine Hh.out.mono ?_
              rintro en w6 ⟨rfl, hw⟩
              obtain rfl := hw.symm
              rw [Hlen.out]
              go_wp2_with fail
              go_roundg (ns - (k + 1))
              case measure => omega
              case rel => exact ⟨k + 1, by go_num, rfl, by omega, HC4, HS'⟩
        · have htop : topB nt y.kind = 2147483647 := if_neg hk2
          obtain ⟨W4, hW4⟩ : ∃ W, W = W2 := ⟨_, rfl⟩
          rw [← hW4] at HBr2 Hr72 Hr8 y0 y1 y2 y3 z6 z7 ⊢
          clear hW4
          have HB4 := HBr2
          have HC4 := Lib.hid (HC.out.call HB4.out)
          have hc8 : Hid (W4.cell? ⟨g8, 0, none⟩ = some (.int .i64 (topB nt y.kind))) := by rw [htop]; exact (cell_at Hr8.out 0 rfl).1
          clear htop y2 y3
          have Hf := Lib.hid (fits_any y.kind y.args.length W4 (Hg.out.below HC4.out.below))
          have Hh := Lib.hid (hasWrong_any (topB nt y.kind) g8 y.args A cc W4 (HL.out.arg y (List.mem_of_getElem? Hy.out)) (HA.out W4 HB4.out) hc8)
          cases hfit : fitsB y.kind y.args.length with
          | false =>
            rw [hfit] at Hf
            have HE : Hid (x = ((k : Int), 1)) := by
              show _ = _
              rw [HX2.out, HS.out, Hdr.out, stepsB, if_neg]
              unfold stepB
              rw [hfit]
              simp
            clear hfit
            go_wp2_with fail
            rw [← Hlen.out]
            refine Hf.out.mono ?_
            rintro en w6 ⟨rfl, hw⟩
            obtain rfl := hw.symm
            go_wp2_with fail
            go_ret2
            rw [HE.out]
            exact ⟨rfl, HC4.out.below⟩
          | true =>
            rw [hfit] at Hf
            cases hbad : y.args.any (wrongB (topB nt y.kind)) with
            | true =>
              rw [hbad] at Hh
              have HE : Hid (x = ((k : Int), 1)) := by
                show _ = _
                rw [HX2.out, HS.out, Hdr.out, stepsB, if_neg]
                unfold stepB
                rw [args_wrong, hbad]
                simp
              clear hfit hbad
              go_wp2_with fail
              rw [← Hlen.out]
              refine Hf.out.mono ?_
              rintro en w6 ⟨rfl, hw⟩
              obtain rfl := hw.symm
              rw [Hlen.out]
              go_wp2_with fail
              rw [← Hlen.out]
              refine Hh.out.mono ?_
              rintro en w6 ⟨rfl, hw⟩
              obtain rfl := hw.symm
              rw [Hlen.out]
              go_wp2_with fail
              go_ret2
              rw [HE.out]
              exact ⟨rfl, HC4.out.below⟩
            | false =>
              rw [hbad] at Hh
              have HS' : Hid (stepsB nt 0 S.steps = stepsB nt (k + 1) (S.steps.drop (k + 1))) := by
                show _ = _
                rw [HS.out, Hdr.out, stepsB, if_pos]
                unfold stepB
                rw [hfit, args_wrong, hbad]
                rfl
              clear hfit hbad
              go_wp2_with fail
              rw [← Hlen.out]
              refine Hf.out.mono ?_
              rintro en w6 ⟨rfl, hw⟩
              obtain rfl := hw.symm
              rw [Hlen.out]
              go_wp2_with fail
              rw [← Hlen.out]
              refine Hh.out.mono ?_
              rintro en w6 ⟨rfl, hw⟩
              obtain rfl := hw.symm
              rw [Hlen.out]
              go_wp2_with fail
              go_roundg (ns - (k + 1))
              case measure => omega
              case rel => exact ⟨k + 1, by go_num, rfl, by omega, HC4, HS'⟩
      · have hke : k = ns := by omega
        have hI3 : ¬ (k : Int) < (ns : Int) := by omega
        have HE : Hid (x = (0, 0)) := by
          show _ = _
          rw [HX2.out, HS.out, hke, Hns.out, List.drop_length]
          rfl
        clear hke hlt
        go_wp2_with fail
        go_ret2
        rw [HE.out]
        exact ⟨rfl, HC.out.below⟩
end Go.Proofs.YtdfhbnfhkckkbaaGreatDoor
