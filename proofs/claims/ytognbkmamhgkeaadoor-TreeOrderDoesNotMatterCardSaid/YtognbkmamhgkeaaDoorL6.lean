/-
  The walk of the statement TreeOrderDoesNotMatter: it returns true for every list of entries and every list of other blocks, where the library's table lies as it is laid.
-/
import Derived.Test.YtognbkmamhgkeaaDoorMy
import Derived.Test.YtognbkmamhgkeaaDoorL5
import Derived.StillTailTactics
namespace Go.Proofs.YtognbkmamhgkeaaDoor
open Go Go.RowKit Go.Walks

def intC (xs : List Int) : List Value := xs.map fun x => Value.int .i64 x
theorem take_nxt {α : Type} {l : List α} {k : Nat} {x : α} (h : l[k]? = some x) : l.take (k + 1) = l.take k ++ [x] := by
  obtain ⟨hk, rfl⟩ := List.getElem?_eq_some_iff.1 h
  exact List.take_succ_eq_append_getElem hk
theorem drop_nxt {α : Type} {l : List α} {k : Nat} {x : α} (h : l[k]? = some x) : l.drop k = x :: l.drop (k + 1) := by
  obtain ⟨hk, rfl⟩ := List.getElem?_eq_some_iff.1 h
  exact List.drop_eq_getElem_cons hk
theorem three_new (w : World) : Q3 w w.heap.size (w.heap.size + 1) (w.heap.size + 1 + 1) noM noM noM (((w.alloc (.cells #[.pointer none, .int .i64 0] 31)).alloc (.cells #[.pointer none, .int .i64 0] 31)).alloc (.cells #[.pointer none, .int .i64 0] 31)) := by
  refine ⟨(((Below.refl _ _).alloc (Nat.le_refl _) _).alloc (by simp) _).alloc (by simp; omega) _, ⟨TV.empty, 0, ?_, good_empty _, rfl⟩, ⟨TV.empty, 0, ?_, good_empty _, rfl⟩, ⟨TV.empty, 0, ?_, good_empty _, rfl⟩⟩
  · exact (Below.heap_alloc _ _ _ (by simp; omega)).trans ((Below.heap_alloc _ _ _ (by simp)).trans (World.alloc_heap_new w _))
  · have := World.alloc_heap_new (w.alloc (.cells #[.pointer none, .int .i64 0] 31)) (.cells #[.pointer none, .int .i64 0] 31)
    rw [World.size_alloc] at this
    exact (Below.heap_alloc _ _ _ (by simp)).trans this
  · have := World.alloc_heap_new ((w.alloc (.cells #[.pointer none, .int .i64 0] 31)).alloc (.cells #[.pointer none, .int .i64 0] 31)) (.cells #[.pointer none, .int .i64 0] 31)
    rw [World.size_alloc, World.size_alloc] at this
    exact this

theorem eqB_same {w w' : World} {T1 T2 : TV} {n1 n2 : Int} (h1 : Good w T1 n1) (h2 : Good w' T2 n2) (hm : T1.m = T2.m) : EqB T1 T2 n1 n2 = true := by
  have hn : n1 = n2 := by rw [h1.num, h2.num, hm]
  have hd : diffR T1.m T2.m 0 4096 = [] := diffR_nil fun x _ _ => by rw [hm]
  unfold EqB
  rw [hd, hn]; simp

set_option maxRecDepth 100000 in
set_option maxHeartbeats 4000000 in
theorem order_short (es : List (Int × Int)) (xs : List Int) (c1 c2 : Nat) (A1 A2 : Option Addr) (w : World) (Ht : Hid (Tab w)) (hn1 : es.length ≤ 60) (hn2 : xs.length ≤ 60) (Hs1 : Hid (Sl w w.heap.size A1 (entCells es))) (Hs2 : Hid (Sl w w.heap.size A2 (intC xs))) :
    Calls Tryd.prog 8 #[.slice A1 es.length c1, .slice A2 xs.length c2] w (TrueP w) := by
  have hn1' : decide ((60 : Int) < (es.length : Int)) = false := by simp; omega
  have hn2' : decide ((60 : Int) < (xs.length : Int)) = false := by simp; omega
  go_enter Tryd.func8, Tryd.ntmps8
  go_wp2_with (first
    | (go_at_call 9; refine (sanity_any _ Ht).mono ?_; rintro e w1 ⟨rfl, hb1⟩; have Hb1 := Lib.hid hb1; have HsE := Lib.hid (slB Hs1.out hb1); have HsO := Lib.hid (slB Hs2.out hb1); clear hb1))
  go_loopw [9] (fun ix wr => ∃ k : Nat, k ≤ xs.length ∧ ix = .int .i64 k ∧ Hid (Q3 w1 w1.heap.size (w1.heap.size + 1) (w1.heap.size + 1 + 1) noM noM (setsM noM (oth (xs.take k))) wr)) (fun ix _ => xs.length - (intOf ix).toNat)
  case atStart => exact ⟨0, by omega, rfl, three_new w1⟩
  case round =>
    obtain ⟨k, hk, rfl, HQ⟩ := hrel
    by_cases hlt : k < xs.length
    · obtain ⟨x, hx⟩ : ∃ x, xs[k]? = some x := ⟨_, List.getElem?_eq_getElem hlt⟩
      obtain ⟨g, o, rfl, hg, hcs⟩ := HsO.out.at_ (k := k) (by simp [intC]; omega)
      have hxi : (intC xs)[k]? = some (.int .i64 x) := by simp [intC, hx]
      have hck := (HQ.out.below.cell (p := ⟨g, o + k, none⟩) hg).trans (hcs _ _ hxi)
      have Htk := Lib.hid (take_nxt hx)
      obtain ⟨Tc, nc, rc, gc, mc⟩ := HQ.out.c
      obtain ⟨t0, t1, t2, t3⟩ := two_cells rc
      have Hrc := Lib.hid rc
      have Hgc := Lib.hid gc
      have Hmc := Lib.hid mc
      have hltc := (Array.getElem?_eq_some_iff.1 rc).1
      have hI1 : (0 : Int) ≤ (k : Int) := by omega
      have hI2 : (k : Int) < (xs.length : Int) := by omega
      clear rc gc mc hxi hcs hx
      go_wp2_with fail
      go_still_tail 6, (by kernel_rfl)
      change wpList _ _ _ _ _ wr.drew
      go_wp2_with (go_at_call 14; refine (tset_any Tc nc x k _ Hgc.out.drew).mono ?_; rintro e w7 ⟨T2, n2, rfl, hg7, hm7, hb7, -⟩; unfold TreeV; have hb7' := below_of_drew hb7; have R7 := (hb7'.block _ hltc).trans Hrc.out; clear t0 t1 t2 t3; obtain ⟨t0, t1, t2, t3⟩ := two_cells R7; have HR7 := Lib.hid R7; have Hg7 := Lib.hid hg7; have Hm7 := Lib.hid hm7; have Hb7 := Lib.hid hb7'; clear R7 hg7 hm7 hb7 hb7')
      refine ⟨⟨k + 1, by omega, by go_num, (HQ.out.next Hb7.out).setC HR7.out Hg7.out ?_ (by omega) (by omega) (by omega)⟩, by simp [intOf]; omega⟩
      rw [Hm7.out, Hmc.out, Htk.out, oth_snoc, setsM_snoc, List.length_take, Nat.min_eq_left (by omega)]
    · obtain rfl : k = xs.length := by omega
      rw [List.take_length] at HQ
      obtain ⟨w2, rfl⟩ : ∃ w2 : World, w2 = wr := ⟨_, rfl⟩
      have hw2 : w1.heap.size + 3 ≤ w2.heap.size := by obtain ⟨Tc, nc, rc, _, _⟩ := HQ.out.c; have := (Array.getElem?_eq_some_iff.1 rc).1; omega
      obtain ⟨m0, hm0⟩ : ∃ m0, m0 = setsM noM (oth xs) := ⟨_, rfl⟩
      rw [← hm0] at HQ
      have Hm0 := Lib.hid hm0
      clear hm0 hk hlt
      go_wp2_with fail
      go_loopw [11] (fun ix wr => ∃ k : Nat, k ≤ es.length ∧ ix = .int .i64 k ∧ Hid (Q4 w1 w1.heap.size (w1.heap.size + 1) (w1.heap.size + 1 + 1) w2.heap.size (setsM noM (es.take k)) noM (setsM m0 (es.take k)) (finL (es.take k)) wr)) (fun ix _ => es.length - (intOf ix).toNat)
      case atStart => exact ⟨0, by omega, rfl, HQ.out.next ((Below.refl _ _).alloc (Nat.le_refl _) _), ⟨none, 0, World.alloc_heap_new _ _, ⟨none, 0, rfl, .inl rfl, Nat.le_refl _, Nat.zero_le _⟩⟩⟩
      case round =>
        obtain ⟨k, hk, rfl, HQ4⟩ := hrel
        by_cases hlt : k < es.length
        · obtain ⟨x, hx⟩ : ∃ x, es[k]? = some x := ⟨_, List.getElem?_eq_getElem hlt⟩
          obtain ⟨g, o, rfl, hg, hcs⟩ := HsE.out.at_ (k := k * 2) (by rw [entCells_len]; omega)
          obtain ⟨q0, q1⟩ := entCells_at es k x hx
          have KE : Hid (∀ W, Below w1.heap.size w1 W → W.cell? ⟨g, o + k * 2, none⟩ = some (.int .i64 x.1) ∧ W.cell? ⟨g, o + k * 2 + 1, none⟩ = some (.int .i64 x.2)) :=
            fun W hb => ⟨(hb.cell (p := ⟨g, o + k * 2, none⟩) hg).trans (hcs _ _ q0), (hb.cell (p := ⟨g, o + k * 2 + 1, none⟩) hg).trans (hcs _ _ q1)⟩
          have Htk := Lib.hid (take_nxt hx)
          have hI1 : (0 : Int) ≤ (k : Int) := by omega
          have hI2 : (k : Int) < (es.length : Int) := by omega
          clear hcs q0 q1 hx
          obtain ⟨e0, e1⟩ := KE.out _ HQ4.out.q.below
          obtain ⟨Ta, na, ra, ga, hma⟩ := HQ4.out.q.a
          obtain ⟨t0, t1, t2, t3⟩ := two_cells ra
          have Hra := Lib.hid ra
          have Hga := Lib.hid ga
          have Hma := Lib.hid hma
          have hlta := (Array.getElem?_eq_some_iff.1 ra).1
          clear ra ga hma
          go_wp2_with fail
          go_still_tail 11, (by kernel_rfl)
          change wpList _ _ _ _ _ wr.drew
          go_wp2_with (go_at_call 14; refine (tset_any Ta na x.1 x.2 _ Hga.out.drew).mono ?_; rintro e w3 ⟨T3, n3, rfl, hg3, hm3, hb3, -⟩; unfold TreeV; have hb3' := below_of_drew hb3; have R3 := (hb3'.block _ hlta).trans Hra.out; clear t0 t1 t2 t3; obtain ⟨t0, t1, t2, t3⟩ := two_cells R3; have HR3 := Lib.hid R3; have Hg3 := Lib.hid hg3; have Hm3 := Lib.hid hm3; have Hb3 := Lib.hid hb3'; clear R3 hg3 hm3 hb3 hb3' e0 e1)
          have q3 := HQ4.out.next Hb3.out
          have HX3 : Hid (Q4 w1 w1.heap.size (w1.heap.size + 1) (w1.heap.size + 1 + 1) w2.heap.size (setsM noM (es.take (k + 1))) noM (setsM m0 (es.take k)) (finL (es.take k)) ((w3.setCell ⟨w1.heap.size, 0, none⟩ (ptrV (T3.adr 2 0))).setCell ⟨w1.heap.size, 1, none⟩ (.int .i64 n3))) :=
            ⟨q3.q.setA HR3.out Hg3.out (by rw [Hm3.out, Hma.out, Htk.out, setsM_snoc]) (by omega) (by omega) (by omega), q3.f.other HR3.out (by omega)⟩
          obtain ⟨X3, hX3⟩ : ∃ X3, X3 = (w3.setCell ⟨w1.heap.size, 0, none⟩ (Value.pointer (padr (T3.adr 2 0)))).setCell ⟨w1.heap.size, 1, none⟩ (.int .i64 n3) := ⟨_, rfl⟩
          rw [← hX3] at HX3 ⊢
          clear hX3 q3 t0 t1 t2 t3 HR3 Hg3 Hm3 Hb3 Hra Hga Hma hlta HQ4
          obtain ⟨e0, e1⟩ := KE.out _ HX3.out.q.below
          obtain ⟨Tc, nc, rc, gc, hmc⟩ := HX3.out.q.c
          obtain ⟨t0, t1, t2, t3⟩ := two_cells rc
          have Hrc := Lib.hid rc
          have Hgc := Lib.hid gc
          have Hmc := Lib.hid hmc
          have hltc := (Array.getElem?_eq_some_iff.1 rc).1
          clear rc gc hmc
          go_wp2_with fail
          go_still_tail 11, (by kernel_rfl)
          change wpList _ _ _ _ _ X3.drew
          go_wp2_with (go_at_call 14; refine (tset_any Tc nc x.1 x.2 _ Hgc.out.drew).mono ?_; rintro e w4 ⟨T4, n4, rfl, hg4, hm4, hb4, -⟩; unfold TreeV; have hb4' := below_of_drew hb4; have R4 := (hb4'.block _ hltc).trans Hrc.out; clear t0 t1 t2 t3; obtain ⟨t0, t1, t2, t3⟩ := two_cells R4; have HR4 := Lib.hid R4; have Hg4 := Lib.hid hg4; have Hm4 := Lib.hid hm4; have Hb4 := Lib.hid hb4'; clear R4 hg4 hm4 hb4 hb4' e0 e1)
          have q4 := HX3.out.next Hb4.out
          have HX4 : Hid (Q4 w1 w1.heap.size (w1.heap.size + 1) (w1.heap.size + 1 + 1) w2.heap.size (setsM noM (es.take (k + 1))) noM (setsM m0 (es.take (k + 1))) (finL (es.take k)) ((w4.setCell ⟨w1.heap.size + 1 + 1, 0, none⟩ (ptrV (T4.adr 2 0))).setCell ⟨w1.heap.size + 1 + 1, 1, none⟩ (.int .i64 n4))) :=
            ⟨q4.q.setC HR4.out Hg4.out (by rw [Hm4.out, Hmc.out, Htk.out, setsM_snoc]) (by omega) (by omega) (by omega), q4.f.other HR4.out (by omega)⟩
          obtain ⟨X4, hX4⟩ : ∃ X4, X4 = (w4.setCell ⟨w1.heap.size + 1 + 1, 0, none⟩ (Value.pointer (padr (T4.adr 2 0)))).setCell ⟨w1.heap.size + 1 + 1, 1, none⟩ (.int .i64 n4) := ⟨_, rfl⟩
          rw [← hX4] at HX4 ⊢
          clear hX4 q4 t0 t1 t2 t3 HR4 Hg4 Hm4 Hb4 Hrc Hgc Hmc hltc HX3
          obtain ⟨e0, e1⟩ := KE.out _ HX4.out.q.below
          obtain ⟨Af, cf, rf, hrf⟩ := HX4.out.f
          obtain ⟨f0, f1⟩ := one_cell rf
          have Hrf := Lib.hid rf
          have Hff := Lib.hid hrf
          have hltf := (Array.getElem?_eq_some_iff.1 rf).1
          have hfl := Nat.le_trans (finL_len (es.take k)) (List.length_take_le' k es)
          clear rf hrf
          go_wp2_with fail
          go_still_tail 11, (by kernel_rfl)
          change wpList _ _ _ _ _ X4.drew
          go_wp2_with (go_at_call 30; refine (rset_any (finL (es.take k)) _ x.1 x.2 _ (by omega) Hff.out.drew).mono ?_; rintro e w5 ⟨v5, rfl, hr5, hb5⟩; obtain ⟨A5, c5, rfl⟩ := hr5.one; have hb5' := below_of_drew hb5; have R5 := (hb5'.block _ hltf).trans Hrf.out; clear f0 f1; obtain ⟨f0, f1⟩ := one_cell R5; have HR5 := Lib.hid R5; have Hr5 := Lib.hid hr5; have Hb5 := Lib.hid hb5'; clear R5 hr5 hb5 hb5' e0 e1)
          refine ⟨⟨k + 1, by omega, by go_num, ?_⟩, by simp [intOf]; omega⟩
          have e5 : finL (es.take (k + 1)) = setL (finL (es.take k)) x.1 x.2 := by rw [Htk.out, finL_snoc]
          show Q4 _ _ _ _ _ _ _ _ _ _
          rw [e5]
          exact (HX4.out.next Hb5.out).setF HR5.out Hr5.out (by omega) (by omega) (by omega) (by omega)
        · obtain rfl : k = es.length := by omega
          rw [List.take_length] at HQ4
          clear hk hlt
          have hq := HQ4
          obtain ⟨ma, hma⟩ : ∃ ma, ma = setsM noM es := ⟨_, rfl⟩
          rw [← hma, ← clrd_nil, ← hma] at HQ4
          have Hma := Lib.hid hma
          clear hma hq
          go_wp2_with fail
          go_loopw [12] (fun ix wr => ∃ k : Nat, k ≤ es.length ∧ ix = .int .i64 ((k : Int) - 1) ∧ Hid (Q4 w1 w1.heap.size (w1.heap.size + 1) (w1.heap.size + 1 + 1) w2.heap.size ma (setsM noM (es.drop k)) (clrd ma m0 []) (finL es) wr)) (fun ix _ => (intOf ix + 1).toNat)
          case atStart => exact ⟨es.length, by omega, rfl, by show Q4 _ _ _ _ _ _ _ _ _ _; rw [List.drop_length]; exact HQ4.out⟩
          case round =>
            obtain ⟨k', hk', rfl, HQ5⟩ := hrel
            cases k' with
            | succ k =>
              have ek : ((k + 1 : Nat) : Int) - 1 = (k : Int) := by omega
              rw [ek]
              have hlt : k < es.length := by omega
              obtain ⟨x, hx⟩ : ∃ x, es[k]? = some x := ⟨_, List.getElem?_eq_getElem hlt⟩
              obtain ⟨g, o, rfl, hg, hcs⟩ := HsE.out.at_ (k := k * 2) (by rw [entCells_len]; omega)
              obtain ⟨q0, q1⟩ := entCells_at es k x hx
              have KE : Hid (∀ W, Below w1.heap.size w1 W → W.cell? ⟨g, o + k * 2, none⟩ = some (.int .i64 x.1) ∧ W.cell? ⟨g, o + k * 2 + 1, none⟩ = some (.int .i64 x.2)) :=
                fun W hb => ⟨(hb.cell (p := ⟨g, o + k * 2, none⟩) hg).trans (hcs _ _ q0), (hb.cell (p := ⟨g, o + k * 2 + 1, none⟩) hg).trans (hcs _ _ q1)⟩
              have Hdr := Lib.hid (drop_nxt hx)
              have hI1 : (0 : Int) ≤ (k : Int) := by omega
              have hI2 : (k : Int) < (es.length : Int) := by omega
              clear hcs q0 q1 hx ek
              obtain ⟨Tb, nb, rb, gb, hmb⟩ := HQ5.out.q.b
              have Hrb := Lib.hid rb
              have Hgb := Lib.hid gb
              have Hmb := Lib.hid hmb
              have hltb := (Array.getElem?_eq_some_iff.1 rb).1
              clear rb gb hmb
              have KS : Hid (∀ W : World, Below wr.heap.size wr W → (W.cell? ⟨w1.heap.size + 1, 0, none⟩ = some (ptrV (Tb.adr 2 0)) ∧ W.cell? ⟨w1.heap.size + 1, 1, none⟩ = some (.int .i64 nb)) ∧ W.cell? ⟨g, o + k * 2, none⟩ = some (.int .i64 x.1)) :=
                fun W hb => by
                  obtain ⟨t0, t1, -, -⟩ := two_cells ((hb.block _ hltb).trans Hrb.out)
                  exact ⟨⟨t0, t1⟩, (KE.out _ (HQ5.out.q.below.trans (hb.mono HQ5.out.q.below.size))).1⟩
              have K0 := KS.out _ (Below.refl _ _)
              have K1 := KS.out wr.drew (Below.refl _ _).drew
              go_wp2_with fail
              cases hhad : (atI Tb.m x.1).isSome with
              | true =>
                have Hhad := Lib.hid hhad
                clear hhad
                go_region_held3 (fun w' => (w'.cell? ⟨w1.heap.size + 1, 0, none⟩ = some (ptrV (Tb.adr 2 0)) ∧ w'.cell? ⟨w1.heap.size + 1, 1, none⟩ = some (.int .i64 nb)) ∧ w'.cell? ⟨g, o + k * 2, none⟩ = some (.int .i64 x.1)) (first | exact hKeep | go_keep)
                  (first | (go_at_call 23; refine (tget_any Tb nb x.1 _ Hgb.out.drew).mono ?_; rintro e w6 ⟨rfl, hb6⟩; rw [Hhad.out]; have B6 := Lib.hid (below_of_drew hb6); have hKeep := KS.out _ B6.out; clear hb6))
                go_wp2_with fail
                refine ⟨⟨k, by omega, by go_num, ?_⟩, by simp [intOf] <;> omega⟩
                show Q4 _ _ _ _ _ _ _ _ _ _
                rw [Hdr.out, back_keep (by rw [← Hmb.out]; exact Hhad.out)]
                exact HQ5.out.next B6.out
              | false =>
                have Hhad := Lib.hid hhad
                clear hhad
                go_region_held3 (fun w' => (w'.cell? ⟨w1.heap.size + 1, 0, none⟩ = some (ptrV (Tb.adr 2 0)) ∧ w'.cell? ⟨w1.heap.size + 1, 1, none⟩ = some (.int .i64 nb)) ∧ w'.cell? ⟨g, o + k * 2, none⟩ = some (.int .i64 x.1)) (first | exact hKeep | go_keep)
                  (first | (go_at_call 23; refine (tget_any Tb nb x.1 _ Hgb.out.drew).mono ?_; rintro e w6 ⟨rfl, hb6⟩; rw [Hhad.out]; have B6 := Lib.hid (below_of_drew hb6); have hKeep := KS.out _ B6.out; clear hb6))
                clear K0 K1
                have HQ6 := Lib.hid (HQ5.out.next B6.out)
                obtain ⟨e0, e1⟩ := KE.out _ HQ6.out.q.below
                have rb6 := (B6.out.block _ hltb).trans Hrb.out
                obtain ⟨t0, t1, t2, t3⟩ := two_cells rb6
                have Hrb6 := Lib.hid rb6
                have hltb6 := (Array.getElem?_eq_some_iff.1 rb6).1
                have Hgb6 := Lib.hid (Hgb.out.below B6.out)
                clear rb6
                go_wp2_with fail
                go_still_tail 11, (by kernel_rfl)
                change wpList _ _ _ _ _ w6.drew
                go_wp2_with (go_at_call 14; refine (tset_any Tb nb x.1 x.2 _ Hgb6.out.drew).mono ?_; rintro e w7 ⟨T7, n7, rfl, hg7, hm7, hb7, -⟩; unfold TreeV; have hb7' := below_of_drew hb7; have R7 := (hb7'.block _ hltb6).trans Hrb6.out; clear t0 t1 t2 t3; obtain ⟨t0, t1, t2, t3⟩ := two_cells R7; have HR7 := Lib.hid R7; have Hg7 := Lib.hid hg7; have Hm7 := Lib.hid hm7; have Hb7 := Lib.hid hb7'; clear R7 hg7 hm7 hb7 hb7' e0 e1)
                refine ⟨⟨k, by omega, by go_num, ?_⟩, by simp [intOf] <;> omega⟩
                have q7 := HQ6.out.next Hb7.out
                show Q4 _ _ _ _ _ _ _ _ _ _
                rw [Hdr.out]
                exact ⟨q7.q.setB HR7.out Hg7.out (by rw [Hm7.out, Hmb.out]; exact back_set (by rw [← Hmb.out]; exact Hhad.out)) (by omega) (by omega) (by omega), q7.f.other HR7.out (by omega)⟩
            | zero =>
              rw [List.drop_zero, ← Hma.out] at HQ5
              rw [show (((0 : Nat) : Int) - 1) = -1 from rfl]
              have Hmf : Hid (ma = mOf (finL es)) := by show _ = _; rw [Hma.out, finL_m]
              have Hmo : Hid (∀ x, 4096 ≤ x → ma x = none) := by show ∀ x, _; rw [Hma.out]; exact setsM_out es noM (fun _ _ => rfl)
              have hfl := finL_len es
              go_wp2_with fail
              go_loopw [15] (fun ix wr => ∃ k : Nat, k ≤ xs.length ∧ ix = .int .i64 k ∧ Hid (Q4 w1 w1.heap.size (w1.heap.size + 1) (w1.heap.size + 1 + 1) w2.heap.size ma ma (clrd ma m0 (xs.take k)) (finL es) wr)) (fun ix _ => xs.length - (intOf ix).toNat)
              case atStart => exact ⟨0, by omega, rfl, by show Q4 _ _ _ _ _ _ _ _ _ _; rw [List.take_zero]; exact HQ5.out⟩
              case round =>
                obtain ⟨k, hk, rfl, HQ7⟩ := hrel
                by_cases hlt : k < xs.length
                · obtain ⟨x, hx⟩ : ∃ x, xs[k]? = some x := ⟨_, List.getElem?_eq_getElem hlt⟩
                  obtain ⟨g, o, rfl, hg, hcs⟩ := HsO.out.at_ (k := k) (by simp [intC]; omega)
                  have hxi : (intC xs)[k]? = some (.int .i64 x) := by simp [intC, hx]
                  have KE : Hid (∀ W, Below w1.heap.size w1 W → W.cell? ⟨g, o + k, none⟩ = some (.int .i64 x)) := fun W hb => (hb.cell (p := ⟨g, o + k, none⟩) hg).trans (hcs _ _ hxi)
                  have Htk := Lib.hid (take_nxt hx)
                  have hI1 : (0 : Int) ≤ (k : Int) := by omega
                  have hI2 : (k : Int) < (xs.length : Int) := by omega
                  clear hcs hxi hx
                  obtain ⟨Af, cf, rf, hrf⟩ := HQ7.out.f
                  have Hrf := Lib.hid rf
                  have Hslf : Hid (Sl wr wr.heap.size Af (entCells (finL es))) := by
                    obtain ⟨A', c', e', hs', -⟩ := hrf.ex
                    injection e' with e'
                    have e2 : Af = A' := by simpa using congrArg (fun a : Array Value => a[0]?) e' |> fun h => (by simpa using h : Af = A' ∧ cf = c').1
                    subst e2
                    exact hs'.sl
                  have hltf := (Array.getElem?_eq_some_iff.1 rf).1
                  clear rf hrf
                  have KS : Hid (∀ W : World, Below wr.heap.size wr W → W.cell? ⟨w2.heap.size, 0, none⟩ = some (.slice Af (finL es).length cf) ∧ W.cell? ⟨g, o + k, none⟩ = some (.int .i64 x)) :=
                    fun W hb => ⟨(one_cell ((hb.block _ hltf).trans Hrf.out)).1, KE.out _ (HQ7.out.q.below.trans (hb.mono HQ7.out.q.below.size))⟩
                  have Hsld : Hid (Sl wr.drew wr.drew.heap.size Af (entCells (finL es))) := slB Hslf.out (Below.refl _ _).drew
                  have K0 := KS.out _ (Below.refl _ _)
                  have K1 := KS.out wr.drew (Below.refl _ _).drew
                  obtain ⟨xo, hxo⟩ : ∃ xo, atI ma x = xo := ⟨_, rfl⟩
                  have Hxo := Lib.hid hxo
                  clear hxo
                  go_wp2_with fail
                  cases hhad : xo.isSome with
                  | true =>
                    have Hhad := Lib.hid hhad
                    clear hhad
                    go_region_held3 (fun w' => w'.cell? ⟨w2.heap.size, 0, none⟩ = some (.slice Af (finL es).length cf) ∧ w'.cell? ⟨g, o + k, none⟩ = some (.int .i64 x)) (first | exact hKeep | go_keep)
                      (first | (go_at_call 29; refine (rget_at cf _ (by omega) Hmf.out (finL_srt es) Hxo.out Hsld.out).mono ?_; rintro e w6 ⟨rfl, hb6⟩; rw [Hhad.out]; have B6 := Lib.hid (below_of_drew hb6); have hKeep := KS.out _ B6.out; clear hb6))
                    go_wp2_with fail
                    refine ⟨⟨k + 1, by omega, by go_num, ?_⟩, by simp [intOf]; omega⟩
                    show Q4 _ _ _ _ _ _ _ _ _ _
                    rw [Htk.out, clrd_keep (by rw [Hxo.out]; exact Hhad.out)]
                    exact HQ7.out.next B6.out
                  | false =>
                    have Hhad := Lib.hid hhad
                    clear hhad
                    go_region_held3 (fun w' => w'.cell? ⟨w2.heap.size, 0, none⟩ = some (.slice Af (finL es).length cf) ∧ w'.cell? ⟨g, o + k, none⟩ = some (.int .i64 x)) (first | exact hKeep | go_keep)
                      (first | (go_at_call 29; refine (rget_at cf _ (by omega) Hmf.out (finL_srt es) Hxo.out Hsld.out).mono ?_; rintro e w6 ⟨rfl, hb6⟩; rw [Hhad.out]; have B6 := Lib.hid (below_of_drew hb6); have hKeep := KS.out _ B6.out; clear hb6))
                    clear K0 K1
                    have HQ8 := Lib.hid (HQ7.out.next B6.out)
                    have e0 := KE.out _ HQ8.out.q.below
                    obtain ⟨Tc, nc, rc, gc, hmc⟩ := HQ8.out.q.c
                    obtain ⟨t0, t1, t2, t3⟩ := two_cells rc
                    have Hrc := Lib.hid rc
                    have Hgc := Lib.hid gc
                    have Hmc := Lib.hid hmc
                    have hltc := (Array.getElem?_eq_some_iff.1 rc).1
                    clear rc gc hmc
                    go_wp2_with fail
                    go_still_tail 5, (by kernel_rfl)
                    change wpList _ _ _ _ _ w6.drew
                    go_wp2_with (go_at_call 15; refine (tclr_any Tc nc x _ Hgc.out.drew).mono ?_; rintro e w7 ⟨T7, n7, rfl, hg7, hm7, hb7, -⟩; unfold TreeV; have hb7' := below_of_drew hb7; have R7 := (hb7'.block _ hltc).trans Hrc.out; clear t0 t1 t2 t3; obtain ⟨t0, t1, t2, t3⟩ := two_cells R7; have HR7 := Lib.hid R7; have Hg7 := Lib.hid hg7; have Hm7 := Lib.hid hm7; have Hb7 := Lib.hid hb7'; clear R7 hg7 hm7 hb7 hb7' e0)
                    refine ⟨⟨k + 1, by omega, by go_num, ?_⟩, by simp [intOf]; omega⟩
                    have q7 := HQ8.out.next Hb7.out
                    show Q4 _ _ _ _ _ _ _ _ _ _
                    rw [Htk.out]
                    exact ⟨q7.q.setC HR7.out Hg7.out (by rw [Hm7.out, Hmc.out]; exact clrd_del Hmo.out (by rw [Hxo.out]; exact Hhad.out)) (by omega) (by omega) (by omega), q7.f.other HR7.out (by omega)⟩
                · obtain rfl : k = xs.length := by omega
                  have hend : clrd ma m0 (xs.take xs.length) = ma := by
                    rw [List.take_length]
                    refine clrd_end fun x hx => ?_
                    rw [Hm0.out] at hx
                    rcases setsM_in _ _ _ hx with h | ⟨c, hc⟩
                    · cases h
                    · exact oth_mem hc
                  rw [hend] at HQ7
                  clear hend hk hlt
                  obtain ⟨Ta, na, ra, ga, hTa⟩ := HQ7.out.q.a
                  obtain ⟨Tb, nb, rb, gb, hTb⟩ := HQ7.out.q.b
                  obtain ⟨Tc, nc, rc, gc, hTc⟩ := HQ7.out.q.c
                  obtain ⟨Af, cf, rf, hrf⟩ := HQ7.out.f
                  have Hslf : Hid (Sl wr wr.heap.size Af (entCells (finL es))) := by
                    obtain ⟨A', c', e', hs', -⟩ := hrf.ex
                    injection e' with e'
                    have e2 : Af = A' := by simpa using congrArg (fun a : Array Value => a[0]?) e' |> fun h => (by simpa using h : Af = A' ∧ cf = c').1
                    subst e2
                    exact hs'.sl
                  have Hga := Lib.hid ga
                  have Hgb := Lib.hid gb
                  have Hgc := Lib.hid gc
                  have HTa := Lib.hid (hTa.trans Hmf.out)
                  have HE1 : Hid (EqB Ta Tb na nb = true) := eqB_same ga gb (hTa.trans hTb.symm)
                  have HE2 : Hid (EqB Ta Tc na nc = true) := eqB_same ga gc (hTa.trans hTc.symm)
                  have HNa : Hid ((gthAll [(Ta, na)]).length = countL (finL es)) := by show _ = _; rw [nodes_one ga, count_al ga (hTa.trans Hmf.out) (finL_srt es)]
                  have HNb : Hid ((gthAll [(Tb, nb)]).length = countL (finL es)) := by show _ = _; rw [nodes_one gb, count_al gb (hTb.trans Hmf.out) (finL_srt es)]
                  have HNc : Hid ((gthAll [(Tc, nc)]).length = countL (finL es)) := by show _ = _; rw [nodes_one gc, count_al gc (hTc.trans Hmf.out) (finL_srt es)]
                  have Hra := Lib.hid ra
                  have Hrb := Lib.hid rb
                  have Hrc := Lib.hid rc
                  have Hrf := Lib.hid rf
                  have HTr : Hid (Tab wr) := Ht.out.below (Hb1.out.trans (HQ7.out.q.below.mono Hb1.out.size)) Ht.out.1
                  have h0r : 0 < wr.heap.size := HTr.out.1
                  have KS : Hid (∀ W : World, Below wr.heap.size wr W → (((W.cell? ⟨w1.heap.size, 0, none⟩ = some (ptrV (Ta.adr 2 0)) ∧ W.cell? ⟨w1.heap.size, 1, none⟩ = some (.int .i64 na)) ∧ (W.cell? ⟨w1.heap.size + 1, 0, none⟩ = some (ptrV (Tb.adr 2 0)) ∧ W.cell? ⟨w1.heap.size + 1, 1, none⟩ = some (.int .i64 nb))) ∧ (W.cell? ⟨w1.heap.size + 1 + 1, 0, none⟩ = some (ptrV (Tc.adr 2 0)) ∧ W.cell? ⟨w1.heap.size + 1 + 1, 1, none⟩ = some (.int .i64 nc))) ∧ W.cell? ⟨w2.heap.size, 0, none⟩ = some (.slice Af (finL es).length cf)) :=
                    fun W hb => by
                      obtain ⟨a0, a1, -, -⟩ := two_cells ((hb.block _ (Array.getElem?_eq_some_iff.1 Hra.out).1).trans Hra.out)
                      obtain ⟨b0, b1, -, -⟩ := two_cells ((hb.block _ (Array.getElem?_eq_some_iff.1 Hrb.out).1).trans Hrb.out)
                      obtain ⟨c0, c1, -, -⟩ := two_cells ((hb.block _ (Array.getElem?_eq_some_iff.1 Hrc.out).1).trans Hrc.out)
                      exact ⟨⟨⟨⟨a0, a1⟩, b0, b1⟩, c0, c1⟩, (one_cell ((hb.block _ (Array.getElem?_eq_some_iff.1 Hrf.out).1).trans Hrf.out)).1⟩
                  clear ra rb rc rf hrf ga gb gc hTa hTb hTc
                  have B0 : Hid (Below wr.heap.size wr wr.drew) := (Below.refl _ _).drew
                  have K0 := KS.out _ (Below.refl _ _)
                  have K1 := KS.out _ B0.out
                  go_wp2_with fail
                  go_region_held3 (fun w' => (((w'.cell? ⟨w1.heap.size, 0, none⟩ = some (ptrV (Ta.adr 2 0)) ∧ w'.cell? ⟨w1.heap.size, 1, none⟩ = some (.int .i64 na)) ∧ (w'.cell? ⟨w1.heap.size + 1, 0, none⟩ = some (ptrV (Tb.adr 2 0)) ∧ w'.cell? ⟨w1.heap.size + 1, 1, none⟩ = some (.int .i64 nb))) ∧ (w'.cell? ⟨w1.heap.size + 1 + 1, 0, none⟩ = some (ptrV (Tc.adr 2 0)) ∧ w'.cell? ⟨w1.heap.size + 1 + 1, 1, none⟩ = some (.int .i64 nc))) ∧ w'.cell? ⟨w2.heap.size, 0, none⟩ = some (.slice Af (finL es).length cf)) (first | exact hKeep | go_keep)
                    (first
                      | (go_at_call 25; refine (rall_any (finL es) Af cf _ (by omega) (slB Hslf.out B0.out)).mono ?_; rintro e w5 ⟨v5, rfl, hown, hbx⟩; obtain ⟨A5, c5, rfl, hs5, -⟩ := Sl.of_own hown; have HS5 := Lib.hid hs5; have B1 := Lib.hid (B0.out.trans (hbx.mono B0.out.size)); have hKeep := KS.out _ B1.out; clear hbx hown hs5)
                      | (go_at_call 24; refine (yall_any (Hga.out.below B1.out) HTa.out (finL_srt es) HS5.out).mono ?_; rintro e w6 ⟨rfl, hbx⟩; have B2 := Lib.hid (B1.out.trans (hbx.mono B1.out.size)); have hKeep := KS.out _ B2.out; clear hbx))
                  clear K0 K1
                  have B3 : Hid (Below wr.heap.size wr w6.drew) := B2.out.drew
                  have K2 := KS.out _ B2.out
                  have K3 := KS.out _ B3.out
                  have hcc : ((countL (finL es) : Int) == (countL (finL es) : Int)) = true := by simp
                  go_wp2_with fail
                  go_region_held3 (fun w' => (((w'.cell? ⟨w1.heap.size, 0, none⟩ = some (ptrV (Ta.adr 2 0)) ∧ w'.cell? ⟨w1.heap.size, 1, none⟩ = some (.int .i64 na)) ∧ (w'.cell? ⟨w1.heap.size + 1, 0, none⟩ = some (ptrV (Tb.adr 2 0)) ∧ w'.cell? ⟨w1.heap.size + 1, 1, none⟩ = some (.int .i64 nb))) ∧ (w'.cell? ⟨w1.heap.size + 1 + 1, 0, none⟩ = some (ptrV (Tc.adr 2 0)) ∧ w'.cell? ⟨w1.heap.size + 1 + 1, 1, none⟩ = some (.int .i64 nc))) ∧ w'.cell? ⟨w2.heap.size, 0, none⟩ = some (.slice Af (finL es).length cf)) (first | exact hKeep | go_keep)
                    (first
                      | (go_at_call 22; ((with_reducible refine (equal_any Ta Tb na nb _ (Lib.hid (HTr.out.below B3.out h0r)) (Lib.hid (Hga.out.below B3.out).sub) (Lib.hid (Hgb.out.below B3.out).sub)).mono ?_)); rintro e w7 ⟨rfl, hbx⟩; rw [HE1.out]; have B4 := Lib.hid (B3.out.trans (hbx.mono B3.out.size)); have hKeep := KS.out _ B4.out; clear hbx)
                      | (go_at_call 22; ((with_reducible refine (equal_any Ta Tc na nc _ (Lib.hid (HTr.out.below B4.out h0r)) (Lib.hid (Hga.out.below B4.out).sub) (Lib.hid (Hgc.out.below B4.out).sub)).mono ?_)); rintro e w8 ⟨rfl, hbx⟩; rw [HE2.out]; have B5 := Lib.hid (B4.out.trans (hbx.mono B4.out.size)); have hKeep := KS.out _ B5.out; clear hbx)
                      | (go_at_call 12; have _t := B8; ((with_reducible refine (nodes1_w (wr := wr) Hgc.out HNc.out ?_ ?_).mono ?_)); (first | exact B8.out | exact bA B8.out); (first | exact slN0 _ | exact slB (slA (slN0 _)) Hbx8.out | exact slB (slN1 _) Hbx8.out); rintro e w12 ⟨rfl, hB9, hbx⟩; have B9 := Lib.hid hB9; have hKeep := KS.out _ B9.out; clear hbx hB9 _t)
                      | (go_at_call 12; have _t := B7; ((with_reducible refine (nodes1_w (wr := wr) Hga.out HNa.out ?_ ?_).mono ?_)); (first | exact bA B7.out | exact bA (bA B7.out)); (first | exact slN0 _ | exact slA (slN0 _) | exact slN1 _); rintro e w11 ⟨rfl, hB8, hbx⟩; have B8 := Lib.hid hB8; have Hbx8 := Lib.hid hbx; have hKeep := KS.out _ B8.out; clear hbx hB8 _t)
                      | (go_at_call 12; have _t := B6; ((with_reducible refine (nodes1_w (wr := wr) Hgb.out HNb.out ?_ ?_).mono ?_)); (first | exact B6.out | exact bA B6.out); (first | exact slN0 _ | exact slB (slA (slN0 _)) Hbx6.out | exact slB (slN1 _) Hbx6.out); rintro e w10 ⟨rfl, hB7, hbx⟩; have B7 := Lib.hid hB7; have hKeep := KS.out _ B7.out; clear hbx hB7 _t)
                      | (go_at_call 12; have _t := B5; ((with_reducible refine (nodes1_w (wr := wr) Hga.out HNa.out ?_ ?_).mono ?_)); (first | exact bA B5.out | exact bA (bA B5.out)); (first | exact slN0 _ | exact slA (slN0 _) | exact slN1 _); rintro e w9 ⟨rfl, hB6, hbx⟩; have B6 := Lib.hid hB6; have Hbx6 := Lib.hid hbx; have hKeep := KS.out _ B6.out; clear hbx hB6 _t))
                  all_goals
                    go_wp2_with fail
                    go_ret
                    exact ⟨rfl, Hb1.out.trans ((HQ7.out.q.below.trans (B9.out.mono HQ7.out.q.below.size)).mono Hb1.out.size)⟩
end Go.Proofs.YtognbkmamhgkeaaDoor
