/-
  The walk of tree.differ at level 2: its children by the contract of the level below.
-/
import Derived.Test.YtognbkmamhgkeaaDoorW8
import Derived.StillTailTactics
namespace Go.Proofs.YtognbkmamhgkeaaDoor
open Go Go.RowKit Go.Walks Go.Shelf
attribute [local go_sem] Oper.semAt_some

set_option maxRecDepth 100000 in
set_option maxHeartbeats 1000000 in
theorem differ_core2 (l N B : Nat) (J Jx : List Nat → World → Prop) (HJ : Hid (AbidesFrom B J)) (T1 T2 : TV) (q lo ga gb hasA hasB : Nat) (csA csB : Array Value) (pa pb : Option Addr) (pre : List Nat) (W : World)
    (hlo : lo = q * 4096) (hhi : lo + 4096 ≤ 4096) (Ht : Hid (Tab W)) (Hj : Hid (J pre W)) (Hs1 : Hid (Sub W T1 2 q)) (Hs2 : Hid (Sub W T2 2 q)) (HN : Hid (pre.length + (diffR T1.m T2.m lo 4096).length ≤ N))
    (ih : Hid (∀ (q' lo' : Nat) (pre' : List Nat) (W' : World), lo' = q' * 256 → lo' + 256 ≤ 4096 → Tab W' → J pre' W' → Sub W' T1 1 q' → Sub W' T2 1 q' → pre'.length + (diffR T1.m T2.m lo' 256).length ≤ N →
      Calls Tryd.prog 42 #[ptrV (T1.adr 1 q'), ptrV (T2.adr 1 q'), .int .i64 1, .int .i64 lo', .func (.yield l) #[] #[]] W' (DPost J Jx W' pre' (diffR T1.m T2.m lo' 256))))
    (hA : (pa = none ∧ ga = W.heap.size) ∨ pa = some ⟨ga, 0, none⟩) (hB : (pb = none ∧ gb = W.heap.size) ∨ pb = some ⟨gb, 0, none⟩)
    (heq : (binOp .eql 29 (.pointer pa) (.pointer pb)).run Tryd.prog W = .ok (.bool false) W) (hnn : ¬ (pa = none ∧ pb = none))
    (Ra : Hid ((W.alloc (.cells zeroNode 76)).heap[ga]? = some (.cells csA 76))) (Rb : Hid ((W.alloc (.cells zeroNode 76)).heap[gb]? = some (.cells csB 76)))
    (Oa : Hid (OldRow T1 2 q hasA csA)) (Ob : Hid (OldRow T2 2 q hasB csB)) :
    Calls Tryd.prog 42 #[.pointer pa, .pointer pb, .int .i64 2, .int .i64 lo, .func (.yield l) #[] #[]] W (DPost J Jx W pre (diffR T1.m T2.m lo 4096)) := by
  have ca0 : (W.alloc (.cells zeroNode 76)).cell? ⟨ga, 0, none⟩ = some (.int .u16 hasA) := by rw [cell_of_row _ _ _ _ _ _ Ra.out]; exact Oa.out.1.c0
  have cb0 : (W.alloc (.cells zeroNode 76)).cell? ⟨gb, 0, none⟩ = some (.int .u16 hasB) := by rw [cell_of_row _ _ _ _ _ _ Rb.out]; exact Ob.out.1.c0
  have Hlo := Lib.hid hlo
  clear hlo
  have hHlt : hasA ||| hasB < 65536 := Nat.or_lt_two_pow (n := 16) Oa.out.1.lt Ob.out.1.lt
  have hHbit : ∀ j, j < 16 → (hasA ||| hasB).testBit j = (occ T1 2 (16 * q + j) || occ T2 2 (16 * q + j)) := fun j hj => by rw [Nat.testBit_or, Oa.out.2 j hj, Ob.out.2 j hj]
  have HHbit := Lib.hid hHbit
  clear hHbit
  go_enter Tryd.func42, Tryd.ntmps42
  rcases hA with ⟨rfl, rfl⟩ | rfl <;> rcases hB with ⟨rfl, rfl⟩ | rfl
  · exact absurd ⟨rfl, rfl⟩ hnn
  all_goals
    clear hnn
    go_wp2_with (refine wpList_alloc76 rfl rfl ?_)
    go_quiet (fail)
    rw [or_nat _ _ Oa.out.1.lt Ob.out.1.lt]
    have hK1 : Keeps76 W ((W.alloc (Obj.cells zeroNode 76)).drewN nq) := Keeps76.of_below (below_drewN ((Below.refl _ _).alloc (Nat.le_refl _) _) _) Ht.out.1
    have hJ1 : J pre ((W.alloc (Obj.cells zeroNode 76)).drewN nq) := HJ.out _ _ _ none (HJ.out _ _ _ none Hj.out (World.grownBy_alloc W _ none) (fun r e => by cases e)) (grown_drewN _ _) (fun r e => by cases e)
    have HK1 := Lib.hid hK1
    have HJ1 := Lib.hid hJ1
    clear hK1 hJ1
    obtain ⟨W1, hW1⟩ : ∃ W1, W1 = (W.alloc (Obj.cells zeroNode 76)).drewN nq := ⟨_, rfl⟩
    rw [← hW1] at HK1 HJ1 ⊢
    have Ra1 := rowAt_of hW1 Ra
    have Rb1 := rowAt_of hW1 Rb
    clear hW1 ca0 cb0 heq Ra Rb
  obtain ⟨ga, hga⟩ : ∃ ga, ga = W.heap.size := ⟨_, rfl⟩
  rw [← hga] at Ra1 ⊢
  clear hga
  rotate_left
  obtain ⟨gb, hgb⟩ : ∃ gb, gb = W.heap.size := ⟨_, rfl⟩
  rw [← hgb] at Rb1 ⊢
  clear hgb
  all_goals
    obtain ⟨H, hH⟩ : ∃ H, H = hasA ||| hasB := ⟨_, rfl⟩
    rw [← hH] at hHlt HHbit ⊢
    have HH := Lib.hid hH
    clear hH
    go_wp2_with fail
    go_loopw [12] (fun bo wr => ∃ both k : Nat, bo = .int .u16 both ∧ Hid (Left H both k) ∧ Hid (Keeps76 W1 wr) ∧ Hid (J (pre ++ diffR T1.m T2.m lo (k * 256)) wr)) (fun bo _ => (intOf bo).toNat)
    case atStart => exact ⟨H, 0, rfl, Left.start hHlt, Keeps76.refl _, by show J _ _; rw [Nat.zero_mul, diffR_zero, List.append_nil]; exact HJ1.out⟩
    case round =>
      obtain ⟨both, k, rfl, hLf, hKr, hJr⟩ := hrel
      by_cases hz : both = 0
      · subst hz
        have hfin : pre ++ diffR T1.m T2.m lo (k * 256) = pre ++ diffR T1.m T2.m lo 4096 := by
          have := diff_gap (m1 := T1.m) (m2 := T2.m) (L := 2) (q := q) (k := k) (i := 16) (lo := lo) (by rw [Hlo.out]) hLf.out.le (fun j hk hj x hx => by
            have hb := HHbit.out j hj
            rw [hLf.out.done j hk hj] at hb
            have hb' := hb.symm
            rw [Bool.or_eq_false_iff] at hb'
            rw [occ_none Hs1.out hj hb'.1 x hx, occ_none Hs2.out hj hb'.2 x hx])
          simp only [Nat.reducePow, Nat.reduceMul] at this
          rw [this]
        have Hfin := Lib.hid hfin
        clear hfin
        go_wp2_with fail
        go_ret
        exact .inl ⟨rfl, by rw [← Hfin.out]; exact hJr.out, HK1.out.trans hKr.out⟩
      · have hz' : ((both : Int) != 0) = true := by simp; omega
        have hlt := hLf.out.lt
        obtain ⟨i, hl⟩ := low_ex both (by omega)
        have Hl := Lib.hid hl
        clear hl hz
        obtain ⟨hki, hi16, hHi, hgap⟩ := hLf.out.low Hl.out
        have hJi : J (pre ++ diffR T1.m T2.m lo (i * 256)) wr := by
          have := diff_gap (m1 := T1.m) (m2 := T2.m) (L := 2) (q := q) (k := k) (i := i) (lo := lo) (by rw [Hlo.out]) hki (fun j hk hj x hx => by
            have hb := HHbit.out j (by omega)
            rw [hgap j hk hj] at hb
            have hb' := hb.symm
            rw [Bool.or_eq_false_iff] at hb'
            rw [occ_none Hs1.out (by omega) hb'.1 x hx, occ_none Hs2.out (by omega) hb'.2 x hx])
          simp only [Nat.reducePow] at this
          rw [this]; exact hJr.out
        have HJi := Lib.hid hJi
        have HHi := Lib.hid hHi
        clear hJi hgap hHi
        have hT : Tab wr := ⟨Nat.lt_of_lt_of_le Ht.out.1 (HK1.out.trans hKr.out).size, fun j n hj => by
          have := Ht.out.2 j n hj
          simp only [World.cell?] at this ⊢
          rw [(HK1.out.trans hKr.out).tab]; exact this⟩
        go_wp2_with (go_at_call 45; refine (tz_any both i _ hlt Hl.out hT).mono ?_; rintro e w' ⟨rfl, rfl⟩)
        have hTr : Tab wr.drew := hT
        clear hT
        have ra := hKr.out.node _ _ Ra1.out
        have rb := hKr.out.node _ _ Rb1.out
        have cai := (cell_of_row _ _ (1 + i) _ _ _ ra).trans (Oa.out.1.ck i hi16)
        have cbi := (cell_of_row _ _ (1 + i) _ _ _ rb).trans (Ob.out.1.ck i hi16)
        clear ra rb
        have hxi : (16 * q + i) * 256 = lo + i * 256 := by rw [Hlo.out]; omega
        have hs1 : Sub wr T1 1 (16 * q + i) := Sub.keep (HK1.out.trans hKr.out) (Hs1.out.2 i hi16)
        have hs2 : Sub wr T2 1 (16 * q + i) := Sub.keep (HK1.out.trans hKr.out) (Hs2.out.2 i hi16)
        have hone : diffR T1.m T2.m lo ((i + 1) * 256) = diffR T1.m T2.m lo (i * 256) ++ diffR T1.m T2.m (lo + i * 256) 256 := by rw [Nat.add_mul, Nat.one_mul, diffR_add]
        have hlen : (pre ++ diffR T1.m T2.m lo (i * 256)).length + (diffR T1.m T2.m (lo + i * 256) 256).length ≤ N := by
          have h1 := diff_len_le (m1 := T1.m) (m2 := T2.m) (lo := lo) (n := (i + 1) * 256) (k := 4096) (by omega)
          have h2 := HN.out
          rw [hone] at h1
          simp at h1 ⊢; omega
        have hcall := ih.out (16 * q + i) (lo + i * 256) (pre ++ diffR T1.m T2.m lo (i * 256)) wr.drew hxi.symm (by omega) hTr (HJ.out _ _ _ none HJi.out (grown_drewN wr 1) (fun r e => by cases e)) hs1 hs2 hlen
        have Hone := Lib.hid hone
        have Hcall := Lib.hid hcall
        clear hxi hs1 hs2 hone hlen hcall hTr
        simp only [kid] at cai cbi
        have hI1 : (0 : Int) ≤ (i : Int) := by omega
        have hI2 : (i : Int) < 16 := by omega
        go_still_tail 16, (by kernel_rfl)
        change wpList _ _ _ _ _ wr.drew
        go_wp2_with (go_at_call 42; refine Hcall.out.mono ?_; rintro e W3 (⟨rfl, hJ3, hk3⟩ | ⟨rfl, p, hp, hx3⟩))
        · rw [and_pred both (low_pos Hl.out) hlt]
          refine ⟨⟨both &&& (both - 1), i + 1, rfl, hLf.out.next Hl.out, (hKr.out.trans (Keeps76.drewN wr 1)).trans hk3, ?_⟩, by simp only [intOf, Int.toNat_natCast]; exact Left.lt_ Hl.out⟩
          show J _ _
          rw [Hone.out, ← List.append_assoc]; exact hJ3
        · go_ret
          refine .inr ⟨rfl, diffR T1.m T2.m lo (i * 256) ++ p, ?_, by rw [← List.append_assoc]; exact hx3⟩
          obtain ⟨r, hr⟩ := hp
          refine List.IsPrefix.trans (l₂ := diffR T1.m T2.m lo ((i + 1) * 256)) ⟨r, ?_⟩ (diff_prefix (by omega))
          rw [Hone.out, List.append_assoc, hr]
end Go.Proofs.YtognbkmamhgkeaaDoor
