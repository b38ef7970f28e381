/-
  The walk of tree.differ: the blocks that two nodes do not map alike come one by one, in increasing order.
-/
import Derived.RangeFuncNested
import Derived.RangeFuncBound
import Derived.RangeFuncCalls
import Derived.RangeFuncLeaves
import Derived.RangeFuncBox
import Derived.Shelf.Abstract
import Derived.WalkKit
import Derived.OwnWalkIn
import Derived.TacticsInMore
import Derived.Deep.RegionHeld3
import Derived.Deep.DeepCutAuto
import Derived.Test.YtognbkmamhgkeaaDoorMe
import Derived.Test.YtognbkmamhgkeaaDoorW7

namespace Go.Proofs.YtognbkmamhgkeaaDoor
open Go Go.RowKit Go.Walks Go.Shelf
attribute [local go_sem] Oper.semAt_some

theorem eql_some {w : World} {a b : Nat} (ha : NodeBlk w a) (hb : NodeBlk w b) : (binOp .eql 29 (.pointer (some ⟨a, 0, none⟩)) (.pointer (some ⟨b, 0, none⟩))).run Tryd.prog w = .ok (.bool (decide (a = b))) w := by
  have h : (Op.equal 29 (.pointer (some ⟨a, 0, none⟩)) (.pointer (some ⟨b, 0, none⟩))).run Tryd.prog w = .ok (decide (a = b)) w := equal_ptr ha hb 9999
  simp [binOp, h]

/-- What comes of differ: all blocks have come, or a round has said no more. -/
def DPost (J Jx : List Nat → World → Prop) (W : World) (pre D : List Nat) (e : Ending) (W' : World) : Prop :=
  (e = .returned (.bool true) ∧ J (pre ++ D) W' ∧ Keeps76 W W') ∨ (e = .returned (.bool false) ∧ ∃ p, p <+: D ∧ Jx (pre ++ p) W')

def Yields (l N : Nat) (J Jx : List Nat → World → Prop) : Prop :=
  ∀ pre x W, J pre W → pre.length < N → YieldAt Fence.wide 0 Tryd.prog l #[.int .i64 ((x : Nat) : Int)] W fun e W' =>
      (e = .returned (.bool true) ∧ J (pre ++ [x]) W' ∧ Keeps76 W W') ∨ (e = .returned (.bool false) ∧ Jx (pre ++ [x]) W')

set_option maxHeartbeats 400000 in
theorem differ_nil (l : Nat) (J Jx : List Nat → World → Prop) (W : World) (pre : List Nat) (v2 v3 : Value) (Hj : Hid (J pre W)) :
    Calls Tryd.prog 42 #[.pointer none, .pointer none, v2, v3, .func (.yield l) #[] #[]] W (DPost J Jx W pre []) := by
  go_enter Tryd.func42, Tryd.ntmps42
  go_wp2_with fail
  go_ret
  exact .inl ⟨rfl, by rw [List.append_nil]; exact Hj.out, Keeps76.refl _⟩

set_option maxHeartbeats 400000 in
theorem differ_same (l : Nat) (J Jx : List Nat → World → Prop) (W : World) (pre : List Nat) (v2 v3 : Value) (b : Nat) (Hb : Hid (NodeBlk W b)) (Hj : Hid (J pre W)) :
    Calls Tryd.prog 42 #[.pointer (some ⟨b, 0, none⟩), .pointer (some ⟨b, 0, none⟩), v2, v3, .func (.yield l) #[] #[]] W (DPost J Jx W pre []) := by
  have he := eql_some Hb.out Hb.out
  rw [decide_eq_true rfl] at he
  go_enter Tryd.func42, Tryd.ntmps42
  go_wp2_with fail
  go_ret
  exact .inl ⟨rfl, by rw [List.append_nil]; exact Hj.out, Keeps76.refl _⟩

theorem or_nat (a b : Nat) (ha : a < 65536) (hb : b < 65536) : bits .or .u16 (a : Int) (b : Int) = ((a ||| b : Nat) : Int) :=
  (bits_nat .u16 16 (by decide) (fun n h0 h1 => by simp [IntKind.wrap, IntKind.bits, IntKind.signed]; omega) a b ha hb).2

theorem and_pred (x : Nat) (h0 : 0 < x) (hx : x < 65536) : bits .and .u16 (x : Int) (IntKind.u16.wrap ((x : Int) - 1)) = ((x &&& (x - 1) : Nat) : Int) := by
  have e : IntKind.u16.wrap ((x : Int) - 1) = ((x - 1 : Nat) : Int) := by
    show ((x : Int) - 1) % 65536 = _
    omega
  rw [e]
  exact (bits_nat .u16 16 (by decide) (fun n h0 h1 => by simp [IntKind.wrap, IntKind.bits, IntKind.signed]; omega) x (x - 1) hx (by omega)).1

theorem xor_bit (a b i : Nat) (ha : a < 65536) (hb : b < 65536) : (bits .and .u16 (bits .xor .u16 (a : Int) (b : Int) / 2 ^ i) 1 != 0) = (a.testBit i != b.testBit i) := by
  have hx : a ^^^ b < 65536 := Nat.xor_lt_two_pow (n := 16) ha hb
  have e : bits .xor .u16 (a : Int) (b : Int) = ((a ^^^ b : Nat) : Int) := by
    have e2 : (BitVec.ofNat IntKind.u16.bits a ^^^ BitVec.ofNat IntKind.u16.bits b).toNat = a ^^^ b := by
      rw [BitVec.toNat_xor, BitVec.toNat_ofNat, BitVec.toNat_ofNat]
      show a % 2 ^ 16 ^^^ b % 2 ^ 16 = _
      rw [Nat.mod_eq_of_lt ha, Nat.mod_eq_of_lt hb]
    simp only [bits, BitVec.ofInt_natCast, e2]
    generalize a ^^^ b = z at hx
    show (z : Int) % 65536 = z
    omega
  rw [e, bit_test _ _ hx, Nat.testBit_xor]

theorem leaf_case (a b : Option Int) {X : Bool} (hxb : X = (a.isSome != b.isSome)) (hor : true = (a.isSome || b.isSome)) :
    (X = true ∧ a ≠ b) ∨ (X = false ∧ ((a.getD 0 != b.getD 0) = true ∧ a ≠ b ∨ (a.getD 0 != b.getD 0) = false ∧ a = b)) := by
  cases a with
  | none =>
    cases b with
    | none => simp at hor
    | some c => left; exact ⟨by simpa using hxb, by simp⟩
  | some c1 =>
    cases b with
    | none => left; exact ⟨by simpa using hxb, by simp⟩
    | some c2 =>
      right
      refine ⟨by simpa using hxb, ?_⟩
      by_cases hcc : c1 = c2
      · right; simp [hcc]
      · left; simp [hcc]

theorem rowAt_of {W0 W1 : World} {n g : Nat} {o : Obj} (h : W1 = W0.drewN n) (r : Hid (W0.heap[g]? = some o)) : Hid (W1.heap[g]? = some o) := by rw [h]; exact r.out

theorem Keeps76.drewN (W : World) (n : Nat) : Keeps76 W (W.drewN n) := ⟨Nat.le_refl _, fun _ _ h => h, rfl⟩
theorem grown_drewN (W : World) (n : Nat) : W.grownBy (W.drewN n) none := ⟨rfl, rfl, rfl, Nat.le_refl _, fun _ _ _ => rfl⟩

set_option maxRecDepth 100000 in
set_option maxHeartbeats 1000000 in
theorem differ_core0 (l N B : Nat) (J Jx : List Nat → World → Prop) (Hy : Hid (Yields l N J Jx)) (HJ : Hid (AbidesFrom B J)) (T1 T2 : TV) (q lo ga gb hasA hasB : Nat) (csA csB : Array Value) (pa pb : Option Addr) (pre : List Nat) (W : World)
    (hlo : lo = q * 16) (hhi : lo + 16 ≤ 4096) (Ht : Hid (Tab W)) (Hj : Hid (J pre W)) (Hs1 : Hid (Sub W T1 0 q)) (Hs2 : Hid (Sub W T2 0 q)) (HN : Hid (pre.length + (diffR T1.m T2.m lo 16).length ≤ N))
    (hA : (pa = none ∧ ga = W.heap.size) ∨ pa = some ⟨ga, 0, none⟩) (hB : (pb = none ∧ gb = W.heap.size) ∨ pb = some ⟨gb, 0, none⟩)
    (heq : (binOp .eql 29 (.pointer pa) (.pointer pb)).run Tryd.prog W = .ok (.bool false) W) (hnn : ¬ (pa = none ∧ pb = none))
    (Ra : Hid ((W.alloc (.cells zeroNode 76)).heap[ga]? = some (.cells csA 76))) (Rb : Hid ((W.alloc (.cells zeroNode 76)).heap[gb]? = some (.cells csB 76)))
    (Oa : Hid (OldRow T1 0 q hasA csA)) (Ob : Hid (OldRow T2 0 q hasB csB)) :
    Calls Tryd.prog 42 #[.pointer pa, .pointer pb, .int .i64 0, .int .i64 lo, .func (.yield l) #[] #[]] W (DPost J Jx W pre (diffR T1.m T2.m lo 16)) := by
  have ca0 : (W.alloc (.cells zeroNode 76)).cell? ⟨ga, 0, none⟩ = some (.int .u16 hasA) := by rw [cell_of_row _ _ _ _ _ _ Ra.out]; exact Oa.out.1.c0
  have cb0 : (W.alloc (.cells zeroNode 76)).cell? ⟨gb, 0, none⟩ = some (.int .u16 hasB) := by rw [cell_of_row _ _ _ _ _ _ Rb.out]; exact Ob.out.1.c0
  have Hlo := Lib.hid hlo
  clear hlo
  have hHlt : hasA ||| hasB < 65536 := Nat.or_lt_two_pow (n := 16) Oa.out.1.lt Ob.out.1.lt
  have hHbit : ∀ j, j < 16 → (hasA ||| hasB).testBit j = (occ T1 0 (16 * q + j) || occ T2 0 (16 * q + j)) := fun j hj => by rw [Nat.testBit_or, Oa.out.2 j hj, Ob.out.2 j hj]
  have HHbit := Lib.hid hHbit
  clear hHbit
  go_enter Tryd.func42, Tryd.ntmps42
  rcases hA with ⟨rfl, rfl⟩ | rfl <;> rcases hB with ⟨rfl, rfl⟩ | rfl
  · exact absurd ⟨rfl, rfl⟩ hnn
  all_goals
    clear hnn
    go_wp2_with (refine wpList_alloc76 rfl rfl ?_)
    go_quiet (fail)
    rw [or_nat _ _ Oa.out.1.lt Ob.out.1.lt]
    have hK1 : Keeps76 W ((W.alloc (Obj.cells zeroNode 76)).drewN nq) := Keeps76.of_below (below_drewN ((Below.refl _ _).alloc (Nat.le_refl _) _) _) Ht.out.1
    have hJ1 : J pre ((W.alloc (Obj.cells zeroNode 76)).drewN nq) := HJ.out _ _ _ none (HJ.out _ _ _ none Hj.out (World.grownBy_alloc W _ none) (fun r e => by cases e)) (grown_drewN _ _) (fun r e => by cases e)
    have HK1 := Lib.hid hK1
    have HJ1 := Lib.hid hJ1
    clear hK1 hJ1
    obtain ⟨W1, hW1⟩ : ∃ W1, W1 = (W.alloc (Obj.cells zeroNode 76)).drewN nq := ⟨_, rfl⟩
    rw [← hW1] at HK1 HJ1 ⊢
    have Ra1 := rowAt_of hW1 Ra
    have Rb1 := rowAt_of hW1 Rb
    clear hW1 ca0 cb0 heq
    obtain ⟨H, hH⟩ : ∃ H, H = hasA ||| hasB := ⟨_, rfl⟩
    rw [← hH] at hHlt HHbit ⊢
    have HH := Lib.hid hH
    clear hH
    go_wp2_with fail
    go_loopw [12] (fun bo wr => ∃ both k : Nat, bo = .int .u16 both ∧ Hid (Left H both k) ∧ Hid (Keeps76 W1 wr) ∧ Hid (J (pre ++ diffR T1.m T2.m lo k) wr)) (fun bo _ => (intOf bo).toNat)
    case atStart => exact ⟨H, 0, rfl, Left.start hHlt, Keeps76.refl _, by show J _ _; rw [diffR_zero, List.append_nil]; exact HJ1.out⟩
    case round =>
      obtain ⟨both, k, rfl, hLf, hKr, hJr⟩ := hrel
      by_cases hz : both = 0
      · subst hz
        have hfin : pre ++ diffR T1.m T2.m lo k = pre ++ diffR T1.m T2.m lo 16 := by
          have := diff_gap (m1 := T1.m) (m2 := T2.m) (L := 0) (q := q) (k := k) (i := 16) (lo := lo) (by rw [Hlo.out]) hLf.out.le (fun j hk hj x hx => by
            have hb := HHbit.out j hj
            rw [hLf.out.done j hk hj] at hb
            have hb' := hb.symm
            rw [Bool.or_eq_false_iff] at hb'
            rw [occ_none Hs1.out hj hb'.1 x hx, occ_none Hs2.out hj hb'.2 x hx])
          simp only [Nat.pow_zero, Nat.mul_one] at this
          rw [this]
        have Hfin := Lib.hid hfin
        clear hfin
        go_wp2_with fail
        go_ret
        exact .inl ⟨rfl, by rw [← Hfin.out]; exact hJr.out, HK1.out.trans hKr.out⟩
      · have hz' : ((both : Int) != 0) = true := by simp; omega
        have hlt := hLf.out.lt
        obtain ⟨i, hl⟩ := low_ex both (by omega)
        have Hl := Lib.hid hl
        clear hl hz
        obtain ⟨hki, hi16, hHi, hgap⟩ := hLf.out.low Hl.out
        have hJi : J (pre ++ diffR T1.m T2.m lo i) wr := by
          have := diff_gap (m1 := T1.m) (m2 := T2.m) (L := 0) (q := q) (k := k) (i := i) (lo := lo) (by rw [Hlo.out]) hki (fun j hk hj x hx => by
            have hb := HHbit.out j (by omega)
            rw [hgap j hk hj] at hb
            have hb' := hb.symm
            rw [Bool.or_eq_false_iff] at hb'
            rw [occ_none Hs1.out (by omega) hb'.1 x hx, occ_none Hs2.out (by omega) hb'.2 x hx])
          simp only [Nat.pow_zero, Nat.mul_one] at this
          rw [this]; exact hJr.out
        have HJi := Lib.hid hJi
        have HHi := Lib.hid hHi
        clear hJi hgap hHi
        have hT : Tab wr := ⟨Nat.lt_of_lt_of_le Ht.out.1 (HK1.out.trans hKr.out).size, fun j n hj => by
          have := Ht.out.2 j n hj
          simp only [World.cell?] at this ⊢
          rw [(HK1.out.trans hKr.out).tab]; exact this⟩
        go_wp2_with (go_at_call 45; refine (tz_any both i _ hlt Hl.out hT).mono ?_; rintro e w' ⟨rfl, rfl⟩)
        clear hT
        have ra := hKr.out.node _ _ Ra1.out
        have rb := hKr.out.node _ _ Rb1.out
        have ca0 := (cell_of_row _ _ 0 _ _ _ ra).trans Oa.out.1.c0
        have cb0 := (cell_of_row _ _ 0 _ _ _ rb).trans Ob.out.1.c0
        have cai := (cell_of_row _ _ (17 + i) _ _ _ ra).trans (Oa.out.1.cc i hi16)
        have cbi := (cell_of_row _ _ (17 + i) _ _ _ rb).trans (Ob.out.1.cc i hi16)
        clear ra rb
        have hxb := xor_bit hasA hasB i Oa.out.1.lt Ob.out.1.lt
        rw [Oa.out.2 i hi16, Ob.out.2 i hi16] at hxb
        have hor := HHbit.out i hi16
        rw [HHi.out] at hor
        have hxi : 16 * q + i = lo + i := by rw [Hlo.out]; omega
        simp only [occ, chv, hxi] at hxb hor cai cbi
        have hcase := leaf_case (T1.m (lo + i)) (T2.m (lo + i)) hxb hor
        clear hxb hor hxi
        rcases hcase with ⟨hx, hne⟩ | ⟨hx, ⟨hc, hne⟩ | ⟨hc, he⟩⟩
        · have Hne := Lib.hid hne
          clear hne
          go_quiet (fail)
          go_upto_region 17 with (fail)
          have hJd : J (pre ++ diffR T1.m T2.m lo i) (wr.drewN nq) := HJ.out _ _ _ none HJi.out (grown_drewN _ _) (fun r e => by cases e)
          have hone : diffR T1.m T2.m lo (i + 1) = diffR T1.m T2.m lo i ++ [lo + i] := by rw [diffR_add, diffR_one, if_pos Hne.out]
          have hlen : (pre ++ diffR T1.m T2.m lo i).length < N := by
            have h1 := diff_len_le (m1 := T1.m) (m2 := T2.m) (lo := lo) (n := i + 1) (k := 16) (by omega)
            have h2 := HN.out
            rw [hone] at h1
            simp at h1 ⊢; omega
          obtain ⟨fn, tmps, assign, body, hy, hR⟩ := Hy.out _ (lo + i) _ hJd hlen
          simp only [Int.natCast_add] at hy
          have Hone := Lib.hid hone
          clear hJd hone hlen
          refine (wpIn_wide (n := 0)).1 ?_
          gi_wp2
          refine ⟨rfl, hR.mono ?_⟩
          clear hR hy
          rintro e W3 (⟨rfl, hJ3, hk3⟩ | ⟨rfl, hJx3⟩)
          · gi_wp2
            go_wp2_with fail
            rw [and_pred both (low_pos Hl.out) hlt]
            refine ⟨⟨both &&& (both - 1), i + 1, rfl, hLf.out.next Hl.out, (hKr.out.trans (Keeps76.drewN _ _)).trans hk3, ?_⟩, by simp only [intOf, Int.toNat_natCast]; exact Left.lt_ Hl.out⟩
            show J _ _
            rw [Hone.out, ← List.append_assoc]; exact hJ3
          · gi_wp2
            go_wp2_with fail
            go_ret
            exact .inr ⟨rfl, diffR T1.m T2.m lo (i + 1), diff_prefix (by omega), by rw [Hone.out, ← List.append_assoc]; exact hJx3⟩
        · have Hne := Lib.hid hne
          clear hne
          go_quiet (fail)
          go_upto_region 17 with (fail)
          have hJd : J (pre ++ diffR T1.m T2.m lo i) (wr.drewN nq) := HJ.out _ _ _ none HJi.out (grown_drewN _ _) (fun r e => by cases e)
          have hone : diffR T1.m T2.m lo (i + 1) = diffR T1.m T2.m lo i ++ [lo + i] := by rw [diffR_add, diffR_one, if_pos Hne.out]
          have hlen : (pre ++ diffR T1.m T2.m lo i).length < N := by
            have h1 := diff_len_le (m1 := T1.m) (m2 := T2.m) (lo := lo) (n := i + 1) (k := 16) (by omega)
            have h2 := HN.out
            rw [hone] at h1
            simp at h1 ⊢; omega
          obtain ⟨fn, tmps, assign, body, hy, hR⟩ := Hy.out _ (lo + i) _ hJd hlen
          simp only [Int.natCast_add] at hy
          have Hone := Lib.hid hone
          clear hJd hone hlen
          refine (wpIn_wide (n := 0)).1 ?_
          gi_wp2
          refine ⟨rfl, hR.mono ?_⟩
          clear hR hy
          rintro e W3 (⟨rfl, hJ3, hk3⟩ | ⟨rfl, hJx3⟩)
          · gi_wp2
            go_wp2_with fail
            rw [and_pred both (low_pos Hl.out) hlt]
            refine ⟨⟨both &&& (both - 1), i + 1, rfl, hLf.out.next Hl.out, (hKr.out.trans (Keeps76.drewN _ _)).trans hk3, ?_⟩, by simp only [intOf, Int.toNat_natCast]; exact Left.lt_ Hl.out⟩
            show J _ _
            rw [Hone.out, ← List.append_assoc]; exact hJ3
          · gi_wp2
            go_wp2_with fail
            go_ret
            exact .inr ⟨rfl, diffR T1.m T2.m lo (i + 1), diff_prefix (by omega), by rw [Hone.out, ← List.append_assoc]; exact hJx3⟩
        · have He := Lib.hid he
          clear he
          go_quiet (fail)
          go_wp2_with fail
          rw [and_pred both (low_pos Hl.out) hlt]
          have hone : diffR T1.m T2.m lo (i + 1) = diffR T1.m T2.m lo i := by rw [diffR_add, diffR_one, if_neg (by simp [He.out]), List.append_nil]
          refine ⟨⟨both &&& (both - 1), i + 1, rfl, hLf.out.next Hl.out, hKr.out.trans (Keeps76.drewN _ _), ?_⟩, by simp only [intOf, Int.toNat_natCast]; exact Left.lt_ Hl.out⟩
          show J _ _
          rw [hone]; exact HJ.out _ _ _ none HJi.out (grown_drewN _ _) (fun r e => by cases e)
end Go.Proofs.YtognbkmamhgkeaaDoor
