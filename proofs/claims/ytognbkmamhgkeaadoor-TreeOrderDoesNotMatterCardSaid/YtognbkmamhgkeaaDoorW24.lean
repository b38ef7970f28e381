/-
  The walk of tree.walk at a leaf: the mapped blocks come one by one, in increasing order.
-/
import Derived.Test.YtognbkmamhgkeaaDoorW8
import Derived.Test.YtognbkmamhgkeaaDoorMw
namespace Go.Proofs.YtognbkmamhgkeaaDoor
open Go Go.RowKit Go.Walks Go.Shelf
attribute [local go_sem] Oper.semAt_some

def encE (x : Nat × Int) : Array Value := #[.int .i64 (x.1 : Int), .int .i64 x.2]
/-- What comes of walk: all entries have come, or a round has said no more. -/
def WPost (J Jx : List (Nat × Int) → World → Prop) (W : World) (pre D : List (Nat × Int)) (e : Ending) (W' : World) : Prop :=
  (e = .returned (.bool true) ∧ J (pre ++ D) W' ∧ Keeps76 W W') ∨ (e = .returned (.bool false) ∧ ∃ p, p <+: D ∧ Jx (pre ++ p) W')

def YieldsE (l N : Nat) (J Jx : List (Nat × Int) → World → Prop) : Prop :=
  ∀ pre x W, J pre W → pre.length < N → YieldAt Fence.wide 0 Tryd.prog l (encE x) W fun e W' =>
      (e = .returned (.bool true) ∧ J (pre ++ [x]) W' ∧ Keeps76 W W') ∨ (e = .returned (.bool false) ∧ Jx (pre ++ [x]) W')

set_option maxHeartbeats 400000 in
theorem walk_nil (l : Nat) (J Jx : List (Nat × Int) → World → Prop) (W : World) (pre : List (Nat × Int)) (v2 v3 v4 v5 : Value) (Hj : Hid (J pre W)) :
    Calls Tryd.prog 44 #[.pointer none, v2, v3, v4, v5, .func (.yield l) #[] #[]] W (WPost J Jx W pre []) := by
  go_enter Tryd.func44, Tryd.ntmps44
  go_wp2_with fail
  go_ret
  exact .inl ⟨rfl, by rw [List.append_nil]; exact Hj.out, Keeps76.refl _⟩

set_option maxRecDepth 100000 in
set_option maxHeartbeats 1000000 in
theorem walk_core0 (l N : Nat) (J Jx : List (Nat × Int) → World → Prop) (Hy : Hid (YieldsE l N J Jx)) (T : TV) (q lo g has : Nat) (cs : Array Value) (f t : Int) (pre : List (Nat × Int)) (W : World)
    (hlo : lo = q * 16) (hhi : lo + 16 ≤ 4096) (Hj : Hid (J pre W)) (Hs : Hid (Sub W T 0 q)) (HN : Hid (pre.length + (entR T.m f t lo 16).length ≤ N))
    (Ra : Hid (W.heap[g]? = some (.cells cs 76))) (Oa : Hid (OldRow T 0 q has cs)) :
    Calls Tryd.prog 44 #[.pointer (some ⟨g, 0, none⟩), .int .i64 0, .int .i64 lo, .int .i64 f, .int .i64 t, .func (.yield l) #[] #[]] W (WPost J Jx W pre (entR T.m f t lo 16)) := by
  have Hlo := Lib.hid hlo
  clear hlo
  go_enter Tryd.func44, Tryd.ntmps44
  go_wp2_with fail
  go_loopw [21] (fun ix wr => ∃ i : Nat, i ≤ 16 ∧ ix = .int .i64 i ∧ Hid (Keeps76 W wr) ∧ Hid (J (pre ++ entR T.m f t lo i) wr)) (fun ix _ => 16 - (intOf ix).toNat)
  case atStart => exact ⟨0, by omega, rfl, Keeps76.refl _, by show J _ _; rw [entR_zero, List.append_nil]; exact Hj.out⟩
  case round =>
    obtain ⟨i, hi, rfl, hKr, hJr⟩ := hrel
    by_cases hlt : i < 16
    · have ra := hKr.out.node _ _ Ra.out
      have ca0 := (cell_of_row _ _ 0 _ _ _ ra).trans Oa.out.1.c0
      have cai := (cell_of_row _ _ (17 + i) _ _ _ ra).trans (Oa.out.1.cc i hlt)
      clear ra
      have hI1 : (0 : Int) ≤ (i : Int) := by omega
      have hI2 : (i : Int) < 16 := by omega
      have hbt := bit_test has i Oa.out.1.lt
      have hskip : (∀ x, lo + i * 1 ≤ x → x < lo + (i + 1) * 1 → T.m x = none ∨ (x : Int) < f ∨ t ≤ (x : Int)) → entR T.m f t lo (i + 1) = entR T.m f t lo i := fun h => by
        have := ent_skip (m := T.m) (f := f) (t := t) (lo := lo) (d := 1) (i := i) h
        simpa using this
      have Hskip := Lib.hid hskip
      clear hskip
      cases hb : has.testBit i with
      | false =>
        have hbt' : (bits .and .u16 ((has : Int) / 2 ^ i) 1 == 0) = true := by
          rw [hb] at hbt; simpa using hbt
        have hno : occ T 0 (16 * q + i) = false := by rw [← Oa.out.2 i hlt]; exact hb
        have Hno := Lib.hid hno
        clear hbt hb hno
        go_wp2_with fail
        refine ⟨⟨i + 1, by omega, by go_num, hKr, ?_⟩, by simp [intOf]; omega⟩
        show J _ _
        rw [Hskip.out (fun x h1 h2 => .inl (child_none (L := 0) Hs.out hlt Hno.out (by rw [Hlo.out]) x h1 h2))]
        exact hJr.out
      | true =>
        have hbt' : (bits .and .u16 ((has : Int) / 2 ^ i) 1 == 0) = false := by
          rw [hb] at hbt; simpa using hbt
        have hyes : occ T 0 (16 * q + i) = true := by rw [← Oa.out.2 i hlt]; exact hb
        have hxi : 16 * q + i = lo + i := by rw [Hlo.out]; omega
        simp only [occ, chv, hxi] at hyes cai
        obtain ⟨c, hc⟩ := Option.isSome_iff_exists.1 hyes
        rw [hc] at cai
        simp only [Option.getD_some] at cai
        have Hc := Lib.hid hc
        clear hbt hb hyes hc hxi
        by_cases hf : (lo : Int) + (i : Int) + 1 ≤ f
        · go_wp2_with fail
          refine ⟨⟨i + 1, by omega, by go_num, hKr, ?_⟩, by simp [intOf]; omega⟩
          show J _ _
          rw [Hskip.out (fun x h1 h2 => .inr (.inl (by omega)))]
          exact hJr.out
        · by_cases ht : t ≤ (lo : Int) + (i : Int)
          · go_wp2_with fail
            refine ⟨⟨i + 1, by omega, by go_num, hKr, ?_⟩, by simp [intOf]; omega⟩
            show J _ _
            rw [Hskip.out (fun x h1 h2 => .inr (.inr (by omega)))]
            exact hJr.out
          · go_upto_region 9 with (fail)
            have hone : entR T.m f t lo (i + 1) = entR T.m f t lo i ++ [(lo + i, c)] := by rw [entR_add, entR_one Hc.out (by omega) (by omega)]
            have hlen : (pre ++ entR T.m f t lo i).length < N := by
              have h1 := ent_len_le (m := T.m) (f := f) (t := t) (lo := lo) (n := i + 1) (k := 16) (by omega)
              have h2 := HN.out
              rw [hone] at h1
              simp at h1 ⊢; omega
            obtain ⟨fn, tmps, assign, body, hy, hR⟩ := Hy.out _ (lo + i, c) _ hJr.out hlen
            simp only [encE, Int.natCast_add] at hy
            have Hone := Lib.hid hone
            clear hone hlen
            refine (wpIn_wide (n := 0)).1 ?_
            gi_wp2
            refine ⟨rfl, hR.mono ?_⟩
            clear hR hy
            rintro e W3 (⟨rfl, hJ3, hk3⟩ | ⟨rfl, hJx3⟩)
            · gi_wp2_with (refine ⟨trivial, ?_⟩)
              go_wp2_with fail
              refine ⟨⟨i + 1, by omega, by go_num, hKr.out.trans hk3, ?_⟩, by simp [intOf]; omega⟩
              show J _ _
              rw [Hone.out, ← List.append_assoc]; exact hJ3
            · gi_wp2_with (refine ⟨trivial, ?_⟩)
              go_wp2_with fail
              go_ret
              exact .inr ⟨rfl, entR T.m f t lo (i + 1), ent_prefix (by omega), by rw [Hone.out, ← List.append_assoc]; exact hJx3⟩
    · go_wp2_with fail
      go_ret
      obtain rfl : i = 16 := by omega
      exact .inl ⟨rfl, hJr.out, hKr.out⟩
end Go.Proofs.YtognbkmamhgkeaaDoor
