/-
  The walk of tree.walk at level 1: its children by the contract of the level below.
-/
import Derived.Test.YtognbkmamhgkeaaDoorW24
namespace Go.Proofs.YtognbkmamhgkeaaDoor
open Go Go.RowKit Go.Walks Go.Shelf
attribute [local go_sem] Oper.semAt_some

set_option maxRecDepth 100000 in
set_option maxHeartbeats 1000000 in
theorem walk_core1 (l N : Nat) (J Jx : List (Nat × Int) → World → Prop) (T : TV) (q lo g has : Nat) (cs : Array Value) (f t : Int) (pre : List (Nat × Int)) (W : World)
    (hlo : lo = q * 256) (hhi : lo + 256 ≤ 4096) (Hj : Hid (J pre W)) (Hs : Hid (Sub W T 1 q)) (HN : Hid (pre.length + (entR T.m f t lo 256).length ≤ N))
    (ih : Hid (∀ (q' lo' : Nat) (pre' : List (Nat × Int)) (W' : World), lo' = q' * 16 → lo' + 16 ≤ 4096 → J pre' W' → Sub W' T 0 q' → pre'.length + (entR T.m f t lo' 16).length ≤ N →
      Calls Tryd.prog 44 #[ptrV (T.adr 0 q'), .int .i64 0, .int .i64 lo', .int .i64 f, .int .i64 t, .func (.yield l) #[] #[]] W' (WPost J Jx W' pre' (entR T.m f t lo' 16))))
    (Ra : Hid (W.heap[g]? = some (.cells cs 76))) (Oa : Hid (OldRow T 1 q has cs)) :
    Calls Tryd.prog 44 #[.pointer (some ⟨g, 0, none⟩), .int .i64 1, .int .i64 lo, .int .i64 f, .int .i64 t, .func (.yield l) #[] #[]] W (WPost J Jx W pre (entR T.m f t lo 256)) := by
  have Hlo := Lib.hid hlo
  clear hlo
  go_enter Tryd.func44, Tryd.ntmps44
  go_wp2_with fail
  go_loopw [21] (fun ix wr => ∃ i : Nat, i ≤ 16 ∧ ix = .int .i64 i ∧ Hid (Keeps76 W wr) ∧ Hid (J (pre ++ entR T.m f t lo (i * 16)) wr)) (fun ix _ => 16 - (intOf ix).toNat)
  case atStart => exact ⟨0, by omega, rfl, Keeps76.refl _, by show J _ _; rw [Nat.zero_mul, entR_zero, List.append_nil]; exact Hj.out⟩
  case round =>
    obtain ⟨i, hi, rfl, hKr, hJr⟩ := hrel
    by_cases hlt : i < 16
    · have ra := hKr.out.node _ _ Ra.out
      have ca0 := (cell_of_row _ _ 0 _ _ _ ra).trans Oa.out.1.c0
      have cai := (cell_of_row _ _ (1 + i) _ _ _ ra).trans (Oa.out.1.ck i hlt)
      clear ra
      have hI1 : (0 : Int) ≤ (i : Int) := by omega
      have hI2 : (i : Int) < 16 := by omega
      have hbt := bit_test has i Oa.out.1.lt
      have hskip : (∀ x, lo + i * 16 ≤ x → x < lo + (i + 1) * 16 → T.m x = none ∨ (x : Int) < f ∨ t ≤ (x : Int)) → entR T.m f t lo ((i + 1) * 16) = entR T.m f t lo (i * 16) := fun h => ent_skip (m := T.m) (f := f) (t := t) (lo := lo) (d := 16) (i := i) h
      have Hskip := Lib.hid hskip
      clear hskip
      cases hb : has.testBit i with
      | false =>
        have hbt' : (bits .and .u16 ((has : Int) / 2 ^ i) 1 == 0) = true := by
          rw [hb] at hbt; simpa using hbt
        have hno : occ T 1 (16 * q + i) = false := by rw [← Oa.out.2 i hlt]; exact hb
        have Hno := Lib.hid hno
        clear hbt hb hno
        go_wp2_with fail
        refine ⟨⟨i + 1, by omega, by go_num, hKr, ?_⟩, by simp [intOf]; omega⟩
        show J _ _
        rw [Hskip.out (fun x h1 h2 => .inl (child_none (L := 1) Hs.out hlt Hno.out (by rw [Hlo.out]) x h1 h2))]
        exact hJr.out
      | true =>
        have hbt' : (bits .and .u16 ((has : Int) / 2 ^ i) 1 == 0) = false := by
          rw [hb] at hbt; simpa using hbt
        clear hbt hb
        simp only [kid] at cai
        by_cases hf : (lo : Int) + (i : Int) * 16 + 16 ≤ f
        · go_wp2_with fail
          refine ⟨⟨i + 1, by omega, by go_num, hKr, ?_⟩, by simp [intOf]; omega⟩
          show J _ _
          rw [Hskip.out (fun x h1 h2 => .inr (.inl (by omega)))]
          exact hJr.out
        · by_cases ht : t ≤ (lo : Int) + (i : Int) * 16
          · go_wp2_with fail
            refine ⟨⟨i + 1, by omega, by go_num, hKr, ?_⟩, by simp [intOf]; omega⟩
            show J _ _
            rw [Hskip.out (fun x h1 h2 => .inr (.inr (by omega)))]
            exact hJr.out
          · have hxi : (16 * q + i) * 16 = lo + i * 16 := by rw [Hlo.out]; omega
            have hs : Sub wr T 0 (16 * q + i) := Sub.keep hKr.out (Hs.out.2 i hlt)
            have hone : entR T.m f t lo ((i + 1) * 16) = entR T.m f t lo (i * 16) ++ entR T.m f t (lo + i * 16) 16 := ent_step
            have hlen : (pre ++ entR T.m f t lo (i * 16)).length + (entR T.m f t (lo + i * 16) 16).length ≤ N := by
              have h1 := ent_len_le (m := T.m) (f := f) (t := t) (lo := lo) (n := (i + 1) * 16) (k := 256) (by omega)
              have h2 := HN.out
              rw [hone] at h1
              simp at h1 ⊢; omega
            have hcall := ih.out (16 * q + i) (lo + i * 16) (pre ++ entR T.m f t lo (i * 16)) wr hxi.symm (by omega) hJr.out hs hlen
            have Hone := Lib.hid hone
            have Hcall := Lib.hid hcall
            clear hxi hs hone hlen hcall
            go_wp2_with (go_at_call 44; refine Hcall.out.mono ?_; rintro e W3 (⟨rfl, hJ3, hk3⟩ | ⟨rfl, p, hp, hx3⟩))
            · refine ⟨⟨i + 1, by omega, by go_num, hKr.out.trans hk3, ?_⟩, by simp [intOf]; omega⟩
              show J _ _
              rw [Hone.out, ← List.append_assoc]; exact hJ3
            · go_ret
              refine .inr ⟨rfl, entR T.m f t lo (i * 16) ++ p, ?_, by rw [← List.append_assoc]; exact hx3⟩
              obtain ⟨r, hr⟩ := hp
              refine List.IsPrefix.trans (l₂ := entR T.m f t lo ((i + 1) * 16)) ⟨r, ?_⟩ (ent_prefix (by omega))
              rw [Hone.out, List.append_assoc, hr]
    · go_wp2_with fail
      go_ret
      obtain rfl : i = 16 := by omega
      exact .inl ⟨rfl, hJr.out, hKr.out⟩
end Go.Proofs.YtognbkmamhgkeaaDoor
