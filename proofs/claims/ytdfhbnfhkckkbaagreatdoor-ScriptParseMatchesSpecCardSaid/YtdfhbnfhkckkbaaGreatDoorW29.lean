/-
  The walk of the reference's Same (printed by genW29.py).
-/
import Derived.Test.YtdfhbnfhkckkbaaGreatDoorW28
namespace Go.Proofs.YtdfhbnfhkckkbaaGreatDoor
open Go Go.RowKit Go.Walks

/-- A script's block among the reference's. -/
structure CR (w : World) (g : Nat) (cs : Array Value) (W : World) : Prop where
  below : Below w.heap.size w W
  row : W.heap[g]? = some (.cells cs 27)
theorem CR.call {w W W' : World} {g : Nat} {cs : Array Value} (h : CR w g cs W) (hb : Below W.heap.size W W') : CR w g cs W' := ⟨h.below.trans (hb.mono h.below.size), (hb.block _ (Array.getElem?_eq_some_iff.1 h.row).1).trans h.row⟩
theorem CR.start (w : World) (cs : Array Value) : CR w w.heap.size cs (w.alloc (.cells cs 27)) := ⟨(Below.refl _ _).alloc (Nat.le_refl _) _, heap_new _ _⟩
theorem CR.cells {w W : World} {g : Nat} {a b c d e f : Int} {T U : Option Addr} {nt tc ns uc : Nat} (h : CR w g (scrCs a b c d e f T nt tc U ns uc) W) :
    (W.cell? ⟨g, 0, none⟩ = some (.int .i64 a) ∧ W.cell? ⟨g, 1, none⟩ = some (.int .i64 b) ∧ W.cell? ⟨g, 2, none⟩ = some (.int .i64 c) ∧ W.cell? ⟨g, 3, none⟩ = some (.int .i64 d) ∧ W.cell? ⟨g, 4, none⟩ = some (.int .i64 e) ∧ W.cell? ⟨g, 5, none⟩ = some (.int .i64 f)) ∧ W.cell? ⟨g, 6, none⟩ = some (.slice T nt tc) ∧ W.cell? ⟨g, 7, none⟩ = some (.slice U ns uc) :=
  ⟨⟨(cell_at h.row 0 rfl).1, (cell_at h.row 1 rfl).1, (cell_at h.row 2 rfl).1, (cell_at h.row 3 rfl).1, (cell_at h.row 4 rfl).1, (cell_at h.row 5 rfl).1⟩, (cell_at h.row 6 rfl).1, (cell_at h.row 7 rfl).1⟩

set_option maxRecDepth 100000 in
set_option maxHeartbeats 4000000 in
theorem rsame_any (S S' : ScriptD) (u v : Value) (w : World) (H1 : Hid (ScriptS w S u)) (H2 : Hid (ScriptS w S' v)) (HL : Hid (ScriptL S)) : Calls Tryz.prog 24 #[u, v] w (BoolR (decide (S = S')) w) := by
  obtain ⟨a, b, c, d, e, f, T, tc, U, uc, rfl, hp⟩ := H1.out
  obtain ⟨a', b', c', d', e', f', T', tc', U', uc', rfl, hp'⟩ := H2.out
  obtain ⟨x, hx⟩ : ∃ x, x = decide (S = S') := ⟨_, rfl⟩
  rw [← hx]
  have Hx : Hid (x = (decide (S.cfg = S'.cfg) && (decide (S.texts = S'.texts) && decide (S.steps = S'.steps)))) := by
    show _ = _
    rw [hx, Bool.eq_iff_iff, Bool.and_eq_true, Bool.and_eq_true, decide_eq_true_eq, decide_eq_true_eq, decide_eq_true_eq, decide_eq_true_eq]
    obtain ⟨p, q, r⟩ := S
    obtain ⟨p', q', r'⟩ := S'
    simp
  have Hcfg : Hid (S.cfg = [a, b, c, d, e, f] ∧ S'.cfg = [a', b', c', d', e', f']) := ⟨hp.cfg, hp'.cfg⟩
  obtain ⟨ms, hms, hst⟩ := hp.stp
  obtain ⟨ms', hms', hst'⟩ := hp'.stp
  have Hms := Lib.hid (And.intro hms hst)
  have Hms' := Lib.hid (And.intro hms' hst')
  have Htx := Lib.hid (And.intro hp.txt hp'.txt)
  obtain ⟨nt, hnt⟩ : ∃ n, n = S.texts.length := ⟨_, rfl⟩
  obtain ⟨ns, hns⟩ : ∃ n, n = S.steps.length := ⟨_, rfl⟩
  obtain ⟨nt', hnt'⟩ : ∃ n, n = S'.texts.length := ⟨_, rfl⟩
  obtain ⟨ns', hns'⟩ : ∃ n, n = S'.steps.length := ⟨_, rfl⟩
  have hntl : nt ≤ 9223372036854775807 := by have := HL.out.tl; unfold maxLen at this; omega
  have hnsl : ns ≤ 9223372036854775807 := by have := HL.out.sl; unfold maxLen at this; omega
  obtain ⟨g1, hg1⟩ : ∃ g, g = w.heap.size := ⟨_, rfl⟩
  obtain ⟨g2, hg2⟩ : ∃ g, g = w.heap.size + 1 := ⟨_, rfl⟩
  obtain ⟨W1, hW1⟩ : ∃ W, W = w.alloc (.cells (scrCs a b c d e f T nt tc U ns uc) 27) := ⟨_, rfl⟩
  obtain ⟨W2, hW2⟩ : ∃ W, W = W1.alloc (.cells (scrCs a' b' c' d' e' f' T' nt' tc' U' ns' uc') 27) := ⟨_, rfl⟩
  have hc1 : CR w g1 (scrCs a b c d e f T nt tc U ns uc) W1 := by rw [hW1, hg1]; exact CR.start w _
  have hs1 : W1.heap.size = g2 := by rw [hW1, hg2]; simp
  have hc2 : CR W1 g2 (scrCs a' b' c' d' e' f' T' nt' tc' U' ns' uc') W2 := by rw [hW2, ← hs1]; exact CR.start W1 _
  have HC1 : Hid (CR w g1 (scrCs a b c d e f T nt tc U ns uc) W2) := hc1.call hc2.below
  have HC2 : Hid (CR w g2 (scrCs a' b' c' d' e' f' T' nt' tc' U' ns' uc') W2) := ⟨HC1.out.below, hc2.row⟩
  rw [← hnt, ← hns, ← hnt', ← hns']
  have HN := Lib.hid (And.intro (And.intro hnt hnt') (And.intro hns hns'))
  clear hnt hns hnt' hns' hc1 hs1 hc2 hx hp hp' hms hst hms' hst' H1 H2
  obtain ⟨⟨z0, z1, z2, z3, z4, z5⟩, z6, z7⟩ := HC1.out.cells
  obtain ⟨⟨y0, y1, y2, y3, y4, y5⟩, y6, y7⟩ := HC2.out.cells
  go_enter Tryz.func24, Tryz.ntmps24
  go_upto_region 1 with fail
  rw [← hg2, ← hg1, ← hW1, ← hW2]
  clear hg1 hg2 hW1 hW2
  by_cases h0 : a = a' ∧ b = b' ∧ c = c' ∧ d = d' ∧ e = e' ∧ f = f'
  · obtain ⟨rfl, rfl, rfl, rfl, rfl, rfl⟩ := h0
    have Hx2 : Hid (x = (decide (S.texts = S'.texts) && decide (S.steps = S'.steps))) := by
      show _ = _
      rw [Hx.out, decide_eq_true (by rw [Hcfg.out.1, Hcfg.out.2]), Bool.true_and]
    by_cases h1 : nt = nt' ∧ ns = ns'
    · obtain ⟨rfl, rfl⟩ := h1
      have q1 : ((nt : Int) != nt) = false := by simp
      have q2 : ((ns : Int) != ns) = false := by simp
      go_wp2_with fail
      clear q1 q2 z0 z1 z2 z3 z4 z5 z6 z7 y0 y1 y2 y3 y4 y5 y6 y7
      go_loopg [5] nt (fun gh s5 wr => ∃ k : Nat, s5 = .int .i64 (k : Int) ∧ gh = nt - k ∧ k ≤ nt ∧ Hid (S.texts.take k = S'.texts.take k) ∧ Hid (CR w g1 (scrCs a b c d e f T nt tc U ns uc) wr ∧ CR w g2 (scrCs a b c d e f T' nt tc' U' ns uc') wr))
      case atStart => exact ⟨0, rfl, rfl, Nat.zero_le _, rfl, HC1.out, HC2.out⟩
      case round =>
        obtain ⟨k, rfl, hgh, hk, HT, HW⟩ := hrel
        obtain ⟨-, z6, z7⟩ := HW.out.1.cells
        obtain ⟨-, y6, y7⟩ := HW.out.2.cells
        by_cases hlt : k < nt
        · have hI1 : (0 : Int) ≤ (k : Int) := by omega
          have hI2 : (k : Int) < (nt : Int) := by omega
          obtain ⟨p, hp⟩ : ∃ y, S.texts[k]? = some y := ⟨S.texts[k]'(by rw [← HN.out.1.1]; exact hlt), List.getElem?_eq_getElem _⟩
          obtain ⟨q, hq⟩ : ∃ y, S'.texts[k]? = some y := ⟨S'.texts[k]'(by rw [← HN.out.1.2]; exact hlt), List.getElem?_eq_getElem _⟩
          obtain ⟨b1, o1, hA, -, c1⟩ := str_at (Htx.out.1.below HW.out.1.below) hp
          obtain ⟨b2, o2, hB, -, c2⟩ := str_at (Htx.out.2.below HW.out.1.below) hq
          subst hA hB
          have Hpq : Hid (S.texts[k]? = some p ∧ S'.texts[k]? = some q) := ⟨hp, hq⟩
          have hd : Below wr.heap.size wr wr.drew := (Below.refl _ _).drew
          have HWd := Lib.hid (And.intro (HW.out.1.call hd) (HW.out.2.call hd))
          clear hp hq hd
          by_cases he : p = q
          · subst he
            have HT2 := Lib.hid (take_eq_step Hpq.out.1 Hpq.out.2 HT.out rfl)
            go_upto_region 6 with fail
            go_region
            clear c1 c2 z6 z7 y6 y7
            go_wp2_with fail
            go_roundg (nt - (k + 1))
            case measure => omega
            case rel => exact ⟨k + 1, by go_num, rfl, by omega, HT2, HWd⟩
          · have q3 : (p == q) = false := str_beq he
            have q4 : (p != q) = true := by rw [bne_iff_ne]; exact he
            have HNE : Hid (x = false) := by
              show _ = _
              rw [Hx2.out, decide_eq_false, Bool.false_and]
              intro h
              refine he ?_
              have h1 := Hpq.out.1
              rw [h, Hpq.out.2] at h1
              injection h1 with h1
              exact h1.symm
            clear he
            go_upto_region 6 with fail
            go_region
            clear c1 c2 z6 z7 y6 y7
            go_wp2_with fail
            go_ret
            exact ⟨by rw [HNE.out]; rfl, HWd.out.1.below⟩
        · have hke : k = nt := by omega
          have hI3 : ¬ (k : Int) < (nt : Int) := by omega
          have Hx3 : Hid (x = decide (S.steps = S'.steps)) := by
            have := HT.out
            have e1 : S.texts.take k = S.texts := List.take_of_length_le (by have := HN.out.1.1; omega)
            have e2 : S'.texts.take k = S'.texts := List.take_of_length_le (by have := HN.out.1.2; omega)
            rw [e1, e2] at this
            show _ = _
            rw [Hx2.out, decide_eq_true this, Bool.true_and]
          clear hlt hke
          go_wp2_with fail
          clear z6 z7 y6 y7
          go_loopg [6] ns (fun gh s6 wr => ∃ k : Nat, s6 = .int .i64 (k : Int) ∧ gh = ns - k ∧ k ≤ ns ∧ Hid (S.steps.take k = S'.steps.take k) ∧ Hid (CR w g1 (scrCs a b c d e f T nt tc U ns uc) wr ∧ CR w g2 (scrCs a b c d e f T' nt tc' U' ns uc') wr))
          case atStart => exact ⟨0, rfl, rfl, Nat.zero_le _, rfl, HW.out⟩
          case round =>
            obtain ⟨j, rfl, hgh, hj, HT, HW⟩ := hrel
            obtain ⟨-, z6, z7⟩ := HW.out.1.cells
            obtain ⟨-, y6, y7⟩ := HW.out.2.cells
            by_cases hlt : j < ns
            · have hI1 : (0 : Int) ≤ (j : Int) := by omega
              have hI2 : (j : Int) < (ns : Int) := by omega
              obtain ⟨p, hp⟩ : ∃ y, S.steps[j]? = some y := ⟨S.steps[j]'(by rw [← HN.out.2.1]; exact hlt), List.getElem?_eq_getElem _⟩
              obtain ⟨q, hq⟩ : ∃ y, S'.steps[j]? = some y := ⟨S'.steps[j]'(by rw [← HN.out.2.2]; exact hlt), List.getElem?_eq_getElem _⟩
              have hpl := HL.out.arg p (List.mem_of_getElem? hp)
              obtain ⟨b1, o1, A1, c1, hA, hw1, k1, k2, k3, k4⟩ := step_at Hms.out.1 Hms.out.2 (Below.refl _ _) hp
              obtain ⟨b2, o2, A2, c2, hB, hw2, m1, m2, m3, m4⟩ := step_at Hms'.out.1 Hms'.out.2 (Below.refl _ _) hq
              have hd : Below wr.heap.size wr wr.drew := (Below.refl _ _).drew
              have HWd := Lib.hid (And.intro (HW.out.1.call hd) (HW.out.2.call hd))
              have e1 := (HWd.out.1.below.cell (p := ⟨b1, o1 + j * 2, none⟩) hw1).trans k1
              have e2 := (HWd.out.1.below.cell (p := ⟨b1, o1 + j * 2 + 1, none⟩) hw1).trans k2
              have e3 := (HWd.out.1.below.cell (p := ⟨b2, o2 + j * 2, none⟩) hw2).trans m1
              have e4 := (HWd.out.1.below.cell (p := ⟨b2, o2 + j * 2 + 1, none⟩) hw2).trans m2
              subst hA hB
              have Hpq : Hid (S.steps[j]? = some p ∧ S'.steps[j]? = some q) := ⟨hp, hq⟩
              have HI : Hid (∀ W, Below w.heap.size w W → Calls Tryz.prog 63 #[.slice A1 p.args.length c1, .slice A2 q.args.length c2] W (BoolR (decide (p.args = q.args)) W)) := fun W hb => sameInts_any p.args q.args A1 A2 c1 c2 W hpl ((k3.below hb).more hb.size) ((m3.below hb).more hb.size)
              obtain ⟨n1, hn1⟩ : ∃ n, n = p.args.length := ⟨_, rfl⟩
              obtain ⟨n2, hn2⟩ : ∃ n, n = q.args.length := ⟨_, rfl⟩
              obtain ⟨d1, hd1⟩ : ∃ n, n = p.kind := ⟨_, rfl⟩
              obtain ⟨d2, hd2⟩ : ∃ n, n = q.kind := ⟨_, rfl⟩
              rw [← hn1, ← hn2] at HI
              rw [← hn1] at e2
              rw [← hn2] at e4
              rw [← hd1] at e1
              rw [← hd2] at e3
              have Hdd := Lib.hid (And.intro hd1 hd2)
              have HE := Lib.hid (And.intro (And.intro e1 e2) (And.intro e3 e4))
              have Hbw := Lib.hid (And.intro hw1 hw2)
              have hz7 : wr.drew.cell? ⟨g1, 7, none⟩ = some (.slice (some ⟨b1, o1, none⟩) ns uc) := z7
              have hy7 : wr.drew.cell? ⟨g2, 7, none⟩ = some (.slice (some ⟨b2, o2, none⟩) ns uc') := y7
              have HZ := Lib.hid (And.intro hz7 hy7)
              clear hp hq hd k1 k2 k3 k4 m1 m2 m3 m4 hw1 hw2 hpl hn1 hn2 hd1 hd2 e1 e2 e3 e4 hz7 hy7
              by_cases hk : d1 = d2
              · subst hk
                cases hargs : decide (p.args = q.args) with
                | true =>
                  have HIb : Hid (∀ W, Below w.heap.size w W → Calls Tryz.prog 63 #[.slice A1 n1 c1, .slice A2 n2 c2] W (BoolR true W)) := fun W hb => by have := HI.out W hb; rw [hargs] at this; exact this
                  have HT2 : Hid (S.steps.take (j + 1) = S'.steps.take (j + 1)) := take_eq_step Hpq.out.1 Hpq.out.2 HT.out (by
                    have h1 := of_decide_eq_true hargs
                    obtain ⟨pk, pa⟩ := p
                    obtain ⟨qk, qa⟩ := q
                    have h2 : pk = qk := Hdd.out.1.symm.trans Hdd.out.2
                    have h3 : pa = qa := h1
                    rw [h2, h3])
                  clear hargs
                  go_upto_region 11 with fail
                  refine wp_region_held_drew (S := (fun W => (W.cell? ⟨g1, 7, none⟩ = some (.slice (some ⟨b1, o1, none⟩) ns uc) ∧ W.cell? ⟨g2, 7, none⟩ = some (.slice (some ⟨b2, o2, none⟩) ns uc')) ∧ (W.cell? ⟨b1, o1 + j * 2, none⟩ = some (.int .i64 d1) ∧ W.cell? ⟨b1, o1 + j * 2 + 1, none⟩ = some (.slice A1 n1 c1)) ∧ W.cell? ⟨b2, o2 + j * 2, none⟩ = some (.int .i64 d1) ∧ W.cell? ⟨b2, o2 + j * 2 + 1, none⟩ = some (.slice A2 n2 c2))) (by kernel_rfl) ⟨HZ.out, HE.out.1, HE.out.2⟩ (fun hHeld => ?_)
                  clear z6 z7 y6 y7
                  refine wpAnyH_take (i := 0) (v := ?_) (by simp only [List.getElem?_toArray, List.getElem?_cons_zero] <;> rfl) (by kernel_rfl) (by kernel_rfl) (by kernel_rfl) (by intro _ _ _ h; exact h) (Or.inl ⟨by rfl, ?_⟩) hHeld ?_
                  rotate_left
                  · intro w hSw; (try dsimp only at hSw); go_simp
                    with_reducible rfl
                  try simp only [Act.put, List.setIfInBounds_toArray, List.set_cons_zero, List.set_cons_succ]
                  refine wpAnyH_take (i := 1) (v := ?_) (by simp only [List.getElem?_toArray, List.getElem?_cons_zero, List.getElem?_cons_succ] <;> rfl) (by kernel_rfl) (by kernel_rfl) (by kernel_rfl) (by intro _ _ _ h; exact h) (Or.inl ⟨by rfl, ?_⟩) hHeld ?_
                  rotate_left
                  · intro w hSw; (try dsimp only at hSw); go_simp
                    with_reducible rfl
                  try simp only [Act.put, List.setIfInBounds_toArray, List.set_cons_zero, List.set_cons_succ]
                  refine wpAnyH_take (i := 2) (v := ?_) (by simp only [List.getElem?_toArray, List.getElem?_cons_zero, List.getElem?_cons_succ] <;> rfl) (by kernel_rfl) (by kernel_rfl) (by kernel_rfl) (by intro _ _ _ h; exact h) (Or.inl ⟨by rfl, ?_⟩) hHeld ?_
                  rotate_left
                  · intro w hSw; (try dsimp only at hSw); go_simp
                    with_reducible rfl
                  try simp only [Act.put, List.setIfInBounds_toArray, List.set_cons_zero, List.set_cons_succ]
                  refine wpAnyH_take (i := 3) (v := ?_) (by simp only [List.getElem?_toArray, List.getElem?_cons_zero, List.getElem?_cons_succ] <;> rfl) (by kernel_rfl) (by kernel_rfl) (by kernel_rfl) (by intro _ _ _ h; exact h) (Or.inl ⟨by rfl, ?_⟩) hHeld ?_
                  rotate_left
                  · intro w hSw; (try dsimp only at hSw); go_simp
                    with_reducible rfl
                  try simp only [Act.put, List.setIfInBounds_toArray, List.set_cons_zero, List.set_cons_succ]
                  refine wpAnyH_take (i := 4) (v := ?_) (by simp only [List.getElem?_toArray, List.getElem?_cons_zero, List.getElem?_cons_succ] <;> rfl) (by kernel_rfl) (by kernel_rfl) (by kernel_rfl) (by intro _ _ _ h; exact h) (Or.inl ⟨by rfl, ?_⟩) hHeld ?_
                  rotate_left
                  · intro w hSw; (try dsimp only at hSw); go_simp
                    with_reducible rfl
                  try simp only [Act.put, List.setIfInBounds_toArray, List.set_cons_zero, List.set_cons_succ]
                  refine wpAnyH_take (i := 5) (v := ?_) (by simp only [List.getElem?_toArray, List.getElem?_cons_zero, List.getElem?_cons_succ] <;> rfl) (by kernel_rfl) (by kernel_rfl) (by kernel_rfl) (by intro _ _ _ h; exact h) (Or.inl ⟨by rfl, ?_⟩) hHeld ?_
                  rotate_left
                  · intro w hSw; (try dsimp only at hSw); go_simp
                    with_reducible rfl
                  try simp only [Act.put, List.setIfInBounds_toArray, List.set_cons_zero, List.set_cons_succ]
                  refine wpAnyH_take (i := 6) (v := ?_) (by simp only [List.getElem?_toArray, List.getElem?_cons_zero, List.getElem?_cons_succ] <;> rfl) (by kernel_rfl) (by kernel_rfl) (by kernel_rfl) (by intro _ _ _ h; exact h) (Or.inl ⟨by rfl, ?_⟩) hHeld ?_
                  rotate_left
                  · intro w hSw; (try dsimp only at hSw); go_simp
                    with_reducible rfl
                  try simp only [Act.put, List.setIfInBounds_toArray, List.set_cons_zero, List.set_cons_succ]
                  refine wpAnyH_take (i := 7) (v := ?_) (by simp only [List.getElem?_toArray, List.getElem?_cons_zero, List.getElem?_cons_succ] <;> rfl) (by kernel_rfl) (by kernel_rfl) (by kernel_rfl) (by intro _ _ _ h; exact h) (Or.inl ⟨by rfl, ?_⟩) hHeld ?_
                  rotate_left
                  · intro w hSw; (try dsimp only at hSw); go_simp
                    with_reducible rfl
                  try simp only [Act.put, List.setIfInBounds_toArray, List.set_cons_zero, List.set_cons_succ]
                  refine wpAnyH_take (i := 8) (v := ?_) (by simp only [List.getElem?_toArray, List.getElem?_cons_zero, List.getElem?_cons_succ] <;> rfl) (by kernel_rfl) (by kernel_rfl) (by kernel_rfl) (by intro _ _ _ h; exact h) (Or.inl ⟨by rfl, ?_⟩) hHeld ?_
                  rotate_left
                  · intro w hSw; (try dsimp only at hSw); go_simp
                    with_reducible rfl
                  try simp only [Act.put, List.setIfInBounds_toArray, List.set_cons_zero, List.set_cons_succ]
                  refine wpAnyH_take (i := 9) (v := ?_) (by simp only [List.getElem?_toArray, List.getElem?_cons_zero, List.getElem?_cons_succ] <;> rfl) (by kernel_rfl) (by kernel_rfl) (by kernel_rfl) (by intro _ _ _ h; exact h) (Or.inl ⟨by rfl, ?_⟩) hHeld ?_
                  rotate_left
                  · intro w hSw; (try dsimp only at hSw); go_simp
                    with_reducible rfl
                  try simp only [Act.put, List.setIfInBounds_toArray, List.set_cons_zero, List.set_cons_succ]
                  refine wpAnyH_take (i := 10) (v := ?_) (by simp only [List.getElem?_toArray, List.getElem?_cons_zero, List.getElem?_cons_succ] <;> rfl) (by kernel_rfl) (by kernel_rfl) (by kernel_rfl) (by intro _ _ _ h; exact h) (Or.inl ⟨by rfl, ?_⟩) hHeld ?_
                  rotate_left
                  · intro w hSw; (try dsimp only at hSw); go_simp
                    with_reducible rfl
                  try simp only [Act.put, List.setIfInBounds_toArray, List.set_cons_zero, List.set_cons_succ]
                  refine wpAnyH_take (i := 11) (v := ?_) (by simp only [List.getElem?_toArray, List.getElem?_cons_zero, List.getElem?_cons_succ] <;> rfl) (by kernel_rfl) (by kernel_rfl) (by kernel_rfl) (by intro _ _ _ h; exact h) (Or.inl ⟨by rfl, ?_⟩) hHeld ?_
                  rotate_left
                  · intro w hSw; (try dsimp only at hSw); go_simp
                    with_reducible rfl
                  try simp only [Act.put, List.setIfInBounds_toArray, List.set_cons_zero, List.set_cons_succ]
                  refine wpAnyH_take (i := 12) (v := ?_) (by simp only [List.getElem?_toArray, List.getElem?_cons_zero, List.getElem?_cons_succ] <;> rfl) (by kernel_rfl) (by kernel_rfl) (by kernel_rfl) (by intro _ _ _ h; exact h) (Or.inl ⟨by rfl, ?_⟩) hHeld ?_
                  rotate_left
                  · intro w hSw; (try dsimp only at hSw); go_simp
                    with_reducible rfl
                  try simp only [Act.put, List.setIfInBounds_toArray, List.set_cons_zero, List.set_cons_succ]
                  refine wpAnyH_take (i := 13) (v := ?_) (by simp only [List.getElem?_toArray, List.getElem?_cons_zero, List.getElem?_cons_succ] <;> rfl) (by kernel_rfl) (by kernel_rfl) (by kernel_rfl) (by intro _ _ _ h; exact h) (Or.inl ⟨by rfl, ?_⟩) hHeld ?_
                  rotate_left
                  · intro w hSw; (try dsimp only at hSw); go_simp
                    with_reducible rfl
                  try simp only [Act.put, List.setIfInBounds_toArray, List.set_cons_zero, List.set_cons_succ]
                  refine wpAnyH_take (i := 14) (v := ?_) (by simp only [List.getElem?_toArray, List.getElem?_cons_zero, List.getElem?_cons_succ] <;> rfl) (by kernel_rfl) (by kernel_rfl) (by kernel_rfl) (by intro _ _ _ h; exact h) (Or.inl ⟨by rfl, ?_⟩) hHeld ?_
                  rotate_left
                  · intro w hSw; (try dsimp only at hSw); go_simp
                    with_reducible rfl
                  try simp only [Act.put, List.setIfInBounds_toArray, List.set_cons_zero, List.set_cons_succ]
                  refine wpAnyH_take (i := 15) (v := ?_) (by simp only [List.getElem?_toArray, List.getElem?_cons_zero, List.getElem?_cons_succ] <;> rfl) (by kernel_rfl) (by kernel_rfl) (by kernel_rfl) (by intro _ _ _ h; exact h) (Or.inl ⟨by rfl, ?_⟩) hHeld ?_
                  rotate_left
                  · intro w hSw; (try dsimp only at hSw); go_simp
                    with_reducible rfl
                  try simp only [Act.put, List.setIfInBounds_toArray, List.set_cons_zero, List.set_cons_succ]
                  refine wpAnyH_take (i := 16) (v := ?_) (by simp only [List.getElem?_toArray, List.getElem?_cons_zero, List.getElem?_cons_succ] <;> rfl) (by kernel_rfl) (by kernel_rfl) (by kernel_rfl) (by intro _ _ _ h; exact h) (Or.inl ⟨by rfl, ?_⟩) hHeld ?_
                  rotate_left
                  · intro w hSw; (try dsimp only at hSw); go_simp
                    with_reducible rfl
                  try simp only [Act.put, List.setIfInBounds_toArray, List.set_cons_zero, List.set_cons_succ]
                  refine wpAnyH_take (i := 17) (v := ?_) (by simp only [List.getElem?_toArray, List.getElem?_cons_zero, List.getElem?_cons_succ] <;> rfl) (by kernel_rfl) (by kernel_rfl) (by kernel_rfl) (by intro _ _ _ h; exact h) (Or.inl ⟨by rfl, ?_⟩) hHeld ?_
                  rotate_left
                  · intro w hSw; (try dsimp only at hSw); go_simp
                    with_reducible rfl
                  try simp only [Act.put, List.setIfInBounds_toArray, List.set_cons_zero, List.set_cons_succ]
                  refine wpAnyH_take (i := 18) (v := ?_) (by simp only [List.getElem?_toArray, List.getElem?_cons_zero, List.getElem?_cons_succ] <;> rfl) (by kernel_rfl) (by kernel_rfl) (by kernel_rfl) (by intro _ _ _ h; exact h) (Or.inl ⟨by rfl, ?_⟩) hHeld ?_
                  rotate_left
                  · intro w hSw; (try dsimp only at hSw); go_simp
                    with_reducible rfl
                  try simp only [Act.put, List.setIfInBounds_toArray, List.set_cons_zero, List.set_cons_succ]
                  refine wpAnyH_take (i := 19) (v := ?_) (by simp only [List.getElem?_toArray, List.getElem?_cons_zero, List.getElem?_cons_succ] <;> rfl) (by kernel_rfl) (by kernel_rfl) (by kernel_rfl) (by intro _ _ _ h; exact h) (Or.inl ⟨by rfl, ?_⟩) hHeld ?_
                  rotate_left
                  · intro w hSw; (try dsimp only at hSw); go_simp
                    with_reducible rfl
                  try simp only [Act.put, List.setIfInBounds_toArray, List.set_cons_zero, List.set_cons_succ]
                  refine wpAnyH_take (i := 20) (v := ?_) (by simp only [List.getElem?_toArray, List.getElem?_cons_zero, List.getElem?_cons_succ] <;> rfl) (by kernel_rfl) (by kernel_rfl) (by kernel_rfl) (by intro _ _ _ h; exact h) (Or.inl ⟨by rfl, ?_⟩) hHeld ?_
                  rotate_left
                  · intro w hSw; (try dsimp only at hSw); go_simp
                    with_reducible rfl
                  try simp only [Act.put, List.setIfInBounds_toArray, List.set_cons_zero, List.set_cons_succ]
                  refine wpAnyH_take (i := 21) (v := ?_) (by simp only [List.getElem?_toArray, List.getElem?_cons_zero, List.getElem?_cons_succ] <;> rfl) (by kernel_rfl) (by kernel_rfl) (by kernel_rfl) (by intro _ _ _ h; exact h) (Or.inl ⟨by rfl, ?_⟩) hHeld ?_
                  rotate_left
                  · intro w hSw; (try dsimp only at hSw); go_simp
                    with_reducible rfl
                  try simp only [Act.put, List.setIfInBounds_toArray, List.set_cons_zero, List.set_cons_succ]
                  refine wpAnyH_take (i := 22) (v := ?_) (by simp only [List.getElem?_toArray, List.getElem?_cons_zero, List.getElem?_cons_succ] <;> rfl) (by kernel_rfl) (by kernel_rfl) (by kernel_rfl) (by intro _ _ _ h; exact h) (Or.inl ⟨by rfl, ?_⟩) hHeld ?_
                  rotate_left
                  · intro w hSw; (try dsimp only at hSw); go_simp
                    with_reducible rfl
                  try simp only [Act.put, List.setIfInBounds_toArray, List.set_cons_zero, List.set_cons_succ]
                  refine wpAnyH_take (i := 23) (v := ?_) (by simp only [List.getElem?_toArray, List.getElem?_cons_zero, List.getElem?_cons_succ] <;> rfl) (by kernel_rfl) (by kernel_rfl) (by kernel_rfl) (by intro _ _ _ h; exact h) (Or.inl ⟨by rfl, ?_⟩) hHeld ?_
                  rotate_left
                  · intro w hSw; (try dsimp only at hSw); go_simp
                    with_reducible rfl
                  try simp only [Act.put, List.setIfInBounds_toArray, List.set_cons_zero, List.set_cons_succ]
                  refine wpAnyH_take (i := 24) (v := ?_) (by simp only [List.getElem?_toArray, List.getElem?_cons_zero, List.getElem?_cons_succ] <;> rfl) (by kernel_rfl) (by kernel_rfl) (by kernel_rfl) (by intro _ _ _ h; exact h) (Or.inl ⟨by rfl, ?_⟩) hHeld ?_
                  rotate_left
                  · intro w hSw; (try dsimp only at hSw); go_simp
                    with_reducible rfl
                  try simp only [Act.put, List.setIfInBounds_toArray, List.set_cons_zero, List.set_cons_succ]
                  refine wpAnyH_take (i := 25) (v := ?_) (by simp only [List.getElem?_toArray, List.getElem?_cons_zero, List.getElem?_cons_succ] <;> rfl) (by kernel_rfl) (by kernel_rfl) (by kernel_rfl) (by intro _ _ _ h; exact h) (Or.inl ⟨by rfl, ?_⟩) hHeld ?_
                  rotate_left
                  · intro w hSw; (try dsimp only at hSw); go_simp
                    with_reducible rfl
                  try simp only [Act.put, List.setIfInBounds_toArray, List.set_cons_zero, List.set_cons_succ]
                  refine wpAnyH_ready (rs := [26]) (by kernel_rfl) (by simp) ?_
                  refine (AllReadyH.cons (by simp only [List.getElem?_toArray, List.getElem?_cons_zero, List.getElem?_cons_succ] <;> rfl) (fun K hK => ?_) AllReadyH.nil)
                  · go_simp
                    go_at_call 63
                    refine (HIb.out _ HWd.out.1.below).mono ?_
                    rintro en w7 ⟨rfl, hb7⟩
                    have HW7 := Lib.hid (And.intro (HWd.out.1.call hb7) (HWd.out.2.call hb7))
                    have HZ7 := Lib.hid (And.intro HW7.out.1.cells.2.2 HW7.out.2.cells.2.2)
                    have HE7 : Hid ((w7.cell? ⟨b1, o1 + j * 2, none⟩ = some (.int .i64 d1) ∧ w7.cell? ⟨b1, o1 + j * 2 + 1, none⟩ = some (.slice A1 n1 c1)) ∧ w7.cell? ⟨b2, o2 + j * 2, none⟩ = some (.int .i64 d1) ∧ w7.cell? ⟨b2, o2 + j * 2 + 1, none⟩ = some (.slice A2 n2 c2)) := by
                      have l1 := Nat.lt_of_lt_of_le Hbw.out.1 HWd.out.1.below.size
                      have l2 := Nat.lt_of_lt_of_le Hbw.out.2 HWd.out.1.below.size
                      exact ⟨⟨(hb7.cell (p := ⟨b1, o1 + j * 2, none⟩) l1).trans HE.out.1.1, (hb7.cell (p := ⟨b1, o1 + j * 2 + 1, none⟩) l1).trans HE.out.1.2⟩, (hb7.cell (p := ⟨b2, o2 + j * 2, none⟩) l2).trans HE.out.2.1, (hb7.cell (p := ⟨b2, o2 + j * 2 + 1, none⟩) l2).trans HE.out.2.2⟩
                    clear hb7
                    refine hK.out _ _ ⟨HZ7.out, HE7.out.1, HE7.out.2⟩ (fun hHeld => ?_)
                    clear hK K
                    try simp only [Act.put, List.setIfInBounds_toArray, List.set_cons_zero, List.set_cons_succ]
                    refine wpAnyH_take (i := 27) (v := ?_) (by simp only [List.getElem?_toArray, List.getElem?_cons_zero, List.getElem?_cons_succ] <;> rfl) (by kernel_rfl) (by kernel_rfl) (by kernel_rfl) (by intro _ _ _ h; exact h) (Or.inl ⟨by rfl, ?_⟩) hHeld ?_
                    rotate_left
                    · intro w hSw; (try dsimp only at hSw); go_simp
                      with_reducible rfl
                    try simp only [Act.put, List.setIfInBounds_toArray, List.set_cons_zero, List.set_cons_succ]
                    refine wpAnyH_take (i := 28) (v := ?_) (by simp only [List.getElem?_toArray, List.getElem?_cons_zero, List.getElem?_cons_succ] <;> rfl) (by kernel_rfl) (by kernel_rfl) (by kernel_rfl) (by intro _ _ _ h; exact h) (Or.inl ⟨by rfl, ?_⟩) hHeld ?_
                    rotate_left
                    · intro w hSw; (try dsimp only at hSw); go_simp
                      with_reducible rfl
                    try simp only [Act.put, List.setIfInBounds_toArray, List.set_cons_zero, List.set_cons_succ]
                    refine wpAnyH_done (by kernel_rfl) ?_ _
                    clear hHeld
                    go_wp2_with fail
                    go_roundg (ns - (j + 1))
                    case measure => omega
                    case rel => exact ⟨j + 1, by go_num, rfl, by omega, HT2, HW7⟩
                | false =>
                  have HIb : Hid (∀ W, Below w.heap.size w W → Calls Tryz.prog 63 #[.slice A1 n1 c1, .slice A2 n2 c2] W (BoolR false W)) := fun W hb => by have := HI.out W hb; rw [hargs] at this; exact this
                  have HNE : Hid (x = false) := by
                    show _ = _
                    rw [Hx3.out]
                    refine decide_eq_false fun h => of_decide_eq_false hargs ?_
                    have h1 := Hpq.out.1
                    rw [h, Hpq.out.2] at h1
                    injection h1 with h1
                    rw [h1]
                  clear hargs
                  go_upto_region 11 with fail
                  refine wp_region_held_drew (S := (fun W => (W.cell? ⟨g1, 7, none⟩ = some (.slice (some ⟨b1, o1, none⟩) ns uc) ∧ W.cell? ⟨g2, 7, none⟩ = some (.slice (some ⟨b2, o2, none⟩) ns uc')) ∧ (W.cell? ⟨b1, o1 + j * 2, none⟩ = some (.int .i64 d1) ∧ W.cell? ⟨b1, o1 + j * 2 + 1, none⟩ = some (.slice A1 n1 c1)) ∧ W.cell? ⟨b2, o2 + j * 2, none⟩ = some (.int .i64 d1) ∧ W.cell? ⟨b2, o2 + j * 2 + 1, none⟩ = some (.slice A2 n2 c2))) (by kernel_rfl) ⟨HZ.out, HE.out.1, HE.out.2⟩ (fun hHeld => ?_)
                  clear z6 z7 y6 y7
                  refine wpAnyH_take (i := 0) (v := ?_) (by simp only [List.getElem?_toArray, List.getElem?_cons_zero] <;> rfl) (by kernel_rfl) (by kernel_rfl) (by kernel_rfl) (by intro _ _ _ h; exact h) (Or.inl ⟨by rfl, ?_⟩) hHeld ?_
                  rotate_left
                  · intro w hSw; (try dsimp only at hSw); go_simp
                    with_reducible rfl
                  try simp only [Act.put, List.setIfInBounds_toArray, List.set_cons_zero, List.set_cons_succ]
                  refine wpAnyH_take (i := 1) (v := ?_) (by simp only [List.getElem?_toArray, List.getElem?_cons_zero, List.getElem?_cons_succ] <;> rfl) (by kernel_rfl) (by kernel_rfl) (by kernel_rfl) (by intro _ _ _ h; exact h) (Or.inl ⟨by rfl, ?_⟩) hHeld ?_
                  rotate_left
                  · intro w hSw; (try dsimp only at hSw); go_simp
                    with_reducible rfl
                  try simp only [Act.put, List.setIfInBounds_toArray, List.set_cons_zero, List.set_cons_succ]
                  refine wpAnyH_take (i := 2) (v := ?_) (by simp only [List.getElem?_toArray, List.getElem?_cons_zero, List.getElem?_cons_succ] <;> rfl) (by kernel_rfl) (by kernel_rfl) (by kernel_rfl) (by intro _ _ _ h; exact h) (Or.inl ⟨by rfl, ?_⟩) hHeld ?_
                  rotate_left
                  · intro w hSw; (try dsimp only at hSw); go_simp
                    with_reducible rfl
                  try simp only [Act.put, List.setIfInBounds_toArray, List.set_cons_zero, List.set_cons_succ]
                  refine wpAnyH_take (i := 3) (v := ?_) (by simp only [List.getElem?_toArray, List.getElem?_cons_zero, List.getElem?_cons_succ] <;> rfl) (by kernel_rfl) (by kernel_rfl) (by kernel_rfl) (by intro _ _ _ h; exact h) (Or.inl ⟨by rfl, ?_⟩) hHeld ?_
                  rotate_left
                  · intro w hSw; (try dsimp only at hSw); go_simp
                    with_reducible rfl
                  try simp only [Act.put, List.setIfInBounds_toArray, List.set_cons_zero, List.set_cons_succ]
                  refine wpAnyH_take (i := 4) (v := ?_) (by simp only [List.getElem?_toArray, List.getElem?_cons_zero, List.getElem?_cons_succ] <;> rfl) (by kernel_rfl) (by kernel_rfl) (by kernel_rfl) (by intro _ _ _ h; exact h) (Or.inl ⟨by rfl, ?_⟩) hHeld ?_
                  rotate_left
                  · intro w hSw; (try dsimp only at hSw); go_simp
                    with_reducible rfl
                  try simp only [Act.put, List.setIfInBounds_toArray, List.set_cons_zero, List.set_cons_succ]
                  refine wpAnyH_take (i := 5) (v := ?_) (by simp only [List.getElem?_toArray, List.getElem?_cons_zero, List.getElem?_cons_succ] <;> rfl) (by kernel_rfl) (by kernel_rfl) (by kernel_rfl) (by intro _ _ _ h; exact h) (Or.inl ⟨by rfl, ?_⟩) hHeld ?_
                  rotate_left
                  · intro w hSw; (try dsimp only at hSw); go_simp
                    with_reducible rfl
                  try simp only [Act.put, List.setIfInBounds_toArray, List.set_cons_zero, List.set_cons_succ]
                  refine wpAnyH_take (i := 6) (v := ?_) (by simp only [List.getElem?_toArray, List.getElem?_cons_zero, List.getElem?_cons_succ] <;> rfl) (by kernel_rfl) (by kernel_rfl) (by kernel_rfl) (by intro _ _ _ h; exact h) (Or.inl ⟨by rfl, ?_⟩) hHeld ?_
                  rotate_left
                  · intro w hSw; (try dsimp only at hSw); go_simp
                    with_reducible rfl
                  try simp only [Act.put, List.setIfInBounds_toArray, List.set_cons_zero, List.set_cons_succ]
                  refine wpAnyH_take (i := 7) (v := ?_) (by simp only [List.getElem?_toArray, List.getElem?_cons_zero, List.getElem?_cons_succ] <;> rfl) (by kernel_rfl) (by kernel_rfl) (by kernel_rfl) (by intro _ _ _ h; exact h) (Or.inl ⟨by rfl, ?_⟩) hHeld ?_
                  rotate_left
                  · intro w hSw; (try dsimp only at hSw); go_simp
                    with_reducible rfl
                  try simp only [Act.put, List.setIfInBounds_toArray, List.set_cons_zero, List.set_cons_succ]
                  refine wpAnyH_take (i := 8) (v := ?_) (by simp only [List.getElem?_toArray, List.getElem?_cons_zero, List.getElem?_cons_succ] <;> rfl) (by kernel_rfl) (by kernel_rfl) (by kernel_rfl) (by intro _ _ _ h; exact h) (Or.inl ⟨by rfl, ?_⟩) hHeld ?_
                  rotate_left
                  · intro w hSw; (try dsimp only at hSw); go_simp
                    with_reducible rfl
                  try simp only [Act.put, List.setIfInBounds_toArray, List.set_cons_zero, List.set_cons_succ]
                  refine wpAnyH_take (i := 9) (v := ?_) (by simp only [List.getElem?_toArray, List.getElem?_cons_zero, List.getElem?_cons_succ] <;> rfl) (by kernel_rfl) (by kernel_rfl) (by kernel_rfl) (by intro _ _ _ h; exact h) (Or.inl ⟨by rfl, ?_⟩) hHeld ?_
                  rotate_left
                  · intro w hSw; (try dsimp only at hSw); go_simp
                    with_reducible rfl
                  try simp only [Act.put, List.setIfInBounds_toArray, List.set_cons_zero, List.set_cons_succ]
                  refine wpAnyH_take (i := 10) (v := ?_) (by simp only [List.getElem?_toArray, List.getElem?_cons_zero, List.getElem?_cons_succ] <;> rfl) (by kernel_rfl) (by kernel_rfl) (by kernel_rfl) (by intro _ _ _ h; exact h) (Or.inl ⟨by rfl, ?_⟩) hHeld ?_
                  rotate_left
                  · intro w hSw; (try dsimp only at hSw); go_simp
                    with_reducible rfl
                  try simp only [Act.put, List.setIfInBounds_toArray, List.set_cons_zero, List.set_cons_succ]
                  refine wpAnyH_take (i := 11) (v := ?_) (by simp only [List.getElem?_toArray, List.getElem?_cons_zero, List.getElem?_cons_succ] <;> rfl) (by kernel_rfl) (by kernel_rfl) (by kernel_rfl) (by intro _ _ _ h; exact h) (Or.inl ⟨by rfl, ?_⟩) hHeld ?_
                  rotate_left
                  · intro w hSw; (try dsimp only at hSw); go_simp
                    with_reducible rfl
                  try simp only [Act.put, List.setIfInBounds_toArray, List.set_cons_zero, List.set_cons_succ]
                  refine wpAnyH_take (i := 12) (v := ?_) (by simp only [List.getElem?_toArray, List.getElem?_cons_zero, List.getElem?_cons_succ] <;> rfl) (by kernel_rfl) (by kernel_rfl) (by kernel_rfl) (by intro _ _ _ h; exact h) (Or.inl ⟨by rfl, ?_⟩) hHeld ?_
                  rotate_left
                  · intro w hSw; (try dsimp only at hSw); go_simp
                    with_reducible rfl
                  try simp only [Act.put, List.setIfInBounds_toArray, List.set_cons_zero, List.set_cons_succ]
                  refine wpAnyH_take (i := 13) (v := ?_) (by simp only [List.getElem?_toArray, List.getElem?_cons_zero, List.getElem?_cons_succ] <;> rfl) (by kernel_rfl) (by kernel_rfl) (by kernel_rfl) (by intro _ _ _ h; exact h) (Or.inl ⟨by rfl, ?_⟩) hHeld ?_
                  rotate_left
                  · intro w hSw; (try dsimp only at hSw); go_simp
                    with_reducible rfl
                  try simp only [Act.put, List.setIfInBounds_toArray, List.set_cons_zero, List.set_cons_succ]
                  refine wpAnyH_take (i := 14) (v := ?_) (by simp only [List.getElem?_toArray, List.getElem?_cons_zero, List.getElem?_cons_succ] <;> rfl) (by kernel_rfl) (by kernel_rfl) (by kernel_rfl) (by intro _ _ _ h; exact h) (Or.inl ⟨by rfl, ?_⟩) hHeld ?_
                  rotate_left
                  · intro w hSw; (try dsimp only at hSw); go_simp
                    with_reducible rfl
                  try simp only [Act.put, List.setIfInBounds_toArray, List.set_cons_zero, List.set_cons_succ]
                  refine wpAnyH_take (i := 15) (v := ?_) (by simp only [List.getElem?_toArray, List.getElem?_cons_zero, List.getElem?_cons_succ] <;> rfl) (by kernel_rfl) (by kernel_rfl) (by kernel_rfl) (by intro _ _ _ h; exact h) (Or.inl ⟨by rfl, ?_⟩) hHeld ?_
                  rotate_left
                  · intro w hSw; (try dsimp only at hSw); go_simp
                    with_reducible rfl
                  try simp only [Act.put, List.setIfInBounds_toArray, List.set_cons_zero, List.set_cons_succ]
                  refine wpAnyH_take (i := 16) (v := ?_) (by simp only [List.getElem?_toArray, List.getElem?_cons_zero, List.getElem?_cons_succ] <;> rfl) (by kernel_rfl) (by kernel_rfl) (by kernel_rfl) (by intro _ _ _ h; exact h) (Or.inl ⟨by rfl, ?_⟩) hHeld ?_
                  rotate_left
                  · intro w hSw; (try dsimp only at hSw); go_simp
                    with_reducible rfl
                  try simp only [Act.put, List.setIfInBounds_toArray, List.set_cons_zero, List.set_cons_succ]
                  refine wpAnyH_take (i := 17) (v := ?_) (by simp only [List.getElem?_toArray, List.getElem?_cons_zero, List.getElem?_cons_succ] <;> rfl) (by kernel_rfl) (by kernel_rfl) (by kernel_rfl) (by intro _ _ _ h; exact h) (Or.inl ⟨by rfl, ?_⟩) hHeld ?_
                  rotate_left
                  · intro w hSw; (try dsimp only at hSw); go_simp
                    with_reducible rfl
                  try simp only [Act.put, List.setIfInBounds_toArray, List.set_cons_zero, List.set_cons_succ]
                  refine wpAnyH_take (i := 18) (v := ?_) (by simp only [List.getElem?_toArray, List.getElem?_cons_zero, List.getElem?_cons_succ] <;> rfl) (by kernel_rfl) (by kernel_rfl) (by kernel_rfl) (by intro _ _ _ h; exact h) (Or.inl ⟨by rfl, ?_⟩) hHeld ?_
                  rotate_left
                  · intro w hSw; (try dsimp only at hSw); go_simp
                    with_reducible rfl
                  try simp only [Act.put, List.setIfInBounds_toArray, List.set_cons_zero, List.set_cons_succ]
                  refine wpAnyH_take (i := 19) (v := ?_) (by simp only [List.getElem?_toArray, List.getElem?_cons_zero, List.getElem?_cons_succ] <;> rfl) (by kernel_rfl) (by kernel_rfl) (by kernel_rfl) (by intro _ _ _ h; exact h) (Or.inl ⟨by rfl, ?_⟩) hHeld ?_
                  rotate_left
                  · intro w hSw; (try dsimp only at hSw); go_simp
                    with_reducible rfl
                  try simp only [Act.put, List.setIfInBounds_toArray, List.set_cons_zero, List.set_cons_succ]
                  refine wpAnyH_take (i := 20) (v := ?_) (by simp only [List.getElem?_toArray, List.getElem?_cons_zero, List.getElem?_cons_succ] <;> rfl) (by kernel_rfl) (by kernel_rfl) (by kernel_rfl) (by intro _ _ _ h; exact h) (Or.inl ⟨by rfl, ?_⟩) hHeld ?_
                  rotate_left
                  · intro w hSw; (try dsimp only at hSw); go_simp
                    with_reducible rfl
                  try simp only [Act.put, List.setIfInBounds_toArray, List.set_cons_zero, List.set_cons_succ]
                  refine wpAnyH_take (i := 21) (v := ?_) (by simp only [List.getElem?_toArray, List.getElem?_cons_zero, List.getElem?_cons_succ] <;> rfl) (by kernel_rfl) (by kernel_rfl) (by kernel_rfl) (by intro _ _ _ h; exact h) (Or.inl ⟨by rfl, ?_⟩) hHeld ?_
                  rotate_left
                  · intro w hSw; (try dsimp only at hSw); go_simp
                    with_reducible rfl
                  try simp only [Act.put, List.setIfInBounds_toArray, List.set_cons_zero, List.set_cons_succ]
                  refine wpAnyH_take (i := 22) (v := ?_) (by simp only [List.getElem?_toArray, List.getElem?_cons_zero, List.getElem?_cons_succ] <;> rfl) (by kernel_rfl) (by kernel_rfl) (by kernel_rfl) (by intro _ _ _ h; exact h) (Or.inl ⟨by rfl, ?_⟩) hHeld ?_
                  rotate_left
                  · intro w hSw; (try dsimp only at hSw); go_simp
                    with_reducible rfl
                  try simp only [Act.put, List.setIfInBounds_toArray, List.set_cons_zero, List.set_cons_succ]
                  refine wpAnyH_take (i := 23) (v := ?_) (by simp only [List.getElem?_toArray, List.getElem?_cons_zero, List.getElem?_cons_succ] <;> rfl) (by kernel_rfl) (by kernel_rfl) (by kernel_rfl) (by intro _ _ _ h; exact h) (Or.inl ⟨by rfl, ?_⟩) hHeld ?_
                  rotate_left
                  · intro w hSw; (try dsimp only at hSw); go_simp
                    with_reducible rfl
                  try simp only [Act.put, List.setIfInBounds_toArray, List.set_cons_zero, List.set_cons_succ]
                  refine wpAnyH_take (i := 24) (v := ?_) (by simp only [List.getElem?_toArray, List.getElem?_cons_zero, List.getElem?_cons_succ] <;> rfl) (by kernel_rfl) (by kernel_rfl) (by kernel_rfl) (by intro _ _ _ h; exact h) (Or.inl ⟨by rfl, ?_⟩) hHeld ?_
                  rotate_left
                  · intro w hSw; (try dsimp only at hSw); go_simp
                    with_reducible rfl
                  try simp only [Act.put, List.setIfInBounds_toArray, List.set_cons_zero, List.set_cons_succ]
                  refine wpAnyH_take (i := 25) (v := ?_) (by simp only [List.getElem?_toArray, List.getElem?_cons_zero, List.getElem?_cons_succ] <;> rfl) (by kernel_rfl) (by kernel_rfl) (by kernel_rfl) (by intro _ _ _ h; exact h) (Or.inl ⟨by rfl, ?_⟩) hHeld ?_
                  rotate_left
                  · intro w hSw; (try dsimp only at hSw); go_simp
                    with_reducible rfl
                  try simp only [Act.put, List.setIfInBounds_toArray, List.set_cons_zero, List.set_cons_succ]
                  refine wpAnyH_ready (rs := [26]) (by kernel_rfl) (by simp) ?_
                  refine (AllReadyH.cons (by simp only [List.getElem?_toArray, List.getElem?_cons_zero, List.getElem?_cons_succ] <;> rfl) (fun K hK => ?_) AllReadyH.nil)
                  · go_simp
                    go_at_call 63
                    refine (HIb.out _ HWd.out.1.below).mono ?_
                    rintro en w7 ⟨rfl, hb7⟩
                    have HW7 := Lib.hid (And.intro (HWd.out.1.call hb7) (HWd.out.2.call hb7))
                    have HZ7 := Lib.hid (And.intro HW7.out.1.cells.2.2 HW7.out.2.cells.2.2)
                    have HE7 : Hid ((w7.cell? ⟨b1, o1 + j * 2, none⟩ = some (.int .i64 d1) ∧ w7.cell? ⟨b1, o1 + j * 2 + 1, none⟩ = some (.slice A1 n1 c1)) ∧ w7.cell? ⟨b2, o2 + j * 2, none⟩ = some (.int .i64 d1) ∧ w7.cell? ⟨b2, o2 + j * 2 + 1, none⟩ = some (.slice A2 n2 c2)) := by
                      have l1 := Nat.lt_of_lt_of_le Hbw.out.1 HWd.out.1.below.size
                      have l2 := Nat.lt_of_lt_of_le Hbw.out.2 HWd.out.1.below.size
                      exact ⟨⟨(hb7.cell (p := ⟨b1, o1 + j * 2, none⟩) l1).trans HE.out.1.1, (hb7.cell (p := ⟨b1, o1 + j * 2 + 1, none⟩) l1).trans HE.out.1.2⟩, (hb7.cell (p := ⟨b2, o2 + j * 2, none⟩) l2).trans HE.out.2.1, (hb7.cell (p := ⟨b2, o2 + j * 2 + 1, none⟩) l2).trans HE.out.2.2⟩
                    clear hb7
                    refine hK.out _ _ ⟨HZ7.out, HE7.out.1, HE7.out.2⟩ (fun hHeld => ?_)
                    clear hK K
                    try simp only [Act.put, List.setIfInBounds_toArray, List.set_cons_zero, List.set_cons_succ]
                    refine wpAnyH_take (i := 27) (v := ?_) (by simp only [List.getElem?_toArray, List.getElem?_cons_zero, List.getElem?_cons_succ] <;> rfl) (by kernel_rfl) (by kernel_rfl) (by kernel_rfl) (by intro _ _ _ h; exact h) (Or.inl ⟨by rfl, ?_⟩) hHeld ?_
                    rotate_left
                    · intro w hSw; (try dsimp only at hSw); go_simp
                      with_reducible rfl
                    try simp only [Act.put, List.setIfInBounds_toArray, List.set_cons_zero, List.set_cons_succ]
                    refine wpAnyH_take (i := 28) (v := ?_) (by simp only [List.getElem?_toArray, List.getElem?_cons_zero, List.getElem?_cons_succ] <;> rfl) (by kernel_rfl) (by kernel_rfl) (by kernel_rfl) (by intro _ _ _ h; exact h) (Or.inl ⟨by rfl, ?_⟩) hHeld ?_
                    rotate_left
                    · intro w hSw; (try dsimp only at hSw); go_simp
                      with_reducible rfl
                    try simp only [Act.put, List.setIfInBounds_toArray, List.set_cons_zero, List.set_cons_succ]
                    refine wpAnyH_done (by kernel_rfl) ?_ _
                    clear hHeld
                    go_wp2_with fail
                    go_ret
                    exact ⟨by rw [HNE.out]; rfl, HW7.out.1.below⟩
              · have q3 : (d1 == d2) = false := bne_int hk
                have q4 : (d1 != d2) = true := by rw [bne_iff_ne]; exact hk
                have HNE : Hid (x = false) := by
                  show _ = _
                  rw [Hx3.out]
                  refine decide_eq_false fun h => hk ?_
                  have h1 := Hpq.out.1
                  rw [h, Hpq.out.2] at h1
                  injection h1 with h1
                  rw [Hdd.out.1, Hdd.out.2, h1]
                clear hk
                go_upto_region 11 with fail
                refine wp_region_held_drew (S := (fun W => (W.cell? ⟨g1, 7, none⟩ = some (.slice (some ⟨b1, o1, none⟩) ns uc) ∧ W.cell? ⟨g2, 7, none⟩ = some (.slice (some ⟨b2, o2, none⟩) ns uc')) ∧ (W.cell? ⟨b1, o1 + j * 2, none⟩ = some (.int .i64 d1) ∧ W.cell? ⟨b1, o1 + j * 2 + 1, none⟩ = some (.slice A1 n1 c1)) ∧ W.cell? ⟨b2, o2 + j * 2, none⟩ = some (.int .i64 d2) ∧ W.cell? ⟨b2, o2 + j * 2 + 1, none⟩ = some (.slice A2 n2 c2))) (by kernel_rfl) ⟨HZ.out, HE.out.1, HE.out.2⟩ (fun hHeld => ?_)
                clear z6 z7 y6 y7
                refine wpAnyH_take (i := 0) (v := ?_) (by simp only [List.getElem?_toArray, List.getElem?_cons_zero] <;> rfl) (by kernel_rfl) (by kernel_rfl) (by kernel_rfl) (by intro _ _ _ h; exact h) (Or.inl ⟨by rfl, ?_⟩) hHeld ?_
                rotate_left
                · intro w hSw; (try dsimp only at hSw); go_simp
                  with_reducible rfl
                try simp only [Act.put, List.setIfInBounds_toArray, List.set_cons_zero, List.set_cons_succ]
                refine wpAnyH_take (i := 1) (v := ?_) (by simp only [List.getElem?_toArray, List.getElem?_cons_zero, List.getElem?_cons_succ] <;> rfl) (by kernel_rfl) (by kernel_rfl) (by kernel_rfl) (by intro _ _ _ h; exact h) (Or.inl ⟨by rfl, ?_⟩) hHeld ?_
                rotate_left
                · intro w hSw; (try dsimp only at hSw); go_simp
                  with_reducible rfl
                try simp only [Act.put, List.setIfInBounds_toArray, List.set_cons_zero, List.set_cons_succ]
                refine wpAnyH_take (i := 2) (v := ?_) (by simp only [List.getElem?_toArray, List.getElem?_cons_zero, List.getElem?_cons_succ] <;> rfl) (by kernel_rfl) (by kernel_rfl) (by kernel_rfl) (by intro _ _ _ h; exact h) (Or.inl ⟨by rfl, ?_⟩) hHeld ?_
                rotate_left
                · intro w hSw; (try dsimp only at hSw); go_simp
                  with_reducible rfl
                try simp only [Act.put, List.setIfInBounds_toArray, List.set_cons_zero, List.set_cons_succ]
                refine wpAnyH_take (i := 3) (v := ?_) (by simp only [List.getElem?_toArray, List.getElem?_cons_zero, List.getElem?_cons_succ] <;> rfl) (by kernel_rfl) (by kernel_rfl) (by kernel_rfl) (by intro _ _ _ h; exact h) (Or.inl ⟨by rfl, ?_⟩) hHeld ?_
                rotate_left
                · intro w hSw; (try dsimp only at hSw); go_simp
                  with_reducible rfl
                try simp only [Act.put, List.setIfInBounds_toArray, List.set_cons_zero, List.set_cons_succ]
                refine wpAnyH_take (i := 4) (v := ?_) (by simp only [List.getElem?_toArray, List.getElem?_cons_zero, List.getElem?_cons_succ] <;> rfl) (by kernel_rfl) (by kernel_rfl) (by kernel_rfl) (by intro _ _ _ h; exact h) (Or.inl ⟨by rfl, ?_⟩) hHeld ?_
                rotate_left
                · intro w hSw; (try dsimp only at hSw); go_simp
                  with_reducible rfl
                try simp only [Act.put, List.setIfInBounds_toArray, List.set_cons_zero, List.set_cons_succ]
                refine wpAnyH_take (i := 5) (v := ?_) (by simp only [List.getElem?_toArray, List.getElem?_cons_zero, List.getElem?_cons_succ] <;> rfl) (by kernel_rfl) (by kernel_rfl) (by kernel_rfl) (by intro _ _ _ h; exact h) (Or.inl ⟨by rfl, ?_⟩) hHeld ?_
                rotate_left
                · intro w hSw; (try dsimp only at hSw); go_simp
                  with_reducible rfl
                try simp only [Act.put, List.setIfInBounds_toArray, List.set_cons_zero, List.set_cons_succ]
                refine wpAnyH_take (i := 6) (v := ?_) (by simp only [List.getElem?_toArray, List.getElem?_cons_zero, List.getElem?_cons_succ] <;> rfl) (by kernel_rfl) (by kernel_rfl) (by kernel_rfl) (by intro _ _ _ h; exact h) (Or.inl ⟨by rfl, ?_⟩) hHeld ?_
                rotate_left
                · intro w hSw; (try dsimp only at hSw); go_simp
                  with_reducible rfl
                try simp only [Act.put, List.setIfInBounds_toArray, List.set_cons_zero, List.set_cons_succ]
                refine wpAnyH_take (i := 7) (v := ?_) (by simp only [List.getElem?_toArray, List.getElem?_cons_zero, List.getElem?_cons_succ] <;> rfl) (by kernel_rfl) (by kernel_rfl) (by kernel_rfl) (by intro _ _ _ h; exact h) (Or.inl ⟨by rfl, ?_⟩) hHeld ?_
                rotate_left
                · intro w hSw; (try dsimp only at hSw); go_simp
                  with_reducible rfl
                try simp only [Act.put, List.setIfInBounds_toArray, List.set_cons_zero, List.set_cons_succ]
                refine wpAnyH_take (i := 8) (v := ?_) (by simp only [List.getElem?_toArray, List.getElem?_cons_zero, List.getElem?_cons_succ] <;> rfl) (by kernel_rfl) (by kernel_rfl) (by kernel_rfl) (by intro _ _ _ h; exact h) (Or.inl ⟨by rfl, ?_⟩) hHeld ?_
                rotate_left
                · intro w hSw; (try dsimp only at hSw); go_simp
                  with_reducible rfl
                try simp only [Act.put, List.setIfInBounds_toArray, List.set_cons_zero, List.set_cons_succ]
                refine wpAnyH_take (i := 9) (v := ?_) (by simp only [List.getElem?_toArray, List.getElem?_cons_zero, List.getElem?_cons_succ] <;> rfl) (by kernel_rfl) (by kernel_rfl) (by kernel_rfl) (by intro _ _ _ h; exact h) (Or.inl ⟨by rfl, ?_⟩) hHeld ?_
                rotate_left
                · intro w hSw; (try dsimp only at hSw); go_simp
                  with_reducible rfl
                try simp only [Act.put, List.setIfInBounds_toArray, List.set_cons_zero, List.set_cons_succ]
                refine wpAnyH_take (i := 10) (v := ?_) (by simp only [List.getElem?_toArray, List.getElem?_cons_zero, List.getElem?_cons_succ] <;> rfl) (by kernel_rfl) (by kernel_rfl) (by kernel_rfl) (by intro _ _ _ h; exact h) (Or.inl ⟨by rfl, ?_⟩) hHeld ?_
                rotate_left
                · intro w hSw; (try dsimp only at hSw); go_simp
                  with_reducible rfl
                try simp only [Act.put, List.setIfInBounds_toArray, List.set_cons_zero, List.set_cons_succ]
                refine wpAnyH_take (i := 11) (v := ?_) (by simp only [List.getElem?_toArray, List.getElem?_cons_zero, List.getElem?_cons_succ] <;> rfl) (by kernel_rfl) (by kernel_rfl) (by kernel_rfl) (by intro _ _ _ h; exact h) (Or.inl ⟨by rfl, ?_⟩) hHeld ?_
                rotate_left
                · intro w hSw; (try dsimp only at hSw); go_simp
                  with_reducible rfl
                try simp only [Act.put, List.setIfInBounds_toArray, List.set_cons_zero, List.set_cons_succ]
                refine wpAnyH_take (i := 12) (v := ?_) (by simp only [List.getElem?_toArray, List.getElem?_cons_zero, List.getElem?_cons_succ] <;> rfl) (by kernel_rfl) (by kernel_rfl) (by kernel_rfl) (by intro _ _ _ h; exact h) (Or.inl ⟨by rfl, ?_⟩) hHeld ?_
                rotate_left
                · intro w hSw; (try dsimp only at hSw); go_simp
                  with_reducible rfl
                try simp only [Act.put, List.setIfInBounds_toArray, List.set_cons_zero, List.set_cons_succ]
                refine wpAnyH_take (i := 13) (v := ?_) (by simp only [List.getElem?_toArray, List.getElem?_cons_zero, List.getElem?_cons_succ] <;> rfl) (by kernel_rfl) (by kernel_rfl) (by kernel_rfl) (by intro _ _ _ h; exact h) (Or.inl ⟨by rfl, ?_⟩) hHeld ?_
                rotate_left
                · intro w hSw; (try dsimp only at hSw); go_simp
                  with_reducible rfl
                try simp only [Act.put, List.setIfInBounds_toArray, List.set_cons_zero, List.set_cons_succ]
                refine wpAnyH_take (i := 14) (v := undef) (by simp only [List.getElem?_toArray, List.getElem?_cons_zero, List.getElem?_cons_succ] <;> rfl) (by kernel_rfl) (by kernel_rfl) (by kernel_rfl) (by intro _ _ _ h; exact h) (Or.inr ⟨by rfl, rfl⟩) hHeld ?_
                try simp only [Act.put, List.setIfInBounds_toArray, List.set_cons_zero, List.set_cons_succ]
                refine wpAnyH_take (i := 15) (v := undef) (by simp only [List.getElem?_toArray, List.getElem?_cons_zero, List.getElem?_cons_succ] <;> rfl) (by kernel_rfl) (by kernel_rfl) (by kernel_rfl) (by intro _ _ _ h; exact h) (Or.inr ⟨by rfl, rfl⟩) hHeld ?_
                try simp only [Act.put, List.setIfInBounds_toArray, List.set_cons_zero, List.set_cons_succ]
                refine wpAnyH_take (i := 16) (v := undef) (by simp only [List.getElem?_toArray, List.getElem?_cons_zero, List.getElem?_cons_succ] <;> rfl) (by kernel_rfl) (by kernel_rfl) (by kernel_rfl) (by intro _ _ _ h; exact h) (Or.inr ⟨by rfl, rfl⟩) hHeld ?_
                try simp only [Act.put, List.setIfInBounds_toArray, List.set_cons_zero, List.set_cons_succ]
                refine wpAnyH_take (i := 17) (v := undef) (by simp only [List.getElem?_toArray, List.getElem?_cons_zero, List.getElem?_cons_succ] <;> rfl) (by kernel_rfl) (by kernel_rfl) (by kernel_rfl) (by intro _ _ _ h; exact h) (Or.inr ⟨by rfl, rfl⟩) hHeld ?_
                try simp only [Act.put, List.setIfInBounds_toArray, List.set_cons_zero, List.set_cons_succ]
                refine wpAnyH_take (i := 18) (v := undef) (by simp only [List.getElem?_toArray, List.getElem?_cons_zero, List.getElem?_cons_succ] <;> rfl) (by kernel_rfl) (by kernel_rfl) (by kernel_rfl) (by intro _ _ _ h; exact h) (Or.inr ⟨by rfl, rfl⟩) hHeld ?_
                try simp only [Act.put, List.setIfInBounds_toArray, List.set_cons_zero, List.set_cons_succ]
                refine wpAnyH_take (i := 19) (v := undef) (by simp only [List.getElem?_toArray, List.getElem?_cons_zero, List.getElem?_cons_succ] <;> rfl) (by kernel_rfl) (by kernel_rfl) (by kernel_rfl) (by intro _ _ _ h; exact h) (Or.inr ⟨by rfl, rfl⟩) hHeld ?_
                try simp only [Act.put, List.setIfInBounds_toArray, List.set_cons_zero, List.set_cons_succ]
                refine wpAnyH_take (i := 20) (v := undef) (by simp only [List.getElem?_toArray, List.getElem?_cons_zero, List.getElem?_cons_succ] <;> rfl) (by kernel_rfl) (by kernel_rfl) (by kernel_rfl) (by intro _ _ _ h; exact h) (Or.inr ⟨by rfl, rfl⟩) hHeld ?_
                try simp only [Act.put, List.setIfInBounds_toArray, List.set_cons_zero, List.set_cons_succ]
                refine wpAnyH_take (i := 21) (v := undef) (by simp only [List.getElem?_toArray, List.getElem?_cons_zero, List.getElem?_cons_succ] <;> rfl) (by kernel_rfl) (by kernel_rfl) (by kernel_rfl) (by intro _ _ _ h; exact h) (Or.inr ⟨by rfl, rfl⟩) hHeld ?_
                try simp only [Act.put, List.setIfInBounds_toArray, List.set_cons_zero, List.set_cons_succ]
                refine wpAnyH_take (i := 22) (v := undef) (by simp only [List.getElem?_toArray, List.getElem?_cons_zero, List.getElem?_cons_succ] <;> rfl) (by kernel_rfl) (by kernel_rfl) (by kernel_rfl) (by intro _ _ _ h; exact h) (Or.inr ⟨by rfl, rfl⟩) hHeld ?_
                try simp only [Act.put, List.setIfInBounds_toArray, List.set_cons_zero, List.set_cons_succ]
                refine wpAnyH_take (i := 23) (v := undef) (by simp only [List.getElem?_toArray, List.getElem?_cons_zero, List.getElem?_cons_succ] <;> rfl) (by kernel_rfl) (by kernel_rfl) (by kernel_rfl) (by intro _ _ _ h; exact h) (Or.inr ⟨by rfl, rfl⟩) hHeld ?_
                try simp only [Act.put, List.setIfInBounds_toArray, List.set_cons_zero, List.set_cons_succ]
                refine wpAnyH_take (i := 24) (v := undef) (by simp only [List.getElem?_toArray, List.getElem?_cons_zero, List.getElem?_cons_succ] <;> rfl) (by kernel_rfl) (by kernel_rfl) (by kernel_rfl) (by intro _ _ _ h; exact h) (Or.inr ⟨by rfl, rfl⟩) hHeld ?_
                try simp only [Act.put, List.setIfInBounds_toArray, List.set_cons_zero, List.set_cons_succ]
                refine wpAnyH_take (i := 25) (v := undef) (by simp only [List.getElem?_toArray, List.getElem?_cons_zero, List.getElem?_cons_succ] <;> rfl) (by kernel_rfl) (by kernel_rfl) (by kernel_rfl) (by intro _ _ _ h; exact h) (Or.inr ⟨by rfl, rfl⟩) hHeld ?_
                try simp only [Act.put, List.setIfInBounds_toArray, List.set_cons_zero, List.set_cons_succ]
                refine wpAnyH_take (i := 26) (v := undef) (by simp only [List.getElem?_toArray, List.getElem?_cons_zero, List.getElem?_cons_succ] <;> rfl) (by kernel_rfl) (by kernel_rfl) (by kernel_rfl) (by intro _ _ _ h; exact h) (Or.inr ⟨by rfl, rfl⟩) hHeld ?_
                try simp only [Act.put, List.setIfInBounds_toArray, List.set_cons_zero, List.set_cons_succ]
                refine wpAnyH_take (i := 27) (v := undef) (by simp only [List.getElem?_toArray, List.getElem?_cons_zero, List.getElem?_cons_succ] <;> rfl) (by kernel_rfl) (by kernel_rfl) (by kernel_rfl) (by intro _ _ _ h; exact h) (Or.inr ⟨by rfl, rfl⟩) hHeld ?_
                try simp only [Act.put, List.setIfInBounds_toArray, List.set_cons_zero, List.set_cons_succ]
                refine wpAnyH_take (i := 28) (v := ?_) (by simp only [List.getElem?_toArray, List.getElem?_cons_zero, List.getElem?_cons_succ] <;> rfl) (by kernel_rfl) (by kernel_rfl) (by kernel_rfl) (by intro _ _ _ h; exact h) (Or.inl ⟨by rfl, ?_⟩) hHeld ?_
                rotate_left
                · intro w hSw; (try dsimp only at hSw); go_simp
                  with_reducible rfl
                try simp only [Act.put, List.setIfInBounds_toArray, List.set_cons_zero, List.set_cons_succ]
                refine wpAnyH_done (by kernel_rfl) ?_ _
                clear hHeld
                go_wp2_with fail
                go_ret
                exact ⟨by rw [HNE.out]; rfl, HWd.out.1.below⟩
            · have hke : j = ns := by omega
              have hI4 : ¬ (j : Int) < (ns : Int) := by omega
              have HX : Hid (x = true) := by
                have := HT.out
                have e1 : S.steps.take j = S.steps := List.take_of_length_le (by have := HN.out.2.1; omega)
                have e2 : S'.steps.take j = S'.steps := List.take_of_length_le (by have := HN.out.2.2; omega)
                rw [e1, e2] at this
                show _ = _
                rw [Hx3.out, decide_eq_true this]
              clear hlt hke
              go_wp2_with fail
              go_ret
              exact ⟨by rw [HX.out]; rfl, HW.out.1.below⟩
    · have HNE : Hid (x = false) := by
        show _ = _
        rw [Hx2.out, Bool.and_eq_false_iff]
        rcases Decidable.not_and_iff_or_not.1 h1 with h | h
        · exact .inl (decide_eq_false fun e => h (by rw [HN.out.1.1, HN.out.1.2, e]))
        · exact .inr (decide_eq_false fun e => h (by rw [HN.out.2.1, HN.out.2.2, e]))
      by_cases h2 : nt = nt'
      · subst h2
        have q1 : ((nt : Int) != nt) = false := by simp
        have q2 : ((ns : Int) != ns') = true := by rw [bne_iff_ne]; intro h; exact h1 ⟨rfl, by omega⟩
        clear h1
        go_wp2_with fail
        go_ret
        exact ⟨by rw [HNE.out]; rfl, HC1.out.below⟩
      · have q1 : ((nt : Int) != nt') = true := by rw [bne_iff_ne]; omega
        clear h1 h2
        go_wp2_with fail
        go_ret
        exact ⟨by rw [HNE.out]; rfl, HC1.out.below⟩
  · have HX : Hid (x = false) := by
      show _ = _
      rw [Hx.out, decide_eq_false, Bool.false_and]
      rw [Hcfg.out.1, Hcfg.out.2]
      exact fun h => h0 (by simpa using h)
    have H0 := Lib.hid h0
    clear h0
    go_wp2_with fail
    all_goals first
      | (go_ret; exact ⟨by rw [HX.out]; rfl, HC1.out.below⟩)
      | exact absurd ⟨by assumption, by assumption, by assumption, by assumption, by assumption, by assumption⟩ H0.out
end Go.Proofs.YtdfhbnfhkckkbaaGreatDoor
