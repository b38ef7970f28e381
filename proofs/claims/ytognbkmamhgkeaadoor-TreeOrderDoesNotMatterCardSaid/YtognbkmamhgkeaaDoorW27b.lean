/-
  The walk of yields over All: as over Range, at the whole range.
-/
import Derived.Test.YtognbkmamhgkeaaDoorW27
namespace Go.Proofs.YtognbkmamhgkeaaDoor
open Go Go.RowKit Go.Walks Go.Shelf
attribute [local go_sem] Oper.semAt_some

set_option maxRecDepth 100000 in
set_option maxHeartbeats 4000000 in
theorem yields_all (T : TV) (n1 f t nn : Int) (A : Option Addr) (c : Nat) (D : List (Nat × Int)) (w : World) (Hs : Hid (Sub w T 2 0)) (HD : Hid (D = entR T.m 0 4096 0 4096)) (Hsl : Hid (Sl w w.heap.size A (entCells (entI D)))) :
    CallsIn Fence.wide 3 Tryd.prog 24 #[.agg #[ptrV (T.adr 2 0), .int .i64 n1], .bool true, .int .i64 f, .int .i64 t, .slice A D.length c, .int .i64 nn] w (YP w) := by
  refine callsIn_of_wp_marks Tryd.func24 rfl trivial ?_ rfl
  simp only [Tryd.ntmps24, List.size_toArray, List.length_cons, List.length_nil, Nat.reduceAdd, Nat.reduceSub, Array.replicate_succ, Array.replicate_zero, List.push_toArray, List.append_toArray, List.nil_append, List.cons_append]
  have hb0 : Below w.heap.size w ((((w.alloc (.cells #[ptrV (T.adr 2 0), .int .i64 n1] 31)).alloc (.cells #[.slice A D.length c] 33)).alloc (.cells #[.int .i64 nn] 3)).alloc (.cells #[.bool false] 4)) := ((((Below.refl _ _).alloc (Nat.le_refl _) _).alloc (by simp) _).alloc (by simp; omega) _).alloc (by simp; omega) _
  have Hb0 := Lib.hid hb0
  have HDl : Hid (D.length ≤ 4096) := by show _ ≤ _; rw [HD.out]; exact ent_len _ _ _ _ _
  clear hb0
  have hfn := func_nil
  gi_wp2_with (first
    | (refine ⟨trivial, ?_⟩; gi_at_call 38; refine (callsIn_wide.2 (range_any T n1 f t _ (Hs.out.below Hb0.out))).mono ?_; rintro e w0 ⟨v, rfl, hv, hb⟩; obtain ⟨d1, d2, d3, rfl, -⟩ := hv; have Hb9 := Lib.hid hb; obtain ⟨hc0, hc1⟩ := four_cells_b hb; clear hb)
    | (refine ⟨trivial, ?_⟩; gi_at_call 39; refine (callsIn_wide.2 (all_any T n1 _ ((Hs.out.below Hb0.out).below Hb9.out))).mono ?_; rintro e w1 ⟨v, rfl, hv, hb⟩; obtain ⟨b1, b2, b3, rfl, hv⟩ := hv; have Hv := Lib.hid hv; have Hb := Lib.hid (Hb9.out.trans (hb.mono Hb9.out.size)); clear hv hb))
  obtain ⟨r1, r2, r3⟩ := four_boxes Hb.out
  have hb1 : Below w.heap.size w w1 := Hb0.out.trans (Hb.out.mono (by simp; omega))
  have hw1 : w.heap.size + 4 ≤ w1.heap.size := by have := Hb.out.size; simp at this; omega
  have Hb1 := Lib.hid hb1
  have R1 := Lib.hid r1
  have R2 := Lib.hid r2
  have R3 := Lib.hid r3
  have hseq : ∀ m, SeqStopsK Fence.wide m Tryd.prog 43 #[.pointer (some ⟨b1, 0, none⟩), .pointer (some ⟨b2, 0, none⟩), .pointer (some ⟨b3, 0, none⟩)] encE Keeps76 (fun ys => ys = D) (fun pre => pre <+: D) D.length w1 := by
    intro m
    obtain ⟨T', n', f', t', eD, h0, hs, q1, q2, q3⟩ := Hv.out
    rw [HD.out, eD]
    exact range_stops m b1 b2 b3 T' n' f' t' w1 h0 hs q1 q2 q3
  have Hseq := Lib.hid hseq
  clear hb1 r1 r2 r3 hseq hc0 hc1
  refine wpIn_loop_rounds 3 ?_
  rw [roundsIn_succ]
  gi_wp2
  refine wpIn_rangeFunc_join rfl (by omega) (gf := 43) (lb := #[.pointer (some ⟨b1, 0, none⟩), .pointer (some ⟨b2, 0, none⟩), .pointer (some ⟨b3, 0, none⟩)]) rfl trivial (enters_of Tryd.func43 (by kernel_rfl) rfl)
    (Hseq.out 2) Keeps76.trans (keeps76_putObj (by simp <;> omega)) (((Below.refl _ _).alloc (Nat.le_refl _) _).alloc (by simp) _) (fun _ => rfl)
    (YInv w w1 A c nn D (w1.heap.size + 1) (w1.heap.size) 0 []) (fun pre => ((pre.length : Nat) : Int) = nn) 2
    (yinv_own (by simp <;> omega) (by simp <;> omega) (fun d h => by cases h)) (yinv_start R1.out R2.out R3.out Hb1.out hw1)
    (fun x => { tmps := #[.agg #[ptrV (T.adr 2 0), .int .i64 n1], .bool true, .int .i64 f, .int .i64 t, .slice A D.length c, .int .i64 nn, .pointer (some ⟨w.heap.size, 0, none⟩), undef, undef, undef, .pointer (some ⟨w.heap.size + 1, 0, none⟩), .pointer (some ⟨w.heap.size + 1 + 1, 0, none⟩), .pointer (some ⟨w.heap.size + 1 + 1 + 1, 0, none⟩), .func (.func 43) #[] #[.pointer (some ⟨b1, 0, none⟩), .pointer (some ⟨b2, 0, none⟩), .pointer (some ⟨b3, 0, none⟩)], .pointer (some ⟨w1.heap.size, 0, none⟩), .pointer (some ⟨w1.heap.size + 1, 0, none⟩), .int .i64 (x.1 : Int), .int .i64 x.2, .agg #[ptrV (T.adr 2 0), .int .i64 n1], .int .i64 f, .int .i64 t, .func (.func 43) #[] #[.pointer (some ⟨d1, 0, none⟩), .pointer (some ⟨d2, 0, none⟩), .pointer (some ⟨d3, 0, none⟩)], .bool true, .agg #[ptrV (T.adr 2 0), .int .i64 n1], .func (.func 43) #[] #[.pointer (some ⟨b1, 0, none⟩), .pointer (some ⟨b2, 0, none⟩), .pointer (some ⟨b3, 0, none⟩)], .func (.func 43) #[] #[.pointer (some ⟨b1, 0, none⟩), .pointer (some ⟨b2, 0, none⟩), .pointer (some ⟨b3, 0, none⟩)], .bool false, .int .i64 0, .bool true, undef, undef, .func (.func 43) #[] #[.pointer (some ⟨b1, 0, none⟩), .pointer (some ⟨b2, 0, none⟩), .pointer (some ⟨b3, 0, none⟩)], .int .i64 (x.1 : Int), .int .i64 x.2, undef, undef, undef, undef, undef, undef, undef, undef, undef, undef, undef, undef, undef, undef, undef, undef, undef, undef, undef, undef, undef, undef, undef, undef, undef, undef, undef, undef, undef, undef, undef, undef, undef, undef, undef, undef, undef, undef, undef, undef, undef, undef, undef, undef, undef], defers := [] }) ?assign0 ?body0 (fun _ _ h => h) ?cont0
  case assign0 =>
    intro l x W K hK
    simp only [encE]
    gi_wp2
    exact hK
  case body0 =>
    rintro l pre x W hI hlt
    have hci := hI.i.cell
    have hck := hI.k.cell
    have hcw := hI.want.cell
    have hcn := hI.n.cell
    have hcr := hI.res.cell
    have hfi := hI.i.frozen
    have hfr := hI.res.frozen
    obtain ⟨y, hy⟩ : ∃ y, D[pre.length]? = some y := ⟨_, List.getElem?_eq_getElem hlt⟩
    obtain ⟨g, o, rfl, hg, hc⟩ := Hsl.out.at_ (k := pre.length * 2) (by rw [entCells_len]; simp only [entI, List.length_map]; omega)
    have hyI : (entI D)[pre.length]? = some ((y.1 : Int), y.2) := by simp [entI, hy]
    have hc0 : W.cell? ⟨g, o + pre.length * 2, none⟩ = some (.int .i64 (y.1 : Int)) := by rw [hI.below.cell (p := ⟨g, o + pre.length * 2, none⟩) hg]; exact hc _ _ (entCells_at (entI D) _ _ hyI).1
    have hc1 : W.cell? ⟨g, o + pre.length * 2 + 1, none⟩ = some (.int .i64 y.2) := by rw [hI.below.cell (p := ⟨g, o + pre.length * 2 + 1, none⟩) hg]; exact hc _ _ (entCells_at (entI D) _ _ hyI).2
    have hpx := prefix_next hI.pre hy x
    have Hpx := Lib.hid hpx
    have HI := Lib.hid hI
    have hlD := HDl.out
    have hL1 : (0 : Int) ≤ (pre.length : Int) := by omega
    have hL2 : (pre.length : Int) < (D.length : Int) := by omega
    clear hpx hI hy hyI hc
    by_cases h1 : (y.1 : Int) = (x.1 : Int)
    · have t1 : ((y.1 : Int) != (x.1 : Int)) = false := by simp; omega
      by_cases h2 : y.2 = x.2
      · have t2 : (y.2 != x.2) = false := by simp [h2]
        have hstep := HI.out.step (x := x) (by omega) (by omega) (by omega) (Hpx.out.2 (by cases x; cases y; simp only [Prod.mk.injEq]; simp only at h1 h2; exact ⟨by omega, h2.symm⟩))
        have Hstep := Lib.hid hstep
        have Hk7 := Lib.hid (keeps76_box (u := .int .i64 ((pre.length : Nat) + 1 : Int)) HI.out.i (by omega))
        clear hstep h1 h2
        by_cases hn : (pre.length : Int) + 1 = nn
        · have t3 : ((pre.length : Int) + 1 == nn) = true := by simp [hn]
          have Hn := Lib.hid hn
          clear hn
          gi_wp2
          exact ⟨(KeepsOthers.setCell _ _ _).from _, .inr ⟨rfl, by simpa using Hn.out, Hstep.out⟩⟩
        · have t3 : ((pre.length : Int) + 1 == nn) = false := by simp [hn]
          clear hn
          gi_wp2
          exact ⟨(KeepsOthers.setCell _ _ _).from _, Hk7.out, Hstep.out⟩
      · have t2 : (y.2 != x.2) = true := by simp [h2]
        have HN : Hid (¬ pre ++ [x] <+: D) := fun h => h2 (by rw [Hpx.out.1 h])
        clear h1 h2
        gi_wp2
        exact ⟨(KeepsOthers.setCell _ _ _).from _, .inl ⟨rfl, HN.out⟩⟩
    · have t1 : ((y.1 : Int) != (x.1 : Int)) = true := by simp; omega
      have HN : Hid (¬ pre ++ [x] <+: D) := fun h => h1 (by rw [Hpx.out.1 h])
      clear h1
      gi_wp2
      exact ⟨(KeepsOthers.setCell _ _ _).from _, .inl ⟨rfl, HN.out⟩⟩
  case cont0 =>
    rintro Dm pre W hDm hor hI hK
    have hci := hI.i.cell
    have hck := hI.k.cell
    have hcw := hI.want.cell
    have hcn := hI.n.cell
    have hlp : pre.length ≤ 4096 := Nat.le_trans (hI.pre.length_le) HDl.out
    have hlD := HDl.out
    have hWs : w1.heap.size + 2 ≤ W.heap.size := by have := hI.i.lt; omega
    have HI := Lib.hid hI
    have HK := Lib.hid hK
    have HDm := Lib.hid hDm
    have hkW := hI.k.alloc (.cells #[.int .i64 0] 3)
    clear hI hK hDm
    obtain ⟨u1, u2, hu1, hu2, hch⟩ : ∃ u1 u2 : Bool, u1 = ((pre.length : Int) != (D.length : Int)) ∧ u2 = ((pre.length : Int) != nn) ∧ (u1 && u2) = false := by
      refine ⟨_, _, rfl, rfl, ?_⟩
      rcases hor with h | h
      · have h' : pre = D := h
        subst h'; simp
      · simp [h]
    clear hor
    have hu1' := hu1.symm
    have hu2' := hu2.symm
    clear hu1 hu2
    cases u1
    · clear hu2' hch
      have hW0 : w.heap.size + 4 ≤ W.heap.size := by omega
      gi_wp2
      rw [roundsIn_succ]
      gi_wp2
      refine wpIn_rangeFunc_join rfl (by omega) (gf := 43) (lb := #[.pointer (some ⟨b1, 0, none⟩), .pointer (some ⟨b2, 0, none⟩), .pointer (some ⟨b3, 0, none⟩)]) rfl trivial (enters_of Tryd.func43 (by kernel_rfl) rfl)
        (Hseq.out 2) Keeps76.trans (keeps76_putObj (by simp <;> omega)) ((HI.out.below1.alloc (by omega) _).alloc (by simp; omega) _) (fun _ => rfl)
        (YInv w w1 A c nn D (W.heap.size + 1) (W.heap.size) 1 [Dm]) (fun _ => False) 2
        (yinv_own (by simp <;> omega) (by simp <;> omega) (fun d h => by have := (Array.getElem?_eq_some_iff.1 HK.out).1; simp only [List.mem_singleton] at h; subst h; simp; omega)) (HI.out.second HK.out)
        (fun x => { tmps := #[.agg #[ptrV (T.adr 2 0), .int .i64 n1], .bool true, .int .i64 f, .int .i64 t, .slice A D.length c, .int .i64 nn, .pointer (some ⟨w.heap.size, 0, none⟩), undef, undef, undef, .pointer (some ⟨w.heap.size + 1, 0, none⟩), .pointer (some ⟨w.heap.size + 1 + 1, 0, none⟩), .pointer (some ⟨w.heap.size + 1 + 1 + 1, 0, none⟩), .func (.func 43) #[] #[.pointer (some ⟨b1, 0, none⟩), .pointer (some ⟨b2, 0, none⟩), .pointer (some ⟨b3, 0, none⟩)], .pointer (some ⟨W.heap.size, 0, none⟩), .pointer (some ⟨W.heap.size + 1, 0, none⟩), .int .i64 (x.1 : Int), .int .i64 x.2, .agg #[ptrV (T.adr 2 0), .int .i64 n1], .int .i64 f, .int .i64 t, .func (.func 43) #[] #[.pointer (some ⟨d1, 0, none⟩), .pointer (some ⟨d2, 0, none⟩), .pointer (some ⟨d3, 0, none⟩)], .bool true, .agg #[ptrV (T.adr 2 0), .int .i64 n1], .func (.func 43) #[] #[.pointer (some ⟨b1, 0, none⟩), .pointer (some ⟨b2, 0, none⟩), .pointer (some ⟨b3, 0, none⟩)], .func (.func 43) #[] #[.pointer (some ⟨b1, 0, none⟩), .pointer (some ⟨b2, 0, none⟩), .pointer (some ⟨b3, 0, none⟩)], .bool false, .int .i64 1, .bool true, .int .i64 0, .int .i64 1, .func (.func 43) #[] #[.pointer (some ⟨b1, 0, none⟩), .pointer (some ⟨b2, 0, none⟩), .pointer (some ⟨b3, 0, none⟩)], .int .i64 (x.1 : Int), .int .i64 x.2, undef, undef, undef, undef, undef, undef, undef, undef, undef, undef, undef, undef, undef, undef, undef, undef, undef, undef, undef, undef, undef, undef, undef, undef, undef, undef, undef, undef, undef, undef, undef, .int .i64 (pre.length : Int), .slice A D.length c, .int .i64 (D.length : Int), .bool false, .bool false, undef, undef, undef, undef, undef, undef, undef, .bool false, .int .i64 0], defers := [] }) ?assign1 ?body1 (fun _ _ h => h) ?cont1
      case assign1 =>
        intro l x W K hK
        simp only [encE]
        gi_wp2
        exact hK
      case body1 =>
        rintro l pre x W hI hlt
        have hci := hI.i.cell
        have hck := hI.k.cell
        have hcw := hI.want.cell
        have hcn := hI.n.cell
        have hcr := hI.res.cell
        have hfi := hI.i.frozen
        have hfr := hI.res.frozen
        obtain ⟨y, hy⟩ : ∃ y, D[pre.length]? = some y := ⟨_, List.getElem?_eq_getElem hlt⟩
        obtain ⟨g, o, rfl, hg, hc⟩ := Hsl.out.at_ (k := pre.length * 2) (by rw [entCells_len]; simp only [entI, List.length_map]; omega)
        have hyI : (entI D)[pre.length]? = some ((y.1 : Int), y.2) := by simp [entI, hy]
        have hc0 : W.cell? ⟨g, o + pre.length * 2, none⟩ = some (.int .i64 (y.1 : Int)) := by rw [hI.below.cell (p := ⟨g, o + pre.length * 2, none⟩) hg]; exact hc _ _ (entCells_at (entI D) _ _ hyI).1
        have hc1 : W.cell? ⟨g, o + pre.length * 2 + 1, none⟩ = some (.int .i64 y.2) := by rw [hI.below.cell (p := ⟨g, o + pre.length * 2 + 1, none⟩) hg]; exact hc _ _ (entCells_at (entI D) _ _ hyI).2
        have hpx := prefix_next hI.pre hy x
        have Hpx := Lib.hid hpx
        have HI := Lib.hid hI
        have hlD := HDl.out
        have hL1 : (0 : Int) ≤ (pre.length : Int) := by omega
        have hL2 : (pre.length : Int) < (D.length : Int) := by omega
        clear hpx hI hy hyI hc
        by_cases h1 : (y.1 : Int) = (x.1 : Int)
        · have t1 : ((y.1 : Int) != (x.1 : Int)) = false := by simp; omega
          by_cases h2 : y.2 = x.2
          · have t2 : (y.2 != x.2) = false := by simp [h2]
            have hstep := HI.out.step (x := x) (by omega) (by omega) (by omega) (Hpx.out.2 (by cases x; cases y; simp only [Prod.mk.injEq]; simp only at h1 h2; exact ⟨by omega, h2.symm⟩))
            have Hstep := Lib.hid hstep
            have Hk7 := Lib.hid (keeps76_box (u := .int .i64 ((pre.length : Nat) + 1 : Int)) HI.out.i (by omega))
            clear hstep h1 h2
            gi_wp2
            exact ⟨(KeepsOthers.setCell _ _ _).from _, Hk7.out, Hstep.out⟩
          · have t2 : (y.2 != x.2) = true := by simp [h2]
            have HN : Hid (¬ pre ++ [x] <+: D) := fun h => h2 (by rw [Hpx.out.1 h])
            clear h1 h2
            gi_wp2
            exact ⟨(KeepsOthers.setCell _ _ _).from _, .inl ⟨rfl, HN.out⟩⟩
        · have t1 : ((y.1 : Int) != (x.1 : Int)) = true := by simp; omega
          have HN : Hid (¬ pre ++ [x] <+: D) := fun h => h1 (by rw [Hpx.out.1 h])
          clear h1
          gi_wp2
          exact ⟨(KeepsOthers.setCell _ _ _).from _, .inl ⟨rfl, HN.out⟩⟩
      case cont1 =>
        rintro Dn pre2 W2 hDn hor2 hI2 hK2
        obtain rfl : pre2 = D := by rcases hor2 with h | h; exact h; exact h.elim
        have hci2 := hI2.i.cell
        have hck2 := hI2.k.cell
        have hcw2 := hI2.want.cell
        have hcn2 := hI2.n.cell
        have hfr2 := (hI2.res.alloc (.cells #[.int .i64 2] 3)).frozen
        have hcr2 := (hI2.res.alloc (.cells #[.int .i64 2] 3)).cell
        have hW2 : W.heap.size + 2 ≤ W2.heap.size := by have := hI2.i.lt; omega
        have HI2 := Lib.hid hI2
        have HK2 := Lib.hid hK2
        clear hI2 hK2 hor2
        gi_wp2
        rw [roundsIn_succ]
        gi_wp2
        have hDm := HDm.out
        have hDmW := (Array.getElem?_eq_some_iff.1 HK.out).1
        simp only [World.size_alloc] at hDn hDm
        exact HI2.out.leave (by omega) (by omega) (by omega) HK2.out _ _ rfl

    · have hu3 : u2 = false := by simpa using hch
      subst hu3
      clear hch
      have hW0 : w.heap.size + 4 ≤ W.heap.size := by omega
      gi_wp2
      rw [roundsIn_succ]
      gi_wp2
      refine wpIn_rangeFunc_join rfl (by omega) (gf := 43) (lb := #[.pointer (some ⟨b1, 0, none⟩), .pointer (some ⟨b2, 0, none⟩), .pointer (some ⟨b3, 0, none⟩)]) rfl trivial (enters_of Tryd.func43 (by kernel_rfl) rfl)
        (Hseq.out 2) Keeps76.trans (keeps76_putObj (by simp <;> omega)) ((HI.out.below1.alloc (by omega) _).alloc (by simp; omega) _) (fun _ => rfl)
        (YInv w w1 A c nn D (W.heap.size + 1) (W.heap.size) 1 [Dm]) (fun _ => False) 2
        (yinv_own (by simp <;> omega) (by simp <;> omega) (fun d h => by have := (Array.getElem?_eq_some_iff.1 HK.out).1; simp only [List.mem_singleton] at h; subst h; simp; omega)) (HI.out.second HK.out)
        (fun x => { tmps := #[.agg #[ptrV (T.adr 2 0), .int .i64 n1], .bool true, .int .i64 f, .int .i64 t, .slice A D.length c, .int .i64 nn, .pointer (some ⟨w.heap.size, 0, none⟩), undef, undef, undef, .pointer (some ⟨w.heap.size + 1, 0, none⟩), .pointer (some ⟨w.heap.size + 1 + 1, 0, none⟩), .pointer (some ⟨w.heap.size + 1 + 1 + 1, 0, none⟩), .func (.func 43) #[] #[.pointer (some ⟨b1, 0, none⟩), .pointer (some ⟨b2, 0, none⟩), .pointer (some ⟨b3, 0, none⟩)], .pointer (some ⟨W.heap.size, 0, none⟩), .pointer (some ⟨W.heap.size + 1, 0, none⟩), .int .i64 (x.1 : Int), .int .i64 x.2, .agg #[ptrV (T.adr 2 0), .int .i64 n1], .int .i64 f, .int .i64 t, .func (.func 43) #[] #[.pointer (some ⟨d1, 0, none⟩), .pointer (some ⟨d2, 0, none⟩), .pointer (some ⟨d3, 0, none⟩)], .bool true, .agg #[ptrV (T.adr 2 0), .int .i64 n1], .func (.func 43) #[] #[.pointer (some ⟨b1, 0, none⟩), .pointer (some ⟨b2, 0, none⟩), .pointer (some ⟨b3, 0, none⟩)], .func (.func 43) #[] #[.pointer (some ⟨b1, 0, none⟩), .pointer (some ⟨b2, 0, none⟩), .pointer (some ⟨b3, 0, none⟩)], .bool false, .int .i64 1, .bool true, .int .i64 0, .int .i64 1, .func (.func 43) #[] #[.pointer (some ⟨b1, 0, none⟩), .pointer (some ⟨b2, 0, none⟩), .pointer (some ⟨b3, 0, none⟩)], .int .i64 (x.1 : Int), .int .i64 x.2, undef, undef, undef, undef, undef, undef, undef, undef, undef, undef, undef, undef, undef, undef, undef, undef, undef, undef, undef, undef, undef, undef, undef, undef, undef, undef, undef, undef, undef, undef, undef, .int .i64 (pre.length : Int), .slice A D.length c, .int .i64 (D.length : Int), .bool true, .bool true, .int .i64 0, .bool false, .bool false, .int .i64 (pre.length : Int), .int .i64 nn, .bool false, .bool false, .bool false, .int .i64 0], defers := [] }) ?assign1 ?body1 (fun _ _ h => h) ?cont1
      case assign1 =>
        intro l x W K hK
        simp only [encE]
        gi_wp2
        exact hK
      case body1 =>
        rintro l pre x W hI hlt
        have hci := hI.i.cell
        have hck := hI.k.cell
        have hcw := hI.want.cell
        have hcn := hI.n.cell
        have hcr := hI.res.cell
        have hfi := hI.i.frozen
        have hfr := hI.res.frozen
        obtain ⟨y, hy⟩ : ∃ y, D[pre.length]? = some y := ⟨_, List.getElem?_eq_getElem hlt⟩
        obtain ⟨g, o, rfl, hg, hc⟩ := Hsl.out.at_ (k := pre.length * 2) (by rw [entCells_len]; simp only [entI, List.length_map]; omega)
        have hyI : (entI D)[pre.length]? = some ((y.1 : Int), y.2) := by simp [entI, hy]
        have hc0 : W.cell? ⟨g, o + pre.length * 2, none⟩ = some (.int .i64 (y.1 : Int)) := by rw [hI.below.cell (p := ⟨g, o + pre.length * 2, none⟩) hg]; exact hc _ _ (entCells_at (entI D) _ _ hyI).1
        have hc1 : W.cell? ⟨g, o + pre.length * 2 + 1, none⟩ = some (.int .i64 y.2) := by rw [hI.below.cell (p := ⟨g, o + pre.length * 2 + 1, none⟩) hg]; exact hc _ _ (entCells_at (entI D) _ _ hyI).2
        have hpx := prefix_next hI.pre hy x
        have Hpx := Lib.hid hpx
        have HI := Lib.hid hI
        have hlD := HDl.out
        have hL1 : (0 : Int) ≤ (pre.length : Int) := by omega
        have hL2 : (pre.length : Int) < (D.length : Int) := by omega
        clear hpx hI hy hyI hc
        by_cases h1 : (y.1 : Int) = (x.1 : Int)
        · have t1 : ((y.1 : Int) != (x.1 : Int)) = false := by simp; omega
          by_cases h2 : y.2 = x.2
          · have t2 : (y.2 != x.2) = false := by simp [h2]
            have hstep := HI.out.step (x := x) (by omega) (by omega) (by omega) (Hpx.out.2 (by cases x; cases y; simp only [Prod.mk.injEq]; simp only at h1 h2; exact ⟨by omega, h2.symm⟩))
            have Hstep := Lib.hid hstep
            have Hk7 := Lib.hid (keeps76_box (u := .int .i64 ((pre.length : Nat) + 1 : Int)) HI.out.i (by omega))
            clear hstep h1 h2
            gi_wp2
            exact ⟨(KeepsOthers.setCell _ _ _).from _, Hk7.out, Hstep.out⟩
          · have t2 : (y.2 != x.2) = true := by simp [h2]
            have HN : Hid (¬ pre ++ [x] <+: D) := fun h => h2 (by rw [Hpx.out.1 h])
            clear h1 h2
            gi_wp2
            exact ⟨(KeepsOthers.setCell _ _ _).from _, .inl ⟨rfl, HN.out⟩⟩
        · have t1 : ((y.1 : Int) != (x.1 : Int)) = true := by simp; omega
          have HN : Hid (¬ pre ++ [x] <+: D) := fun h => h1 (by rw [Hpx.out.1 h])
          clear h1
          gi_wp2
          exact ⟨(KeepsOthers.setCell _ _ _).from _, .inl ⟨rfl, HN.out⟩⟩
      case cont1 =>
        rintro Dn pre2 W2 hDn hor2 hI2 hK2
        obtain rfl : pre2 = D := by rcases hor2 with h | h; exact h; exact h.elim
        have hci2 := hI2.i.cell
        have hck2 := hI2.k.cell
        have hcw2 := hI2.want.cell
        have hcn2 := hI2.n.cell
        have hfr2 := (hI2.res.alloc (.cells #[.int .i64 2] 3)).frozen
        have hcr2 := (hI2.res.alloc (.cells #[.int .i64 2] 3)).cell
        have hW2 : W.heap.size + 2 ≤ W2.heap.size := by have := hI2.i.lt; omega
        have HI2 := Lib.hid hI2
        have HK2 := Lib.hid hK2
        clear hI2 hK2 hor2
        gi_wp2
        rw [roundsIn_succ]
        gi_wp2
        have hDm := HDm.out
        have hDmW := (Array.getElem?_eq_some_iff.1 HK.out).1
        simp only [World.size_alloc] at hDn hDm
        exact HI2.out.leave (by omega) (by omega) (by omega) HK2.out _ _ rfl


end Go.Proofs.YtognbkmamhgkeaaDoor
