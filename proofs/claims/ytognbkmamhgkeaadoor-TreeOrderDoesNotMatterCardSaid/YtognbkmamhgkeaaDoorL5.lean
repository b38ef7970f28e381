/-
  The walk of the statement TreePlays: it returns true for every script and every range, where the library's table lies as it is laid.
-/
import Derived.Test.YtognbkmamhgkeaaDoorL1a
import Derived.Test.YtognbkmamhgkeaaDoorW27
import Derived.Test.YtognbkmamhgkeaaDoorW27b
import Derived.Deep.RegionHeld3
namespace Go.Proofs.YtognbkmamhgkeaaDoor
open Go Go.RowKit Go.Walks

theorem yall_any {W : World} {T : TV} {n nn : Int} {l : List (Int × Int)} {A : Option Addr} {c : Nat} (hg : Good W T n) (hm : T.m = mOf l) (hs : Srt l) (hsl : Sl W W.heap.size A (entCells (rangeL l 0 4096))) :
    Calls Tryd.prog 24 #[.agg #[ptrV (T.adr 2 0), .int .i64 n], .bool true, .int .i64 0, .int .i64 0, .slice A (rangeL l 0 4096).length c, .int .i64 nn] W (YP W) := by
  have e := rangeL_eq hs 0 4096
  rw [← hm] at e
  have el : (rangeL l 0 4096).length = (entR T.m 0 4096 0 4096).length := by rw [e]; simp [entI]
  rw [el]
  exact callsIn_wide.1 (yields_all T n 0 0 nn A c _ W hg.sub (rfl : entR T.m 0 4096 0 4096 = _) (show Sl _ _ _ _ by rw [← e]; exact hsl))

theorem yrange_any {W : World} {T : TV} {n nn f t : Int} {l : List (Int × Int)} {A : Option Addr} {c : Nat} (hg : Good W T n) (hm : T.m = mOf l) (hs : Srt l) (hsl : Sl W W.heap.size A (entCells (rangeL l f t))) :
    Calls Tryd.prog 24 #[.agg #[ptrV (T.adr 2 0), .int .i64 n], .bool false, .int .i64 f, .int .i64 t, .slice A (rangeL l f t).length c, .int .i64 nn] W (YP W) := by
  have e := rangeL_eq hs f t
  rw [← hm] at e
  have el : (rangeL l f t).length = (entR T.m f t 0 4096).length := by rw [e]; simp [entI]
  rw [el]
  exact callsIn_wide.1 (yields_range T n f t nn A c _ W hg.sub (rfl : entR T.m f t 0 4096 = _) (show Sl _ _ _ _ by rw [← e]; exact hsl))

theorem atI_getL {l : List (Int × Int)} (h : Srt l) (b : Int) : atI (mOf l) b = getL l b := by
  unfold atI
  split
  · rename_i hb
    unfold mOf
    rw [show ((b.toNat : Nat) : Int) = b by omega]
  · rename_i hb
    cases hc : getL l b with
    | none => rfl
    | some c =>
      have := h.rng _ ((getL_some h b c).1 hc)
      simp only at this
      omega

theorem rget_at {l : List (Int × Int)} {m : Nat → Option Int} {xo : Option Int} {A : Option Addr} {b : Int} (c : Nat) (w : World) (hl : l.length ≤ 100000) (hm : m = mOf l) (hs : Srt l) (hx : atI m b = xo) (Hsl : Sl w w.heap.size A (entCells l)) :
    Calls Tryd.prog 29 #[.agg #[.slice A l.length c], .int .i64 b] w (GetPost w xo) := by
  have e : getL l b = xo := by rw [← hx, hm, atI_getL hs]
  rw [← e]
  exact rget_any l A c b w hl Hsl

theorem ent_cnt (m : Nat → Option Int) (M : Nat) : ∀ n, n ≤ M → (entR m 0 (M : Int) 0 n).length = (List.range n).countP fun x => (m x).isSome := by
  intro n
  induction n with
  | zero => intro _; rfl
  | succ n ih =>
    intro hn
    rw [entR_add, List.range_succ, List.countP_append, List.length_append, ih (by omega), Nat.zero_add]
    cases hc : m n with
    | none => rw [entR_nil (fun x h1 h2 => .inl (by rw [show x = n by omega]; exact hc))]; simp [hc]
    | some c => rw [entR_one hc (by omega) (by omega)]; simp [hc]

theorem cnt_len {l : List (Int × Int)} (h : Srt l) : cnt (mOf l) = l.length := by
  have e := rangeL_eq h 0 4096
  have hl : rangeL l 0 4096 = l := List.filter_eq_self.2 fun x hx => by have := h.rng x hx; simp; omega
  rw [hl] at e
  have h2 := congrArg List.length e
  simp only [entI, List.length_map] at h2
  rw [h2]
  exact (ent_cnt (mOf l) 4096 4096 (Nat.le_refl _)).symm

set_option maxHeartbeats 400000 in
theorem plays_long (n c : Nat) (A : Option Addr) (f t : Int) (w : World) (Ht : Hid (Tab w)) (hn : 80 < n) (hm : n ≤ maxLen) :
    Calls Tryd.prog 7 #[.slice A n c, .int .i64 f, .int .i64 t] w (TrueP w) := by
  unfold maxLen at hm
  go_enter Tryd.func7, Tryd.ntmps7
  go_wp2_with (go_at_call 9; refine (sanity_any _ Ht).mono ?_; rintro e w1 ⟨rfl, hb1⟩; have Hb1 := Lib.hid hb1; clear hb1)
  go_ret
  exact ⟨rfl, Hb1.out⟩

set_option maxRecDepth 100000 in
set_option maxHeartbeats 4000000 in
theorem plays_short (ops : List OpN) (c : Nat) (A : Option Addr) (f t : Int) (w : World) (Ht : Hid (Tab w)) (hn : ops.length ≤ 80) (Hsl : Hid (Sl w w.heap.size A (opCells ops))) :
    Calls Tryd.prog 7 #[.slice A ops.length c, .int .i64 f, .int .i64 t] w (TrueP w) := by
  have hn' : decide ((80 : Int) < (ops.length : Int)) = false := by simp; omega
  go_enter Tryd.func7, Tryd.ntmps7
  go_wp2_with (first
    | (go_at_call 9; refine (sanity_any _ Ht).mono ?_; rintro e w1 ⟨rfl, hb1⟩; have Hb1 := Lib.hid hb1; have Hs1 := Lib.hid ((Hsl.out.below hb1).more hb1.size); clear hb1)
    | (go_at_call 10; refine (play_any ops A c _ (by omega) Hs1).mono ?_; rintro e w2 ⟨v, Ts, rfl, htv⟩; obtain ⟨A2, c2, rfl, htr⟩ := htv.read; have Hb2 := Lib.hid (Hb1.out.trans (htv.below.mono Hb1.out.size)); have Htr := Lib.hid htr; have Hs2 := Lib.hid ((Hs1.out.below htv.below).more htv.below.size); clear htv htr)
    | (go_at_call 11; refine (rplay_any ops A c _ (by omega) Hs2).mono ?_; rintro e w3 ⟨v, rfl, hv⟩; obtain ⟨A3, c3, rfl, hvr⟩ := hv.read; have Hb3 := Lib.hid (Hb2.out.trans (hv.below.mono Hb2.out.size)); have Htr3 := Lib.hid (Htr.out.below hv.below); have Hvr := Lib.hid hvr; have Hs3 := Lib.hid (slB Hs2.out hv.below); clear hv hvr Htr))
  have hpl := playL_len ops
  have HL : Hid ((playL ops).length = ops.length + 1) := hpl
  have hlen : (playL ops).length ≤ 81 := by omega
  clear hpl
  go_loopw [10] (fun ix wr => ∃ k : Nat, k ≤ (playL ops).length ∧ ix = .int .i64 k ∧ Hid (Below w3.heap.size w3 wr)) (fun ix _ => (playL ops).length - (intOf ix).toNat)
  case atStart => exact ⟨0, by omega, rfl, Below.refl _ _⟩
  case round =>
    obtain ⟨i, hi, rfl, HB⟩ := hrel
    obtain ⟨wo, rfl⟩ : ∃ wo : World, wo = wr := ⟨_, rfl⟩
    by_cases hlti : i < (playL ops).length
    · have hI1 : (0 : Int) ≤ (i : Int) := by omega
      have hI2 : (i : Int) < ((playL ops).length : Int) := by omega
      obtain ⟨gT, oT, T1, n1, l1, rfl, hgT, hTs, hLs1, hc0, hc1, hgood1, hm1⟩ := (Htr3.out.below HB.out).at_ hlti
      obtain ⟨gR, oR, A1, c1, l1', rfl, hgR, hLs1', hr0, hsl1, hlc1, hcm1⟩ := (Hvr.out.below HB.out).at_ hlti
      obtain rfl : l1' = l1 := by rw [hLs1] at hLs1'; injection hLs1' with h; exact h.symm
      have hsrt1 := srt_play ops l1' (List.mem_of_getElem? hLs1)
      have hsm1 := playL_small ops l1' (List.mem_of_getElem? hLs1)
      have hnum : (n1 != (l1'.length : Int)) = false := by rw [hgood1.num, hm1, cnt_len hsrt1]; simp
      have Hg1 := Lib.hid hgood1
      have Hm1 := Lib.hid hm1
      have HS1 := Lib.hid hsrt1
      have Hsl1 := Lib.hid hsl1.sl
      have hrl := rangeL_len l1' f t
      have hrl2 := rangeL_len l1' 0 4096
      clear hTs hLs1 hLs1' hgood1 hm1 hsrt1 hsl1
      have keepS : ∀ w' : World, Below wo.heap.size wo w' → (w'.cell? ⟨gT, oT + i * 2, none⟩ = some (ptrV (T1.adr 2 0)) ∧ w'.cell? ⟨gT, oT + i * 2 + 1, none⟩ = some (.int .i64 n1)) ∧ w'.cell? ⟨gR, oR + i, none⟩ = some (.slice A1 l1'.length c1) :=
        fun w' hb => ⟨⟨(hb.cell (p := ⟨gT, oT + i * 2, none⟩) hgT).trans hc0, (hb.cell (p := ⟨gT, oT + i * 2 + 1, none⟩) hgT).trans hc1⟩, (hb.cell (p := ⟨gR, oR + i, none⟩) hgR).trans hr0⟩
      have KS := Lib.hid keepS
      clear keepS
      have B0 : Hid (Below wo.heap.size wo wo.drew) := (Below.refl _ _).drew
      go_wp2_with fail
      go_region_held3 (fun w' => (w'.cell? ⟨gT, oT + i * 2, none⟩ = some (ptrV (T1.adr 2 0)) ∧ w'.cell? ⟨gT, oT + i * 2 + 1, none⟩ = some (.int .i64 n1)) ∧ w'.cell? ⟨gR, oR + i, none⟩ = some (.slice A1 l1'.length c1)) (first | exact hKeep | go_keep)
        (first
          | (go_at_call 25; refine (rall_any l1' A1 c1 _ (by omega) ((Hsl1.out.below B0.out).more B0.out.size)).mono ?_; rintro e w5 ⟨v5, rfl, hown, hbx⟩; obtain ⟨A5, c5, rfl, hs5, -⟩ := Sl.of_own hown; have HS5 := Lib.hid hs5; have B1 := Lib.hid (B0.out.trans (hbx.mono B0.out.size)); have hKeep := KS.out _ B1.out; clear hbx hown hs5)
          | (go_at_call 24; refine (yall_any (Hg1.out.below B1.out) Hm1.out HS1.out HS5.out).mono ?_; rintro e w6 ⟨rfl, hbx⟩; have B2 := Lib.hid (B1.out.trans (hbx.mono B1.out.size)); have hKeep := KS.out _ B2.out; clear hbx))
      have B3 : Hid (Below wo.heap.size wo w6.drew) := B2.out.drew
      have hKeep2 := KS.out _ B2.out
      have hKeep3 := KS.out _ B3.out
      go_wp2_with fail
      go_region_held3 (fun w' => (w'.cell? ⟨gT, oT + i * 2, none⟩ = some (ptrV (T1.adr 2 0)) ∧ w'.cell? ⟨gT, oT + i * 2 + 1, none⟩ = some (.int .i64 n1)) ∧ w'.cell? ⟨gR, oR + i, none⟩ = some (.slice A1 l1'.length c1)) (first | exact hKeep | go_keep)
        (first
          | (go_at_call 26; refine (rrange_any l1' A1 c1 f t _ (by omega) ((Hsl1.out.below B3.out).more B3.out.size)).mono ?_; rintro e w7 ⟨v7, rfl, hown, hbx⟩; obtain ⟨A7, c7, rfl, hs7, -⟩ := Sl.of_own hown; have HS7 := Lib.hid hs7; have B4 := Lib.hid (B3.out.trans (hbx.mono B3.out.size)); have hKeep := KS.out _ B4.out; clear hbx hown hs7)
          | (go_at_call 24; refine (yrange_any (Hg1.out.below B4.out) Hm1.out HS1.out HS7.out).mono ?_; rintro e w8 ⟨rfl, hbx⟩; have B5 := Lib.hid (B4.out.trans (hbx.mono B4.out.size)); have hKeep := KS.out _ B5.out; clear hbx))
      have B6 : Hid (Below wo.heap.size wo w8.drew) := B5.out.drew
      have hKeep5 := KS.out _ B5.out
      have hKeep6 := KS.out _ B6.out
      clear hKeep2 hKeep3
      go_wp2_with fail
      go_region_held3 (fun w' => (w'.cell? ⟨gT, oT + i * 2, none⟩ = some (ptrV (T1.adr 2 0)) ∧ w'.cell? ⟨gT, oT + i * 2 + 1, none⟩ = some (.int .i64 n1)) ∧ w'.cell? ⟨gR, oR + i, none⟩ = some (.slice A1 l1'.length c1)) (first | exact hKeep | go_keep)
        (first
          | (go_at_call 27; refine (tlen_any _ n1 _).mono ?_; rintro e w9 ⟨rfl, hbx⟩; have B7 := Lib.hid (B6.out.trans (hbx.mono B6.out.size)); have hKeep := KS.out _ B7.out; clear hbx)
          | (go_at_call 28; refine (rlen_any l1' A1 c1 _).mono ?_; rintro e w10 ⟨rfl, hbx⟩; have B8 := Lib.hid (B7.out.trans (hbx.mono B7.out.size)); have hKeep := KS.out _ B8.out; clear hbx))
      clear hKeep5 hKeep6
      go_wp2_with fail
      go_loopw [13] (fun ix wr' => ∃ k : Nat, k ≤ ops.length ∧ ix = .int .i64 k ∧ Hid (Below wo.heap.size wo wr')) (fun ix _ => ops.length - (intOf ix).toNat)
      case atStart => exact ⟨0, by omega, rfl, B8⟩
      case round =>
        obtain ⟨k, hk, rfl, HC⟩ := hrel
        by_cases hltk : k < ops.length
        · have hK1 : (0 : Int) ≤ (k : Int) := by omega
          have hK2 : (k : Int) < (ops.length : Int) := by omega
          go_wp2_with fail
          go_loopw [14] (fun ix wr' => ∃ d : Int, -1 ≤ d ∧ d ≤ 2 ∧ ix = .int .i64 d ∧ Hid (Below wo.heap.size wo wr')) (fun ix _ => (2 - intOf ix).toNat)
          case atStart => exact ⟨-1, by omega, by omega, rfl, HC⟩
          case round =>
            obtain ⟨d, hd1, hd2, rfl, HE⟩ := hrel
            by_cases hltd : d < 2
            · obtain ⟨gA, oA, rfl, hgA, hcA⟩ := Hs3.out.at_ (k := k * 4) (by rw [opCells_len]; omega)
              obtain ⟨op, hop⟩ : ∃ op, ops[k]? = some op := ⟨_, List.getElem?_eq_getElem hltk⟩
              obtain ⟨-, -, q2, -⟩ := opCells_at ops k op hop
              have hcb : w3.cell? ⟨gA, oA + k * 4 + 2, none⟩ = some (.int .i64 op.blk) := by rw [Nat.add_assoc]; exact hcA _ _ q2
              have keepT : ∀ w' : World, Below wo.heap.size wo w' → ((w'.cell? ⟨gT, oT + i * 2, none⟩ = some (ptrV (T1.adr 2 0)) ∧ w'.cell? ⟨gT, oT + i * 2 + 1, none⟩ = some (.int .i64 n1)) ∧ w'.cell? ⟨gR, oR + i, none⟩ = some (.slice A1 l1'.length c1)) ∧ w'.cell? ⟨gA, oA + k * 4 + 2, none⟩ = some (.int .i64 op.blk) :=
                fun w' hb => ⟨KS.out w' hb, ((HB.out.trans (hb.mono HB.out.size)).cell (p := ⟨gA, oA + k * 4 + 2, none⟩) hgA).trans hcb⟩
              have KT := Lib.hid keepT
              clear keepT hcA q2 hop hcb
              have D0 := HE
              have D1 : Hid (Below wo.heap.size wo wr.drew) := HE.out.drew
              have hKeep0 := KT.out _ D0.out
              have hKeep1 := KT.out _ D1.out
              go_wp2_with fail
              go_region_held3 (fun w' => ((w'.cell? ⟨gT, oT + i * 2, none⟩ = some (ptrV (T1.adr 2 0)) ∧ w'.cell? ⟨gT, oT + i * 2 + 1, none⟩ = some (.int .i64 n1)) ∧ w'.cell? ⟨gR, oR + i, none⟩ = some (.slice A1 l1'.length c1)) ∧ w'.cell? ⟨gA, oA + k * 4 + 2, none⟩ = some (.int .i64 op.blk)) (first | exact hKeep | go_keep)
                (first
                  | (go_at_call 23; refine (tget_any T1 n1 _ _ (Hg1.out.below D1.out)).mono ?_; rintro e w11 ⟨rfl, hbx⟩; have D2 := Lib.hid (D1.out.trans (hbx.mono D1.out.size)); have hKeep := KT.out _ D2.out; clear hbx))
              obtain ⟨xo, hxo⟩ : ∃ xo, atI T1.m (IntKind.i64.wrap (op.blk + d)) = xo := ⟨_, rfl⟩
              rw [hxo]
              have Hxo := Lib.hid hxo
              clear hxo
              have D3 : Hid (Below wo.heap.size wo w11.drew) := D2.out.drew
              have hKeep2 := KT.out _ D2.out
              have hKeep3 := KT.out _ D3.out
              clear hKeep0 hKeep1
              go_wp2_with fail
              go_region_held3 (fun w' => ((w'.cell? ⟨gT, oT + i * 2, none⟩ = some (ptrV (T1.adr 2 0)) ∧ w'.cell? ⟨gT, oT + i * 2 + 1, none⟩ = some (.int .i64 n1)) ∧ w'.cell? ⟨gR, oR + i, none⟩ = some (.slice A1 l1'.length c1)) ∧ w'.cell? ⟨gA, oA + k * 4 + 2, none⟩ = some (.int .i64 op.blk)) (first | exact hKeep | go_keep)
                (first
                  | (go_at_call 29; refine (rget_at c1 _ (by omega) Hm1.out HS1.out Hxo.out ((Hsl1.out.below D3.out).more D3.out.size)).mono ?_; rintro e w12 ⟨rfl, hbx⟩; have D4 := Lib.hid (D3.out.trans (hbx.mono D3.out.size)); have hKeep := KT.out _ D4.out; clear hbx))
              have t1 : (xo.getD 0 != xo.getD 0) = false := by simp
              have t2 : (xo.isSome != xo.isSome) = false := by simp
              go_wp2_with fail
              exact ⟨⟨d + 1, by omega, by omega, by go_num, D4⟩, by simp [intOf]; omega⟩
            · go_wp2_with fail
              exact ⟨⟨k + 1, by omega, by go_num, HE⟩, by simp [intOf]; omega⟩
        · go_wp2_with fail
          exact ⟨⟨i + 1, by omega, by go_num, HB.out.trans (HC.out.mono HB.out.size)⟩, by simp [intOf]; omega⟩
    · go_wp2_with fail
      go_ret
      exact ⟨rfl, Hb3.out.trans (HB.out.mono Hb3.out.size)⟩

theorem plays_any (ops : List OpN) (c : Nat) (A : Option Addr) (f t : Int) (w : World) (Ht : Tab w) (hm : ops.length ≤ maxLen) (Hsl : Sl w w.heap.size A (opCells ops)) :
    Calls Tryd.prog 7 #[.slice A ops.length c, .int .i64 f, .int .i64 t] w (TrueP w) := by
  by_cases h : ops.length ≤ 80
  · exact plays_short ops c A f t w Ht h Hsl
  · exact plays_long _ c A f t w Ht (by omega) hm
end Go.Proofs.YtognbkmamhgkeaaDoor
