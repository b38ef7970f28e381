/-
  The walk of the statement TreeShares: it returns true for every script and every change, where the library's table lies as it is laid.
-/
import Derived.Test.YtognbkmamhgkeaaDoorL1a
import Derived.Test.YtognbkmamhgkeaaDoorMt
import Derived.Deep.RegionHeld3
import Derived.Deep.DeepCutAuto
import Derived.StillTailTactics
import Derived.IntWalk
namespace Go.Proofs.YtognbkmamhgkeaaDoor
open Go Go.RowKit Go.Walks

/-- The changed tree lies in its box; of the old world nothing has turned. -/
structure TSt (wr W : World) (B9 : Nat) (T : TV) (k : Nat) (m' : Nat → Option Int) (T' : TV) (n' : Int) : Prop where
  below : Below wr.heap.size wr W
  lo : wr.heap.size ≤ B9
  row : W.heap[B9]? = some (.cells #[ptrV (T'.adr 2 0), .int .i64 n'] 31)
  good : Good W T' n'
  m : T'.m = m'
  share : Shares wr.heap.size T T' T'.m k

theorem TSt.next {wr W W' : World} {B9 k : Nat} {T T' : TV} {n' : Int} {m' : Nat → Option Int} (h : TSt wr W B9 T k m' T' n') (hb : Below W.heap.size W W') : TSt wr W' B9 T k m' T' n' := by
  have hlt : B9 < W.heap.size := (Array.getElem?_eq_some_iff.1 h.row).1
  exact ⟨h.below.trans (hb.mono h.below.size), h.lo, (hb.block _ hlt).trans h.row, h.good.below hb, h.m, h.share⟩

def BoxT (wr : World) (T : TV) (k : Nat) (m' : Nat → Option Int) (s9 : Value) (W : World) : Prop :=
  ∃ B9 T' n', s9 = .pointer (some ⟨B9, 0, none⟩) ∧ TSt wr W B9 T k m' T' n'

theorem two_stored {w : World} {g : Nat} {a b u v : Value} (h : w.heap[g]? = some (.cells #[a, b] 31)) : ((w.setCell ⟨g, 0, none⟩ u).setCell ⟨g, 1, none⟩ v).heap[g]? = some (.cells #[u, v] 31) := set_two1 (set_two0 h u) v

theorem Good.stored {w : World} {T : TV} {n : Int} {g : Nat} {a b u v : Value} (h : Good w T n) (hr : w.heap[g]? = some (.cells #[a, b] 31)) : Good ((w.setCell ⟨g, 0, none⟩ u).setCell ⟨g, 1, none⟩ v) T n := by
  refine h.keep fun k cs hk => ?_
  have hne : k ≠ g := fun e => by subst e; rw [hr] at hk; injection hk with hk; injection hk with _ hk; cases hk
  exact (Below.heap_setCell _ _ _ _ hne).trans ((Below.heap_setCell _ _ _ _ hne).trans hk)

/-- The result of a change, stored into a box. -/
theorem TSt.mk' {wr W W5 : World} {B9 k : Nat} {T T' : TV} {n' : Int} {a b : Value} {m' : Nat → Option Int} (hB : Below wr.heap.size wr W) (hb : Below W.heap.size W W5) (lo : wr.heap.size ≤ B9) (row : W5.heap[B9]? = some (.cells #[a, b] 31)) (hg : Good W5 T' n') (hm : T'.m = m')
    (hsh : (T' = T ∧ m' = T.m) ∨ (k < 4096 ∧ m' ≠ T.m ∧ ∃ B, W.heap.size ≤ B ∧ ∀ l p, T'.adr l p = if l ≤ 2 ∧ p = k / 16 ^ (l + 1) then (if (T'.adr l p).isSome then some (B + (2 - l)) else none) else T.adr l p)) :
    TSt wr ((W5.setCell ⟨B9, 0, none⟩ (ptrV (T'.adr 2 0))).setCell ⟨B9, 1, none⟩ (.int .i64 n')) B9 T k m' T' n' := by
  refine ⟨((hB.trans (hb.mono hB.size)).setCell (p := ⟨B9, 0, none⟩) lo _).setCell (p := ⟨B9, 1, none⟩) lo _, lo, two_stored row, hg.stored row, hm, ?_⟩
  have : Shares W.heap.size T T' T'.m k := by rw [hm]; exact hsh
  exact this.less hB.size

theorem slB' {X W : World} {A : Option Addr} {cs : List Value} (hb : Below X.heap.size X W) (h : Sl X X.heap.size A cs) : Sl W W.heap.size A cs := slB h hb
def NPi (wr W : World) (N : Int) (e : Ending) (w' : World) : Prop := e = .returned (.int .i64 N) ∧ Below wr.heap.size wr w' ∧ Below W.heap.size W w'
theorem nodes1_i {wr W : World} {T : TV} {n : Int} {A : Option Addr} {c : Nat} {N : Int} (hg : Good wr T n) (hN : ((gthAll [(T, n)]).length : Int) = N) (hB : Below wr.heap.size wr W) (hsl : Sl W W.heap.size A [ptrV (T.adr 2 0), .int .i64 n]) :
    Calls Tryd.prog 12 #[.slice A 1 c] W (NPi wr W N) :=
  (nodes1_w hg rfl hB hsl).mono fun _ _ ⟨h1, h2, h3⟩ => ⟨by rw [h1, ← hN], h2, h3⟩
theorem nodes2_i {wr W : World} {T T' : TV} {n n' : Int} {A : Option Addr} {c : Nat} {N : Int} (hg : Good wr T n) (hg' : Good wr T' n') (hN : ((gthAll [(T, n), (T', n')]).length : Int) = N) (hB : Below wr.heap.size wr W) (hsl : Sl W W.heap.size A [ptrV (T.adr 2 0), .int .i64 n, ptrV (T'.adr 2 0), .int .i64 n']) :
    Calls Tryd.prog 12 #[.slice A 2 c] W (NPi wr W N) :=
  (nodes2_w hg (hg'.below hB) rfl hB hsl).mono fun _ _ ⟨h1, h2, h3⟩ => ⟨by rw [h1, ← hN], h2, h3⟩

set_option maxHeartbeats 400000 in
theorem shares_long (n c : Nat) (A : Option Addr) (o : OpN) (w : World) (Ht : Hid (Tab w)) (hn : 60 < n) (hm : n ≤ maxLen) :
    Calls Tryd.prog 4 #[.slice A n c, .agg #[.int .i64 o.frm, .bool o.clr, .int .i64 o.blk, .int .i64 o.chk]] w (TrueP w) := by
  unfold maxLen at hm
  have hb0 : Hid (Below w.heap.size w (w.alloc (.cells #[.int .i64 o.frm, .bool o.clr, .int .i64 o.blk, .int .i64 o.chk] 38))) := (Below.refl _ _).alloc (Nat.le_refl _) _
  go_enter Tryd.func4, Tryd.ntmps4
  go_wp2_with (go_at_call 9; refine (sanity_any _ (Ht.out.below hb0.out Ht.out.1)).mono ?_; rintro e w1 ⟨rfl, hb1⟩; have Hb1 := Lib.hid hb1; clear hb1)
  go_ret
  exact ⟨rfl, hb0.out.trans (Hb1.out.mono hb0.out.size)⟩

set_option maxRecDepth 100000 in
set_option maxHeartbeats 4000000 in
theorem shares_short (ops : List OpN) (c : Nat) (A : Option Addr) (op : OpN) (w : World) (Ht : Hid (Tab w)) (hn : ops.length ≤ 60) (Hsl : Hid (Sl w w.heap.size A (opCells ops))) :
    Calls Tryd.prog 4 #[.slice A ops.length c, .agg #[.int .i64 op.frm, .bool op.clr, .int .i64 op.blk, .int .i64 op.chk]] w (TrueP w) := by
  have hn' : decide ((60 : Int) < (ops.length : Int)) = false := by simp; omega
  obtain ⟨w0, hw0⟩ : ∃ w0, w0 = w.alloc (.cells #[.int .i64 op.frm, .bool op.clr, .int .i64 op.blk, .int .i64 op.chk] 38) := ⟨_, rfl⟩
  have Hb0 : Hid (Below w.heap.size w w0) := by rw [hw0]; exact (Below.refl _ _).alloc (Nat.le_refl _) _
  have R0 : Hid (w0.heap[w.heap.size]? = some (.cells #[.int .i64 op.frm, .bool op.clr, .int .i64 op.blk, .int .i64 op.chk] 38)) := by rw [hw0]; exact heap_alloc_new _ _
  have Hw0 := Lib.hid hw0
  clear hw0
  go_enter Tryd.func4, Tryd.ntmps4
  go_wp2_with fail
  rw [← Hw0.out]
  go_wp2_with (first
    | (go_at_call 9; refine (sanity_any _ (Ht.out.below Hb0.out Ht.out.1)).mono ?_; rintro e w1 ⟨rfl, hb1⟩; have Hb1 := Lib.hid hb1; have Hs1 := Lib.hid (slB (slB Hsl.out Hb0.out) hb1); clear hb1)
    | (go_at_call 10; refine (play_any ops A c _ (by omega) Hs1).mono ?_; rintro e w2 ⟨v, Ts, rfl, htv⟩; obtain ⟨A2, c2, rfl, htr⟩ := htv.read; have Hb2 := Lib.hid (Hb1.out.trans (htv.below.mono Hb1.out.size)); have Htr := Lib.hid htr; have Hs2 := Lib.hid ((Hs1.out.below htv.below).more htv.below.size); clear htv htr)
    | (go_at_call 11; refine (rplay_any ops A c _ (by omega) Hs2).mono ?_; rintro e w3 ⟨v, rfl, hv⟩; obtain ⟨A3, c3, rfl, hvr⟩ := hv.read; have Hb3 := Lib.hid (Hb2.out.trans (hv.below.mono Hb2.out.size)); have Htr3 := Lib.hid (Htr.out.below hv.below); have Hvr := Lib.hid hvr; clear hv hvr Htr))
  have hpl := playL_len ops
  have HL : Hid ((playL ops).length = ops.length + 1) := hpl
  have hlen : (playL ops).length ≤ 61 := by omega
  clear hpl
  go_loopw [8] (fun ix wr => ∃ k : Nat, k ≤ (playL ops).length ∧ ix = .int .i64 k ∧ Hid (Below w3.heap.size w3 wr)) (fun ix _ => (playL ops).length - (intOf ix).toNat)
  case atStart => exact ⟨0, by omega, rfl, Below.refl _ _⟩
  case round =>
    obtain ⟨i, hi, rfl, HB⟩ := hrel
    by_cases hlt : i < (playL ops).length
    · obtain ⟨gT, oT, T, nT, l, rfl, hgT, hTs, hLs, hc0, hc1, hgood, hm⟩ := (Htr3.out.below HB.out).at_ hlt
      obtain ⟨gR, oR, A', c', l', rfl, hgR, hLs', hr0, hsl', hlc', hcm'⟩ := (Hvr.out.below HB.out).at_ hlt
      obtain rfl : l' = l := by rw [hLs] at hLs'; injection hLs' with h; exact h.symm
      have hsrt := srt_play ops l' (List.mem_of_getElem? hLs)
      have hsm := playL_small ops l' (List.mem_of_getElem? hLs)
      have HBw : Hid (Below w0.heap.size w0 wr) := Hb3.out.trans (HB.out.mono Hb3.out.size)
      have rop : wr.heap[w.heap.size]? = some (.cells #[.int .i64 op.frm, .bool op.clr, .int .i64 op.blk, .int .i64 op.chk] 38) := (HBw.out.block _ (Array.getElem?_eq_some_iff.1 R0.out).1).trans R0.out
      have hgo : w.heap.size < wr.heap.size := (Array.getElem?_eq_some_iff.1 rop).1
      have Rop := Lib.hid rop
      have o0 : wr.cell? ⟨w.heap.size, 0, none⟩ = some (.int .i64 op.frm) := by simp [World.cell?, rop]
      have o1 : wr.cell? ⟨w.heap.size, 1, none⟩ = some (.bool op.clr) := by simp [World.cell?, rop]
      have o2 : wr.cell? ⟨w.heap.size, 2, none⟩ = some (.int .i64 op.blk) := by simp [World.cell?, rop]
      have o3 : wr.cell? ⟨w.heap.size, 3, none⟩ = some (.int .i64 op.chk) := by simp [World.cell?, rop]
      have Hgood := Lib.hid hgood
      have Hm := Lib.hid hm
      have Hsl' := Lib.hid hsl'
      have Hsrt := Lib.hid hsrt
      have hI1 : (0 : Int) ≤ (i : Int) := by omega
      have hI2 : (i : Int) < ((playL ops).length : Int) := by omega
      clear hTs hLs hLs' hgood hm hsrt hsl' rop
      have keepS : ∀ w' : World, Below wr.heap.size wr w' → (((w'.cell? ⟨gT, oT + i * 2, none⟩ = some (ptrV (T.adr 2 0)) ∧ w'.cell? ⟨gT, oT + i * 2 + 1, none⟩ = some (.int .i64 nT)) ∧ w'.cell? ⟨gR, oR + i, none⟩ = some (.slice A' l'.length c')) ∧ w'.cell? ⟨w.heap.size, 0, none⟩ = some (.int .i64 op.frm) ∧ w'.cell? ⟨w.heap.size, 1, none⟩ = some (.bool op.clr)) ∧ w'.cell? ⟨w.heap.size, 2, none⟩ = some (.int .i64 op.blk) ∧ w'.cell? ⟨w.heap.size, 3, none⟩ = some (.int .i64 op.chk) :=
        fun w' hb => ⟨⟨⟨⟨(hb.cell (p := ⟨gT, oT + i * 2, none⟩) hgT).trans hc0, (hb.cell (p := ⟨gT, oT + i * 2 + 1, none⟩) hgT).trans hc1⟩, (hb.cell (p := ⟨gR, oR + i, none⟩) hgR).trans hr0⟩, (hb.cell (p := ⟨w.heap.size, 0, none⟩) hgo).trans o0, (hb.cell (p := ⟨w.heap.size, 1, none⟩) hgo).trans o1⟩, (hb.cell (p := ⟨w.heap.size, 2, none⟩) hgo).trans o2, (hb.cell (p := ⟨w.heap.size, 3, none⟩) hgo).trans o3⟩
      have KS := Lib.hid keepS
      have B0 : Hid (Below wr.heap.size wr wr.drew) := (Below.refl _ _).drew
      have KS9 := Lib.hid (fun (w' : World) (hb : Below wr.heap.size wr w') => And.intro (keepS w' hb).1.1.1 (keepS w' hb).2)
      clear keepS
      go_upto_region 9 with fail
      go_cut [9] (fun s9 wx => Hid (BoxT wr T op.blk.toNat (setM T.m op.blk op.chk) s9 wx))
      case first =>
        go_region_held3 (fun w' => (w'.cell? ⟨gT, oT + i * 2, none⟩ = some (ptrV (T.adr 2 0)) ∧ w'.cell? ⟨gT, oT + i * 2 + 1, none⟩ = some (.int .i64 nT)) ∧ w'.cell? ⟨w.heap.size, 2, none⟩ = some (.int .i64 op.blk) ∧ w'.cell? ⟨w.heap.size, 3, none⟩ = some (.int .i64 op.chk)) (first | exact hKeep | go_keep | exact KS9.out _ (((bA B1.out).setCell (p := ⟨w5.heap.size, 0, none⟩) B1.out.size _).setCell (p := ⟨w5.heap.size, 1, none⟩) B1.out.size _) | exact KS9.out _ ((B1.out.setCell (p := ⟨wr.heap.size, 0, none⟩) (Nat.le_refl _) _).setCell (p := ⟨wr.heap.size, 1, none⟩) (Nat.le_refl _) _))
          (first
            | (go_at_call 14; have hW : Below wr.heap.size wr wr.drew := B0.out; refine (tset_any T nT op.blk op.chk _ (Hgood.out.below B0.out)).mono ?_; rintro e w5 ⟨T', n', rfl, hg5, hm5, hb5, hsh5⟩; unfold TreeV; have B1 := Lib.hid (hW.trans (hb5.mono hW.size)); have Hg5 := Lib.hid hg5; have Hm5 := Lib.hid hm5; have Hb5 := Lib.hid hb5; have Hsh5 := Lib.hid hsh5; have K5 := KS.out _ B1.out; have hKeep := And.intro K5.1.1.1 K5.2; clear K5 hW hg5 hm5 hb5 hsh5)
            | (go_at_call 14; have hW : Below wr.heap.size wr (wr.drew.alloc (Obj.cells #[.pointer none, .int .i64 0] 31)) := bA B0.out; refine (tset_any T nT op.blk op.chk _ (Hgood.out.below hW)).mono ?_; rintro e w5 ⟨T', n', rfl, hg5, hm5, hb5, hsh5⟩; unfold TreeV; have B1 := Lib.hid (hW.trans (hb5.mono hW.size)); have Hg5 := Lib.hid hg5; have Hm5 := Lib.hid hm5; have Hb5 := Lib.hid hb5; have Hsh5 := Lib.hid hsh5; have R5 : w5.heap[wr.heap.size]? = some (Obj.cells #[.pointer none, .int .i64 0] 31) := (hb5.block _ (by simp)).trans (heap_alloc_new _ _); obtain ⟨q0, q1, q2, q3⟩ := two_cells R5; have HR5 := Lib.hid R5; have K5 := KS.out _ B1.out; have hKeep := And.intro K5.1.1.1 K5.2; clear K5 hW hg5 hm5 hb5 hsh5 R5))
        · go_wp2_with fail
          go_meet
          refine ⟨w5.heap.size, T', n', rfl, bA B1.out, B1.out.size, heap_alloc_new _ _, Hg5.out.below ((Below.refl _ _).alloc (Nat.le_refl _) _), Hm5.out, ?_⟩
          have h : Shares wr.heap.size T T' T'.m op.blk.toNat := by rw [Hm5.out]; exact Hsh5.out
          exact h
        · go_wp2_with fail
          go_meet
          exact ⟨wr.heap.size, T', n', rfl, TSt.mk' (bA B0.out) Hb5.out (Nat.le_refl _) HR5.out Hg5.out Hm5.out Hsh5.out⟩
      case rest =>
        obtain ⟨B9, T1, n1, rfl, hst⟩ := hcut.out
        have Hst := Lib.hid hst
        obtain ⟨⟨⟨a0, a1⟩, b0, b1⟩, b2, b3⟩ := KS.out _ hst.below
        clear hst hcut
        go_upto_if 41 with fail
        go_cut [1] (fun s1 wx => Hid (s1 = .agg #[.int .i64 op.frm, .bool op.clr, .int .i64 op.blk, .int .i64 op.chk] ∧ ∃ T' n', TSt wr wx B9 T op.blk.toNat (opM T.m op) T' n'))
        case first =>
          cases hcl : op.clr with
          | false =>
            go_wp2_with fail
            go_meet
            refine ⟨by rw [hcl], T1, n1, ?_⟩
            have := Hst.out
            unfold opM
            rw [hcl]
            exact this
          | true =>
            have Hcl := Lib.hid hcl
            clear hcl
            have hltB : B9 < wc.heap.size := (Array.getElem?_eq_some_iff.1 Hst.out.row).1
            go_wp2_with fail
            go_still_tail 6, (by kernel_rfl)
            change wpList _ _ _ _ _ wc.drew
            go_wp2_with (go_at_call 15; refine (tclr_any T nT op.blk _ (Hgood.out.below Hst.out.below).drew).mono ?_; rintro e w6 ⟨T', n', rfl, hg6, hm6, hb6, hsh6⟩; unfold TreeV; have hb6' := below_of_drew hb6; have R6 := (hb6'.block _ hltB).trans Hst.out.row; obtain ⟨q0, q1, q2, q3⟩ := two_cells R6; have HR6 := Lib.hid R6; have Hg6 := Lib.hid hg6; have Hm6 := Lib.hid hm6; have Hb6 := Lib.hid hb6'; have Hsh6 := Lib.hid hsh6; clear R6 hg6 hm6 hb6 hb6' hsh6)
            go_meet
            refine ⟨by rw [Hcl.out], T', n', TSt.mk' Hst.out.below Hb6.out Hst.out.lo HR6.out Hg6.out ?_ ?_⟩
            · rw [Hm6.out]; unfold opM; rw [Hcl.out]; rfl
            · have e : opM T.m op = delM T.m op.blk := by unfold opM; rw [Hcl.out]; rfl
              rw [e]
              exact Hsh6.out
        case rest =>
          obtain ⟨rfl, T', n', hst'⟩ := hcut.out
          have Hst' := Lib.hid hst'
          obtain ⟨⟨⟨⟨a0, a1⟩, ar⟩, b0, b1⟩, b2, b3⟩ := KS.out _ hst'.below
          clear hst' hcut Hst
          have hlm : opM T.m op = mOf (doL l' op) := by rw [Hm.out]; exact opM_mOf Hsrt.out op
          have Hlm := Lib.hid hlm
          clear hlm
          go_upto_region 12 with fail
          go_cut [10] (fun s10 wx => Hid (∃ B10 A1 c1, s10 = .pointer (some ⟨B10, 0, none⟩) ∧ wx.heap[B10]? = some (.cells #[.slice A1 (doL l' op).length c1] 35) ∧ Sl wx wx.heap.size A1 (entCells (doL l' op)) ∧ TSt wr wx B9 T op.blk.toNat (opM T.m op) T' n'))
          case first =>
            have hltB : B9 < wc.heap.size := (Array.getElem?_eq_some_iff.1 Hst'.out.row).1
            have C0 : Hid (Below wc.heap.size wc wc.drew) := (Below.refl _ _).drew
            have KSc := Lib.hid (fun (w' : World) (hb : Below wc.heap.size wc w') => have h := KS.out w' (Hst'.out.below.trans (hb.mono Hst'.out.below.size)); And.intro h.1.1.2 (And.intro h.1.2 h.2))
            go_region_held3 (fun w' => w'.cell? ⟨gR, oR + i, none⟩ = some (.slice A' l'.length c') ∧ (w'.cell? ⟨w.heap.size, 0, none⟩ = some (.int .i64 op.frm) ∧ w'.cell? ⟨w.heap.size, 1, none⟩ = some (.bool op.clr)) ∧ w'.cell? ⟨w.heap.size, 2, none⟩ = some (.int .i64 op.blk) ∧ w'.cell? ⟨w.heap.size, 3, none⟩ = some (.int .i64 op.chk)) (first | exact hKeep | go_keep | exact KSc.out _ ((bA B1.out).setCell (p := ⟨w6.heap.size, 0, none⟩) B1.out.size _) | exact KSc.out _ (B1.out.setCell (p := ⟨wc.heap.size, 0, none⟩) (Nat.le_refl _) _))
              (first
                | (go_at_call 16; have hW : Below wc.heap.size wc wc.drew := C0.out; refine (do_any l' (.agg #[.slice A' l'.length c']) op.frm op.blk op.chk op.clr _ (by omega) ⟨A', c', rfl, Hsl'.out.below (Hst'.out.below.trans (hW.mono Hst'.out.below.size)) (Nat.le_trans Hst'.out.below.size hW.size), hlc', hcm'⟩).mono ?_; rintro e w6 ⟨v6, rfl, hr6, hb6⟩; obtain ⟨A6, c6, rfl, hs6, -⟩ := hr6.ex; have B1 := Lib.hid (hW.trans (hb6.mono hW.size)); have Hs6 := Lib.hid hs6; have Hb6 := Lib.hid hb6; have hKeep := KSc.out _ B1.out; clear hW hs6 hb6 hr6)
                | (go_at_call 16; have hW : Below wc.heap.size wc (wc.drew.alloc (Obj.cells #[.slice none 0 0] 35)) := bA C0.out; refine (do_any l' (.agg #[.slice A' l'.length c']) op.frm op.blk op.chk op.clr _ (by omega) ⟨A', c', rfl, Hsl'.out.below (Hst'.out.below.trans (hW.mono Hst'.out.below.size)) (Nat.le_trans Hst'.out.below.size hW.size), hlc', hcm'⟩).mono ?_; rintro e w6 ⟨v6, rfl, hr6, hb6⟩; obtain ⟨A6, c6, rfl, hs6, -⟩ := hr6.ex; have B1 := Lib.hid (hW.trans (hb6.mono hW.size)); have Hs6 := Lib.hid hs6; have Hb6 := Lib.hid hb6; have R6 : w6.heap[wc.heap.size]? = some (Obj.cells #[.slice none 0 0] 35) := (hb6.block _ (by simp)).trans (heap_alloc_new _ _); obtain ⟨q0, q1⟩ := one_cell R6; have HR6 := Lib.hid R6; have hKeep := KSc.out _ B1.out; clear hW hs6 hb6 hr6 R6))
            · go_wp2_with fail
              go_meet
              exact ⟨w6.heap.size, A6, c6, rfl, heap_alloc_new _ _, slA Hs6.out.sl, Hst'.out.next (bA B1.out)⟩
            · go_wp2_with fail
              go_meet
              refine ⟨wc.heap.size, A6, c6, rfl, set_one HR6.out _, ?_, Hst'.out.next (B1.out.setCell (p := ⟨wc.heap.size, 0, none⟩) (Nat.le_refl _) _)⟩
              rw [World.size_setCell]
              exact (Hs6.out.setCell (p := ⟨wc.heap.size, 0, none⟩) HR6.out (by decide) _).sl
          case rest =>
            obtain ⟨wd, rfl⟩ : ∃ wd : World, wd = wc := ⟨_, rfl⟩
            obtain ⟨B10, A1, c1, rfl, hr10, hs10, hst10⟩ := hcut.out
            have R10 := Lib.hid hr10
            have Hs10 := Lib.hid hs10
            have Hst10 := Lib.hid hst10
            obtain ⟨d10, _⟩ := one_cell hr10
            obtain ⟨⟨⟨⟨a0, a1⟩, ar⟩, b0, b1⟩, b2, b3⟩ := KS.out _ hst10.below
            have hdl : (doL l' op).length ≤ 61 := by have := doL_len l' op; omega
            have Hsrt2 := Lib.hid (srt_doL Hsrt.out op)
            clear hr10 hs10 hst10 hcut Hst'
            go_wp2_with fail
            go_still_tail 5, (by kernel_rfl)
            change wpList _ _ _ _ _ wd.drew
            have D0 : Hid (Below wd.heap.size wd wd.drew) := (Below.refl _ _).drew
            have Hs10d := Lib.hid (slB Hs10.out D0.out)
            have Hsl2 := Lib.hid (slB (Hsl'.out.below Hst10.out.below Hst10.out.below.size).sl D0.out)
            go_upto_if 61 with (go_at_call 17; refine (requal_any l' (doL l' op) A' A1 c' c1 _ (by omega) (by omega) Hsl2 Hs10d).mono ?_; rintro e w7 ⟨rfl, hb7⟩; have Hb7 := Lib.hid (below_of_drew hb7); clear hb7)
            have hst7 := Hst10.out.next Hb7.out
            have Hst7 := Lib.hid hst7
            have hlt10 : B10 < wd.heap.size := (Array.getElem?_eq_some_iff.1 R10.out).1
            have R107 := (Hb7.out.block _ hlt10).trans R10.out
            have Hs107 := Lib.hid (slB Hs10.out Hb7.out)
            clear a0 a1 ar b0 b1 b2 b3 d10
            obtain ⟨d10, _⟩ := one_cell R107
            obtain ⟨⟨⟨⟨a0, a1⟩, ar⟩, b0, b1⟩, b2, b3⟩ := KS.out _ hst7.below
            clear hst7 R107
            go_cut [11] (fun s11 wx => s11 = .int .i64 (moreL l' (doL l' op) op.blk : Nat) ∧ Hid (TSt wr wx B9 T op.blk.toNat (opM T.m op) T' n'))
            case first =>
              cases hE : (diffL l' (doL l' op)).isEmpty with
              | true =>
                have hz : moreL l' (doL l' op) op.blk = 0 := by unfold moreL; rw [hE]; rfl
                have Hz := Lib.hid hz
                clear hz hE
                go_wp2_with fail
                go_meet
                exact ⟨by rw [Hz.out]; rfl, Hst7⟩
              | false =>
                have hz : moreL l' (doL l' op) op.blk = pathL (doL l' op) op.blk := by unfold moreL; rw [hE]; rfl
                have Hz := Lib.hid hz
                obtain ⟨hb1, hb2⟩ := change_in Hsrt.out op hE
                clear hz hE
                go_wp2_with (go_at_call 18; refine (path_any (doL l' op) A1 c1 op.blk _ (by omega) hb1 hb2 Hs107).mono ?_; rintro e w8 ⟨rfl, hb8⟩; have Hb8 := Lib.hid hb8; clear hb8)
                go_meet
                exact ⟨by rw [Hz.out], Hst7.out.next Hb8.out⟩
            case rest =>
              obtain ⟨we, rfl⟩ : ∃ we : World, we = wc := ⟨_, rfl⟩
              obtain ⟨rfl, Hste⟩ := hcut
              have hm3 : moreL l' (doL l' op) op.blk ≤ 3 := more_le Hste.out.good (Hste.out.m.trans Hlm.out) Hsrt2.out (change_in Hsrt.out op)
              have hcl : countL l' ≤ 1000 := by
                have h1 := adjU_le (keys l' 256) l'.length
                have h2 := adjU_le (keys l' 16) l'.length
                unfold countL; split <;> omega
              have hc1 : (gthAll [(T, nT)]).length = countL l' := by rw [nodes_one Hgood.out, count_al Hgood.out Hm.out Hsrt.out]
              have hc2 : (gthAll [(T, nT), (T', n')]).length = countL l' + moreL l' (doL l' op) op.blk := shares_count Hgood.out Hste.out.good Hm.out (Hste.out.m.trans Hlm.out) Hsrt.out Hsrt2.out Hste.out.share (change_in Hsrt.out op)
              obtain ⟨M, hM⟩ : ∃ M, M = moreL l' (doL l' op) op.blk := ⟨_, rfl⟩
              obtain ⟨C, hC⟩ : ∃ C, C = countL l' := ⟨_, rfl⟩
              rw [← hM] at hm3 hc2 ⊢
              rw [← hC] at hcl hc1 hc2
              have Hc1 : Hid (((gthAll [(T, nT)]).length : Int) = (C : Int)) := by rw [hc1]; exact rfl
              have Hc2 : Hid (((gthAll [(T, nT), (T', n')]).length : Int) = (C : Int) + (M : Int)) := by rw [hc2]; exact Int.natCast_add _ _
              clear hM hC hc1 hc2
              have hm3' : decide ((3 : Int) < (M : Int)) = false := by simp; omega
              have hbC : (0 : Int) ≤ (C : Int) ∧ (C : Int) ≤ 1000 := by omega
              have hbM : (0 : Int) ≤ (M : Int) ∧ (M : Int) ≤ 3 := by omega
              have hw1 : IntKind.i64.wrap ((C : Int) + (M : Int)) = (C : Int) + (M : Int) := IntWalk.i64_in _ (by omega)
              have HgT := Lib.hid (Hgood.out.below Hste.out.below)
              have hlt9 : B9 < we.heap.size := (Array.getElem?_eq_some_iff.1 Hste.out.row).1
              clear a0 a1 ar b0 b1 b2 b3 d10
              obtain ⟨⟨⟨⟨a0, a1⟩, -⟩, -⟩, -⟩ := KS.out _ Hste.out.below
              obtain ⟨t0, t1, -, -⟩ := two_cells Hste.out.row
              have hgT' : gT < we.heap.size := Nat.lt_of_lt_of_le hgT Hste.out.below.size
              have keepE : ∀ w' : World, Below we.heap.size we w' → ((w'.cell? ⟨gT, oT + i * 2, none⟩ = some (ptrV (T.adr 2 0)) ∧ w'.cell? ⟨gT, oT + i * 2 + 1, none⟩ = some (.int .i64 nT)) ∧ w'.cell? ⟨B9, 0, none⟩ = some (ptrV (T'.adr 2 0))) ∧ w'.cell? ⟨B9, 1, none⟩ = some (.int .i64 n') :=
                fun w' hb => ⟨⟨⟨(hb.cell (p := ⟨gT, oT + i * 2, none⟩) hgT').trans a0, (hb.cell (p := ⟨gT, oT + i * 2 + 1, none⟩) hgT').trans a1⟩, (hb.cell (p := ⟨B9, 0, none⟩) hlt9).trans t0⟩, (hb.cell (p := ⟨B9, 1, none⟩) hlt9).trans t1⟩
              have KE := Lib.hid keepE
              have E0 : Hid (Below we.heap.size we we.drew) := (Below.refl _ _).drew
              clear keepE
              go_wp2_with fail
              go_region_held3 (fun w' => ((w'.cell? ⟨gT, oT + i * 2, none⟩ = some (ptrV (T.adr 2 0)) ∧ w'.cell? ⟨gT, oT + i * 2 + 1, none⟩ = some (.int .i64 nT)) ∧ w'.cell? ⟨B9, 0, none⟩ = some (ptrV (T'.adr 2 0))) ∧ w'.cell? ⟨B9, 1, none⟩ = some (.int .i64 n')) (first | exact hKeep | go_keep)
                (first
                  | (go_at_call 12; ((with_reducible refine (nodes2_i (wr := we) HgT.out Hste.out.good Hc2.out ?_ ?_).mono ?_)); (first | exact bA E0.out | exact bA (bA E0.out)); (first | exact slN0 _ | exact slA (slN0 _) | exact slN1 _); rintro e w7 ⟨rfl, hB3, hbx⟩; have E1 := Lib.hid hB3; have Hbx := Lib.hid hbx; have hKeep := KE.out _ E1.out; clear hbx hB3)
                  | (go_at_call 12; have _t := E1; ((with_reducible refine (nodes1_i (wr := we) HgT.out Hc1.out ?_ ?_).mono ?_)); (first | exact E1.out | exact bA E1.out); (first | exact slN0 _ | exact slB' Hbx.out (slA (slN0 _)) | exact slB' Hbx.out (slN1 _)); rintro e w8 ⟨rfl, hB4, hbx'⟩; have E2 := Lib.hid hB4; have hKeep := KE.out _ E2.out; clear hbx' hB4 _t))
              all_goals
                clear hw1
                go_wp2_with fail
                exact ⟨⟨i + 1, by omega, by go_num, HB.out.trans ((Hste.out.below.trans (E2.out.mono Hste.out.below.size)).mono HB.out.size)⟩, by simp [intOf]; omega⟩
    · go_wp2_with fail
      go_ret
      exact ⟨rfl, Hb0.out.trans ((Hb3.out.trans (HB.out.mono Hb3.out.size)).mono Hb0.out.size)⟩

theorem shares_any (ops : List OpN) (c : Nat) (A : Option Addr) (op : OpN) (w : World) (Ht : Tab w) (hm : ops.length ≤ maxLen) (Hsl : Sl w w.heap.size A (opCells ops)) :
    Calls Tryd.prog 4 #[.slice A ops.length c, .agg #[.int .i64 op.frm, .bool op.clr, .int .i64 op.blk, .int .i64 op.chk]] w (TrueP w) := by
  by_cases h : ops.length ≤ 60
  · exact shares_short ops c A op w Ht h Hsl
  · exact shares_long _ c A op w Ht (by omega) hm
end Go.Proofs.YtognbkmamhgkeaaDoor
