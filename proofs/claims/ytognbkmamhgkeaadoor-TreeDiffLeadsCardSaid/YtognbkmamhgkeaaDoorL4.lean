/-
  The walk of the statement TreeDiffLeads: it returns true for every two scripts, where the library's table lies as it is laid.
-/
import Derived.Test.YtognbkmamhgkeaaDoorL2
import Derived.Test.YtognbkmamhgkeaaDoorL3
import Derived.Deep.RegionHeld3
import Derived.Deep.DeepCutAuto
import Derived.StillTailTactics
import Derived.IntWalk
namespace Go.Proofs.YtognbkmamhgkeaaDoor
open Go Go.RowKit Go.Walks

/-- What applying some blocks as b maps them leads to. -/
def leadM (ma mb : Nat → Option Int) (D : List Nat) : Nat → Option Int := fun x => if x ∈ D then mb x else ma x

theorem lead_nil (ma mb : Nat → Option Int) : leadM ma mb [] = ma := by funext x; simp [leadM]
theorem lead_set {ma mb : Nat → Option Int} {D : List Nat} {d : Nat} {c : Int} (hd : d < 4096) (h : mb d = some c) : setM (leadM ma mb D) (d : Int) c = leadM ma mb (D ++ [d]) := by
  unfold setM
  rw [if_pos (by omega)]
  funext x
  simp only [putM, leadM, Int.toNat_natCast, List.mem_append, List.mem_singleton]
  by_cases e : x = d
  · subst e; simp [h]
  · simp [e]
theorem lead_clr {ma mb : Nat → Option Int} {D : List Nat} {d : Nat} (h : mb d = none) : delM (leadM ma mb D) (d : Int) = leadM ma mb (D ++ [d]) := by
  unfold delM
  rw [if_pos (by omega)]
  funext x
  simp only [clrM, leadM, Int.toNat_natCast, List.mem_append, List.mem_singleton]
  by_cases e : x = d
  · subst e; simp [h]
  · simp [e]
theorem lead_end {ma mb : Nat → Option Int} (h : ∀ x, 4096 ≤ x → ma x = mb x) : leadM ma mb (diffR ma mb 0 4096) = mb := by
  funext x
  unfold leadM
  split
  · rfl
  · rename_i hn
    refine Classical.byContradiction fun hne => hn (mem_diffR.2 ⟨by omega, ?_, hne⟩)
    rcases Nat.lt_or_ge x 4096 with h1 | h1
    · omega
    · exact absurd (h x h1) hne
theorem diffR_self (m : Nat → Option Int) : diffR m m 0 4096 = [] := diffR_nil fun _ _ _ => rfl
theorem diffR_comm (ma mb : Nat → Option Int) : diffR ma mb 0 4096 = diffR mb ma 0 4096 := by
  unfold diffR
  congr 1
  funext x
  exact decide_eq_decide.2 ⟨Ne.symm, Ne.symm⟩

/-- The last version of a script, read. -/
def LastP (w : World) (N : Nat) (e : Ending) (w' : World) : Prop :=
  ∃ g o c T n, e = .returned (.slice (some ⟨g, o, none⟩) (N + 1) c) ∧ g < w'.heap.size ∧ w'.cell? ⟨g, o + N * 2, none⟩ = some (ptrV (T.adr 2 0)) ∧ w'.cell? ⟨g, o + N * 2 + 1, none⟩ = some (.int .i64 n) ∧ Good w' T n ∧ Below w.heap.size w w'

theorem play_last (ops : List OpN) (A : Option Addr) (c : Nat) (w : World) (hl : ops.length ≤ 1000) (Hsl : Hid (Sl w w.heap.size A (opCells ops))) :
    Calls Tryd.prog 10 #[.slice A ops.length c] w (LastP w ops.length) := by
  refine (play_any ops A c w hl Hsl).mono ?_
  rintro e w' ⟨v, Ts, rfl, htv⟩
  obtain ⟨A2, c2, rfl, htr⟩ := htv.read
  have hpl := playL_len ops
  obtain ⟨g, o, T, n, l, rfl, hg, _, _, h0, h1, hgood, _⟩ := htr.at_ (j := ops.length) (by omega)
  exact ⟨g, o, c2, T, n, by rw [hpl], hg, h0, h1, hgood, htv.below⟩

theorem two_new (w : World) (o o' : Obj) : ((w.alloc o).alloc o').heap[w.heap.size]? = some o :=
  (((Below.refl _ (w.alloc o)).alloc (Nat.le_refl _) o').block w.heap.size (by simp)).trans (heap_alloc_new _ _)

/-- Where the loop stands: t's box holds a good tree that maps m'. -/
structure LSt (w5 wr : World) (m' : Nat → Option Int) (T' : TV) (n' : Int) : Prop where
  below : Below w5.heap.size w5 wr
  row : wr.heap[w5.heap.size]? = some (.cells #[ptrV (T'.adr 2 0), .int .i64 n'] 31)
  good : Good wr T' n'
  m : T'.m = m'

def LRel (w5 : World) (m' : Nat → Option Int) (wr : World) : Prop := ∃ T' n', LSt w5 wr m' T' n'

theorem LSt.step {w5 wr W : World} {m' m2 : Nat → Option Int} {T' T2 : TV} {n' n2 : Int} (h : LSt w5 wr m' T' n') (hb : Below wr.heap.size wr W) (hg : Good W T2 n2) (hm : T2.m = m2) :
    LSt w5 ((W.setCell ⟨w5.heap.size, 0, none⟩ (ptrV (T2.adr 2 0))).setCell ⟨w5.heap.size, 1, none⟩ (.int .i64 n2)) m2 T2 n2 := by
  have hlt : w5.heap.size < wr.heap.size := (Array.getElem?_eq_some_iff.1 h.row).1
  have hrow := (hb.block _ hlt).trans h.row
  exact ⟨((h.below.trans (hb.mono h.below.size)).setCell (p := ⟨w5.heap.size, 0, none⟩) (Nat.le_refl _) _).setCell (p := ⟨w5.heap.size, 1, none⟩) (Nat.le_refl _) _, two_stored hrow, hg.stored hrow, hm⟩

theorem LSt.next {w5 wr W : World} {m' : Nat → Option Int} {T' : TV} {n' : Int} (h : LSt w5 wr m' T' n') (hb : Below wr.heap.size wr W) : LSt w5 W m' T' n' :=
  ⟨h.below.trans (hb.mono h.below.size), (hb.block _ (Array.getElem?_eq_some_iff.1 h.row).1).trans h.row, h.good.below hb, h.m⟩

def GetIs (w : World) (a : Int) (b : Bool) (e : Ending) (w' : World) : Prop := e = .returned (.tuple #[.int .i64 a, .bool b]) ∧ Below w.heap.size w w'
theorem atI_in {m : Nat → Option Int} {d : Nat} (hd : d < 4096) : atI m (d : Int) = m d := by simp only [atI]; rw [if_pos (by omega)]; rfl
theorem tget_none {Tb : TV} (nb : Int) {d : Nat} {w : World} (hg : Good w Tb nb) (hd : d < 4096) (h : Tb.m d = none) : Calls Tryd.prog 23 #[.agg #[ptrV (Tb.adr 2 0), .int .i64 nb], .int .i64 d] w (GetIs w 0 false) :=
  (tget_any Tb nb (d : Int) w hg).mono fun _ _ ⟨h1, h2⟩ => ⟨by rw [h1, atI_in hd, h]; rfl, h2⟩
theorem tget_some {Tb : TV} (nb : Int) {d : Nat} {c : Int} {w : World} (hg : Good w Tb nb) (hd : d < 4096) (h : Tb.m d = some c) : Calls Tryd.prog 23 #[.agg #[ptrV (Tb.adr 2 0), .int .i64 nb], .int .i64 d] w (GetIs w c true) :=
  (tget_any Tb nb (d : Int) w hg).mono fun _ _ ⟨h1, h2⟩ => ⟨by rw [h1, atI_in hd, h]; rfl, h2⟩

set_option maxRecDepth 100000 in
set_option maxHeartbeats 4000000 in
theorem leads_short (o1 o2 : List OpN) (c1 c2 : Nat) (A1 A2 : Option Addr) (w : World) (Ht : Hid (Tab w)) (hn1 : o1.length ≤ 60) (hn2 : o2.length ≤ 60) (Hs1 : Hid (Sl w w.heap.size A1 (opCells o1))) (Hs2 : Hid (Sl w w.heap.size A2 (opCells o2))) :
    Calls Tryd.prog 6 #[.slice A1 o1.length c1, .slice A2 o2.length c2] w (TrueP w) := by
  have hn1' : decide ((60 : Int) < (o1.length : Int)) = false := by simp; omega
  have hn2' : decide ((60 : Int) < (o2.length : Int)) = false := by simp; omega
  go_enter Tryd.func6, Tryd.ntmps6
  go_wp2_with (first
    | (go_at_call 9; refine (sanity_any _ Ht).mono ?_; rintro e w1 ⟨rfl, hb1⟩; have Hb1 := Lib.hid hb1; have Hs1' := Lib.hid (slB Hs1.out hb1); have Hs2' := Lib.hid (slB Hs2.out hb1); clear hb1)
    | (go_at_call 10; ((with_reducible refine (play_last o1 A1 c1 _ (by omega) Hs1').mono ?_)); rintro e w2 ⟨ga, oa, ca, Ta, na, rfl, hga, a0, a1, hgood, hb⟩; have Hb2 := Lib.hid (Hb1.out.trans (hb.mono Hb1.out.size)); have Hga := Lib.hid hgood; have Hs2'' := Lib.hid (slB Hs2'.out hb); have A0 := Lib.hid a0; have A1' := Lib.hid a1; clear hgood hb a0 a1)
    | (go_at_call 10; ((with_reducible refine (play_last o2 A2 c2 _ (by omega) Hs2'').mono ?_)); rintro e w3 ⟨gb, ob, cb, Tb, nb, rfl, hgb, b0, b1, hgood, hb⟩; have Hb3 := Lib.hid (Hb2.out.trans (hb.mono Hb2.out.size)); have Hgb := Lib.hid hgood; have Hga3 := Lib.hid (Hga.out.below hb); have a0 := (hb.cell (p := ⟨ga, oa + o1.length * 2, none⟩) hga).trans A0.out;  have a1 := (hb.cell (p := ⟨ga, oa + o1.length * 2 + 1, none⟩) hga).trans A1'.out; have hga3 := Nat.lt_of_lt_of_le hga hb.size; clear hgood hb))
  obtain ⟨w4, hw4⟩ : ∃ w4, w4 = (w3.alloc (Obj.cells #[Value.pointer (padr (Ta.adr 2 0)), Value.int IntKind.i64 na] 31)).alloc (Obj.cells #[Value.pointer (padr (Tb.adr 2 0)), Value.int IntKind.i64 nb] 31) := ⟨_, rfl⟩
  have B4 : Hid (Below w3.heap.size w3 w4) := by rw [hw4]; exact ((Below.refl _ _).alloc (Nat.le_refl _) _).alloc (by simp) _
  have RA : Hid (w4.heap[w3.heap.size]? = some (.cells #[ptrV (Ta.adr 2 0), .int .i64 na] 31)) := by rw [hw4]; exact two_new _ _ _
  have RB : Hid (w4.heap[w3.heap.size + 1]? = some (.cells #[ptrV (Tb.adr 2 0), .int .i64 nb] 31)) := by rw [hw4]; have := heap_alloc_new (w3.alloc (Obj.cells #[Value.pointer (padr (Ta.adr 2 0)), Value.int IntKind.i64 na] 31)) (Obj.cells #[Value.pointer (padr (Tb.adr 2 0)), Value.int IntKind.i64 nb] 31); rw [World.size_alloc] at this; exact this
  rw [← hw4]
  have B4w : Hid (Below w.heap.size w w4) := Hb3.out.trans (B4.out.mono Hb3.out.size)
  clear hw4 a0 a1 b0 b1 A0 A1' hga3 hgb hga
  have HT4 : Hid (Tab w4) := Ht.out.below B4w.out Ht.out.1
  have Ga4 := Lib.hid (Hga3.out.below B4.out)
  have Gb4 := Lib.hid (Hgb.out.below B4.out)
  obtain ⟨D, hD⟩ : ∃ D, D = diffR Ta.m Tb.m 0 4096 := ⟨_, rfl⟩
  have hdl : D.length ≤ 4096 := by rw [hD]; simpa using diff_len Ta.m Tb.m 0 4096
  refine (diff_any Ta Tb na nb _ HT4.out Ga4.out.sub Gb4.out.sub).mono ?_
  rw [← hD]
  have HD := Lib.hid hD
  clear hD
  rintro e w5 ⟨v5, rfl, hown, hbx⟩
  obtain ⟨A5, c5, rfl, hs5, -⟩ := Sl.of_own hown
  have HS5 := Lib.hid hs5
  have B5 := Lib.hid hbx
  have RA5 := Lib.hid ((hbx.block _ (Array.getElem?_eq_some_iff.1 RA.out).1).trans RA.out)
  have RB5 := Lib.hid ((hbx.block _ (Array.getElem?_eq_some_iff.1 RB.out).1).trans RB.out)
  obtain ⟨p0, p1, -, -⟩ := two_cells RA5.out
  clear hbx hown hs5
  go_wp2_with fail
  have h35 : w3.heap.size + 1 < w5.heap.size := (Array.getElem?_eq_some_iff.1 RB5.out).1
  have HA : Hid (∀ x, 4096 ≤ x → Ta.m x = Tb.m x) := fun x hx => by rw [Ga4.out.out x hx, Gb4.out.out x hx]
  clear p0 p1
  go_loopw [12] (fun ix wr => ∃ k : Nat, k ≤ D.length ∧ ix = .int .i64 k ∧ Hid (LRel w5 (leadM Ta.m Tb.m (D.take k)) wr)) (fun ix _ => D.length - (intOf ix).toNat)
  case atStart => exact ⟨0, by omega, rfl, Ta, na, (Below.refl _ _).alloc (Nat.le_refl _) _, heap_alloc_new _ _, (Ga4.out.below B5.out).below ((Below.refl _ _).alloc (Nat.le_refl _) _), (lead_nil _ _).symm⟩
  case round =>
    obtain ⟨k, hk, rfl, HR⟩ := hrel
    obtain ⟨T', n', hst⟩ := HR.out
    have Hst := Lib.hid hst
    have Rb : wr.heap[w3.heap.size + 1]? = some (.cells #[ptrV (Tb.adr 2 0), .int .i64 nb] 31) := (hst.below.block _ h35).trans RB5.out
    have Ra : wr.heap[w3.heap.size]? = some (.cells #[ptrV (Ta.adr 2 0), .int .i64 na] 31) := (hst.below.block _ (by omega)).trans RA5.out
    have HRb := Lib.hid Rb
    have HRa := Lib.hid Ra
    obtain ⟨b0, b1, -, -⟩ := two_cells Rb
    obtain ⟨a0, a1, -, -⟩ := two_cells Ra
    obtain ⟨t0, t1, t2, t3⟩ := two_cells hst.row
    have Gb := Lib.hid ((Gb4.out.below B5.out).below hst.below)
    have Ga := Lib.hid ((Ga4.out.below B5.out).below hst.below)
    have hsl := slB HS5.out hst.below
    have HSl := Lib.hid hsl
    by_cases hlt : k < D.length
    · obtain ⟨d, hd⟩ : ∃ d, D[k]? = some d := ⟨_, List.getElem?_eq_getElem hlt⟩
      have hd4 : d < 4096 := by
        have := List.mem_of_getElem? hd
        rw [HD.out] at this
        have := (mem_diffR.1 this).2.1
        omega
      have htk := take_next hd
      have Htk := Lib.hid htk
      have hdi : (natInts D)[k]? = some (.int .i64 d) := by simp [natInts, hd]
      obtain ⟨g, o, rfl, hg, hcs⟩ := hsl.at_ (k := k) (by simp [natInts]; omega)
      have hck := hcs _ _ hdi
      have hI1 : (0 : Int) ≤ (k : Int) := by omega
      have hI2 : (k : Int) < (D.length : Int) := by omega
      have hD1 : (0 : Int) ≤ (d : Int) := by omega
      have hD2 : (d : Int) < 4096 := by omega
      clear hcs hdi htk hd hst hsl Ra Rb HR
      have KS : Hid (∀ w' : World, Below wr.heap.size wr w' → (w'.cell? ⟨w3.heap.size + 1, 0, none⟩ = some (ptrV (Tb.adr 2 0)) ∧ w'.cell? ⟨w3.heap.size + 1, 1, none⟩ = some (.int .i64 nb)) ∧ w'.cell? ⟨g, o + k, none⟩ = some (.int .i64 d)) :=
        fun w' hb => ⟨⟨(hb.cell (p := ⟨w3.heap.size + 1, 0, none⟩) (Array.getElem?_eq_some_iff.1 HRb.out).1).trans b0, (hb.cell (p := ⟨w3.heap.size + 1, 1, none⟩) (Array.getElem?_eq_some_iff.1 HRb.out).1).trans b1⟩, (hb.cell (p := ⟨g, o + k, none⟩) hg).trans hck⟩
      go_wp2_with fail
      have hlt5 : w5.heap.size < wr.heap.size := (Array.getElem?_eq_some_iff.1 Hst.out.row).1
      cases hmb : Tb.m d with
      | none =>
        have Hmb := Lib.hid hmb
        clear hmb
        go_region_held3 (fun w' => (w'.cell? ⟨w3.heap.size + 1, 0, none⟩ = some (ptrV (Tb.adr 2 0)) ∧ w'.cell? ⟨w3.heap.size + 1, 1, none⟩ = some (.int .i64 nb)) ∧ w'.cell? ⟨g, o + k, none⟩ = some (.int .i64 d)) (first | exact hKeep | go_keep)
          (first | (go_at_call 23; refine (tget_none (Tb := Tb) nb (d := d) Gb.out.drew hd4 Hmb.out).mono ?_; rintro e w6 ⟨rfl, hb6⟩; have B6 := Lib.hid (below_of_drew hb6); have hKeep := KS.out _ B6.out; clear hb6))
        have Rt : w6.heap[w5.heap.size]? = some (.cells #[ptrV (T'.adr 2 0), .int .i64 n'] 31) := (B6.out.block _ hlt5).trans Hst.out.row
        clear t0 t1 t2 t3
        obtain ⟨t0, t1, t2, t3⟩ := two_cells Rt
        have hck6 := (B6.out.cell (p := ⟨g, o + k, none⟩) hg).trans hck
        have hg6 : g < w6.heap.size := Nat.lt_of_lt_of_le hg B6.out.size
        have hlt6 : w5.heap.size < w6.heap.size := Nat.lt_of_lt_of_le hlt5 B6.out.size
        have Hst6 := Lib.hid (Hst.out.next B6.out)
        clear Rt hck
        go_wp2_with fail
        go_still_tail 5, (by kernel_rfl)
        change wpList _ _ _ _ _ w6.drew
        go_wp2_with (go_at_call 15; refine (tclr_any T' n' (d : Int) _ Hst6.out.good.drew).mono ?_; rintro e w7 ⟨T2, n2, rfl, hg7, hm7, hb7, -⟩; unfold TreeV; have hb7' := below_of_drew hb7; have R7 := (hb7'.block _ hlt6).trans Hst6.out.row; clear t0 t1 t2 t3; obtain ⟨t0, t1, t2, t3⟩ := two_cells R7; have Hg7 := Lib.hid hg7; have Hm7 := Lib.hid hm7; have Hb7 := Lib.hid hb7'; clear R7 hg7 hm7 hb7 hb7')
        exact ⟨⟨k + 1, by omega, by go_num, T2, n2, by rw [Htk.out]; exact Hst6.out.step Hb7.out Hg7.out (by rw [Hm7.out, Hst6.out.m]; exact lead_clr Hmb.out)⟩, by simp [intOf]; omega⟩
      | some cc =>
        have Hmb := Lib.hid hmb
        clear hmb
        go_region_held3 (fun w' => (w'.cell? ⟨w3.heap.size + 1, 0, none⟩ = some (ptrV (Tb.adr 2 0)) ∧ w'.cell? ⟨w3.heap.size + 1, 1, none⟩ = some (.int .i64 nb)) ∧ w'.cell? ⟨g, o + k, none⟩ = some (.int .i64 d)) (first | exact hKeep | go_keep)
          (first | (go_at_call 23; refine (tget_some (Tb := Tb) nb (d := d) (c := cc) Gb.out.drew hd4 Hmb.out).mono ?_; rintro e w6 ⟨rfl, hb6⟩; have B6 := Lib.hid (below_of_drew hb6); have hKeep := KS.out _ B6.out; clear hb6))
        have Rt : w6.heap[w5.heap.size]? = some (.cells #[ptrV (T'.adr 2 0), .int .i64 n'] 31) := (B6.out.block _ hlt5).trans Hst.out.row
        clear t0 t1 t2 t3
        obtain ⟨t0, t1, t2, t3⟩ := two_cells Rt
        have hck6 := (B6.out.cell (p := ⟨g, o + k, none⟩) hg).trans hck
        have hg6 : g < w6.heap.size := Nat.lt_of_lt_of_le hg B6.out.size
        have hlt6 : w5.heap.size < w6.heap.size := Nat.lt_of_lt_of_le hlt5 B6.out.size
        have Hst6 := Lib.hid (Hst.out.next B6.out)
        clear Rt hck
        go_wp2_with fail
        go_still_tail 6, (by kernel_rfl)
        change wpList _ _ _ _ _ w6.drew
        go_wp2_with (go_at_call 14; refine (tset_any T' n' (d : Int) cc _ Hst6.out.good.drew).mono ?_; rintro e w7 ⟨T2, n2, rfl, hg7, hm7, hb7, -⟩; unfold TreeV; have hb7' := below_of_drew hb7; have R7 := (hb7'.block _ hlt6).trans Hst6.out.row; clear t0 t1 t2 t3; obtain ⟨t0, t1, t2, t3⟩ := two_cells R7; have Hg7 := Lib.hid hg7; have Hm7 := Lib.hid hm7; have Hb7 := Lib.hid hb7'; clear R7 hg7 hm7 hb7 hb7')
        exact ⟨⟨k + 1, by omega, by go_num, T2, n2, by rw [Htk.out]; exact Hst6.out.step Hb7.out Hg7.out (by rw [Hm7.out, Hst6.out.m]; exact lead_set hd4 Hmb.out)⟩, by simp [intOf]; omega⟩
    · clear hsl hst HR Ra Rb
      obtain rfl : k = D.length := by omega
      have hmE : T'.m = Tb.m := by rw [Hst.out.m, List.take_length, HD.out]; exact lead_end HA.out
      have HTr : Hid (Tab wr) := (HT4.out.below B5.out HT4.out.1).below Hst.out.below (HT4.out.below B5.out HT4.out.1).1
      have h0r : 0 < wr.heap.size := HTr.out.1
      have HE1 : Hid (EqB T' Tb n' nb = true) := by show _ = _; rw [eqB_eq Hst.out.good Gb.out, hmE, diffR_self]; rfl
      have HE2 : Hid (EqB Ta Tb na nb = D.isEmpty) := by show _ = _; rw [eqB_eq Ga.out Gb.out, HD.out]
      have HDc : Hid (diffR Tb.m Ta.m 0 4096 = D) := by show _ = _; rw [diffR_comm, HD.out]
      have KE : Hid (∀ w' : World, Below wr.heap.size wr w' → ((w'.cell? ⟨w3.heap.size, 0, none⟩ = some (ptrV (Ta.adr 2 0)) ∧ w'.cell? ⟨w3.heap.size, 1, none⟩ = some (.int .i64 na)) ∧ (w'.cell? ⟨w3.heap.size + 1, 0, none⟩ = some (ptrV (Tb.adr 2 0)) ∧ w'.cell? ⟨w3.heap.size + 1, 1, none⟩ = some (.int .i64 nb))) ∧ (w'.cell? ⟨w5.heap.size, 0, none⟩ = some (ptrV (T'.adr 2 0)) ∧ w'.cell? ⟨w5.heap.size, 1, none⟩ = some (.int .i64 n'))) :=
        fun w' hb => ⟨⟨⟨(hb.cell (p := ⟨w3.heap.size, 0, none⟩) (Array.getElem?_eq_some_iff.1 HRa.out).1).trans a0, (hb.cell (p := ⟨w3.heap.size, 1, none⟩) (Array.getElem?_eq_some_iff.1 HRa.out).1).trans a1⟩, (hb.cell (p := ⟨w3.heap.size + 1, 0, none⟩) (Array.getElem?_eq_some_iff.1 HRb.out).1).trans b0, (hb.cell (p := ⟨w3.heap.size + 1, 1, none⟩) (Array.getElem?_eq_some_iff.1 HRb.out).1).trans b1⟩, (hb.cell (p := ⟨w5.heap.size, 0, none⟩) (Array.getElem?_eq_some_iff.1 Hst.out.row).1).trans t0, (hb.cell (p := ⟨w5.heap.size, 1, none⟩) (Array.getElem?_eq_some_iff.1 Hst.out.row).1).trans t1⟩
      clear hmE hk
      have HBend : Hid (Below w.heap.size w wr) := B4w.out.trans ((B5.out.trans (Hst.out.below.mono B5.out.size)).mono B4w.out.size)
      obtain ⟨b, hb⟩ : ∃ b, b = D.isEmpty := ⟨_, rfl⟩
      rw [← hb] at HE2
      have hDb : ((D.length : Int) == 0) = b := by rw [hb]; cases D <;> simp; omega
      clear hb
      cases b
      all_goals
        go_wp2_with (first
          | (go_at_call 20; refine (diff_any Tb Ta nb na _ HTr.out Gb.out.sub Ga.out.sub).mono ?_; rw [HDc.out]; rintro e w6 ⟨v6, rfl, hown, hbx⟩; obtain ⟨A6, c6, rfl, hs6, -⟩ := Sl.of_own hown; have HS6 := Lib.hid hs6; have HS5' := Lib.hid (slB HSl.out hbx); have E6 := Lib.hid hbx; clear hown hs6 hbx)
          | (go_at_call 19; rw [show D.length = (D.map fun x : Nat => (x : Int)).length by simp]; refine (same_any (D.map fun x : Nat => (x : Int)) (D.map fun x : Nat => (x : Int)) _ _ _ _ _ (by simp; omega) (by simp; omega) (by have h := HS5'.out; rw [natInts_eq] at h; exact h) (by have h := HS6.out; rw [natInts_eq] at h; exact h)).mono ?_; rintro e w7 ⟨rfl, hbx⟩; rw [decide_eq_true rfl]; have E7 := Lib.hid (E6.out.trans (hbx.mono E6.out.size)); clear hbx a0 a1 b0 b1 t0 t1 t2 t3; obtain ⟨⟨⟨a0, a1⟩, b0, b1⟩, t0, t1⟩ := KE.out _ E7.out)
          | (go_at_call 22; ((with_reducible refine (equal_any T' Tb n' nb _ (Lib.hid (HTr.out.below E7.out h0r)) (Lib.hid (Hst.out.good.below E7.out).sub) (Lib.hid (Gb.out.below E7.out).sub)).mono ?_)); rintro e w8 ⟨rfl, hbx⟩; rw [HE1.out]; have E8 := Lib.hid (E7.out.trans (hbx.mono E7.out.size)); clear hbx a0 a1 b0 b1 t0 t1; obtain ⟨⟨⟨a0, a1⟩, b0, b1⟩, t0, t1⟩ := KE.out _ E8.out)
          | (go_at_call 22; ((with_reducible refine (equal_any Ta Tb na nb _ (Lib.hid (HTr.out.below E8.out h0r)) (Lib.hid (Ga.out.below E8.out).sub) (Lib.hid (Gb.out.below E8.out).sub)).mono ?_)); rintro e w9 ⟨rfl, hbx⟩; rw [HE2.out]; have E9 := Lib.hid (E8.out.trans (hbx.mono E8.out.size)); clear hbx))
        go_ret
        exact ⟨rfl, HBend.out.trans (E9.out.mono HBend.out.size)⟩

set_option maxHeartbeats 400000 in
theorem leads_long1 (n1 n2 c1 c2 : Nat) (A1 A2 : Option Addr) (w : World) (Ht : Hid (Tab w)) (hn : 60 < n1) (hm : n1 ≤ maxLen) :
    Calls Tryd.prog 6 #[.slice A1 n1 c1, .slice A2 n2 c2] w (TrueP w) := by
  unfold maxLen at hm
  go_enter Tryd.func6, Tryd.ntmps6
  go_wp2_with (go_at_call 9; refine (sanity_any _ Ht).mono ?_; rintro e w1 ⟨rfl, hb1⟩; have Hb1 := Lib.hid hb1; clear hb1)
  go_ret
  exact ⟨rfl, Hb1.out⟩

set_option maxHeartbeats 400000 in
theorem leads_long2 (n1 n2 c1 c2 : Nat) (A1 A2 : Option Addr) (w : World) (Ht : Hid (Tab w)) (hn1 : n1 ≤ 60) (hn : 60 < n2) (hm : n2 ≤ maxLen) :
    Calls Tryd.prog 6 #[.slice A1 n1 c1, .slice A2 n2 c2] w (TrueP w) := by
  unfold maxLen at hm
  have hn1' : decide ((60 : Int) < (n1 : Int)) = false := by simp; omega
  go_enter Tryd.func6, Tryd.ntmps6
  go_wp2_with (go_at_call 9; refine (sanity_any _ Ht).mono ?_; rintro e w1 ⟨rfl, hb1⟩; have Hb1 := Lib.hid hb1; clear hb1)
  go_ret
  exact ⟨rfl, Hb1.out⟩

theorem leads_any (o1 o2 : List OpN) (c1 c2 : Nat) (A1 A2 : Option Addr) (w : World) (Ht : Tab w) (hm1 : o1.length ≤ maxLen) (hm2 : o2.length ≤ maxLen) (Hs1 : Sl w w.heap.size A1 (opCells o1)) (Hs2 : Sl w w.heap.size A2 (opCells o2)) :
    Calls Tryd.prog 6 #[.slice A1 o1.length c1, .slice A2 o2.length c2] w (TrueP w) := by
  by_cases h : o1.length ≤ 60
  · by_cases h2 : o2.length ≤ 60
    · exact leads_short o1 o2 c1 c2 A1 A2 w Ht h h2 Hs1 Hs2
    · exact leads_long2 _ _ c1 c2 A1 A2 w Ht h (by omega) hm2
  · exact leads_long1 _ _ c1 c2 A1 A2 w Ht (by omega) hm1
end Go.Proofs.YtognbkmamhgkeaaDoor
