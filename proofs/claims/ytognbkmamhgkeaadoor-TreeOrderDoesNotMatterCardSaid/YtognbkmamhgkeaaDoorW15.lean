/-
  The walks of the reference's Do and Play: all versions of a script, as lists of entries.
-/
import Derived.Test.YtognbkmamhgkeaaDoorW14
import Derived.Deep.RegionLaw
namespace Go.Proofs.YtognbkmamhgkeaaDoor
open Go Go.RowKit Go.Walks

/-- A change of a script. -/
structure OpN where
  frm : Int
  clr : Bool
  blk : Int
  chk : Int

def OpN.cells (o : OpN) : List Value := [.int .i64 o.frm, .bool o.clr, .int .i64 o.blk, .int .i64 o.chk]
def opCells (ops : List OpN) : List Value := ops.flatMap OpN.cells

def doL (l : List (Int × Int)) (o : OpN) : List (Int × Int) := if o.clr then clrL l o.blk else setL l o.blk o.chk

theorem res16 (tmps : Array Value) (w : World) (g : Nat) (a : Value) (hp : tmps.getD 4 undef = .pointer (some ⟨g, 0, none⟩)) (hg : w.heap[g]? = some (.cells #[a] 35)) :
    (results Tryd.f16 tmps).run Tryd.prog w = .ok (.agg #[a]) w :=
  results_cell_row (p := 4) (ty := 35) rfl tmps w g 35 #[a] (0, 0) _ hp hg Tryd.underlying35 rfl info35

theorem RefAt.one {w : World} {v : Value} {l : List (Int × Int)} (h : RefAt w v l) : ∃ A c, v = .agg #[.slice A l.length c] := by
  obtain ⟨A, c, e, _⟩ := h.ex; exact ⟨A, c, e⟩

theorem three_rows {w w1 : World} {A B C : Obj} (h : Below (((w.alloc A).alloc B).alloc C).heap.size (((w.alloc A).alloc B).alloc C) w1) : w1.heap[w.heap.size + 2]? = some C := by
  refine (h.block _ (by simp)).trans ?_
  have := heap_alloc_new ((w.alloc A).alloc B) C
  simpa using this

set_option maxHeartbeats 400000 in
theorem do_any (l : List (Int × Int)) (v : Value) (f b x : Int) (cl : Bool) (w : World) (hl : l.length ≤ 100000) (Hr : Hid (RefAt w v l)) :
    Calls Tryd.prog 16 #[v, .agg #[.int .i64 f, .bool cl, .int .i64 b, .int .i64 x]] w (RPost w (doL l ⟨f, cl, b, x⟩)) := by
  obtain ⟨A, c, rfl⟩ := Hr.out.one
  have hb0 : Below w.heap.size w (((w.alloc (.cells #[.slice A l.length c] 35)).alloc (.cells #[.int .i64 f, .bool cl, .int .i64 b, .int .i64 x] 38)).alloc (.cells #[.slice none 0 0] 35)) := (((Below.refl _ _).alloc (Nat.le_refl _) _).alloc (by simp) _).alloc (by simp; omega) _
  cases cl with
  | true =>
    go_enter Tryd.func16, Tryd.ntmps16
    go_wp2_with (go_at_call 35; refine (rclr_any l _ b _ hl (Hr.out.below hb0)).mono ?_; rintro e w1 ⟨v1, rfl, hr1, hb1⟩; obtain ⟨A1, c1, rfl⟩ := hr1.one; have r2 := three_rows hb1; obtain ⟨c20, f20⟩ := one_cell r2; have R2 := Lib.hid r2; have Hr1 := Lib.hid hr1; have Hb1 := Lib.hid hb1; clear r2 hr1 hb1)
    refine bodyPost_ret (res16 _ _ _ _ rfl (set_one R2.out _)) rfl ⟨_, rfl, ?_, ?_⟩
    · exact Hr1.out.setCell (p := ⟨w.heap.size + 2, 0, none⟩) R2.out (by decide) _
    · exact (hb0.trans (Hb1.out.mono (by simp; omega))).setCell (p := ⟨w.heap.size + 2, 0, none⟩) (by simp) _
  | false =>
    go_enter Tryd.func16, Tryd.ntmps16
    go_wp2_with (go_at_call 30; refine (rset_any l _ b x _ hl (Hr.out.below hb0)).mono ?_; rintro e w1 ⟨v1, rfl, hr1, hb1⟩; obtain ⟨A1, c1, rfl⟩ := hr1.one; have r2 := three_rows hb1; obtain ⟨c20, f20⟩ := one_cell r2; have R2 := Lib.hid r2; have Hr1 := Lib.hid hr1; have Hb1 := Lib.hid hb1; clear r2 hr1 hb1)
    refine bodyPost_ret (res16 _ _ _ _ rfl (set_one R2.out _)) rfl ⟨_, rfl, ?_, ?_⟩
    · exact Hr1.out.setCell (p := ⟨w.heap.size + 2, 0, none⟩) R2.out (by decide) _
    · exact (hb0.trans (Hb1.out.mono (by simp; omega))).setCell (p := ⟨w.heap.size + 2, 0, none⟩) (by simp) _

/-- Which version a change starts from. -/
def fromI (o : OpN) (n : Nat) : Nat := if o.frm.tmod n < 0 then 0 else (o.frm.tmod n).toNat
def stepL (Ls : List (List (Int × Int))) (o : OpN) : List (List (Int × Int)) := Ls ++ [doL (Ls.getD (fromI o Ls.length) []) o]
def playL (ops : List OpN) : List (List (Int × Int)) := ops.foldl stepL [[]]

theorem playL_snoc (ops : List OpN) (o : OpN) : playL (ops ++ [o]) = stepL (playL ops) o := by simp [playL]
theorem stepL_len (Ls : List (List (Int × Int))) (o : OpN) : (stepL Ls o).length = Ls.length + 1 := by simp [stepL]
theorem foldl_len (ops : List OpN) : ∀ Ls : List (List (Int × Int)), (ops.foldl stepL Ls).length = Ls.length + ops.length := by
  induction ops with
  | nil => intro Ls; rfl
  | cons o ops ih => intro Ls; rw [List.foldl_cons, ih, stepL_len]; simp; omega
theorem playL_len (ops : List OpN) : (playL ops).length = ops.length + 1 := by unfold playL; rw [foldl_len]; simp; omega
theorem fromI_lt (o : OpN) (n : Nat) (h : 0 < n) : fromI o n < n := by
  unfold fromI
  split
  · exact h
  · have := Int.tmod_lt_of_pos o.frm (b := (n : Int)) (by omega)
    omega

theorem doL_len (l : List (Int × Int)) (o : OpN) : (doL l o).length ≤ l.length + 1 := by
  unfold doL
  split
  · unfold clrL
    split
    · simp [List.length_take, List.length_drop]; omega
    · omega
  · unfold setL
    split
    · unfold setIn
      have := findI_le l o.blk
      split <;> simp [List.length_take, List.length_drop] <;> omega
    · omega

theorem step_small {Ls : List (List (Int × Int))} {N : Nat} (h : ∀ l, l ∈ Ls → l.length ≤ N) (o : OpN) : ∀ l, l ∈ stepL Ls o → l.length ≤ N + 1 := by
  intro l hl
  unfold stepL at hl
  rcases List.mem_append.1 hl with hl | hl
  · have := h l hl; omega
  · have : l = doL (Ls.getD (fromI o Ls.length) []) o := by simpa using hl
    subst this
    have h1 := doL_len (Ls.getD (fromI o Ls.length) []) o
    have h2 : (Ls.getD (fromI o Ls.length) []).length ≤ N := by
      rw [List.getD_eq_getElem?_getD]
      cases hc : Ls[fromI o Ls.length]? with
      | none => simp
      | some y => simp only [Option.getD_some]; exact h y (List.mem_of_getElem? hc)
    omega

theorem play_small : ∀ (ops : List OpN) (Ls : List (List (Int × Int))) (N : Nat), (∀ l, l ∈ Ls → l.length ≤ N) → ∀ l, l ∈ ops.foldl stepL Ls → l.length ≤ N + ops.length
  | [], _, _, h, l, hl => h l hl
  | o :: ops, Ls, N, h, l, hl => by
    have := play_small ops (stepL Ls o) (N + 1) (step_small h o) l hl
    simp only [List.length_cons]; omega
theorem playL_small (ops : List OpN) : ∀ l, l ∈ playL ops → l.length ≤ ops.length := by
  intro l hl
  have := play_small ops [[]] 0 (fun l hl => by simp at hl; subst hl; simp) l hl
  omega

/-- The reference's versions in memory: a slice of the call's own, each of whose elements is a reference tree. -/
structure Vers (w wr : World) (B : Nat) (v : Value) (Ls : List (List (Int × Int))) : Prop where
  below : Below w.heap.size w wr
  ex : ∃ vs : List Value, wr.ownsRow B 35 1 v Ls.length vs ∧ vs.length = Ls.length ∧ ∀ (j : Nat) (u : Value) (l : List (Int × Int)), vs[j]? = some u → Ls[j]? = some l → RefAt wr (.agg #[u]) l

theorem opCells_at : ∀ (ops : List OpN) (k : Nat) (o : OpN), ops[k]? = some o → (opCells ops)[k * 4]? = some (.int .i64 o.frm) ∧ (opCells ops)[k * 4 + 1]? = some (.bool o.clr) ∧ (opCells ops)[k * 4 + 2]? = some (.int .i64 o.blk) ∧ (opCells ops)[k * 4 + 3]? = some (.int .i64 o.chk)
  | [], _, _, h => by simp at h
  | p :: ops, 0, o, h => by
    have : p = o := by simpa using h
    subst this; exact ⟨rfl, rfl, rfl, rfl⟩
  | p :: ops, k + 1, o, h => by
    have := opCells_at ops k o (by simpa using h)
    have e : opCells (p :: ops) = .int .i64 p.frm :: .bool p.clr :: .int .i64 p.blk :: .int .i64 p.chk :: opCells ops := rfl
    rw [e, show (k + 1) * 4 = k * 4 + 1 + 1 + 1 + 1 by omega]
    exact this
theorem opCells_len (ops : List OpN) : (opCells ops).length = ops.length * 4 := by
  induction ops with
  | nil => rfl
  | cons x l ih =>
    have e : opCells (x :: l) = .int .i64 x.frm :: .bool x.clr :: .int .i64 x.blk :: .int .i64 x.chk :: opCells l := rfl
    rw [e]; simp only [List.length_cons, ih]; omega

theorem so26 : SliceOf Tryd.prog 26 35 1 24 := SliceOf.mk (z := .agg #[.slice none 0 0]) Tryd.underlying26 (by omega) (by kernel_rfl) rfl

theorem own_fresh (w : World) (t : TypeId) (v : Value) (hm : 1 ≤ maxLen) : (w.alloc (.cells #[v] t)).ownsRow w.heap.size t 1 (.slice (some ⟨w.heap.size, 0, none⟩) 1 1) 1 [v] :=
  ⟨rfl, .inr ⟨w.heap.size, 1, #[v], rfl, Nat.le_refl _, heap_alloc_new _ _, Nat.le_refl _, hm, rfl, rfl⟩⟩

theorem Vers.start (w : World) : Vers w (w.alloc (.cells #[.slice none 0 0] 35)) w.heap.size (.slice (some ⟨w.heap.size, 0, none⟩) 1 1) (playL []) := by
  refine ⟨(Below.refl _ _).alloc (Nat.le_refl _) _, [.slice none 0 0], own_fresh w 35 _ (by unfold maxLen; omega), rfl, fun j u l hu hL => ?_⟩
  cases j with
  | zero =>
    have h1 : Value.slice none 0 0 = u := by simpa using hu
    have h2 : [] = l := by simpa [playL] using hL
    subst h1; subst h2
    exact ⟨none, 0, rfl, .inl rfl, Nat.le_refl _, Nat.zero_le _⟩
  | succ j => simp at hu

/-- An element of the versions: its cell. -/
theorem Vers.at_ {w wr : World} {A : Option Addr} {n c : Nat} {Ls : List (List (Int × Int))} (h : Vers w wr w.heap.size (.slice A n c) Ls) (hn : n = Ls.length) {j : Nat} (hj : j < n) :
    ∃ (g : Nat) (A' : Option Addr) (c' : Nat) (l : List (Int × Int)), A = some ⟨g, 0, none⟩ ∧ Ls[j]? = some l ∧ wr.cell? ⟨g, j, none⟩ = some (.slice A' l.length c') ∧ RefAt wr (.agg #[.slice A' l.length c']) l := by
  obtain ⟨vs, ho, hl, hr⟩ := h.ex
  subst hn
  rcases ho.2 with ⟨_, h0⟩ | ⟨g, cap, cur, e, hg, hh, _, _, _, ht⟩
  · omega
  · injection e with e1 _ _
    obtain ⟨u, hu⟩ : ∃ u, vs[j]? = some u := ⟨_, List.getElem?_eq_getElem (by omega)⟩
    obtain ⟨l, hL⟩ : ∃ l, Ls[j]? = some l := ⟨_, List.getElem?_eq_getElem hj⟩
    have hR := hr j u l hu hL
    obtain ⟨A', c', e2⟩ := hR.one
    injection e2 with e2
    have e3 : u = .slice A' l.length c' := by simpa using e2
    subst e3
    refine ⟨g, A', c', l, e1, hL, ?_, hR⟩
    rw [← ht, List.getElem?_take] at hu
    split at hu
    · simp only [World.cell?, hh]; simpa using hu
    · cases hu

theorem Vers.step {w wr w1 w2 : World} {v v' : Value} {Ls : List (List (Int × Int))} {u : Value} {l' : List (Int × Int)} {vs : List Value} (h : Vers w wr w.heap.size v Ls) (hvs : wr.ownsRow w.heap.size 35 1 v Ls.length vs ∧ vs.length = Ls.length ∧ ∀ (j : Nat) (u : Value) (l : List (Int × Int)), vs[j]? = some u → Ls[j]? = some l → RefAt wr (.agg #[u]) l)
    (hb : Below wr.heap.size wr w1) (hr : RefAt w1 (.agg #[u]) l') (o : Obj) (hg : (w1.alloc o).grownBy w2 v.ownBlock) (ho : w2.ownsRow w.heap.size 35 1 v' (Ls.length + 1) (vs ++ [u])) : Vers w w2 w.heap.size v' (Ls ++ [l']) := by
  have hown : ∀ g, v.ownBlock = some g → w.heap.size ≤ g ∧ ∃ cur, wr.heap[g]? = some (.cells cur 35) := by
    intro g hg
    rcases hvs.1.2 with ⟨rfl, _⟩ | ⟨g', cap, cur, rfl, hle, hh, _⟩
    · simp [Value.ownBlock] at hg
    · have : g' = g := by simpa [Value.ownBlock] using hg
      subst this; exact ⟨hle, cur, hh⟩
  have hmv : ∀ {u : Value} {l : List (Int × Int)}, RefAt w1 (.agg #[u]) l → RefAt w2 (.agg #[u]) l := by
    intro u l hR
    obtain ⟨A, c, e, hs, h1, h2⟩ := hR.ex
    refine ⟨A, c, e, hs.move (fun k cur fz hk hh => ?_) (by have := hg.size; simp at this; omega), h1, h2⟩
    rw [hg.block k (by simp; omega) (fun e' => ?_), Below.heap_alloc _ _ _ hk]
    · exact hh
    · obtain ⟨_, cur', hh'⟩ := hown k e'.symm
      have h3 : k < wr.heap.size := (Array.getElem?_eq_some_iff.1 hh').1
      rw [hb.block k h3, hh'] at hh
      injection hh with hh; injection hh with _ hh; cases hh
  refine ⟨((h.below.trans (hb.mono h.below.size)).alloc (Nat.le_trans h.below.size hb.size) o).grown hg (by have := hb.size; have := h.below.size; simp; omega) (fun k e => (hown k e).1), vs ++ [u], by simpa using ho, by simp [hvs.2.1], fun j x l hx hL => ?_⟩
  by_cases hj : j < vs.length
  · rw [List.getElem?_append_left hj] at hx
    rw [List.getElem?_append_left (by omega)] at hL
    exact hmv ((hvs.2.2 j x l hx hL).below hb)
  · have hj' : j = vs.length := by
      rcases Nat.lt_or_ge vs.length j with h | h
      · rw [List.getElem?_eq_none (by simp; omega)] at hx; cases hx
      · omega
    subst hj'
    rw [List.getElem?_append_right (Nat.le_refl _)] at hx
    rw [hvs.2.1, List.getElem?_append_right (Nat.le_refl _)] at hL
    have h1 : u = x := by simpa using hx
    have h2 : l' = l := by simpa using hL
    subst h1; subst h2
    exact hmv hr

theorem RefAt.drew {w : World} {v : Value} {l : List (Int × Int)} (h : RefAt w v l) : RefAt w.drew v l := ⟨h.ex⟩
theorem below_of_drew {w w' : World} (h : Below w.drew.heap.size w.drew w') : Below w.heap.size w w' := ⟨h.os, h.tape, h.output, h.size, h.block⟩

theorem own_later {wr w1 : World} {B n m : Nat} {t : TypeId} {v : Value} {vs : List Value} (h : wr.ownsRow B t 1 v m vs) (hm : m = n) (hb : Below wr.heap.size wr w1) (o : Obj) : (w1.alloc o).ownsRow B t 1 v n vs := by
  subst hm
  refine World.ownsRow.alloc ?_ o
  refine ⟨h.1, ?_⟩
  rcases h.2 with h2 | ⟨g, cap, cur, hv, hg, hh, r⟩
  · exact .inl h2
  · exact .inr ⟨g, cap, cur, hv, hg, (hb.block g (Array.getElem?_eq_some_iff.1 hh).1).trans hh, r⟩

set_option maxHeartbeats 600000 in
theorem rplay_any (ops : List OpN) (A : Option Addr) (c : Nat) (w : World) (hl : ops.length ≤ 1000) (Hsl : Hid (Sl w w.heap.size A (opCells ops))) :
    Calls Tryd.prog 11 #[.slice A ops.length c] w (fun e w' => ∃ v, e = .returned v ∧ Vers w w' w.heap.size v (playL ops)) := by
  go_enter Tryd.func11, Tryd.ntmps11
  go_wp2_with fail
  go_loopw [3, 4] (fun sl ix wr => ∃ (k : Nat) (A' : Option Addr) (c' : Nat), k ≤ ops.length ∧ ix = .int .i64 k ∧ sl = .slice A' (k + 1) c' ∧ Hid (Vers w wr w.heap.size (.slice A' (k + 1) c') (playL (ops.take k)))) (fun _ ix _ => ops.length - (intOf ix).toNat)
  case atStart => exact ⟨0, _, _, by omega, rfl, rfl, by rw [List.take_zero]; exact Vers.start w⟩
  case round =>
    obtain ⟨k, A', c', hk, rfl, rfl, HV⟩ := hrel
    by_cases hlt : k < ops.length
    · obtain ⟨g, o, rfl, hg, hc⟩ := Hsl.out.at_ (k := k * 4) (by rw [opCells_len]; omega)
      obtain ⟨op, hx⟩ : ∃ x, ops[k]? = some x := ⟨_, List.getElem?_eq_getElem hlt⟩
      obtain ⟨q0, q1, q2, q3⟩ := opCells_at ops k op hx
      have hc0 : wr.cell? ⟨g, o + k * 4, none⟩ = some (.int .i64 op.frm) := by rw [HV.out.below.cell hg]; exact hc _ _ q0
      have hc1 : wr.cell? ⟨g, o + k * 4 + 1, none⟩ = some (.bool op.clr) := by rw [HV.out.below.cell hg]; exact hc _ _ q1
      have hc2 : wr.cell? ⟨g, o + k * 4 + 2, none⟩ = some (.int .i64 op.blk) := by rw [HV.out.below.cell hg]; exact hc _ _ q2
      have hc3 : wr.cell? ⟨g, o + k * 4 + 3, none⟩ = some (.int .i64 op.chk) := by rw [HV.out.below.cell hg]; exact hc _ _ q3
      have Hx := Lib.hid hx
      clear hc q0 q1 q2 q3 hx
      by_cases hneg : op.frm.tmod ((k : Int) + 1) < 0
      · obtain ⟨gv, Aj, cj, lj, rfl, hlj, hcj, hrj⟩ := HV.out.at_ (by rw [playL_len, List.length_take]; omega) (j := 0) (by omega)
        have Hlj := Lib.hid hlj
        have Hrj := Lib.hid hrj
        obtain ⟨vs, hvs⟩ := HV.out.ex
        have Hvs := Lib.hid hvs
        have hll : lj.length ≤ 100000 := by
          have := playL_small (ops.take k) lj (List.mem_of_getElem? hlj)
          rw [List.length_take] at this; omega
        have hlen : (playL (ops.take k)).length = k + 1 := by rw [playL_len, List.length_take]; omega
        have Hlen := Lib.hid hlen
        clear hlj hrj hvs hlen
        go_wp2_with fail
        go_region_law
          (first
          | (refine step_append_sl rfl _ _ 26 rfl rfl rfl so26 (own_later Hvs.out.1 Hlen.out Hb1.out _) (m := 1) (news := [.slice A1 (doL lj op).length c1]) rfl (Sl.new _ _ _) (fun u hu => by simp at hu; subst hu; rfl) (by unfold maxLen; omega) (by omega) (by have h1 := HV.out.below.size; have h2 := Hb1.out.size; simp at h2 ⊢; omega) ?_; intro A2 c2 w2 ho2 hg2; have HV2 := Lib.hid (HV.out.step Hvs.out Hb1.out Hr1.out _ hg2 (by rw [Hlen.out]; exact ho2)); clear ho2 hg2)
          | (go_simp; go_at_call 16; refine (do_any lj _ op.frm op.blk op.chk op.clr _ hll Hrj.out.drew).mono ?_; rintro e w1 ⟨v1, rfl, hr1, hb1⟩; obtain ⟨A1, c1, rfl⟩ := hr1.one; have Hr1 := Lib.hid hr1; have Hb1 := Lib.hid (below_of_drew hb1); clear hr1 hb1))
        all_goals
          go_wp2_with fail
          refine ⟨⟨k + 1, _, _, by omega, by go_num, rfl, ?_⟩, by simp [intOf]; omega⟩
          show Vers _ _ _ _ _
          rw [List.take_succ_eq_append_getElem hlt, playL_snoc]
          have hop : ops[k] = op := by have := Hx.out; rw [List.getElem?_eq_getElem hlt] at this; injection this
          have hfr : fromI op (playL (ops.take k)).length = 0 := by rw [Hlen.out]; unfold fromI; rw [if_pos (by simpa using hneg)]
          have hgd : (playL (ops.take k)).getD (fromI op (playL (ops.take k)).length) [] = lj := by rw [hfr, List.getD_eq_getElem?_getD, Hlj.out]; rfl
          rw [hop, stepL, hgd]
          exact HV2.out
      · obtain ⟨j, hj⟩ : ∃ j : Nat, op.frm.tmod ((k : Int) + 1) = (j : Int) := ⟨(op.frm.tmod ((k : Int) + 1)).toNat, by omega⟩
        have hj1 : j < k + 1 := by have := Int.tmod_lt_of_pos op.frm (b := (k : Int) + 1) (by omega); omega
        have hneg' : ¬ ((j : Int) < 0) := by omega
        have hI1 : (0 : Int) ≤ (j : Int) := by omega
        have hI2 : (j : Int) < (k : Int) + 1 := by omega
        have Hj := Lib.hid hj
        clear hneg
        obtain ⟨gv, Aj, cj, lj, rfl, hlj, hcj, hrj⟩ := HV.out.at_ (by rw [playL_len, List.length_take]; omega) (j := j) (by omega)
        have Hlj := Lib.hid hlj
        have Hrj := Lib.hid hrj
        obtain ⟨vs, hvs⟩ := HV.out.ex
        have Hvs := Lib.hid hvs
        have hll : lj.length ≤ 100000 := by
          have := playL_small (ops.take k) lj (List.mem_of_getElem? hlj)
          rw [List.length_take] at this; omega
        have hlen : (playL (ops.take k)).length = k + 1 := by rw [playL_len, List.length_take]; omega
        have Hlen := Lib.hid hlen
        clear hlj hrj hvs hlen
        go_wp2_with fail
        go_region_law
          (first
          | (refine step_append_sl rfl _ _ 26 rfl rfl rfl so26 (own_later Hvs.out.1 Hlen.out Hb1.out _) (m := 1) (news := [.slice A1 (doL lj op).length c1]) rfl (Sl.new _ _ _) (fun u hu => by simp at hu; subst hu; rfl) (by unfold maxLen; omega) (by omega) (by have h1 := HV.out.below.size; have h2 := Hb1.out.size; simp at h2 ⊢; omega) ?_; intro A2 c2 w2 ho2 hg2; have HV2 := Lib.hid (HV.out.step Hvs.out Hb1.out Hr1.out _ hg2 (by rw [Hlen.out]; exact ho2)); clear ho2 hg2)
          | (go_simp; go_at_call 16; refine (do_any lj _ op.frm op.blk op.chk op.clr _ hll Hrj.out.drew).mono ?_; rintro e w1 ⟨v1, rfl, hr1, hb1⟩; obtain ⟨A1, c1, rfl⟩ := hr1.one; have Hr1 := Lib.hid hr1; have Hb1 := Lib.hid (below_of_drew hb1); clear hr1 hb1))
        all_goals
          go_wp2_with fail
          refine ⟨⟨k + 1, _, _, by omega, by go_num, rfl, ?_⟩, by simp [intOf]; omega⟩
          show Vers _ _ _ _ _
          rw [List.take_succ_eq_append_getElem hlt, playL_snoc]
          have hop : ops[k] = op := by have := Hx.out; rw [List.getElem?_eq_getElem hlt] at this; injection this
          have hfr : fromI op (playL (ops.take k)).length = j := by rw [Hlen.out]; have := Hj.out; unfold fromI; rw [show (((k + 1 : Nat)) : Int) = (k : Int) + 1 by omega, this, if_neg (by omega)]; simp
          have hgd : (playL (ops.take k)).getD (fromI op (playL (ops.take k)).length) [] = lj := by rw [hfr, List.getD_eq_getElem?_getD, Hlj.out]; rfl
          rw [hop, stepL, hgd]
          exact HV2.out
    · go_wp2_with fail
      go_ret
      have hk' : ops.take k = ops := List.take_of_length_le (by omega)
      have hv := HV.out
      rw [hk'] at hv
      exact ⟨_, rfl, hv⟩
end Go.Proofs.YtognbkmamhgkeaaDoor
