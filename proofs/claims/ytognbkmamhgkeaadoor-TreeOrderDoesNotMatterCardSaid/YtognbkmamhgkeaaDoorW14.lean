/-
  The walks of the reference's Set and Clear over a list of entries.
-/
import Derived.Test.YtognbkmamhgkeaaDoorW13
import Derived.Test.YtognbkmamhgkeaaDoorAp
namespace Go.Proofs.YtognbkmamhgkeaaDoor
open Go Go.RowKit Go.Walks

theorem so33 : SliceOf Tryd.prog 33 59 2 16 := SliceOf.mk (z := .agg #[.int .i64 0, .int .i64 0]) Tryd.underlying33 (by omega) (by kernel_rfl) rfl

/-- A reference tree's value: its slice lies in memory and reads as the list. -/
structure RefAt (w : World) (v : Value) (l : List (Int × Int)) : Prop where
  ex : ∃ A c, v = .agg #[.slice A l.length c] ∧ SlT w w.heap.size 59 A (entCells l) ∧ l.length ≤ c ∧ c ≤ maxLen

theorem RefAt.below {w w' : World} {v : Value} {l : List (Int × Int)} (h : RefAt w v l) (hb : Below w.heap.size w w') : RefAt w' v l := by
  obtain ⟨A, c, rfl, hs, h1, h2⟩ := h.ex
  exact ⟨A, c, rfl, hs.below hb hb.size, h1, h2⟩

theorem RefAt.setCell {w : World} {v : Value} {l : List (Int × Int)} {t : TypeId} {cs : Array Value} {fz : Nat × Nat} (h : RefAt w v l) {p : Addr} (hp : w.heap[p.block]? = some (.cells cs t fz)) (ht : t ≠ 59) (u : Value) : RefAt (w.setCell p u) v l := by
  obtain ⟨A, c, rfl, hs, h1, h2⟩ := h.ex
  exact ⟨A, c, rfl, by rw [World.size_setCell]; exact hs.setCell hp ht u, h1, h2⟩

def RPost (w : World) (l' : List (Int × Int)) (e : Ending) (w' : World) : Prop := ∃ v, e = .returned v ∧ RefAt w' v l' ∧ Below w.heap.size w w'

def inB (b : Int) : Bool := decide (0 ≤ b) && decide (b ≤ 4095)
def setIn (l : List (Int × Int)) (b c : Int) : List (Int × Int) := l.take (findI l b) ++ [(b, c)] ++ l.drop (if foundB l b then findI l b + 1 else findI l b)
def setL (l : List (Int × Int)) (b c : Int) : List (Int × Int) := if inB b then setIn l b c else l
def clrL (l : List (Int × Int)) (b : Int) : List (Int × Int) := if foundB l b then l.take (findI l b) ++ l.drop (findI l b + 1) else l

theorem info35 : (Tryd.prog.info? 35).map (·.size) = some 1 := by kernel_rfl
theorem res30 (tmps : Array Value) (w : World) (g : Nat) (a : Value) (hp : tmps.getD 6 undef = .pointer (some ⟨g, 0, none⟩)) (hg : w.heap[g]? = some (.cells #[a] 35)) :
    (results Tryd.f30 tmps).run Tryd.prog w = .ok (.agg #[a]) w :=
  results_cell_row (p := 6) (ty := 35) rfl tmps w g 35 #[a] (0, 0) _ hp hg Tryd.underlying35 rfl info35
theorem res35 (tmps : Array Value) (w : World) (g : Nat) (a : Value) (hp : tmps.getD 4 undef = .pointer (some ⟨g, 0, none⟩)) (hg : w.heap[g]? = some (.cells #[a] 35)) :
    (results Tryd.f35 tmps).run Tryd.prog w = .ok (.agg #[a]) w :=
  results_cell_row (p := 4) (ty := 35) rfl tmps w g 35 #[a] (0, 0) _ hp hg Tryd.underlying35 rfl info35
theorem one_cell {w : World} {g : Nat} {t : TypeId} {a : Value} (h : w.heap[g]? = some (.cells #[a] t)) : w.cell? ⟨g, 0, none⟩ = some a ∧ w.frozen? ⟨g, 0, none⟩ = false := by
  simp [World.cell?, World.frozen?, h]
theorem set_one {w : World} {g : Nat} {t : TypeId} {a : Value} (h : w.heap[g]? = some (.cells #[a] t)) (u : Value) : (w.setCell ⟨g, 0, none⟩ u).heap[g]? = some (.cells #[u] t) := by
  simp [World.setCell, Array.getElem?_modify, h]

theorem entCells_take (l : List (Int × Int)) (i : Nat) : (entCells l).take (i * 2) = entCells (l.take i) := by
  induction l generalizing i with
  | nil => simp [entCells]
  | cons x l ih =>
    cases i with
    | zero => simp [entCells]
    | succ i =>
      rw [entCells_cons, show (i + 1) * 2 = i * 2 + 1 + 1 by omega]
      simp only [List.take_succ_cons, ih]
      rfl
theorem entCells_drop (l : List (Int × Int)) (i : Nat) : (entCells l).drop (i * 2) = entCells (l.drop i) := by
  induction l generalizing i with
  | nil => simp [entCells]
  | cons x l ih =>
    cases i with
    | zero => simp [entCells]
    | succ i =>
      rw [entCells_cons, show (i + 1) * 2 = i * 2 + 1 + 1 by omega]
      simp only [List.drop_succ_cons, ih]
theorem entCells_append (l k : List (Int × Int)) : entCells (l ++ k) = entCells l ++ entCells k := by simp [entCells]
theorem entCells_take_len (l : List (Int × Int)) (i : Nat) (h : i ≤ l.length) : ((entCells l).take (i * 2)).length = i * 2 := by
  rw [List.length_take, entCells_len]; omega
theorem entCells_drop_len (l : List (Int × Int)) (i : Nat) : ((entCells l).drop (i * 2)).length = (l.length - i) * 2 := by
  rw [List.length_drop, entCells_len]; omega
theorem ent_one {l : List (Int × Int)} (u : Value) (h : u ∈ entCells l) : u.oneCell' = true := by
  obtain ⟨x, _, hx⟩ := List.mem_flatMap.1 h
  simp at hx
  rcases hx with rfl | rfl <;> rfl

set_option maxHeartbeats 400000 in
theorem rset_out (l : List (Int × Int)) (A : Option Addr) (c : Nat) (b x : Int) (w : World) (h : b < 0 ∨ 4095 < b) :
    Calls Tryd.prog 30 #[.agg #[.slice A l.length c], .int .i64 b, .int .i64 x] w (fun e w' => e = .returned (.agg #[.slice A l.length c]) ∧ Below w.heap.size w w') := by
  rcases h with h | h
  · go_enter Tryd.func30, Tryd.ntmps30
    go_wp2_with fail
    refine bodyPost_ret (v := .agg #[.slice A l.length c]) (res30 _ _ (w.heap.size + 1) _ rfl (by first | exact heap_alloc2_new _ _ _ | (simp [go_sem]; done))) rfl ⟨rfl, ?_⟩
    exact ((Below.refl _ _).alloc (Nat.le_refl _) _).alloc (by simp) _
  · have h' : ¬ b < 0 := by omega
    go_enter Tryd.func30, Tryd.ntmps30
    go_wp2_with fail
    refine bodyPost_ret (v := .agg #[.slice A l.length c]) (res30 _ _ (w.heap.size + 1) _ rfl (by first | exact heap_alloc2_new _ _ _ | (simp [go_sem]; done))) rfl ⟨rfl, ?_⟩
    exact ((Below.refl _ _).alloc (Nat.le_refl _) _).alloc (by simp) _

/-- A call whose receiver and result lie in two boxes, and that owns a slice of entries. -/
structure Bld (w w1 : World) (recv : Value) (v : Value) (n : Nat) (xs : List Value) : Prop where
  below : Below w.heap.size w w1
  size : w.heap.size + 2 ≤ w1.heap.size
  r0 : w1.heap[w.heap.size]? = some (Obj.cells #[recv] 35)
  r1 : w1.heap[w.heap.size + 1]? = some (Obj.cells #[Value.slice none 0 0] 35)
  own : w1.ownsRow (w.heap.size + 2) 59 2 v n xs

theorem Bld.alloc {w w1 : World} {recv v : Value} {n : Nat} {xs : List Value} (h : Bld w w1 recv v n xs) (o : Obj) : Bld w (w1.alloc o) recv v n xs :=
  ⟨h.below.alloc h.below.size o, by have := h.size; simp; omega, (Below.heap_alloc _ _ _ (by have := h.size; omega)).trans h.r0, (Below.heap_alloc _ _ _ (by have := h.size; omega)).trans h.r1, h.own.alloc o⟩

theorem Bld.step {w w1 w2 : World} {recv v v' : Value} {n n' : Nat} {xs xs' : List Value} (h : Bld w w1 recv v n xs) (hg : w1.grownBy w2 v.ownBlock) (ho : w2.ownsRow (w.heap.size + 2) 59 2 v' n' xs') : Bld w w2 recv v' n' xs' := by
  have hown : ∀ g, v.ownBlock = some g → w.heap.size + 2 ≤ g := by
    intro g hg
    rcases h.own.2 with ⟨rfl, _⟩ | ⟨g', cap, cur, rfl, hle, _⟩
    · simp [Value.ownBlock] at hg
    · have : g' = g := by simpa [Value.ownBlock] using hg
      subst this; exact hle
  have hs := h.size
  refine ⟨h.below.grown hg h.below.size (fun k e => by have := hown k e; omega), Nat.le_trans h.size hg.size, ?_, ?_, ho⟩
  · exact (hg.block _ (by omega) (fun e => by have := hown _ e.symm; omega)).trans h.r0
  · exact (hg.block _ (by omega) (fun e => by have := hown _ e.symm; omega)).trans h.r1

/-- The slice is stored into the result's box: the reference tree that is returned. -/
theorem Bld.result {w w1 : World} {recv : Value} {A : Option Addr} {n c : Nat} {xs : List Value} (h : Bld w w1 recv (.slice A n c) n xs) {l' : List (Int × Int)} (hx : xs = entCells l') :
    RefAt (w1.setCell ⟨w.heap.size + 1, 0, none⟩ (.slice A n c)) (.agg #[.slice A n c]) l' ∧ Below w.heap.size w (w1.setCell ⟨w.heap.size + 1, 0, none⟩ (.slice A n c)) ∧
      (w1.setCell ⟨w.heap.size + 1, 0, none⟩ (.slice A n c)).heap[w.heap.size + 1]? = some (.cells #[.slice A n c] 35) := by
  have ho := ownsRow_setCell_below h.own (a := ⟨w.heap.size + 1, 0, none⟩) (by simp) (.slice A n c)
  have hn : n = l'.length := by
    have := h.own.1
    rw [hx, entCells_len] at this; omega
  obtain ⟨A', c', e, hs, h1, h2⟩ := SlT.of_own ho
  injection e with e1 e2 e3
  subst e1; subst e3; subst hn; subst hx
  exact ⟨⟨A, c, rfl, hs, h1, h2⟩, h.below.setCell (p := ⟨w.heap.size + 1, 0, none⟩) (by simp) _, set_one h.r1 _⟩

set_option maxHeartbeats 400000 in
theorem rset_in (l : List (Int × Int)) (A : Option Addr) (c : Nat) (b x : Int) (w : World) (hl : l.length ≤ 100000) (hlc : l.length ≤ c) (hcm : c ≤ maxLen) (Hsl : Hid (Sl w w.heap.size A (entCells l))) (h0 : 0 ≤ b) (h1 : b ≤ 4095) :
    Calls Tryd.prog 30 #[.agg #[.slice A l.length c], .int .i64 b, .int .i64 x] w (RPost w (setIn l b x)) := by
  unfold maxLen at hcm
  have hb0 : Below w.heap.size w ((w.alloc (.cells #[.slice A l.length c] 35)).alloc (.cells #[.slice none 0 0] 35)) := ((Below.refl _ _).alloc (Nat.le_refl _) _).alloc (by simp) _
  have hbx := Hsl.out.below hb0
  have h0' : decide (b < 0) = false := by simp; omega
  have h1' : decide (4095 < b) = false := by simp; omega
  go_enter Tryd.func30, Tryd.ntmps30
  go_wp2_with fail
  refine (find_any l A c b _ hl (hbx.more (by simp; omega))).mono ?_
  rintro e w1 ⟨rfl, hb1⟩
  obtain ⟨r0, r1⟩ := two_rows hb1
  have hb2 : Below w.heap.size w w1 := hb0.trans (hb1.mono (by simp; omega))
  have hsz : w.heap.size + 1 + 1 ≤ w1.heap.size := by have := hb1.size; simpa using this
  have B0 : Hid (Bld w w1 (.slice A l.length c) (.slice none 0 0) 0 []) := ⟨hb2, hsz, r0, r1, World.ownsRow_nil _ _ _ _⟩
  have hfl := findI_le l b
  obtain ⟨c00, f00⟩ := one_cell r0
  clear hb1 hb2 hb0 hbx r0 r1 f00
  have hml : l.length + 1 ≤ maxLen := by unfold maxLen; omega
  have tok1 : True := trivial
  have tok2 : True := trivial
  cases hf : foundB l b with
  | false =>
    have hset : setIn l b x = l.take (findI l b) ++ [(b, x)] ++ l.drop (findI l b) := by unfold setIn; rw [hf]; rfl
    have Hset := Lib.hid hset
    clear hf hset
    obtain ⟨i, hi⟩ : ∃ i, i = findI l b := ⟨_, rfl⟩
    rw [← hi] at hfl Hset ⊢
    clear hi
    go_wp2_with (first
      | (at_builtin; have _t := tok1; refine wpList_append_sl rfl _ _ 33 rfl rfl rfl so33 B0.out.own (entCells_take_len l i hfl) ((Hsl.out.below B0.out.below).take (i * 2)) (fun u hu => ent_one u (List.mem_of_mem_take hu)) (by omega) (by omega) B0.out.size ?_; intro A1 c1 w2 ho1 hg1; simp only [Nat.zero_add, List.nil_append] at ho1; have B1 := Lib.hid (B0.out.step hg1 ho1); obtain ⟨d00, _⟩ := one_cell B1.out.r0; clear tok1 _t ho1 hg1 c00)
      | (at_builtin; have _t := tok2; refine wpList_append_sl rfl _ _ 33 rfl rfl rfl so33 (B1.out.alloc _).own (m := 1) (news := [.int .i64 b, .int .i64 x]) rfl (Sl.new _ _ _) (fun u hu => by simp at hu; rcases hu with rfl | rfl <;> rfl) (by omega) (by omega) (B1.out.alloc _).size ?_; intro A2 c2 w3 ho2 hg2; have B2 := Lib.hid ((B1.out.alloc _).step hg2 ho2); obtain ⟨d00, _⟩ := one_cell B2.out.r0; clear tok2 _t ho2 hg2)
      | (at_builtin; refine wpList_append_sl rfl _ _ 33 rfl rfl rfl so33 B2.out.own (entCells_drop_len l i) ((Hsl.out.below B2.out.below).drop hfl hlc 2 (entCells_len l)) (fun u hu => ent_one u (List.mem_of_mem_drop hu)) (by omega) (by omega) B2.out.size ?_; intro A3 c3 w4 ho3 hg3; have B3 := Lib.hid (B2.out.step hg3 ho3); obtain ⟨d10, e10⟩ := one_cell B3.out.r1; clear ho3 hg3))
    all_goals
      obtain ⟨q1, q2, q3⟩ := B3.out.result (l' := setIn l b x) (by rw [Hset.out, entCells_take, entCells_drop, entCells_append, entCells_append]; rfl)
      exact bodyPost_ret (res30 _ _ _ _ rfl q3) rfl ⟨_, rfl, q1, q2⟩
  | true =>
    have hlt := found_lt hf
    have hset : setIn l b x = l.take (findI l b) ++ [(b, x)] ++ l.drop (findI l b + 1) := by unfold setIn; rw [hf]; rfl
    have Hset := Lib.hid hset
    clear hf hset
    obtain ⟨i, hi⟩ : ∃ i, i = findI l b := ⟨_, rfl⟩
    rw [← hi] at hfl hlt Hset ⊢
    clear hi
    go_wp2_with (first
      | (at_builtin; have _t := tok1; refine wpList_append_sl rfl _ _ 33 rfl rfl rfl so33 B0.out.own (entCells_take_len l i hfl) ((Hsl.out.below B0.out.below).take (i * 2)) (fun u hu => ent_one u (List.mem_of_mem_take hu)) (by omega) (by omega) B0.out.size ?_; intro A1 c1 w2 ho1 hg1; simp only [Nat.zero_add, List.nil_append] at ho1; have B1 := Lib.hid (B0.out.step hg1 ho1); obtain ⟨d00, _⟩ := one_cell B1.out.r0; clear tok1 _t ho1 hg1 c00)
      | (at_builtin; have _t := tok2; refine wpList_append_sl rfl _ _ 33 rfl rfl rfl so33 (B1.out.alloc _).own (m := 1) (news := [.int .i64 b, .int .i64 x]) rfl (Sl.new _ _ _) (fun u hu => by simp at hu; rcases hu with rfl | rfl <;> rfl) (by omega) (by omega) (B1.out.alloc _).size ?_; intro A2 c2 w3 ho2 hg2; have B2 := Lib.hid ((B1.out.alloc _).step hg2 ho2); obtain ⟨d00, _⟩ := one_cell B2.out.r0; clear tok2 _t ho2 hg2)
      | (at_builtin; refine wpList_append_sl rfl _ _ 33 rfl rfl rfl so33 B2.out.own (entCells_drop_len l (i + 1)) ((Hsl.out.below B2.out.below).drop (k := i + 1) (by omega) hlc 2 (entCells_len l)) (fun u hu => ent_one u (List.mem_of_mem_drop hu)) (by omega) (by omega) B2.out.size ?_; intro A3 c3 w4 ho3 hg3; have B3 := Lib.hid (B2.out.step hg3 ho3); obtain ⟨d10, e10⟩ := one_cell B3.out.r1; clear ho3 hg3))
    all_goals
      obtain ⟨q1, q2, q3⟩ := B3.out.result (l' := setIn l b x) (by rw [Hset.out, entCells_take, entCells_drop, entCells_append, entCells_append]; rfl)
      exact bodyPost_ret (res30 _ _ _ _ rfl q3) rfl ⟨_, rfl, q1, q2⟩
set_option maxHeartbeats 400000 in
theorem rclear_any (l : List (Int × Int)) (A : Option Addr) (c : Nat) (b : Int) (w : World) (hl : l.length ≤ 100000) (hlc : l.length ≤ c) (hcm : c ≤ maxLen) (Hst : Hid (SlT w w.heap.size 59 A (entCells l))) :
    Calls Tryd.prog 35 #[.agg #[.slice A l.length c], .int .i64 b] w (RPost w (clrL l b)) := by
  have Hsl := Lib.hid Hst.out.sl
  unfold maxLen at hcm
  have hb0 : Below w.heap.size w ((w.alloc (.cells #[.slice A l.length c] 35)).alloc (.cells #[.slice none 0 0] 35)) := ((Below.refl _ _).alloc (Nat.le_refl _) _).alloc (by simp) _
  have hbx := Hsl.out.below hb0
  go_enter Tryd.func35, Tryd.ntmps35
  go_wp2_with fail
  refine (find_any l A c b _ hl (hbx.more (by simp; omega))).mono ?_
  rintro e w1 ⟨rfl, hb1⟩
  obtain ⟨r0, r1⟩ := two_rows hb1
  have hb2 : Below w.heap.size w w1 := hb0.trans (hb1.mono (by simp; omega))
  have hsz : w.heap.size + 1 + 1 ≤ w1.heap.size := by have := hb1.size; simpa using this
  have B0 : Hid (Bld w w1 (.slice A l.length c) (.slice none 0 0) 0 []) := ⟨hb2, hsz, r0, r1, World.ownsRow_nil _ _ _ _⟩
  have hfl := findI_le l b
  obtain ⟨c00, f00⟩ := one_cell r0
  clear hb1 hb2 hb0 hbx r0 r1 f00
  have hml : l.length + 1 ≤ maxLen := by unfold maxLen; omega
  have tok1 : True := trivial
  cases hf : foundB l b with
  | false =>
    have hset : clrL l b = l := by unfold clrL; rw [hf]; rfl
    have Hset := Lib.hid hset
    clear hf hset tok1
    obtain ⟨d10, e10⟩ := one_cell B0.out.r1
    go_wp2_with fail
    refine bodyPost_ret (res35 _ _ _ _ rfl (set_one B0.out.r1 _)) rfl ⟨_, rfl, ?_, ?_⟩
    · rw [Hset.out]
      exact RefAt.setCell ⟨A, c, rfl, Hst.out.below B0.out.below B0.out.below.size, hlc, by unfold maxLen; omega⟩ (p := ⟨w.heap.size + 1, 0, none⟩) B0.out.r1 (by decide) _
    · exact B0.out.below.setCell (p := ⟨w.heap.size + 1, 0, none⟩) (by simp) _
  | true =>
    have hlt := found_lt hf
    have hset : clrL l b = l.take (findI l b) ++ l.drop (findI l b + 1) := by unfold clrL; rw [hf]; rfl
    have Hset := Lib.hid hset
    clear hf hset
    obtain ⟨i, hi⟩ : ∃ i, i = findI l b := ⟨_, rfl⟩
    rw [← hi] at hfl hlt Hset ⊢
    clear hi
    go_wp2_with (first
      | (at_builtin; have _t := tok1; refine wpList_append_sl rfl _ _ 33 rfl rfl rfl so33 B0.out.own (entCells_take_len l i hfl) ((Hsl.out.below B0.out.below).take (i * 2)) (fun u hu => ent_one u (List.mem_of_mem_take hu)) (by omega) (by omega) B0.out.size ?_; intro A1 c1 w2 ho1 hg1; simp only [Nat.zero_add, List.nil_append] at ho1; have B1 := Lib.hid (B0.out.step hg1 ho1); obtain ⟨d00, _⟩ := one_cell B1.out.r0; clear tok1 _t ho1 hg1 c00)
      | (at_builtin; refine wpList_append_sl rfl _ _ 33 rfl rfl rfl so33 B1.out.own (entCells_drop_len l (i + 1)) ((Hsl.out.below B1.out.below).drop (k := i + 1) (by omega) hlc 2 (entCells_len l)) (fun u hu => ent_one u (List.mem_of_mem_drop hu)) (by omega) (by omega) B1.out.size ?_; intro A3 c3 w4 ho3 hg3; have B3 := Lib.hid (B1.out.step hg3 ho3); obtain ⟨d10, e10⟩ := one_cell B3.out.r1; clear ho3 hg3))
    all_goals
      obtain ⟨q1, q2, q3⟩ := B3.out.result (l' := clrL l b) (by rw [Hset.out, entCells_take, entCells_drop, entCells_append])
      exact bodyPost_ret (res35 _ _ _ _ rfl q3) rfl ⟨_, rfl, q1, q2⟩

theorem rset_any (l : List (Int × Int)) (v : Value) (b x : Int) (w : World) (hl : l.length ≤ 100000) (h : RefAt w v l) : Calls Tryd.prog 30 #[v, .int .i64 b, .int .i64 x] w (RPost w (setL l b x)) := by
  obtain ⟨A, c, rfl, hs, h1, h2⟩ := h.ex
  by_cases hb : inB b = true
  · have e : setL l b x = setIn l b x := by unfold setL; rw [if_pos hb]
    rw [e]
    simp only [inB, Bool.and_eq_true, decide_eq_true_eq] at hb
    exact rset_in l A c b x w hl h1 h2 hs.sl hb.1 hb.2
  · have e : setL l b x = l := by unfold setL; rw [if_neg hb]
    rw [e]
    refine (rset_out l A c b x w ?_).mono fun e w' ⟨he, hw⟩ => ⟨_, he, h.below hw, hw⟩
    simp only [inB, Bool.and_eq_true, decide_eq_true_eq] at hb
    omega

theorem rclr_any (l : List (Int × Int)) (v : Value) (b : Int) (w : World) (hl : l.length ≤ 100000) (h : RefAt w v l) : Calls Tryd.prog 35 #[v, .int .i64 b] w (RPost w (clrL l b)) := by
  obtain ⟨A, c, rfl, hs, h1, h2⟩ := h.ex
  exact rclear_any l A c b w hl h1 h2 hs
end Go.Proofs.YtognbkmamhgkeaaDoor
