/-
  The walks of item's closures: a name, a number.
-/
import Derived.Test.YtimmffncfkcpfaaGreatDoorW5
import Derived.Deep.QuietTactic
import Derived.Deep.RegionLaw
import Derived.Deep.RegionHeld3
import Derived.Deep.RegionHeldLaw
namespace Go.Proofs.YtimmffncfkcpfaaGreatDoor
open Go Go.RowKit Go.Walks

def fieldCs (f : Field) : List Value := [strV f.1, strV f.2.text, .int .i64 (f.2.at_ : Int)]
def fieldCells (fs : List Field) : List Value := fs.flatMap fieldCs
theorem fieldCells_snoc (fs : List Field) (f : Field) : fieldCells (fs ++ [f]) = fieldCells fs ++ fieldCs f := by simp [fieldCells]
theorem fieldCells_len (fs : List Field) : (fieldCells fs).length = fs.length * 3 := by
  induction fs with
  | nil => rfl
  | cons f fs ih =>
    have : fieldCells (f :: fs) = fieldCs f ++ fieldCells fs := rfl
    rw [this, List.length_append, ih]
    simp [fieldCs]; omega
theorem own_setCell {w : World} {B n size g : Nat} {e t' : TypeId} {v : Value} {xs : List Value} {cs : Array Value} {fz : Nat × Nat} (h : w.ownsRow B e size v n xs) (hr : w.heap[g]? = some (.cells cs t' fz)) (ht : t' ≠ e) (o : Nat) (u : Value) : (w.setCell ⟨g, o, none⟩ u).ownsRow B e size v n xs :=
  own_rb h ((RB.refl g w).setCell o u) hr ht
theorem so78 : SliceOf Tryz.prog 60 65 3 40 := SliceOf.mk (z := .agg #[.string ⟨#[]⟩, .string ⟨#[]⟩, .int .i64 0]) Tryz.underlying60 (by omega) (by kernel_rfl) rfl
/-- While an item is read. -/
structure IS (w : World) (r : Nat) (t : ByteArray) (gx gp gz : Nat) (tn : Bool) (A : Option Addr) (n c : Nat) (fs : List Field) (ts : List Tok) (W : World) : Prop where
  at_ : PS W r t ts
  rb : RB r w W
  lt : r < w.heap.size
  lx : w.heap.size ≤ gx
  lp : w.heap.size ≤ gp
  lz : w.heap.size ≤ gz
  nz : gz ≠ gx
  x : W.heap[gx]? = some (.cells #[.bool tn, .slice A n c] 62)
  p : W.heap[gp]? = some (.cells #[.pointer (some ⟨r, 0, none⟩)] 52)
  z : W.heap[gz]? = some (.cells #[.bool false, .slice none 0 0] 62)
  own : W.ownsRow w.heap.size 65 3 (.slice A n c) n (fieldCells fs)
  len : n = fs.length
def IRes (w : World) (r : Nat) (t : ByteArray) (gx gp gz : Nat) (tn : Bool) (fs : List Field) (x : PR Field) (_ : World) (e : Ending) (w' : World) : Prop := match x with
  | .ok f ts => e = .returned (.tuple #[]) ∧ ∃ A n c, IS w r t gx gp gz tn A n c (fs ++ [f]) ts w'
  | .bad p => e = wrongE p 3 ∧ RB r w w'
section
variable {w W W' : World} {r gx gp gz n c : Nat} {t : ByteArray} {tn : Bool} {A : Option Addr} {fs : List Field} {ts ts' : List Tok}
theorem PS.cells (h : PS w r t ts) : ∃ cs : Array Value, w.heap[r]? = some (.cells cs 56) := by obtain ⟨_, _, _, h⟩ := h; exact ⟨_, h⟩
theorem IS.call (h : IS w r t gx gp gz tn A n c fs ts W) (hb : RB r W W') (hp : PS W' r t ts') : IS w r t gx gp gz tn A n c fs ts' W' := by
  obtain ⟨cs, hcs⟩ := h.at_.cells
  have := h.lt; have := h.lx; have := h.lp; have := h.lz
  exact ⟨hp, h.rb.trans hb, h.lt, h.lx, h.lp, h.lz, h.nz, hb.row (by omega) h.x, hb.row (by omega) h.p, hb.row (by omega) h.z, own_rb h.own hb hcs (by decide), h.len⟩
theorem IS.below (h : IS w r t gx gp gz tn A n c fs ts W) (hb : Below W.heap.size W W') : IS w r t gx gp gz tn A n c fs ts W' := h.call (RB.of_below hb) (h.at_.below hb)
theorem IS.own' (h : IS w r t gx gp gz tn A n c fs ts W) (o : Obj) : (W.alloc o).ownsRow w.heap.size 65 3 (.slice A n c) n (fieldCells fs) := (h.below ((Below.refl _ _).alloc (Nat.le_refl _) o)).own
theorem IS.le (h : IS w r t gx gp gz tn A n c fs ts W) (o : Obj) : w.heap.size ≤ (W.alloc o).heap.size := Nat.le_trans h.rb.size (by simp)
theorem IS.cella (h : IS w r t gx gp gz tn A n c fs ts W) : ∀ o : Obj, (W.alloc o).cell? ⟨gx, 1, none⟩ = some (.slice A n c) := fun o => (cell_at (h.below ((Below.refl _ _).alloc (Nat.le_refl _) o)).x 1 rfl).1
theorem IS.cellp (h : IS w r t gx gp gz tn A n c fs ts W) : ∀ o : Obj, (W.alloc o).cell? ⟨gp, 0, none⟩ = some (.pointer (some ⟨r, 0, none⟩)) := fun o => (cell_at (h.below ((Below.refl _ _).alloc (Nat.le_refl _) o)).p 0 rfl).1
theorem one3 (f : Field) : ∀ u, u ∈ fieldCs f → u.oneCell' = true := by
  intro u hu
  simp [fieldCs] at hu
  rcases hu with rfl | rfl | rfl <;> rfl
theorem IS.grown (h : IS w r t gx gp gz tn A n c fs ts W) {o : Obj} (hg : (W.alloc o).grownBy W' (Value.slice A n c).ownBlock) :
    (W'.cell? ⟨gx, 0, none⟩ = some (.bool tn) ∧ W'.frozen? ⟨gx, 0, none⟩ = false) ∧ W'.cell? ⟨gx, 1, none⟩ = some (.slice A n c) ∧ W'.frozen? ⟨gx, 1, none⟩ = false := by
  have hx := (row_grownOwn h.own hg h.x (by decide)).trans h.x
  exact ⟨cell_at hx 0 rfl, cell_at hx 1 rfl⟩
theorem IS.grownp (h : IS w r t gx gp gz tn A n c fs ts W) {o : Obj} (hg : (W.alloc o).grownBy W' (Value.slice A n c).ownBlock) :
    W'.cell? ⟨gp, 0, none⟩ = some (.pointer (some ⟨r, 0, none⟩)) ∧ ∀ v, (W'.setCell ⟨gx, 1, none⟩ v).cell? ⟨gp, 0, none⟩ = some (.pointer (some ⟨r, 0, none⟩)) := by
  have hx := (row_grownOwn h.own hg h.x (by decide)).trans h.x
  have hp := (row_grownOwn h.own hg h.p (by decide)).trans h.p
  have hne : gp ≠ gx := cells_other hp hx (by decide)
  exact ⟨(cell_at hp 0 rfl).1, fun v => (cell_at ((Below.heap_setCell _ _ _ _ hne).trans hp) 0 rfl).1⟩
theorem keep_append {w4 w5 : World} {B n size : Nat} {e ty : TypeId} {v : Value} {xs : List Value} {o : Obj} (hne : e ≠ ty) (ho : w4.ownsRow B e size v n xs) (hg : (w4.alloc o).grownBy w5 v.ownBlock) : KeepT ty w4 w5 := by
  refine (KeepT.alloc w4 o).trans (KeepT.grown hg (fun k ek => ?_))
  rcases ho.2 with ⟨rfl, _⟩ | ⟨g', cap, cur, rfl, hle, hh, _⟩
  · simp [Value.ownBlock] at ek
  · have : g' = k := by simpa [Value.ownBlock] using ek
    subst this
    exact ⟨cur, e, (0, 0), (Below.heap_alloc _ _ _ (Array.getElem?_eq_some_iff.1 hh).1).trans hh, hne⟩
/-- Behind the append and its store. -/
theorem IS.step (h : IS w r t gx gp gz tn A n c fs ts W) {f : Field} {A' : Option Addr} {c' : Nat} {o : Obj} (ho : W'.ownsRow w.heap.size 65 3 (.slice A' (n + 1) c') (n + 1) (fieldCells fs ++ fieldCs f)) (hg : (W.alloc o).grownBy W' (Value.slice A n c).ownBlock) :
    IS w r t gx gp gz tn A' (n + 1) c' (fs ++ [f]) ts (W'.setCell ⟨gx, 1, none⟩ (.slice A' (n + 1) c')) := by
  obtain ⟨cs, hcs⟩ := h.at_.cells
  have hx := (row_grownOwn h.own hg h.x (by decide)).trans h.x
  have hp := (row_grownOwn h.own hg h.p (by decide)).trans h.p
  have hz := (row_grownOwn h.own hg h.z (by decide)).trans h.z
  have hr := row_grownOwn h.own hg hcs (by decide)
  have hps : PS W' r t ts := h.at_.row hr
  have hne : gp ≠ gx := cells_other hp hx (by decide)
  have := h.lt; have := h.lx
  refine ⟨hps.setNew (by omega), (rb_grownOwn h.rb h.own hg).setNew (by omega) _ _, h.lt, h.lx, h.lp, h.lz, h.nz, set_at hx 1 _, (Below.heap_setCell _ _ _ _ hne).trans hp, (Below.heap_setCell _ _ _ _ h.nz).trans hz, ?_, by rw [List.length_append, h.len]; rfl⟩
  rw [fieldCells_snoc]
  exact own_setCell ho hx (by decide) _ _
theorem IS.gl (h : IS w r t gx gp gz tn A n c fs ts W) (hg : Gl w) (hr : 7 ≤ r) : Gl W := hg.rb h.rb hr
end

set_option maxRecDepth 100000 in
set_option maxHeartbeats 4000000 in
theorem name_T (t : ByteArray) (r gx gp gz n c : Nat) (tn : Bool) (A : Option Addr) (fs : List Field) (w W : World) (ts : List Tok) (word : Bytes) (ht : t.size ≤ 2000) (hr7 : 7 ≤ r) (hfs : fs.length ≤ 100) (Hg : Hid (Gl w)) (Hp : Hid (IS w r t gx gp gz tn A n c fs ts W)) :
    Calls Tryz.prog 49 #[.string ⟨word.toArray⟩, .pointer (some ⟨gx, 0, none⟩), .pointer (some ⟨gp, 0, none⟩)] W (IRes w r t gx gp gz tn fs (nameF word ts) W) := by
  obtain ⟨T, rest, hts, hps, hle, -⟩ := Hp.out.at_.head
  obtain ⟨c1, f1⟩ := cell_at hps 1 (u := .string ⟨T.text.toArray⟩) rfl
  obtain ⟨x1, g1⟩ := cell_at Hp.out.x 1 (u := .slice A n c) rfl
  obtain ⟨p1, -⟩ := cell_at Hp.out.p 0 (u := .pointer (some ⟨r, 0, none⟩)) rfl
  have hhd : headTx ts = T.text := by rw [hts]; rfl
  have hlen : T.text.length ≤ 140737488355328 := by omega
  have HD := Lib.hid (Hp.out.below ((Below.refl _ _).drew))
  have H42 := Lib.hid (isWord_any T.text W.drew hlen)
  have H58 : Hid (∀ W', Below W.drew.heap.size W.drew W' → Calls Tryz.prog 50 #[.pointer (some ⟨r, 0, none⟩), .bool (wordB T.text)] W' (PRes t r (takeT wordB ts) TokIs W')) := fun W' hb => by
    have hI := HD.out.below hb
    have := take_T t r W' ts wordB rfl ht hr7 (hI.gl Hg.out hr7) hI.at_
    rw [hhd] at this
    exact this
  have Hps := Lib.hid hps
  clear hts hps hle hhd
  cases hx : takeT wordB ts with
  | bad p =>
    have Hx : Hid (nameF word ts = .bad p) := by show _ = _; unfold nameF; rw [hx]; rfl
    rw [hx] at H58
    clear hx
    go_enter Tryz.func49, Tryz.ntmps49
    go_wp2_with fail
    refine wp_region_held_drew (S := fun w' => (w'.cell? ⟨gx, 1, none⟩ = some (.slice A n c) ∧ w'.cell? ⟨gp, 0, none⟩ = some (.pointer (some ⟨r, 0, none⟩))) ∧ w'.cell? ⟨r, 1, none⟩ = some (.string ⟨T.text.toArray⟩)) (by kernel_rfl) ⟨⟨x1, p1⟩, c1⟩ (fun hHeld => ?_)
    refine wpAnyH_take (i := 0) (v := ?_) rfl (by kernel_rfl) (by kernel_rfl) (by kernel_rfl) (fun _ _ _ h => h) (Or.inl ⟨by rfl, ?_⟩) hHeld ?_
    rotate_left
    · intro w hSw; (try dsimp only at hSw); go_simp
      with_reducible rfl
    refine wpAnyH_take (i := 1) (v := ?_) rfl (by kernel_rfl) (by kernel_rfl) (by kernel_rfl) (fun _ _ _ h => h) (Or.inl ⟨by rfl, ?_⟩) hHeld ?_
    rotate_left
    · intro w hSw; (try dsimp only at hSw); go_simp
      with_reducible rfl
    refine wpAnyH_take (i := 2) (v := ?_) rfl (by kernel_rfl) (by kernel_rfl) (by kernel_rfl) (fun _ _ _ h => h) (Or.inl ⟨by rfl, ?_⟩) hHeld ?_
    rotate_left
    · intro w hSw; (try dsimp only at hSw); go_simp
      with_reducible rfl
    refine wpAnyH_take (i := 3) (v := ?_) rfl (by kernel_rfl) (by kernel_rfl) (by kernel_rfl) (fun _ _ _ h => h) (Or.inl ⟨by rfl, ?_⟩) hHeld ?_
    rotate_left
    · intro w hSw; (try dsimp only at hSw); go_simp
      with_reducible rfl
    refine wpAnyH_take (i := 4) (v := ?_) rfl (by kernel_rfl) (by kernel_rfl) (by kernel_rfl) (fun _ _ _ h => h) (Or.inl ⟨by rfl, ?_⟩) hHeld ?_
    rotate_left
    · intro w hSw; (try dsimp only at hSw); go_simp
      with_reducible rfl
    refine wpAnyH_take (i := 5) (v := ?_) rfl (by kernel_rfl) (by kernel_rfl) (by kernel_rfl) (fun _ _ _ h => h) (Or.inl ⟨by rfl, ?_⟩) hHeld ?_
    rotate_left
    · intro w hSw; (try dsimp only at hSw); go_simp
      with_reducible rfl
    refine wpAnyH_take (i := 6) (v := ?_) rfl (by kernel_rfl) (by kernel_rfl) (by kernel_rfl) (fun _ _ _ h => h) (Or.inl ⟨by rfl, ?_⟩) hHeld ?_
    rotate_left
    · intro w hSw; (try dsimp only at hSw); go_simp
      with_reducible rfl
    refine wpAnyH_take (i := 7) (v := ?_) rfl (by kernel_rfl) (by kernel_rfl) (by kernel_rfl) (fun _ _ _ h => h) (Or.inl ⟨by rfl, ?_⟩) hHeld ?_
    rotate_left
    · intro w hSw; (try dsimp only at hSw); go_simp
      with_reducible rfl
    refine wpAnyH_take (i := 8) (v := ?_) rfl (by kernel_rfl) (by kernel_rfl) (by kernel_rfl) (fun _ _ _ h => h) (Or.inl ⟨by rfl, ?_⟩) hHeld ?_
    rotate_left
    · intro w hSw; (try dsimp only at hSw); go_simp
      with_reducible rfl
    refine wpAnyH_ready (rs := [9]) (by kernel_rfl) (by simp) ?_
    refine AllReadyH.cons rfl (fun K hK => ?_) AllReadyH.nil
    go_simp
    go_at_call 47
    refine H42.out.mono ?_
    rintro e w1 ⟨rfl, hb1'⟩
    have HB1 := Lib.hid hb1'
    have HP1 := Lib.hid (HD.out.below hb1')
    obtain ⟨y1, k1⟩ := cell_at HP1.out.x 1 (u := .slice A n c) rfl
    obtain ⟨q1, -⟩ := cell_at HP1.out.p 0 (u := .pointer (some ⟨r, 0, none⟩)) rfl
    obtain ⟨d1, -⟩ := cell_at (below_cells (show W.drew.heap[r]? = _ from Hps.out) hb1') 1 (u := .string ⟨T.text.toArray⟩) rfl
    clear hb1'
    dsimp only
    refine hK.out _ _ ⟨⟨y1, q1⟩, d1⟩ (fun hHeld => ?_)
    refine wpAnyH_ready (rs := [10]) (by kernel_rfl) (by simp) ?_
    refine AllReadyH.cons rfl (fun K hK => ?_) AllReadyH.nil
    go_simp
    go_at_call 50
    refine (H58.out _ HB1.out).mono ?_
    rintro e w2 ⟨rfl, hb2'⟩
    have HB2 := Lib.hid hb2'
    clear hb2'
    unfold wrongE
    dsimp only
    refine ⟨rfl, ?_⟩
    show IRes w r t gx gp gz tn fs (nameF word ts) W _ _
    rw [Hx.out]
    exact ⟨rfl, (HD.out.rb.trans (RB.of_below HB1.out)).trans HB2.out⟩
  | ok T' a =>
    have Hx : Hid (nameF word ts = .ok (word, T') a) := by show _ = _; unfold nameF; rw [hx]; rfl
    rw [hx] at H58
    clear hx
    have hb1 : n + 1 ≤ maxLen := by have := Hp.out.len; unfold maxLen; omega
    have hb2 : (n + 1) * 40 ≤ 140737488355328 := by have := Hp.out.len; omega
    go_enter Tryz.func49, Tryz.ntmps49
    go_wp2_with fail
    refine wp_region_held_drew (S := fun w' => w'.cell? ⟨gp, 0, none⟩ = some (.pointer (some ⟨r, 0, none⟩))) (by kernel_rfl) p1 (fun hHeld => ?_)
    refine wpAnyH_take (i := 0) (v := ?_) rfl (by kernel_rfl) (by kernel_rfl) (by kernel_rfl) (fun _ _ _ h => h) (Or.inl ⟨by rfl, ?_⟩) hHeld ?_
    rotate_left
    · intro w hSw; (try dsimp only at hSw); go_simp
      with_reducible rfl
    refine wpAnyH_take (i := 2) (v := ?_) rfl (by kernel_rfl) (by kernel_rfl) (by kernel_rfl) (fun _ _ _ h => h) (Or.inl ⟨by rfl, ?_⟩) hHeld ?_
    rotate_left
    · intro w hSw; (try dsimp only at hSw); go_simp
      with_reducible rfl
    refine wpAnyH_take (i := 3) (v := ?_) rfl (by kernel_rfl) (by kernel_rfl) (by kernel_rfl) (fun _ _ _ h => h) (Or.inl ⟨by rfl, ?_⟩) hHeld ?_
    rotate_left
    · intro w hSw; (try dsimp only at hSw); go_simp
      with_reducible rfl
    refine wpAnyH_take (i := 4) (v := ?_) rfl (by kernel_rfl) (by kernel_rfl) (by kernel_rfl) (fun _ _ _ h => h) (Or.inl ⟨by rfl, ?_⟩) hHeld ?_
    rotate_left
    · intro w hSw; (try dsimp only at hSw); go_simp
      with_reducible rfl
    refine wpAnyH_take (i := 5) (v := ?_) rfl (by kernel_rfl) (by kernel_rfl) (by kernel_rfl) (fun _ _ _ h => h) (Or.inl ⟨by rfl, ?_⟩) hHeld ?_
    rotate_left
    · intro w hSw; (try dsimp only at hSw); go_simp
      with_reducible rfl
    refine wpAnyH_take (i := 6) (v := ?_) rfl (by kernel_rfl) (by kernel_rfl) (by kernel_rfl) (fun _ _ _ h => h) (Or.inl ⟨by rfl, ?_⟩) hHeld ?_
    rotate_left
    · intro w hSw; (try dsimp only at hSw); go_simp
      with_reducible rfl
    refine wpAnyH_take (i := 7) (v := ?_) rfl (by kernel_rfl) (by kernel_rfl) (by kernel_rfl) (fun _ _ _ h => h) (Or.inl ⟨by rfl, ?_⟩) hHeld ?_
    rotate_left
    · intro w hSw; (try dsimp only at hSw); go_simp
      with_reducible rfl
    refine wpAnyH_ready (rs := [1, 8]) (by kernel_rfl) (by simp) ?_
    refine AllReadyH.cons rfl (fun K hK => ?_) (AllReadyH.cons rfl (fun K hK => ?_) AllReadyH.nil)
    · go_simp
      refine hK.out _ _ ?_ (fun hHeld => ?_)
      · first | exact p1 | exact q1 | exact r1 | exact r2 _ | exact r3 | exact r4 _
      refine wpAnyH_ready (rs := [8]) (by kernel_rfl) (by simp) ?_
      refine AllReadyH.cons rfl (fun K hK => ?_) AllReadyH.nil
      go_simp
      refine hK.out _ _ ?_ (fun hHeld => ?_)
      · first | exact p1 | exact q1 | exact r1 | exact r2 _ | exact r3 | exact r4 _
      refine wpAnyH_ready (rs := [9]) (by kernel_rfl) (by simp) ?_
      refine AllReadyH.cons rfl (fun K hK => ?_) AllReadyH.nil
      go_simp
      go_at_call 47
      refine H42.out.mono ?_
      rintro e w1 ⟨rfl, hb1'⟩
      have HB1 := Lib.hid hb1'
      have HP1 := Lib.hid (HD.out.below hb1')
      obtain ⟨y1, k1⟩ := cell_at HP1.out.x 1 (u := .slice A n c) rfl
      obtain ⟨q1, -⟩ := cell_at HP1.out.p 0 (u := .pointer (some ⟨r, 0, none⟩)) rfl
      clear hb1'
      dsimp only
      refine hK.out _ _ ?_ (fun hHeld => ?_)
      · first | exact p1 | exact q1 | exact r1 | exact r2 _ | exact r3 | exact r4 _
      refine wpAnyH_ready (rs := [10]) (by kernel_rfl) (by simp) ?_
      refine AllReadyH.cons rfl (fun K hK => ?_) AllReadyH.nil
      go_simp
      go_at_call 50
      refine (H58.out _ HB1.out).mono ?_
      rintro e w2 ⟨hv, hp2, hb2'⟩
      unfold TokIs at hv
      subst hv
      have HB2 := Lib.hid hb2'
      have HP2 := Lib.hid (HP1.out.call hb2' hp2)
      obtain ⟨z1, l1⟩ := cell_at HP2.out.x 1 (u := .slice A n c) rfl
      have z2 := HP2.out.cella
      obtain ⟨r1, -⟩ := cell_at HP2.out.p 0 (u := .pointer (some ⟨r, 0, none⟩)) rfl
      have r2 := HP2.out.cellp
      clear hp2 hb2'
      dsimp only
      refine hK.out _ _ ?_ (fun hHeld => ?_)
      · first | exact p1 | exact q1 | exact r1 | exact r2 _ | exact r3 | exact r4 _
      refine wpAnyH_take (i := 11) (v := ?_) rfl (by kernel_rfl) (by kernel_rfl) (by kernel_rfl) (fun _ _ _ h => h) (Or.inl ⟨by rfl, ?_⟩) hHeld ?_
      rotate_left
      · intro w hSw; (try dsimp only at hSw); go_simp
        with_reducible rfl
      refine wpAnyH_ready (rs := [12]) (by kernel_rfl) (by simp) ?_
      refine AllReadyH.cons rfl (fun K hK => ?_) AllReadyH.nil
      go_simp
      refine hK.out _ _ ?_ (fun hHeld => ?_)
      · first | exact p1 | exact q1 | exact r1 | exact r2 _ | exact r3 | exact r4 _
      refine wpAnyH_ready (rs := [13]) (by kernel_rfl) (by simp) ?_
      refine AllReadyH.cons rfl (fun K hK => ?_) AllReadyH.nil
      refine step_append_sl rfl _ _ 60 rfl rfl rfl so78 (HP2.out.own' _) (m := 1) (news := fieldCs (word, T')) rfl (Sl.new _ _ _) (one3 _) hb1 hb2 (HP2.out.le _) ?_
      intro A5 c5 w7 ho5 hg5
      have HO5 := Lib.hid ho5
      have HG5 := Lib.hid hg5
      obtain ⟨⟨x5, l5⟩, x6, l6⟩ := HP2.out.grown hg5
      obtain ⟨r3, r4⟩ := HP2.out.grownp hg5
      clear ho5 hg5
      refine hK.out _ _ ?_ (fun hHeld => ?_)
      · first | exact p1 | exact q1 | exact r1 | exact r2 _ | exact r3 | exact r4 _
      refine wpAnyH_take (i := 14) (v := ?_) rfl (by kernel_rfl) (by kernel_rfl) (by kernel_rfl) (fun _ _ _ h => h) (Or.inl ⟨by rfl, ?_⟩) hHeld ?_
      rotate_left
      · intro w hSw; (try dsimp only at hSw); go_simp
        with_reducible rfl
      refine wpAnyH_ready (rs := [15]) (by kernel_rfl) (by simp) ?_
      refine AllReadyH.cons rfl (fun K hK => ?_) AllReadyH.nil
      go_simp
      refine hK.out _ _ ?_ (fun hHeld => ?_)
      · first | exact p1 | exact q1 | exact r1 | exact r2 _ | exact r3 | exact r4 _
      refine wpAnyH_done (by kernel_rfl) ?_ _
      go_end0
      show IRes w r t gx gp gz tn fs (nameF word ts) W _ _
      rw [Hx.out]
      exact ⟨rfl, _, _, _, HP2.out.step HO5.out HG5.out⟩
    · go_simp
      refine hK.out _ _ ?_ (fun hHeld => ?_)
      · first | exact p1 | exact q1 | exact r1 | exact r2 _ | exact r3 | exact r4 _
      refine wpAnyH_ready (rs := [1, 9]) (by kernel_rfl) (by simp) ?_
      refine AllReadyH.cons rfl (fun K hK => ?_) (AllReadyH.cons rfl (fun K hK => ?_) AllReadyH.nil)
      · go_simp
        refine hK.out _ _ ?_ (fun hHeld => ?_)
        · first | exact p1 | exact q1 | exact r1 | exact r2 _ | exact r3 | exact r4 _
        refine wpAnyH_ready (rs := [9]) (by kernel_rfl) (by simp) ?_
        refine AllReadyH.cons rfl (fun K hK => ?_) AllReadyH.nil
        go_simp
        go_at_call 47
        refine H42.out.mono ?_
        rintro e w1 ⟨rfl, hb1'⟩
        have HB1 := Lib.hid hb1'
        have HP1 := Lib.hid (HD.out.below hb1')
        obtain ⟨y1, k1⟩ := cell_at HP1.out.x 1 (u := .slice A n c) rfl
        obtain ⟨q1, -⟩ := cell_at HP1.out.p 0 (u := .pointer (some ⟨r, 0, none⟩)) rfl
        clear hb1'
        dsimp only
        refine hK.out _ _ ?_ (fun hHeld => ?_)
        · first | exact p1 | exact q1 | exact r1 | exact r2 _ | exact r3 | exact r4 _
        refine wpAnyH_ready (rs := [10]) (by kernel_rfl) (by simp) ?_
        refine AllReadyH.cons rfl (fun K hK => ?_) AllReadyH.nil
        go_simp
        go_at_call 50
        refine (H58.out _ HB1.out).mono ?_
        rintro e w2 ⟨hv, hp2, hb2'⟩
        unfold TokIs at hv
        subst hv
        have HB2 := Lib.hid hb2'
        have HP2 := Lib.hid (HP1.out.call hb2' hp2)
        obtain ⟨z1, l1⟩ := cell_at HP2.out.x 1 (u := .slice A n c) rfl
        have z2 := HP2.out.cella
        obtain ⟨r1, -⟩ := cell_at HP2.out.p 0 (u := .pointer (some ⟨r, 0, none⟩)) rfl
        have r2 := HP2.out.cellp
        clear hp2 hb2'
        dsimp only
        refine hK.out _ _ ?_ (fun hHeld => ?_)
        · first | exact p1 | exact q1 | exact r1 | exact r2 _ | exact r3 | exact r4 _
        refine wpAnyH_take (i := 11) (v := ?_) rfl (by kernel_rfl) (by kernel_rfl) (by kernel_rfl) (fun _ _ _ h => h) (Or.inl ⟨by rfl, ?_⟩) hHeld ?_
        rotate_left
        · intro w hSw; (try dsimp only at hSw); go_simp
          with_reducible rfl
        refine wpAnyH_ready (rs := [12]) (by kernel_rfl) (by simp) ?_
        refine AllReadyH.cons rfl (fun K hK => ?_) AllReadyH.nil
        go_simp
        refine hK.out _ _ ?_ (fun hHeld => ?_)
        · first | exact p1 | exact q1 | exact r1 | exact r2 _ | exact r3 | exact r4 _
        refine wpAnyH_ready (rs := [13]) (by kernel_rfl) (by simp) ?_
        refine AllReadyH.cons rfl (fun K hK => ?_) AllReadyH.nil
        refine step_append_sl rfl _ _ 60 rfl rfl rfl so78 (HP2.out.own' _) (m := 1) (news := fieldCs (word, T')) rfl (Sl.new _ _ _) (one3 _) hb1 hb2 (HP2.out.le _) ?_
        intro A5 c5 w7 ho5 hg5
        have HO5 := Lib.hid ho5
        have HG5 := Lib.hid hg5
        obtain ⟨⟨x5, l5⟩, x6, l6⟩ := HP2.out.grown hg5
        obtain ⟨r3, r4⟩ := HP2.out.grownp hg5
        clear ho5 hg5
        refine hK.out _ _ ?_ (fun hHeld => ?_)
        · first | exact p1 | exact q1 | exact r1 | exact r2 _ | exact r3 | exact r4 _
        refine wpAnyH_take (i := 14) (v := ?_) rfl (by kernel_rfl) (by kernel_rfl) (by kernel_rfl) (fun _ _ _ h => h) (Or.inl ⟨by rfl, ?_⟩) hHeld ?_
        rotate_left
        · intro w hSw; (try dsimp only at hSw); go_simp
          with_reducible rfl
        refine wpAnyH_ready (rs := [15]) (by kernel_rfl) (by simp) ?_
        refine AllReadyH.cons rfl (fun K hK => ?_) AllReadyH.nil
        go_simp
        refine hK.out _ _ ?_ (fun hHeld => ?_)
        · first | exact p1 | exact q1 | exact r1 | exact r2 _ | exact r3 | exact r4 _
        refine wpAnyH_done (by kernel_rfl) ?_ _
        go_end0
        show IRes w r t gx gp gz tn fs (nameF word ts) W _ _
        rw [Hx.out]
        exact ⟨rfl, _, _, _, HP2.out.step HO5.out HG5.out⟩
      · go_simp
        go_at_call 47
        refine H42.out.mono ?_
        rintro e w1 ⟨rfl, hb1'⟩
        have HB1 := Lib.hid hb1'
        have HP1 := Lib.hid (HD.out.below hb1')
        obtain ⟨y1, k1⟩ := cell_at HP1.out.x 1 (u := .slice A n c) rfl
        obtain ⟨q1, -⟩ := cell_at HP1.out.p 0 (u := .pointer (some ⟨r, 0, none⟩)) rfl
        clear hb1'
        dsimp only
        refine hK.out _ _ ?_ (fun hHeld => ?_)
        · first | exact p1 | exact q1 | exact r1 | exact r2 _ | exact r3 | exact r4 _
        refine wpAnyH_ready (rs := [1, 10]) (by kernel_rfl) (by simp) ?_
        refine AllReadyH.cons rfl (fun K hK => ?_) (AllReadyH.cons rfl (fun K hK => ?_) AllReadyH.nil)
        · go_simp
          refine hK.out _ _ ?_ (fun hHeld => ?_)
          · first | exact p1 | exact q1 | exact r1 | exact r2 _ | exact r3 | exact r4 _
          refine wpAnyH_ready (rs := [10]) (by kernel_rfl) (by simp) ?_
          refine AllReadyH.cons rfl (fun K hK => ?_) AllReadyH.nil
          go_simp
          go_at_call 50
          refine (H58.out _ HB1.out).mono ?_
          rintro e w2 ⟨hv, hp2, hb2'⟩
          unfold TokIs at hv
          subst hv
          have HB2 := Lib.hid hb2'
          have HP2 := Lib.hid (HP1.out.call hb2' hp2)
          obtain ⟨z1, l1⟩ := cell_at HP2.out.x 1 (u := .slice A n c) rfl
          have z2 := HP2.out.cella
          obtain ⟨r1, -⟩ := cell_at HP2.out.p 0 (u := .pointer (some ⟨r, 0, none⟩)) rfl
          have r2 := HP2.out.cellp
          clear hp2 hb2'
          dsimp only
          refine hK.out _ _ ?_ (fun hHeld => ?_)
          · first | exact p1 | exact q1 | exact r1 | exact r2 _ | exact r3 | exact r4 _
          refine wpAnyH_take (i := 11) (v := ?_) rfl (by kernel_rfl) (by kernel_rfl) (by kernel_rfl) (fun _ _ _ h => h) (Or.inl ⟨by rfl, ?_⟩) hHeld ?_
          rotate_left
          · intro w hSw; (try dsimp only at hSw); go_simp
            with_reducible rfl
          refine wpAnyH_ready (rs := [12]) (by kernel_rfl) (by simp) ?_
          refine AllReadyH.cons rfl (fun K hK => ?_) AllReadyH.nil
          go_simp
          refine hK.out _ _ ?_ (fun hHeld => ?_)
          · first | exact p1 | exact q1 | exact r1 | exact r2 _ | exact r3 | exact r4 _
          refine wpAnyH_ready (rs := [13]) (by kernel_rfl) (by simp) ?_
          refine AllReadyH.cons rfl (fun K hK => ?_) AllReadyH.nil
          refine step_append_sl rfl _ _ 60 rfl rfl rfl so78 (HP2.out.own' _) (m := 1) (news := fieldCs (word, T')) rfl (Sl.new _ _ _) (one3 _) hb1 hb2 (HP2.out.le _) ?_
          intro A5 c5 w7 ho5 hg5
          have HO5 := Lib.hid ho5
          have HG5 := Lib.hid hg5
          obtain ⟨⟨x5, l5⟩, x6, l6⟩ := HP2.out.grown hg5
          obtain ⟨r3, r4⟩ := HP2.out.grownp hg5
          clear ho5 hg5
          refine hK.out _ _ ?_ (fun hHeld => ?_)
          · first | exact p1 | exact q1 | exact r1 | exact r2 _ | exact r3 | exact r4 _
          refine wpAnyH_take (i := 14) (v := ?_) rfl (by kernel_rfl) (by kernel_rfl) (by kernel_rfl) (fun _ _ _ h => h) (Or.inl ⟨by rfl, ?_⟩) hHeld ?_
          rotate_left
          · intro w hSw; (try dsimp only at hSw); go_simp
            with_reducible rfl
          refine wpAnyH_ready (rs := [15]) (by kernel_rfl) (by simp) ?_
          refine AllReadyH.cons rfl (fun K hK => ?_) AllReadyH.nil
          go_simp
          refine hK.out _ _ ?_ (fun hHeld => ?_)
          · first | exact p1 | exact q1 | exact r1 | exact r2 _ | exact r3 | exact r4 _
          refine wpAnyH_done (by kernel_rfl) ?_ _
          go_end0
          show IRes w r t gx gp gz tn fs (nameF word ts) W _ _
          rw [Hx.out]
          exact ⟨rfl, _, _, _, HP2.out.step HO5.out HG5.out⟩
        · go_simp
          go_at_call 50
          refine (H58.out _ HB1.out).mono ?_
          rintro e w2 ⟨hv, hp2, hb2'⟩
          unfold TokIs at hv
          subst hv
          have HB2 := Lib.hid hb2'
          have HP2 := Lib.hid (HP1.out.call hb2' hp2)
          obtain ⟨z1, l1⟩ := cell_at HP2.out.x 1 (u := .slice A n c) rfl
          have z2 := HP2.out.cella
          obtain ⟨r1, -⟩ := cell_at HP2.out.p 0 (u := .pointer (some ⟨r, 0, none⟩)) rfl
          have r2 := HP2.out.cellp
          clear hp2 hb2'
          dsimp only
          refine hK.out _ _ ?_ (fun hHeld => ?_)
          · first | exact p1 | exact q1 | exact r1 | exact r2 _ | exact r3 | exact r4 _
          refine wpAnyH_take (i := 11) (v := ?_) rfl (by kernel_rfl) (by kernel_rfl) (by kernel_rfl) (fun _ _ _ h => h) (Or.inl ⟨by rfl, ?_⟩) hHeld ?_
          rotate_left
          · intro w hSw; (try dsimp only at hSw); go_simp
            with_reducible rfl
          refine wpAnyH_ready (rs := [1, 12]) (by kernel_rfl) (by simp) ?_
          refine AllReadyH.cons rfl (fun K hK => ?_) (AllReadyH.cons rfl (fun K hK => ?_) AllReadyH.nil)
          · go_simp
            refine hK.out _ _ ?_ (fun hHeld => ?_)
            · first | exact p1 | exact q1 | exact r1 | exact r2 _ | exact r3 | exact r4 _
            refine wpAnyH_ready (rs := [12]) (by kernel_rfl) (by simp) ?_
            refine AllReadyH.cons rfl (fun K hK => ?_) AllReadyH.nil
            go_simp
            refine hK.out _ _ ?_ (fun hHeld => ?_)
            · first | exact p1 | exact q1 | exact r1 | exact r2 _ | exact r3 | exact r4 _
            refine wpAnyH_ready (rs := [13]) (by kernel_rfl) (by simp) ?_
            refine AllReadyH.cons rfl (fun K hK => ?_) AllReadyH.nil
            refine step_append_sl rfl _ _ 60 rfl rfl rfl so78 (HP2.out.own' _) (m := 1) (news := fieldCs (word, T')) rfl (Sl.new _ _ _) (one3 _) hb1 hb2 (HP2.out.le _) ?_
            intro A5 c5 w7 ho5 hg5
            have HO5 := Lib.hid ho5
            have HG5 := Lib.hid hg5
            obtain ⟨⟨x5, l5⟩, x6, l6⟩ := HP2.out.grown hg5
            obtain ⟨r3, r4⟩ := HP2.out.grownp hg5
            clear ho5 hg5
            refine hK.out _ _ ?_ (fun hHeld => ?_)
            · first | exact p1 | exact q1 | exact r1 | exact r2 _ | exact r3 | exact r4 _
            refine wpAnyH_take (i := 14) (v := ?_) rfl (by kernel_rfl) (by kernel_rfl) (by kernel_rfl) (fun _ _ _ h => h) (Or.inl ⟨by rfl, ?_⟩) hHeld ?_
            rotate_left
            · intro w hSw; (try dsimp only at hSw); go_simp
              with_reducible rfl
            refine wpAnyH_ready (rs := [15]) (by kernel_rfl) (by simp) ?_
            refine AllReadyH.cons rfl (fun K hK => ?_) AllReadyH.nil
            go_simp
            refine hK.out _ _ ?_ (fun hHeld => ?_)
            · first | exact p1 | exact q1 | exact r1 | exact r2 _ | exact r3 | exact r4 _
            refine wpAnyH_done (by kernel_rfl) ?_ _
            go_end0
            show IRes w r t gx gp gz tn fs (nameF word ts) W _ _
            rw [Hx.out]
            exact ⟨rfl, _, _, _, HP2.out.step HO5.out HG5.out⟩
          · go_simp
            refine hK.out _ _ ?_ (fun hHeld => ?_)
            · first | exact p1 | exact q1 | exact r1 | exact r2 _ | exact r3 | exact r4 _
            refine wpAnyH_ready (rs := [1]) (by kernel_rfl) (by simp) ?_
            refine AllReadyH.cons rfl (fun K hK => ?_) AllReadyH.nil
            go_simp
            refine hK.out _ _ ?_ (fun hHeld => ?_)
            · first | exact p1 | exact q1 | exact r1 | exact r2 _ | exact r3 | exact r4 _
            refine wpAnyH_ready (rs := [13]) (by kernel_rfl) (by simp) ?_
            refine AllReadyH.cons rfl (fun K hK => ?_) AllReadyH.nil
            refine step_append_sl rfl _ _ 60 rfl rfl rfl so78 (HP2.out.own' _) (m := 1) (news := fieldCs (word, T')) rfl (Sl.new _ _ _) (one3 _) hb1 hb2 (HP2.out.le _) ?_
            intro A5 c5 w7 ho5 hg5
            have HO5 := Lib.hid ho5
            have HG5 := Lib.hid hg5
            obtain ⟨⟨x5, l5⟩, x6, l6⟩ := HP2.out.grown hg5
            obtain ⟨r3, r4⟩ := HP2.out.grownp hg5
            clear ho5 hg5
            refine hK.out _ _ ?_ (fun hHeld => ?_)
            · first | exact p1 | exact q1 | exact r1 | exact r2 _ | exact r3 | exact r4 _
            refine wpAnyH_take (i := 14) (v := ?_) rfl (by kernel_rfl) (by kernel_rfl) (by kernel_rfl) (fun _ _ _ h => h) (Or.inl ⟨by rfl, ?_⟩) hHeld ?_
            rotate_left
            · intro w hSw; (try dsimp only at hSw); go_simp
              with_reducible rfl
            refine wpAnyH_ready (rs := [15]) (by kernel_rfl) (by simp) ?_
            refine AllReadyH.cons rfl (fun K hK => ?_) AllReadyH.nil
            go_simp
            refine hK.out _ _ ?_ (fun hHeld => ?_)
            · first | exact p1 | exact q1 | exact r1 | exact r2 _ | exact r3 | exact r4 _
            refine wpAnyH_done (by kernel_rfl) ?_ _
            go_end0
            show IRes w r t gx gp gz tn fs (nameF word ts) W _ _
            rw [Hx.out]
            exact ⟨rfl, _, _, _, HP2.out.step HO5.out HG5.out⟩
end Go.Proofs.YtimmffncfkcpfaaGreatDoor
