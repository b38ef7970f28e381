/-
  The walk of Parse.
-/
import Derived.Test.YtimmffncfkcpfaaGreatDoorW12
import Derived.Test.YtimmffncfkcpfaaGreatDoorW13
import Derived.Test.YtimmffncfkcpfaaGreatDoorW14
import Derived.Test.YtimmffncfkcpfaaGreatDoorV7
import Derived.Test.YtimmffncfkcpfaaGreatDoorX0
import Derived.BigQuiet
namespace Go.Proofs.YtimmffncfkcpfaaGreatDoor
open Go Go.RowKit Go.Walks

/-- The cells of items: each with fields of its own. -/
def ItemsT (w : World) : List Item → List Value → Prop
  | [], cs => cs = []
  | x :: xs, cs => ∃ A c cs', cs = .bool x.tenant :: .slice A x.fields.length c :: cs' ∧ SlT w w.heap.size 65 A (fieldCells x.fields) ∧ x.fields.length ≤ c ∧ ItemsT w xs cs'
theorem ItemsT.keep {w w' : World} (k : KeepT 65 w w') : ∀ {xs : List Item} {cs : List Value}, ItemsT w xs cs → ItemsT w' xs cs
  | [], _, h => h
  | _ :: _, _, ⟨A, c, cs', e, h1, h2, h3⟩ => ⟨A, c, cs', e, h1.keepT k k.size, h2, ItemsT.keep k h3⟩
theorem ItemsT.snoc {w : World} {x : Item} {A : Option Addr} {c : Nat} (h1 : SlT w w.heap.size 65 A (fieldCells x.fields)) (h2 : x.fields.length ≤ c) : ∀ {xs : List Item} {cs : List Value}, ItemsT w xs cs → ItemsT w (xs ++ [x]) (cs ++ [.bool x.tenant, .slice A x.fields.length c])
  | [], cs, h => by
    have : cs = [] := h
    subst this
    exact ⟨A, c, [], rfl, h1, h2, rfl⟩
  | _ :: _, _, ⟨A', c', cs', e, h3, h4, h5⟩ => by
    subst e
    exact ⟨A', c', _, rfl, h3, h4, ItemsT.snoc h1 h2 h5⟩
theorem ItemsT.len {w : World} : ∀ {xs : List Item} {cs : List Value}, ItemsT w xs cs → cs.length = xs.length * 2
  | [], cs, h => by
    have : cs = [] := h
    subst this; rfl
  | x :: xs, _, ⟨A', c', cs', e, _, _, h5⟩ => by
    subst e
    have := ItemsT.len h5
    simp only [List.length_cons]; omega
theorem ItemsT.at {w : World} : ∀ {xs : List Item} {cs : List Value} {k : Nat} {x : Item}, ItemsT w xs cs → xs[k]? = some x → ∃ A c, cs[k * 2]? = some (.bool x.tenant) ∧ cs[k * 2 + 1]? = some (.slice A x.fields.length c) ∧ SlT w w.heap.size 65 A (fieldCells x.fields) ∧ x.fields.length ≤ c
  | [], _, _, _, _, h => by simp at h
  | y :: xs, _, 0, x, ⟨A, c, cs', e, h1, h2, _⟩, h => by
    have : y = x := by simpa using h
    subst this e
    exact ⟨A, c, rfl, rfl, h1, h2⟩
  | y :: xs, _, k + 1, x, ⟨A, c, cs', e, _, _, h3⟩, h => by
    subst e
    obtain ⟨A', c', k1, k2, k3, k4⟩ := ItemsT.at h3 (by simpa using h)
    refine ⟨A', c', ?_, ?_, k3, k4⟩
    · rw [show (k + 1) * 2 = k * 2 + 1 + 1 by omega]; simpa using k1
    · rw [show (k + 1) * 2 + 1 = k * 2 + 1 + 1 + 1 by omega]; simpa using k2
theorem so76 : SliceOf Tryz.prog 58 62 2 32 := SliceOf.mk (z := .agg #[.bool false, .slice none 0 0]) Tryz.underlying58 (by omega) (by kernel_rfl) rfl
theorem so77 : SliceOf Tryz.prog 59 9 1 16 := SliceOf.mk (z := .string ⟨#[]⟩) Tryz.underlying59 (by omega) (by kernel_rfl) rfl
/-- While Parse reads the items: w5 is the world behind its blocks. -/
structure PP (w5 : World) (r : Nat) (t : ByteArray) (A : Option Addr) (n c : Nat) (An : Option Addr) (nn cn : Nat) (xs : List Item) (ts : List Tok) (W : World) : Prop where
  at_ : PS W r t ts
  rb : RB r w5 W
  lt : r < w5.heap.size
  own : ∃ cs, W.ownsRow w5.heap.size 62 2 (.slice A n c) n cs ∧ ItemsT W xs cs
  nms : W.ownsRow w5.heap.size 9 1 (.slice An nn cn) nn ((classNames xs).map strV)
  len : n = xs.length
  lenn : nn = (classNames xs).length
theorem info25 : (Tryz.prog.info? 26).map (·.size) = some 2 := by kernel_rfl
theorem info35 : (Tryz.prog.info? 28).map (·.size) = some 2 := by kernel_rfl
theorem res15 (tmps : Array Value) (w : World) (gt ga ge : Nat) (x y u v z : Value) (h2 : tmps.getD 2 undef = .pointer (some ⟨gt, 0, none⟩)) (h3 : tmps.getD 3 undef = .pointer (some ⟨ga, 0, none⟩)) (h4 : tmps.getD 4 undef = .pointer (some ⟨ge, 0, none⟩))
    (r1 : w.heap[gt]? = some (.cells #[x, y] 26)) (r2 : w.heap[ga]? = some (.cells #[u, v] 28)) (r3 : w.heap[ge]? = some (.cells #[z] 29)) : (results Tryz.f6 tmps).run Tryz.prog w = .ok (.tuple #[.agg #[x, y], .agg #[u, v], z]) w := by
  have h2' : tmps[2]?.getD undef = .pointer (some ⟨gt, 0, none⟩) := by simpa using h2
  have h3' : tmps[3]?.getD undef = .pointer (some ⟨ga, 0, none⟩) := by simpa using h3
  have h4' : tmps[4]?.getD undef = .pointer (some ⟨ge, 0, none⟩) := by simpa using h4
  have c3 := (cell_at r3 0 (u := z) rfl).1
  have c4 := (cell_at r1 0 (u := x) rfl).1
  have c5 := (cell_at r1 1 (u := y) rfl).1
  have c6 := (cell_at r2 0 (u := u) rfl).1
  have c7 := (cell_at r2 1 (u := v) rfl).1
  simp [results, Tryz.results6, h2', h3', h4', asAddr, go_sem, c3, c4, c5, c6, c7]
/-- The position that is told with an error. -/
def spotR (t : ByteArray) (p : Nat) : Array Value := if 2000 < t.size then #[.int .i64 1, .int .i64 1] else spotV t p
def ParseR (t : ByteArray) (x : BR TermsD) (w : World) (e : Ending) (w' : World) : Prop := Below w.heap.size w w' ∧ match x with
  | .ok T => ∃ v, e = .returned (.tuple #[v, .agg #[.int .i64 0, .int .i64 0], .int .i64 0]) ∧ TermsV w' T v
  | .bad p en => e = .returned (.tuple #[.agg #[.slice none 0 0, .slice none 0 0], .agg (spotR t p), .int .i64 (en : Int)])

theorem alloc_get (w : World) (o : Obj) (k : Nat) : (w.alloc o).heap[k]? = if k = w.heap.size then some o else w.heap[k]? := by
  show (w.heap.push o)[k]? = _
  rw [Array.getElem?_push]
theorem four_blocks (w : World) (o0 o1 o2 o3 : Obj) {W : World} (hW : W = (((w.alloc o0).alloc o1).alloc o2).alloc o3) :
    W.heap.size = w.heap.size + 4 ∧ Below w.heap.size w W ∧ W.heap[w.heap.size]? = some o0 ∧ W.heap[w.heap.size + 1]? = some o1 ∧ W.heap[w.heap.size + 2]? = some o2 ∧ W.heap[w.heap.size + 3]? = some o3 := by
  subst hW
  refine ⟨by simp, (((((Below.refl _ _).alloc (Nat.le_refl _) _).alloc (by simp) _).alloc (by simp; omega) _).alloc (by simp; omega) _), ?_, ?_, ?_, ?_⟩
  all_goals
    simp only [alloc_get, World.size_alloc]
    (try simp only [if_true])
    repeat (first | rw [if_pos (by omega)] | rw [if_neg (by omega)])
theorem PP.call {w5 W W' : World} {r n c nn cn : Nat} {t : ByteArray} {A An : Option Addr} {xs : List Item} {ts ts' : List Tok} (h : PP w5 r t A n c An nn cn xs ts W) (hb : RB r W W') (hp : PS W' r t ts') : PP w5 r t A n c An nn cn xs ts' W' := by
  obtain ⟨cr, hcr⟩ := h.at_.cells
  obtain ⟨cs, h1, h2⟩ := h.own
  exact ⟨hp, h.rb.trans hb, h.lt, ⟨cs, own_rb h1 hb hcr (by decide), h2.keep (KeepT.rb hb hcr (by decide))⟩, own_rb h.nms hb hcr (by decide), h.len, h.lenn⟩
theorem PP.drewN {w5 W : World} {r n c nn cn : Nat} {t : ByteArray} {A An : Option Addr} {xs : List Item} {ts : List Tok} (h : PP w5 r t A n c An nn cn xs ts W) (q : Nat) : PP w5 r t A n c An nn cn xs ts (W.drewN q) := h.call ((RB.refl _ _).drewN q) h.at_

theorem rb_below {r B : Nat} {a b : World} (h : RB r a b) (hr : B ≤ r) (hs : B ≤ a.heap.size) : Below B a b := ⟨h.os, h.tape, h.output, h.size, fun k hk => h.block k (by omega) (by omega)⟩
theorem own_lt {w : World} {B n size j : Nat} {e : TypeId} {v : Value} {xs : List Value} (h : w.ownsRow B e size v n xs) (hj : v.ownBlock = some j) : j < w.heap.size := by
  rcases h.2 with ⟨rfl, _⟩ | ⟨g, cap, cur, rfl, _, hh, _⟩
  · simp [Value.ownBlock] at hj
  · have : g = j := by simpa [Value.ownBlock] using hj
    subst this
    exact (Array.getElem?_eq_some_iff.1 hh).1
theorem toksF_cnt : ∀ (f : Nat) (s : Bytes) (a : Nat), (toksF f s a).length ≤ f
  | 0, _, _ => Nat.le_refl _
  | f + 1, s, a => by
    simp only [toksF]
    split
    · simp
    · rw [List.length_cons]
      exact Nat.succ_le_succ (toksF_cnt f _ _)
theorem sl_new2 (w : World) (o : Obj) (cs : List Value) (ty : TypeId) : Sl ((w.alloc o).alloc (.cells cs.toArray ty)) (w.heap.size + 1 + 1) (some ⟨w.heap.size + 1, 0, none⟩) cs := by
  have h := Sl.new (w.alloc o) cs ty
  have e : (w.alloc o).heap.size = w.heap.size + 1 := by simp
  rw [e] at h
  exact h
/-- Behind the append of an item. -/
theorem PP.step {w5 W W' : World} {r n c nn cn : Nat} {t : ByteArray} {A An A' Af : Option Addr} {c' cf : Nat} {xs : List Item} {ts : List Tok} {x : Item} {cs : List Value} {o : Obj} (h : PP w5 r t A n c An nn cn xs ts W)
    (ho : W.ownsRow w5.heap.size 62 2 (.slice A n c) n cs) (hit : ItemsT W xs cs) (hx : SlT W W.heap.size 65 Af (fieldCells x.fields)) (hc : x.fields.length ≤ cf)
    (ho' : W'.ownsRow w5.heap.size 62 2 (.slice A' (n + 1) c') (n + 1) (cs ++ [.bool x.tenant, .slice Af x.fields.length cf])) (hg : (W.alloc o).grownBy W' (Value.slice A n c).ownBlock) :
    PS W' r t ts ∧ RB r w5 W' ∧ (∃ cs, W'.ownsRow w5.heap.size 62 2 (.slice A' (n + 1) c') (n + 1) cs ∧ ItemsT W' (xs ++ [x]) cs) ∧ W'.ownsRow w5.heap.size 9 1 (.slice An nn cn) nn ((classNames xs).map strV) ∧ KeepT 65 W W' := by
  obtain ⟨cr, hcr⟩ := h.at_.cells
  have k := keep_append (ty := 65) (by decide) ho hg
  exact ⟨h.at_.row (row_grownOwn ho hg hcr (by decide)), rb_grownOwn h.rb ho hg, ⟨_, ho', ItemsT.snoc (hx.keepT k k.size) hc (hit.keep k)⟩, own_keepT h.nms (keep_append (ty := 9) (by decide) ho hg), k⟩
/-- Behind the append of a name. -/
theorem PP.stepN {w5 W W' : World} {r n c nn cn : Nat} {t : ByteArray} {A An A' : Option Addr} {c' : Nat} {xs : List Item} {ts : List Tok} {nm : Bytes} {o : Obj} {cs : List Value}
    (hp : PS W r t ts) (hb : RB r w5 W) (hlt : r < w5.heap.size) (ho1 : W.ownsRow w5.heap.size 62 2 (.slice A n c) n cs) (hit : ItemsT W xs cs) {ns : List Bytes} (ho : W.ownsRow w5.heap.size 9 1 (.slice An nn cn) nn (ns.map strV))
    (ho' : W'.ownsRow w5.heap.size 9 1 (.slice A' (nn + 1) c') (nn + 1) (ns.map strV ++ [strV nm])) (hg : (W.alloc o).grownBy W' (Value.slice An nn cn).ownBlock) (hcl : classNames xs = ns ++ [nm]) (hlen : n = xs.length) (hln : nn = ns.length) :
    PP w5 r t A n c A' (nn + 1) c' xs ts W' := by
  obtain ⟨cr, hcr⟩ := hp.cells
  refine ⟨hp.row (row_grownOwn ho hg hcr (by decide)), rb_grownOwn hb ho hg, hlt, ⟨cs, own_keepT ho1 (keep_append (ty := 62) (by decide) ho hg), hit.keep (keep_append (ty := 65) (by decide) ho hg)⟩, ?_, hlen, by rw [hcl, List.length_append, hln]; rfl⟩
  rw [hcl, List.map_append]
  exact ho'
/-- The blocks of the deferred closure, at a world where the parser's block alone has turned. -/
theorem cs_of {w w5 W : World} {r : Nat} {t : ByteArray} (hr : r = w.heap.size + 4) (b0 : w5.heap[w.heap.size]? = some (.cells #[.string t] 9)) (b1 : w5.heap[w.heap.size + 1]? = some (.cells #[.slice none 0 0, .slice none 0 0] 26))
    (b2 : w5.heap[w.heap.size + 2]? = some (.cells #[.int .i64 0, .int .i64 0] 28)) (b3 : w5.heap[w.heap.size + 3]? = some (.cells #[.int .i64 0] 29)) (hb : RB r w5 W) : CS w.heap.size (w.heap.size + 1) (w.heap.size + 2) (w.heap.size + 3) t W :=
  ⟨hb.row (by omega) b0, ⟨_, _, hb.row (by omega) b1⟩, ⟨_, _, hb.row (by omega) b2⟩, ⟨_, hb.row (by omega) b3⟩, by omega, by omega, by omega⟩

theorem AF.refl (B : Nat) (w : World) : AF B w w := ⟨Below.refl _ _, fun _ _ _ _ => KeepT.refl _ _⟩
theorem AF.trans {B : Nat} {a b c : World} (h : AF B a b) (k : AF B b c) : AF B a c := ⟨h.below.trans k.below, fun ty h1 h2 h3 => (h.keep ty h1 h2 h3).trans (k.keep ty h1 h2 h3)⟩
theorem AF.alloc {B : Nat} (w : World) (o : Obj) (hB : B ≤ w.heap.size) : AF B w (w.alloc o) := ⟨(Below.refl _ _).alloc hB _, fun _ _ _ _ => KeepT.alloc _ _⟩
theorem CS.below {a b c d : Nat} {t : ByteArray} {w w' : World} (h : CS a b d c t w) (hb : Below w.heap.size w w') : CS a b d c t w' := by
  obtain ⟨h1, ⟨x, y, h2⟩, ⟨u, v, h3⟩, ⟨z, h4⟩, n1, n2, n3⟩ := h
  exact ⟨below_cells h1 hb, ⟨x, y, below_cells h2 hb⟩, ⟨u, v, below_cells h3 hb⟩, ⟨z, below_cells h4 hb⟩, n1, n2, n3⟩
theorem cs_add {B a b c d : Nat} {t : ByteArray} {w w' : World} {T : TermsD} {A A' : Option Addr} {n m c1 c2 : Nat} (h : AF B w w') (hT : TS B b T A n c1 A' m c2 w') (hc : CS a b d c t w) : CS a b d c t w' := by
  obtain ⟨h1, -, ⟨u, v, h3⟩, ⟨z, h4⟩, n1, n2, n3⟩ := hc
  exact ⟨(h.keep 9 (by decide) (by decide) (by decide)).keep _ _ _ h1, ⟨_, _, hT.row⟩, ⟨u, v, (h.keep 28 (by decide) (by decide) (by decide)).keep _ _ _ h3⟩, ⟨z, (h.keep 29 (by decide) (by decide) (by decide)).keep _ _ _ h4⟩, n1, n2, n3⟩
theorem add_small {cl : List Bytes} {T T' : TermsD} {x : Item} (h : T.classes.length ≤ 8 ∧ T.contracts.length ≤ 16) (ha : addB cl T x = .ok T') : T'.classes.length ≤ 8 ∧ T'.contracts.length ≤ 16 := by
  rw [add_tf] at ha
  unfold addS at ha
  split at ha
  · split at ha
    · rename_i hc
      injection ha with ha
      rw [← ha]
      simp; omega
    · cases ha
  · split at ha
    · rename_i hc
      injection ha with ha
      rw [← ha]
      simp; omega
    · cases ha

theorem end_stores {wr WF : World} {g : Nat} {a b a1 a2 e1 z : Value} (h1 : wr.heap[g + 1]? = some (.cells #[a, b] 26)) (h2 : wr.heap[g + 2]? = some (.cells #[a1, a2] 28)) (h3 : wr.heap[g + 3]? = some (.cells #[e1] 29))
    (hWF : WF = ((((wr.setCell ⟨g + 1, 0, none⟩ a).setCell ⟨g + 1, 1, none⟩ b).setCell ⟨g + 2, 0, none⟩ z).setCell ⟨g + 2, 1, none⟩ z).setCell ⟨g + 3, 0, none⟩ z) :
    WF.heap[g + 1]? = some (.cells #[a, b] 26) ∧ WF.heap[g + 2]? = some (.cells #[z, z] 28) ∧ WF.heap[g + 3]? = some (.cells #[z] 29) ∧ Below g wr WF ∧ KeepT 38 wr WF ∧ KeepT 46 wr WF := by
  subst hWF
  have hk : ∀ ty : TypeId, ty ≠ 26 → ty ≠ 28 → ty ≠ 29 → KeepT ty wr (((((wr.setCell ⟨g + 1, 0, none⟩ a).setCell ⟨g + 1, 1, none⟩ b).setCell ⟨g + 2, 0, none⟩ z).setCell ⟨g + 2, 1, none⟩ z).setCell ⟨g + 3, 0, none⟩ z) := fun ty n1 n2 n3 => by
    refine ((((KeepT.setCell h1 n1.symm _ _).trans (KeepT.setCell (set_at h1 _ _) n1.symm _ _)).trans (KeepT.setCell (cs := #[a1, a2]) (t := 28) (fz' := (0, 0)) ?_ n2.symm _ _)).trans (KeepT.setCell (cs := #[z, a2]) (t := 28) (fz' := (0, 0)) ?_ n2.symm _ _)).trans (KeepT.setCell (cs := #[e1]) (t := 29) (fz' := (0, 0)) ?_ n3.symm _ _)
    all_goals simp [World.setCell, Array.getElem?_modify, h2, h3]
  refine ⟨by simp [World.setCell, Array.getElem?_modify, h1], by simp [World.setCell, Array.getElem?_modify, h2], by simp [World.setCell, Array.getElem?_modify, h3], ?_, hk 38 (by decide) (by decide) (by decide), hk 46 (by decide) (by decide) (by decide)⟩
  exact (((((Below.refl g wr).setCell (by simp) _).setCell (by simp) _).setCell (by simp) _).setCell (by simp) _).setCell (by simp) _

set_option maxRecDepth 100000 in
set_option maxHeartbeats 8000000 in
theorem parse_any (t : ByteArray) (w : World) (Hg : Hid (Gl w)) : Calls Tryz.prog 6 #[.string t] w (ParseR t (parseB t.data.toList) w) := by
  have hmf : ∀ (fn : Fn) (first cap : Array Value) (w : World), (Instr.makeFunc fn first cap).run Tryz.prog w = .ok (.func fn first cap) w := fun _ _ _ _ => rfl
  by_cases hsz : 2000 < t.size
  · have hi : (2000 : Int) < (t.size : Int) := by omega
    have Hb : Hid (parseB t.data.toList = .bad 0 2) := by show _ = _; unfold parseB; rw [if_pos (by rw [size_l]; exact hsz)]
    have Hsp : Hid (spotR t 0 = #[.int .i64 1, .int .i64 1]) := by show _ = _; unfold spotR; rw [if_pos hsz]
    go_enter_defers Tryz.func6, Tryz.ntmps6
    go_wp2_with fail
    obtain ⟨W4, hW4⟩ : ∃ W4, W4 = (((w.alloc (.cells #[.string t] 9)).alloc (.cells #[.slice none 0 0, .slice none 0 0] 26)).alloc (.cells #[.int .i64 1, .int .i64 1] 28)).alloc (.cells #[.int .i64 2] 29) := ⟨_, rfl⟩
    obtain ⟨-, q2, b0, b1, b2, b3⟩ := four_blocks _ _ _ _ _ hW4
    rw [← hW4]
    refine ⟨_, res15 _ _ (w.heap.size + 1) (w.heap.size + 2) (w.heap.size + 3) _ _ _ _ _ rfl rfl rfl b1 b2 b3, ?_⟩
    show ParseR t (parseB t.data.toList) w _ _
    rw [Hb.out]
    refine ⟨q2, ?_⟩
    show _ = Ending.returned (.tuple #[_, .agg (spotR t 0), _])
    rw [Hsp.out]; rfl
  · have ht : t.size ≤ 2000 := by omega
    have hi : ¬ (2000 : Int) < (t.size : Int) := by omega
    have hi2 : (t.size : Int) ≤ 2000 := by omega
    have Hsp : Hid (∀ p, spotR t p = spotV t p) := fun p => by unfold spotR; rw [if_neg hsz]
    go_enter_defers Tryz.func6, Tryz.ntmps6
    go_wp2_with fail
    obtain ⟨W4, hW4⟩ : ∃ W4, W4 = (((w.alloc (.cells #[.string t] 9)).alloc (.cells #[.slice none 0 0, .slice none 0 0] 26)).alloc (.cells #[.int .i64 0, .int .i64 0] 28)).alloc (.cells #[.int .i64 0] 29) := ⟨_, rfl⟩
    obtain ⟨q1, q2, b0, b1, b2, b3⟩ := four_blocks _ _ _ _ _ hW4
    rw [← hW4]
    clear hW4
    obtain ⟨r, hr⟩ : ∃ r, r = w.heap.size + 4 := ⟨_, rfl⟩
    have hbr : Below W4.heap.size W4 (W4.alloc (.cells #[.string t, .string ⟨#[]⟩, .int .i64 0] 56)) := (Below.refl _ _).alloc (Nat.le_refl _) _
    have b0 := below_cells b0 hbr
    have b1 := below_cells b1 hbr
    have b2 := below_cells b2 hbr
    have b3 := below_cells b3 hbr
    have b4 : (W4.alloc (.cells #[.string t, .string ⟨#[]⟩, .int .i64 0] 56)).heap[r]? = some (.cells #[.string t, .string ⟨#[]⟩, .int .i64 0] 56) := by rw [hr, ← q1]; exact heap_new _ _
    have hbW := q2.trans (hbr.mono (by omega))
    have hs5 : (W4.alloc (.cells #[.string t, .string ⟨#[]⟩, .int .i64 0] 56)).heap.size = r + 1 := by simp [hr, q1]
    obtain ⟨w5, hw5⟩ : ∃ w5, w5 = W4.alloc (.cells #[.string t, .string ⟨#[]⟩, .int .i64 0] 56) := ⟨_, rfl⟩
    rw [← hw5] at b0 b1 b2 b3 b4 hbW hs5
    rw [show w.heap.size + 1 + 1 + 1 + 1 = r by omega, show w.heap.size + 1 + 1 + 1 = w.heap.size + 3 by omega, show w.heap.size + 1 + 1 = w.heap.size + 2 by omega, ← hw5]
    have h7r : 7 ≤ r := by have := Hg.out.size; omega
    have Hr := Lib.hid hr
    clear hw5 hbr q1 q2 hr
    have h7 := Hg.out.size
    have hadv := advance_any t r 0 _ _ w5 (Nat.zero_le _) ht h7r (Hg.out.below hbW) b4
    have Hadv := Lib.hid hadv
    have B0 := Lib.hid b0
    have B1 := Lib.hid b1
    have B2 := Lib.hid b2
    have B3 := Lib.hid b3
    have HBW := Lib.hid hbW
    have HS5 := Lib.hid hs5
    clear hadv b0 b1 b2 b3 b4 hbW hs5
    refine Hadv.out.mono ?_
    rintro e w6 ⟨rfl, hp6, hb6⟩
    have HP6 : Hid (PS w6 r t (toks t.data.toList 0)) := ⟨0, Nat.zero_le _, rfl, hp6⟩
    have HB6 := Lib.hid hb6
    clear hp6 hb6 Hadv
    go_wp2_with fail
    obtain ⟨N, hN⟩ : ∃ N, N = (toks t.data.toList 0).length := ⟨_, rfl⟩
    have HN := Lib.hid hN
    have Htk := Lib.hid (toks_len t.data.toList)
    have hlt5 : r < w5.heap.size := by have := HS5.out; omega
    have Hlt5 := Lib.hid hlt5
    have hN2 : N ≤ 2001 := by
      rw [hN]
      have := toksF_cnt (t.data.toList.length + 1) (t.data.toList.drop 0) 0
      unfold toks
      rw [size_l] at this ⊢
      omega
    clear hlt5 hN
    go_loopg [6, 7] N (fun g s6 s7 wr => ∃ (A : Option Addr) (n c : Nat) (An : Option Addr) (nn cn f : Nat) (xs : List Item) (ts : List Tok), s6 = .slice A n c ∧ s7 = .slice An nn cn ∧ g = f ∧ ts.length ≤ f ∧ f + n ≤ N ∧ Hid (PP w5 r t A n c An nn cn xs ts wr) ∧ Hid (itemsT t.size (N + 1) [] (toks t.data.toList 0) = itemsT t.size (f + 1) xs ts) ∧ Hid (∀ x ∈ xs, Shape x ∧ ∀ g ∈ x.fields, g.2 ∈ toks t.data.toList 0) ∧ Hid (∀ T ∈ ts, T ∈ toks t.data.toList 0))
    case atStart => exact ⟨none, 0, 0, none, 0, 0, N, [], _, rfl, rfl, rfl, Nat.le_of_eq HN.out.symm, by omega, ⟨HP6.out, HB6.out, Hlt5.out, ⟨[], own_nil _ _ _ _, rfl⟩, own_nil _ _ _ _, rfl, rfl⟩, rfl, (fun x hx => by cases hx), fun T hT => hT⟩
    case round =>
      obtain ⟨A, n, c, An, nn, cn, f, xs, ts, rfl, rfl, hgf, hlf, hfn, HP, HS, HX, HT⟩ := hrel
      have Hgf := Lib.hid hgf
      clear hgf
      obtain ⟨T, rest, hts, hps, hle, -⟩ := HP.out.at_.head
      have Hps := Lib.hid hps
      obtain ⟨d2, -⟩ := cell_at hps 2 (u := .int .i64 (T.at_ : Int)) rfl
      obtain ⟨a0, -⟩ := cell_at (HP.out.rb.row (by have := Hr.out; omega) B0.out) 0 (u := .string t) rfl
      have hhd : headAt ts = T.at_ := by rw [hts]; rfl
      have Hhd := Lib.hid hhd
      clear hps hts hhd
      by_cases hat : T.at_ < t.size
      · have hI : (T.at_ : Int) < (t.size : Int) := by omega
        go_wp2_with fail
        go_quiet (fail)
        go_wp2_with fail
        have HP1 := Lib.hid (HP.out.drewN nq)
        have HS1 : Hid (itemsT t.size (N + 1) [] (toks t.data.toList 0) = (itemT ts).next fun x a => itemsT t.size f (xs ++ [x]) a) := by
          show _ = _
          rw [HS.out, itemsT, if_pos (by rw [Hhd.out]; exact hat)]
        clear HP HS d2 a0
        refine PRes.step (item_T t r _ ts ht h7r ((Hg.out.below HBW.out).rb HP1.out.rb h7r) HP1.out.at_) ?_ ?_
        rotate_left
        · intro p hx wb hb
          have Hpb : Hid (parseB t.data.toList = .bad p 3) := by
            show _ = _
            unfold parseB
            rw [if_neg (by rw [size_l]; omega), size_l, ← HN.out, HS1.out, hx]; rfl
          have hpt : p ≤ t.size := by
            rcases item_bad ts p hx with h | ⟨T', hT', e⟩
            · omega
            · have := (Htk.out T' (HT.out T' hT')).2
              rw [size_l] at this
              omega
          have hrb := HP1.out.rb.trans hb
          have HCS := Lib.hid (cs_of Hr.out B0.out B1.out B2.out B3.out hrb)
          have HBB := Lib.hid (HBW.out.trans (rb_below hrb (B := w.heap.size) (by have := Hr.out; omega) (by have := HS5.out; have := Hr.out; omega)))
          clear hx hb hrb
          unfold wrongE
          go_wp2_with fail
          refine leaves_cons (f := 13) (args := #[.pointer (some ⟨w.heap.size, 0, none⟩), .pointer (some ⟨w.heap.size + 1, 0, none⟩), .pointer (some ⟨w.heap.size + 3, 0, none⟩), .pointer (some ⟨w.heap.size + 2, 0, none⟩)]) (by simp) (by simp [go_sem]) ?_
          refine (catch_panic _ _ _ _ t p 3 wb ht hpt w.heap.size ⟨by omega, by omega, by omega⟩ HCS.out).mono ?_
          rintro e u' w2 ⟨rfl, rfl, r1, r2, r3, hb2⟩
          unfold spotV at r3
          refine ⟨_, res15 _ _ (w.heap.size + 1) (w.heap.size + 2) (w.heap.size + 3) _ _ _ _ _ rfl rfl rfl r1 r3 r2, ?_⟩
          show ParseR t (parseB t.data.toList) w _ _
          rw [Hpb.out]
          refine ⟨HBB.out.trans hb2, ?_⟩
          show _ = Ending.returned (.tuple #[_, .agg (spotR t p), _])
          rw [Hsp.out]; rfl
        intro x a hx e w1 hv hp1 hb1
        obtain ⟨Af, cf, rfl, hof⟩ := hv
        have HP2 := Lib.hid (HP1.out.call hb1 hp1)
        have hin := item_in hx
        have hlt := item_lt hx
        have hsh := item_inv hx
        have HSh := Lib.hid hsh
        have Hin : Hid (∀ g ∈ x.fields, g.2 ∈ toks t.data.toList 0) := fun g hg => HT.out _ (hin.2 g hg)
        have HT2 : Hid (∀ T ∈ a, T ∈ toks t.data.toList 0) := fun T hT => HT.out T (hin.1 T hT)
        have HS2 : Hid (itemsT t.size (N + 1) [] (toks t.data.toList 0) = itemsT t.size f (xs ++ [x]) a) := by show _ = _; rw [HS1.out, hx]; rfl
        have HOF := Lib.hid hof
        clear hx hp1 hb1 hin hsh hof HP1 HS1
        obtain ⟨ics, hio, hit⟩ := HP2.out.own
        have HIO := Lib.hid hio
        have HIT := Lib.hid hit
        have hcap : n + 1 ≤ maxLen := by unfold maxLen; omega
        have hbyt : (n + 1) * 32 ≤ 140737488355328 := by omega
        clear hio hit
        obtain ⟨bx, hbx⟩ : ∃ bx : Obj, bx = .cells #[.bool x.tenant, .slice Af x.fields.length cf] 62 := ⟨_, rfl⟩
        have hb8 : Below w1.heap.size w1 (w1.alloc bx) := (Below.refl _ _).alloc (Nat.le_refl _) _
        have PB := Lib.hid (HP2.out.call (RB.of_below hb8) (HP2.out.at_.alloc bx))
        have IB := Lib.hid (own_below HIO.out hb8)
        have HOB : Hid (∀ o : Obj, ((w1.alloc bx).alloc o).ownsRow w5.heap.size 62 2 (.slice A n c) n ics) := fun o => own_below IB.out ((Below.refl _ _).alloc (Nat.le_refl _) o)
        have TB := Lib.hid (HIT.out.keep (KeepT.alloc w1 bx))
        have FB : Hid (SlT (w1.alloc bx) (w1.alloc bx).heap.size 65 Af (fieldCells x.fields)) := (own_slT HOF.out).keepT (KeepT.alloc w1 bx) (KeepT.alloc (ty := 65) w1 bx).size
        have hle : ∀ o : Obj, w5.heap.size ≤ ((w1.alloc bx).alloc o).heap.size := fun o => Nat.le_trans PB.out.rb.size (by simp)
        have hfc : x.fields.length ≤ cf := by
          obtain ⟨A9, c9, e9, -, h9, -⟩ := Sl.of_own HOF.out
          injection e9 with _ _ e9
          rw [e9]; exact h9
        have hone : ∀ u, u ∈ [Value.bool x.tenant, .slice Af x.fields.length cf] → u.oneCell' = true := by
          intro u hu
          simp at hu
          rcases hu with rfl | rfl <;> rfl
        have HBX : Hid (∀ (o : Obj) (w7 : World), ((w1.alloc bx).alloc o).grownBy w7 (Value.slice A n c).ownBlock → w7.heap[w1.heap.size]? = some (.cells #[.bool x.tenant, .slice Af x.fields.length cf] 62)) := fun o w7 hg => by
          refine (hg.block w1.heap.size (by simp; omega) (fun e => ?_)).trans ((Below.heap_alloc _ _ _ (by simp)).trans (by rw [hbx]; exact heap_new _ _))
          exact absurd (own_lt HIO.out e.symm) (Nat.lt_irrefl _)
        clear hb8 HP2
        cases hten : x.tenant with
        | true =>
          rw [hten] at hbx hone HBX
          subst hbx
          go_wp2_with (at_builtin; refine wpList_append_sl rfl _ _ 58 rfl rfl rfl so76 (HOB.out _) (m := 1) (news := [.bool true, .slice Af x.fields.length cf]) rfl (sl_new2 _ _ _ _) hone hcap hbyt (hle _) ?_; intro A5 c5 w7 ho5 hg5; have HO5 := Lib.hid ho5; have HG5 := Lib.hid hg5; obtain ⟨x0, -⟩ := cell_at (HBX.out _ _ hg5) 0 (u := .bool true) rfl; clear ho5 hg5)
          have HO5' : Hid (w7.ownsRow w5.heap.size 62 2 (.slice A5 (n + 1) c5) (n + 1) (ics ++ [.bool x.tenant, .slice Af x.fields.length cf])) := by show World.ownsRow _ _ _ _ _ _ _; rw [hten]; exact HO5.out
          have hst := PB.out.step IB.out TB.out FB.out hfc HO5'.out HG5.out
          have hcl : classNames (xs ++ [x]) = classNames xs := by
            unfold classNames
            rw [List.filter_append, List.map_append, List.filter_cons, hten]; simp
          have Hst := Lib.hid hst
          have Hcl := Lib.hid hcl
          clear hst hcl
          go_roundg (f - 1)
          case measure => rw [Hgf.out]; have := hlt; omega
          case rel =>
            obtain ⟨s1, s2, s3, s4, -⟩ := Hst.out
            exact ⟨A5, n + 1, c5, An, nn, cn, f - 1, xs ++ [x], a, rfl, rfl, rfl, by omega, by omega, ⟨s1, s2, Hlt5.out, s3, by rw [Hcl.out]; exact s4, by rw [List.length_append, PB.out.len]; rfl, by rw [Hcl.out]; exact PB.out.lenn⟩, by rw [show f - 1 + 1 = f by omega]; exact HS2.out, fun y hy => by
              rcases List.mem_append.1 hy with hy | hy
              · exact HX.out y hy
              · rw [List.mem_singleton] at hy; rw [hy]; exact ⟨HSh.out, Hin.out⟩, HT2.out⟩
        | false =>
          rw [hten] at hbx hone HBX
          subst hbx
          obtain ⟨f0, hf0⟩ : ∃ g, x.fields[0]? = some g := ⟨_, List.getElem?_eq_getElem (by have := (shape_words HSh.out).2.1; omega)⟩
          have HFt : Hid ((firstF x).text = f0.2.text) := by show _ = _; unfold firstF; rw [List.head?_eq_getElem?, hf0]; rfl
          obtain ⟨bf, of_, hAf, -, hcf0⟩ := sl_at (f := fieldCs) (s := 3) (fun _ => rfl) FB.out.sl hf0 (by omega)
          subst hAf
          have HC0 : Hid (∀ w7 : World, KeepT 65 (w1.alloc (.cells #[.bool false, .slice (some ⟨bf, of_, none⟩) x.fields.length cf] 62)) w7 → w7.cell? ⟨bf, of_ + 1, none⟩ = some (.string ⟨f0.2.text.toArray⟩)) := fun w7 hk => by
            obtain ⟨b9, o9, e9, -, hc9⟩ := sl_at (f := fieldCs) (s := 3) (fun _ => rfl) (FB.out.keepT hk hk.size).sl hf0 (by omega)
            injection e9 with e9
            injection e9 with e1 e2 _
            subst e1 e2
            have := hc9 1 _ rfl
            unfold strV at this
            simpa using this
          have hfl0 : 0 < x.fields.length := (List.getElem?_eq_some_iff.1 hf0).1
          have hfl1 : (0 : Int) < (x.fields.length : Int) := by omega
          have HSTEP : Hid (∀ (w7 : World) (A5 : Option Addr) (c5 : Nat) (o : Obj), w7.ownsRow w5.heap.size 62 2 (.slice A5 (n + 1) c5) (n + 1) (ics ++ [.bool false, .slice (some ⟨bf, of_, none⟩) x.fields.length cf]) → ((w1.alloc (.cells #[.bool false, .slice (some ⟨bf, of_, none⟩) x.fields.length cf] 62)).alloc o).grownBy w7 (Value.slice A n c).ownBlock →
              (PS w7 r t a ∧ RB r w5 w7 ∧ (∃ cs, w7.ownsRow w5.heap.size 62 2 (.slice A5 (n + 1) c5) (n + 1) cs ∧ ItemsT w7 (xs ++ [x]) cs) ∧ w7.ownsRow w5.heap.size 9 1 (.slice An nn cn) nn ((classNames xs).map strV) ∧ KeepT 65 (w1.alloc (.cells #[.bool false, .slice (some ⟨bf, of_, none⟩) x.fields.length cf] 62)) w7)) := fun w7 A5 c5 o ho hg => by
            refine PB.out.step IB.out TB.out FB.out hfc ?_ hg
            rw [hten]; exact ho
          have hnn : nn ≤ n := by
            rw [PB.out.lenn, PB.out.len]
            unfold classNames
            rw [List.length_map]
            exact List.length_filter_le _ _
          have hcapn : nn + 1 ≤ maxLen := by unfold maxLen; omega
          have hbytn : (nn + 1) * 16 ≤ 140737488355328 := by omega
          have hone2 : ∀ u, u ∈ [strV f0.2.text] → u.oneCell' = true := by
            intro u hu
            rw [List.mem_singleton] at hu
            rw [hu]; rfl
          have hcl : classNames (xs ++ [x]) = classNames xs ++ [f0.2.text] := by
            unfold classNames
            rw [List.filter_append, List.map_append, List.filter_cons, hten, if_pos (show (!false) = true from rfl), List.filter_nil, List.map_cons, List.map_nil, HFt.out]
          have Hcl := Lib.hid hcl
          clear hcl hnn
          go_wp2_with (first | (at_builtin; refine wpList_append_sl rfl _ _ 58 rfl rfl rfl so76 (HOB.out _) (m := 1) (news := [.bool false, .slice (some ⟨bf, of_, none⟩) x.fields.length cf]) rfl (sl_new2 _ _ _ _) hone hcap hbyt (hle _) ?_; intro A5 c5 w7 ho5 hg5; have Hst := Lib.hid (HSTEP.out _ _ _ _ ho5 hg5); obtain ⟨x0, -⟩ := cell_at (HBX.out _ _ hg5) 0 (u := .bool false) rfl; obtain ⟨x1, -⟩ := cell_at (HBX.out _ _ hg5) 1 (u := .slice (some ⟨bf, of_, none⟩) x.fields.length cf) rfl; have f0c := HC0.out w7 Hst.out.2.2.2.2; have HNB : Hid (∀ o : Obj, (w7.alloc o).ownsRow w5.heap.size 9 1 (.slice An nn cn) nn ((classNames xs).map strV)) := (fun o => own_below Hst.out.2.2.2.1 ((Below.refl _ _).alloc (Nat.le_refl _) o)); have HLN : Hid (∀ o : Obj, w5.heap.size ≤ (w7.alloc o).heap.size) := (fun o => Nat.le_trans Hst.out.2.1.size (by simp)); clear ho5 hg5) | (at_builtin; refine wpList_append_sl rfl _ _ 59 rfl rfl rfl so77 (HNB.out _) (m := 1) (news := [strV f0.2.text]) rfl (Sl.new _ _ _) hone2 hcapn hbytn (HLN.out _) ?_; intro A6 c6 w8 ho6 hg6; have HO6 := Lib.hid ho6; have HG6 := Lib.hid hg6; clear ho6 hg6))
          go_roundg (f - 1)
          case measure => rw [Hgf.out]; have := hlt; omega
          case rel =>
            obtain ⟨s1, s2, ⟨cs8, s3, s4⟩, s5, -⟩ := Hst.out
            exact ⟨A5, n + 1, c5, A6, nn + 1, c6, f - 1, xs ++ [x], a, rfl, rfl, rfl, by omega, by omega, PP.stepN s1 s2 Hlt5.out s3 s4 s5 HO6.out HG6.out Hcl.out (by rw [List.length_append, PB.out.len]; rfl) PB.out.lenn, by rw [show f - 1 + 1 = f by omega]; exact HS2.out, fun y hy => by
              rcases List.mem_append.1 hy with hy | hy
              · exact HX.out y hy
              · rw [List.mem_singleton] at hy; rw [hy]; exact ⟨HSh.out, Hin.out⟩, HT2.out⟩
      · have hI : ¬ (T.at_ : Int) < (t.size : Int) := by omega
        go_wp2_with fail
        go_quiet (fail)
        go_wp2_with fail
        have HPx := Lib.hid (HP.out.drewN nq)
        have HPB : Hid (parseB t.data.toList = addsB (classNames xs) ⟨[], []⟩ xs) := by
          show _ = _
          unfold parseB
          rw [if_neg (by rw [size_l]; omega), size_l, ← HN.out, HS.out, itemsT, if_neg (by rw [Hhd.out]; exact hat)]; rfl
        obtain ⟨W7, hW7⟩ : ∃ W7, W7 = wr.drewN nq := ⟨_, rfl⟩
        rw [← hW7] at HPx
        rw [← hW7]
        clear hW7 HP HS d2 a0
        obtain ⟨ics, hio, hit⟩ := HPx.out.own
        have HIO := Lib.hid (own_slT hio)
        have HIT := Lib.hid hit
        have HNM := Lib.hid (own_slT HPx.out.nms)
        have HBx : Hid (Below w.heap.size w W7) := HBW.out.trans (rb_below HPx.out.rb (by have := Hr.out; omega) (by have := HS5.out; have := Hr.out; omega))
        have HCS0 := Lib.hid (cs_of Hr.out B0.out B1.out B2.out B3.out HPx.out.rb)
        have HT0 : Hid (TS w.heap.size (w.heap.size + 1) ⟨[], []⟩ none 0 0 none 0 0 W7) := ⟨HPx.out.rb.row (by have := Hr.out; omega) B1.out, own_nil _ _ _ _, own_nil _ _ _ _, rfl, rfl, by omega⟩
        have HNc : Hid ((classNames xs).length ≤ 2001) := by
          have h1 := HPx.out.len
          have h2 : (classNames xs).length ≤ xs.length := by
            unfold classNames
            rw [List.length_map]
            exact List.length_filter_le _ _
          show _ ≤ _
          omega
        clear hio hit
        go_loopg [50] n (fun g s50 wr2 => ∃ (k : Nat) (T1 : TermsD) (A1 : Option Addr) (n1 c1 : Nat) (A2 : Option Addr) (n2 c2 : Nat), s50 = .int .i64 (k : Int) ∧ g = n - k ∧ k ≤ n ∧ Hid (TS w.heap.size (w.heap.size + 1) T1 A1 n1 c1 A2 n2 c2 wr2) ∧ Hid (AF w.heap.size W7 wr2) ∧ Hid (addsB (classNames xs) ⟨[], []⟩ xs = addsB (classNames xs) T1 (xs.drop k)) ∧ Hid (T1.classes.length ≤ 8 ∧ T1.contracts.length ≤ 16))
        case atStart => exact ⟨0, ⟨[], []⟩, none, 0, 0, none, 0, 0, rfl, rfl, Nat.zero_le _, HT0, AF.refl _ _, rfl, ⟨Nat.zero_le _, Nat.zero_le _⟩⟩
        case round =>
          obtain ⟨k, T1, A1, n1, c1, A2, n2, c2, rfl, hg2, hk, HTS, HAF, HAD, HT8⟩ := hrel
          have Hg2 := Lib.hid hg2
          clear hg2
          by_cases hlt : k < n
          · have hI1 : (0 : Int) ≤ (k : Int) := by omega
            have hI2 : (k : Int) < (n : Int) := by omega
            obtain ⟨x, hx⟩ : ∃ x, xs[k]? = some x := ⟨_, List.getElem?_eq_getElem (by have := HPx.out.len; omega)⟩
            have hxm := List.mem_of_getElem? hx
            have hdrop : xs.drop k = x :: xs.drop (k + 1) := by
              obtain ⟨h1, h2⟩ := List.getElem?_eq_some_iff.1 hx
              rw [List.drop_eq_getElem_cons h1, h2]
            obtain ⟨Ax, cx, hi0, hi1, hfx, hcx⟩ := (HIT.out.keep (HAF.out.keep 65 (by decide) (by decide) (by decide))).at hx
            obtain ⟨bi, oi, hAi, -, hci⟩ := (HIO.out.keepT (HAF.out.keep 62 (by decide) (by decide) (by decide)) (HAF.out.keep 62 (by decide) (by decide) (by decide)).size).sl.at_ (k := k * 2) (by have := ItemsT.len HIT.out; have := HPx.out.len; omega)
            subst hAi
            obtain ⟨sw1, sw2, sw3, sw4⟩ := shape_words (HX.out x hxm).1
            obtain ⟨M, hM⟩ : ∃ M, x.fields.length = M + 1 := ⟨x.fields.length - 1, by omega⟩
            have hM1 : 1 ≤ M ∧ M ≤ 50 := by omega
            have hcell0 : wr.cell? ⟨bi, oi + k * 2, none⟩ = some (.bool x.tenant) := hci _ _ hi0
            have hcell1 : wr.cell? ⟨bi, oi + k * 2 + 1, none⟩ = some (.slice Ax (M + 1) cx) := by rw [← hM]; exact hci _ _ hi1
            have HGl2 : Hid (Gl wr) := (Hg.out.below HBx.out).keep HAF.out.below.size (fun j hj => HAF.out.below.block j (by omega))
            have hFOk : ∀ g ∈ x.fields, FOk g := fun g hg => ⟨(sw4 g hg).1, by
              have := (Htk.out g.2 ((HX.out x hxm).2 g hg)).1
              rw [size_l] at this
              omega, (sw4 g hg).2⟩
            have hsl : SlT (wr.alloc (.cells #[.bool x.tenant, .slice Ax (M + 1) cx] 62)) (wr.alloc (.cells #[.bool x.tenant, .slice Ax (M + 1) cx] 62)).heap.size 65 Ax (fieldCells x.fields) := hfx.keepT (KeepT.alloc _ _) (KeepT.alloc (ty := 65) wr _).size
            have hnm : Sl (wr.alloc (.cells #[.bool x.tenant, .slice Ax (M + 1) cx] 62)) (wr.alloc (.cells #[.bool x.tenant, .slice Ax (M + 1) cx] 62)).heap.size An ((classNames xs).map strV) := (HNM.out.keepT ((HAF.out.keep 9 (by decide) (by decide) (by decide)).trans (KeepT.alloc wr _)) ((HAF.out.keep 9 (by decide) (by decide) (by decide)).trans (KeepT.alloc wr _)).size).sl
            have HTSa : Hid (TS w.heap.size (w.heap.size + 1) T1 A1 n1 c1 A2 n2 c2 (wr.alloc (.cells #[.bool x.tenant, .slice Ax (M + 1) cx] 62))) := HTS.out.below ((Below.refl _ _).alloc (Nat.le_refl _) _)
            clear hi0 hi1 hci sw2 sw3 sw4 hfx hx
            cases hten : x.tenant with
            | true =>
              rw [hten] at hsl hnm HTSa
              rw [hten] at hcell0
              have hadd := addW_t x.fields M Ax cx (classNames xs) An cn T1 A1 n1 c1 A2 n2 c2 w.heap.size (w.heap.size + 1) (wr.alloc (.cells #[.bool true, .slice Ax (M + 1) cx] 62)) hM hM1.1 hM1.2 (by omega) (by have := HPx.out.lenn; have := HNc.out; omega) ⟨by have := HT8.out; omega, by have := HT8.out; omega⟩ (HGl2.out.below ((Below.refl _ _).alloc (Nat.le_refl _) _)) hsl.sl hnm HTSa hFOk sw1
              rw [← HPx.out.lenn] at hadd
              have hxe : (⟨true, x.fields⟩ : Item) = x := by rw [← hten]
              rw [hxe] at hadd
              have Hadd := Lib.hid hadd
              have Hten := Lib.hid hten
              clear hadd hten hxe
              go_wp2_with fail
              refine Hadd.out.mono ?_
              cases hab : addB (classNames xs) T1 x with
              | bad p en =>
                rintro e wb ⟨rfl, hbb⟩
                have Hpb : Hid (parseB t.data.toList = .bad p en) := by
                  show _ = _
                  rw [HPB.out, HAD.out, hdrop, addsB, hab]; rfl
                have hpt : p ≤ t.size := by
                  rcases add_bad hab with h | ⟨g, hg, e⟩
                  · omega
                  · have := (Htk.out g.2 ((HX.out x hxm).2 g hg)).2
                    rw [size_l] at this
                    omega
                have hbb2 := ((Below.refl wr.heap.size wr).alloc (Nat.le_refl _) (.cells #[.bool true, .slice Ax (M + 1) cx] 62)).trans (hbb.mono (by simp))
                have HCS : Hid (CS w.heap.size (w.heap.size + 1) (w.heap.size + 2) (w.heap.size + 3) t wb) := (cs_add HAF.out HTS.out HCS0.out).below hbb2
                have HBB : Hid (Below w.heap.size w wb) := (HBx.out.trans (HAF.out.below)).trans (hbb2.mono (by have := HAF.out.below.size; have := HBx.out.size; omega))
                clear hbb hbb2 hab
                unfold wrongE
                go_wp2_with fail
                refine leaves_cons (f := 13) (args := #[.pointer (some ⟨w.heap.size, 0, none⟩), .pointer (some ⟨w.heap.size + 1, 0, none⟩), .pointer (some ⟨w.heap.size + 3, 0, none⟩), .pointer (some ⟨w.heap.size + 2, 0, none⟩)]) (by simp) (by simp [go_sem]) ?_
                refine (catch_panic _ _ _ _ t p en wb ht hpt w.heap.size ⟨by omega, by omega, by omega⟩ HCS.out).mono ?_
                rintro e u' w2 ⟨rfl, rfl, r1, r2, r3, hb2⟩
                unfold spotV at r3
                refine ⟨_, res15 _ _ (w.heap.size + 1) (w.heap.size + 2) (w.heap.size + 3) _ _ _ _ _ rfl rfl rfl r1 r3 r2, ?_⟩
                show ParseR t (parseB t.data.toList) w _ _
                rw [Hpb.out]
                refine ⟨HBB.out.trans hb2, ?_⟩
                show _ = Ending.returned (.tuple #[_, .agg (spotR t p), _])
                rw [Hsp.out]; rfl
              | ok T2 =>
                rintro e w9 ⟨rfl, haf, B1', m1, e1', B2', m2, e2', hts2⟩
                have HAD2 : Hid (addsB (classNames xs) ⟨[], []⟩ xs = addsB (classNames xs) T2 (xs.drop (k + 1))) := by
                  show _ = _
                  rw [HAD.out, hdrop, addsB, hab]; rfl
                have HAF2 : Hid (AF w.heap.size W7 w9) := HAF.out.trans ((AF.alloc wr _ (by have := HAF.out.below.size; have := HBx.out.size; omega)).trans haf)
                have HTS2 := Lib.hid hts2
                have HT82 : Hid (T2.classes.length ≤ 8 ∧ T2.contracts.length ≤ 16) := add_small HT8.out hab
                clear haf hts2 hab
                go_wp2_with fail
                go_roundg (n - (k + 1))
                case measure => rw [Hg2.out]; omega
                case rel => exact ⟨k + 1, T2, B1', m1, e1', B2', m2, e2', by go_num, rfl, by omega, HTS2, HAF2, HAD2, HT82⟩
            | false =>
              rw [hten] at hsl hnm HTSa
              rw [hten] at hcell0
              have hadd := addW_c x.fields M Ax cx (classNames xs) An cn T1 A1 n1 c1 A2 n2 c2 w.heap.size (w.heap.size + 1) (wr.alloc (.cells #[.bool false, .slice Ax (M + 1) cx] 62)) hM hM1.1 hM1.2 (by omega) (by have := HPx.out.lenn; have := HNc.out; omega) ⟨by have := HT8.out; omega, by have := HT8.out; omega⟩ (HGl2.out.below ((Below.refl _ _).alloc (Nat.le_refl _) _)) hsl.sl hsl HTSa hFOk sw1
              rw [← HPx.out.lenn] at hadd
              have hxe : (⟨false, x.fields⟩ : Item) = x := by rw [← hten]
              rw [hxe] at hadd
              have Hadd := Lib.hid hadd
              have Hten := Lib.hid hten
              clear hadd hten hxe
              go_wp2_with fail
              refine Hadd.out.mono ?_
              cases hab : addB (classNames xs) T1 x with
              | bad p en =>
                rintro e wb ⟨rfl, hbb⟩
                have Hpb : Hid (parseB t.data.toList = .bad p en) := by
                  show _ = _
                  rw [HPB.out, HAD.out, hdrop, addsB, hab]; rfl
                have hpt : p ≤ t.size := by
                  rcases add_bad hab with h | ⟨g, hg, e⟩
                  · omega
                  · have := (Htk.out g.2 ((HX.out x hxm).2 g hg)).2
                    rw [size_l] at this
                    omega
                have hbb2 := ((Below.refl wr.heap.size wr).alloc (Nat.le_refl _) (.cells #[.bool false, .slice Ax (M + 1) cx] 62)).trans (hbb.mono (by simp))
                have HCS : Hid (CS w.heap.size (w.heap.size + 1) (w.heap.size + 2) (w.heap.size + 3) t wb) := (cs_add HAF.out HTS.out HCS0.out).below hbb2
                have HBB : Hid (Below w.heap.size w wb) := (HBx.out.trans (HAF.out.below)).trans (hbb2.mono (by have := HAF.out.below.size; have := HBx.out.size; omega))
                clear hbb hbb2 hab
                unfold wrongE
                go_wp2_with fail
                refine leaves_cons (f := 13) (args := #[.pointer (some ⟨w.heap.size, 0, none⟩), .pointer (some ⟨w.heap.size + 1, 0, none⟩), .pointer (some ⟨w.heap.size + 3, 0, none⟩), .pointer (some ⟨w.heap.size + 2, 0, none⟩)]) (by simp) (by simp [go_sem]) ?_
                refine (catch_panic _ _ _ _ t p en wb ht hpt w.heap.size ⟨by omega, by omega, by omega⟩ HCS.out).mono ?_
                rintro e u' w2 ⟨rfl, rfl, r1, r2, r3, hb2⟩
                unfold spotV at r3
                refine ⟨_, res15 _ _ (w.heap.size + 1) (w.heap.size + 2) (w.heap.size + 3) _ _ _ _ _ rfl rfl rfl r1 r3 r2, ?_⟩
                show ParseR t (parseB t.data.toList) w _ _
                rw [Hpb.out]
                refine ⟨HBB.out.trans hb2, ?_⟩
                show _ = Ending.returned (.tuple #[_, .agg (spotR t p), _])
                rw [Hsp.out]; rfl
              | ok T2 =>
                rintro e w9 ⟨rfl, haf, B1', m1, e1', B2', m2, e2', hts2⟩
                have HAD2 : Hid (addsB (classNames xs) ⟨[], []⟩ xs = addsB (classNames xs) T2 (xs.drop (k + 1))) := by
                  show _ = _
                  rw [HAD.out, hdrop, addsB, hab]; rfl
                have HAF2 : Hid (AF w.heap.size W7 w9) := HAF.out.trans ((AF.alloc wr _ (by have := HAF.out.below.size; have := HBx.out.size; omega)).trans haf)
                have HTS2 := Lib.hid hts2
                have HT82 : Hid (T2.classes.length ≤ 8 ∧ T2.contracts.length ≤ 16) := add_small HT8.out hab
                clear haf hts2 hab
                go_wp2_with fail
                go_roundg (n - (k + 1))
                case measure => rw [Hg2.out]; omega
                case rel => exact ⟨k + 1, T2, B1', m1, e1', B2', m2, e2', by go_num, rfl, by omega, HTS2, HAF2, HAD2, HT82⟩
          · have hkn : k = n := by omega
            subst hkn
            have hI3 : ¬ (k : Int) < (k : Int) := by omega
            have Hpb : Hid (parseB t.data.toList = .ok T1) := by
              show _ = _
              rw [HPB.out, HAD.out, List.drop_of_length_le (by have := HPx.out.len; omega)]; rfl
            have hcs := cs_add HAF.out HTS.out HCS0.out
            have HCS := Lib.hid hcs
            obtain ⟨a1, a2, ha⟩ := hcs.spot
            obtain ⟨e1, he⟩ := hcs.err
            obtain ⟨x0, x1, x2, x3⟩ := two_cells HTS.out.row
            obtain ⟨y0, y1, y2, y3⟩ := two_cells ha
            obtain ⟨z0, z1⟩ := cell_at he 0 (u := e1) rfl
            go_wp2_with fail
            obtain ⟨WF, hWF⟩ : ∃ WF, WF = ((((wr.setCell ⟨w.heap.size + 1, 0, none⟩ (.slice A1 n1 c1)).setCell ⟨w.heap.size + 1, 1, none⟩ (.slice A2 n2 c2)).setCell ⟨w.heap.size + 2, 0, none⟩ (.int .i64 0)).setCell ⟨w.heap.size + 2, 1, none⟩ (.int .i64 0)).setCell ⟨w.heap.size + 3, 0, none⟩ (.int .i64 0) := ⟨_, rfl⟩
            rw [← hWF]
            obtain ⟨f1, f2, f3, f4, f5, f6⟩ := end_stores HTS.out.row ha he hWF
            have HSC : Hid (Sl WF WF.heap.size A1 (T1.classes.flatMap clsCs)) := own_sl (own_keepT HTS.out.own1 f5)
            have HSD : Hid (Sl WF WF.heap.size A2 (T1.contracts.flatMap ctrCs)) := own_sl (own_keepT HTS.out.own2 f6)
            have hcap1 := own_cap HTS.out.own1
            have hcap2 := own_cap HTS.out.own2
            have HBF : Hid (Below w.heap.size w WF) := (HBx.out.trans HAF.out.below).trans f4
            clear hWF x0 x1 x2 x3 y0 y1 y2 y3 z0 z1 f4 f5 f6
            refine leaves_cons (f := 13) (args := #[.pointer (some ⟨w.heap.size, 0, none⟩), .pointer (some ⟨w.heap.size + 1, 0, none⟩), .pointer (some ⟨w.heap.size + 3, 0, none⟩), .pointer (some ⟨w.heap.size + 2, 0, none⟩)]) (by simp) (by simp [go_sem]) ?_
            refine (catch_idle _ _ _ _ _).mono ?_
            rintro e u' w2 ⟨rfl, rfl, hb2⟩
            refine ⟨_, res15 _ _ (w.heap.size + 1) (w.heap.size + 2) (w.heap.size + 3) _ _ _ _ _ rfl rfl rfl (below_cells f1 hb2) (below_cells f2 hb2) (below_cells f3 hb2), ?_⟩
            show ParseR t (parseB t.data.toList) w _ _
            rw [Hpb.out]
            refine ⟨HBF.out.trans (hb2.mono HBF.out.size), .agg #[.slice A1 n1 c1, .slice A2 n2 c2], rfl, ?_⟩
            have l1 := HTS.out.len1
            have l2 := HTS.out.len2
            rw [l1] at hcap1
            rw [l2] at hcap2
            exact ⟨A1, c1, A2, c2, by rw [← l1, ← l2], (HSC.out.below hb2).more hb2.size, (HSD.out.below hb2).more hb2.size, hcap1.1, hcap2.1, hcap1.2, hcap2.2⟩
end Go.Proofs.YtimmffncfkcpfaaGreatDoor
