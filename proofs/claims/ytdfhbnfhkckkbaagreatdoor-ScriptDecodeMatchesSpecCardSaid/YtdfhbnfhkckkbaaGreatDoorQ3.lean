/-
  The reference's reader and the worlds of its Decode (first part printed by portQ3.py).
  The reference's count of elements and config.
-/
import Derived.Test.YtdfhbnfhkckkbaaGreatDoorQ1
namespace Go.Proofs.YtdfhbnfhkckkbaaGreatDoor
open Go Go.RowKit Go.Walks

def RdN (r : Nat) (l : Bytes) (e : Nat) (W : World) : Prop := ∃ A c, W.heap[r]? = some (.cells #[.slice A l.length c, errI e] 106) ∧ Sl W r A (Lib.byteCells l) ∧ l.length ≤ c ∧ l.length ≤ 1000000000 ∧ c ≤ 9223372036854775807
theorem RdN.lt {r e : Nat} {l : Bytes} {W : World} (h : RdN r l e W) : r < W.heap.size := by obtain ⟨A, c, h, -⟩ := h; exact (Array.getElem?_eq_some_iff.1 h).1
theorem RdN.below {r e : Nat} {l : Bytes} {W W' : World} (h : RdN r l e W) (hb : Below W.heap.size W W') : RdN r l e W' := by
  obtain ⟨A, c, h1, h2, h3⟩ := h
  have hlt := (Array.getElem?_eq_some_iff.1 h1).1
  exact ⟨A, c, (hb.block _ hlt).trans h1, h2.keep fun p hp => hb.cell (Nat.lt_trans hp hlt), h3⟩
theorem rdN_keep {w w' : World} {r e : Nat} {l : Bytes} (h : RdN r l e w) (hk : ∀ k, k ≤ r → w'.heap[k]? = w.heap[k]?) : RdN r l e w' := by
  obtain ⟨A, c, h1, h2, h3⟩ := h
  refine ⟨A, c, (hk r (Nat.le_refl _)).trans h1, h2.keep fun p hp => ?_, h3⟩
  simp only [World.cell?]
  rw [hk _ (Nat.le_of_lt hp)]
structure DN (w : World) (g r s : Nat) (a b c d e f : Int) (T : Option Addr) (nt tc : Nat) (U : Option Addr) (ns uc : Nat) (xs : List Bytes) (ys : List StepD) (l : Bytes) (er : Nat) (W : World) : Prop where
  below : Below w.heap.size w W
  eg : g = w.heap.size
  er_ : r = w.heap.size + 1
  es : s = w.heap.size + 2
  res : W.heap[g]? = some (.cells (scrCs 0 0 0 0 0 0 none 0 0 none 0 0) 27)
  rd : RdN r l er W
  row : W.heap[s]? = some (.cells (scrCs a b c d e f T nt tc U ns uc) 27)
  own1 : W.ownsRow (s + 1) 9 1 (.slice T nt tc) nt (xs.map strV)
  own2 : ∃ ms, W.ownsRow (s + 1) 67 2 (.slice U ns uc) ns ms ∧ StepsT W ys ms
  n1 : nt = xs.length
  n2 : ns = ys.length
section
variable {w W W' : World} {g r s nt tc ns uc er : Nat} {a b c d e f : Int} {T U : Option Addr} {xs : List Bytes} {ys : List StepD} {l : Bytes}
theorem DN.size (h : DN w g r s a b c d e f T nt tc U ns uc xs ys l er W) : s < W.heap.size := (Array.getElem?_eq_some_iff.1 h.row).1
theorem DN.rb {l' : Bytes} {er' : Nat} (h : DN w g r s a b c d e f T nt tc U ns uc xs ys l er W) (hb : RB r W W') (hr : RdN r l' er' W') : DN w g r s a b c d e f T nt tc U ns uc xs ys l' er' W' := by
  obtain ⟨ms, h1, h2⟩ := h.own2
  obtain ⟨A, c0, hrow, -⟩ := h.rd
  have e1 := h.eg
  have e2 := h.er_
  have e3 := h.es
  exact ⟨h.below.trans (hb.below (by omega) h.below.size), e1, e2, e3, hb.row (by omega) h.res, hr, hb.row (by omega) h.row, own_rb' h.own1 hb (by omega), ⟨ms, own_rb' h1 hb (by omega), h2.keep (KeepT.rb hb hrow (by decide))⟩, h.n1, h.n2⟩
theorem DN.call (h : DN w g r s a b c d e f T nt tc U ns uc xs ys l er W) (hb : Below W.heap.size W W') : DN w g r s a b c d e f T nt tc U ns uc xs ys l er W' := h.rb (RB.of_below hb) (h.rd.below hb)
theorem DN.cells (h : DN w g r s a b c d e f T nt tc U ns uc xs ys l er W) : (W.cell? ⟨s, 6, none⟩ = some (.slice T nt tc) ∧ W.cell? ⟨s, 7, none⟩ = some (.slice U ns uc)) ∧ W.frozen? ⟨s, 6, none⟩ = false ∧ W.frozen? ⟨s, 7, none⟩ = false :=
  ⟨⟨(cell_at h.row 6 rfl).1, (cell_at h.row 7 rfl).1⟩, (cell_at (u := .slice T nt tc) h.row 6 rfl).2, (cell_at (u := .slice U ns uc) h.row 7 rfl).2⟩
theorem DN.other (h : DN w g r s a b c d e f T nt tc U ns uc xs ys l er W) (o : Nat) (u : Value) : Below w.heap.size w (W.setCell ⟨s, o, none⟩ u) ∧ (W.setCell ⟨s, o, none⟩ u).heap[g]? = some (.cells (scrCs 0 0 0 0 0 0 none 0 0 none 0 0) 27) ∧ RdN r l er (W.setCell ⟨s, o, none⟩ u) ∧ KeepT 3 W (W.setCell ⟨s, o, none⟩ u) ∧ RB s W (W.setCell ⟨s, o, none⟩ u) := by
  have e1 := h.eg
  have e2 := h.er_
  have e3 := h.es
  exact ⟨h.below.setCell (p := ⟨s, o, none⟩) (by show w.heap.size ≤ s; omega) u, (Below.heap_setCell _ _ _ _ (by show g ≠ s; omega)).trans h.res, rdN_keep h.rd (fun k hk => Below.heap_setCell _ _ _ _ (by show k ≠ s; omega)), KeepT.setCell h.row (by decide) o u, (RB.refl _ _).setCell o u⟩
theorem DN.text {x : Bytes} {A' : Option Addr} {c' : Nat} {o : Obj} (h : DN w g r s a b c d e f T nt tc U ns uc xs ys l er W) (ho : W'.ownsRow (s + 1) 9 1 (.slice A' (nt + 1) c') (nt + 1) (xs.map strV ++ [strV x])) (hg : (W.alloc o).grownBy W' (Value.slice T nt tc).ownBlock) :
    W'.heap[s]? = some (.cells (scrCs a b c d e f T nt tc U ns uc) 27) ∧ DN w g r s a b c d e f A' (nt + 1) c' U ns uc (xs ++ [x]) ys l er (W'.setCell ⟨s, 6, none⟩ (.slice A' (nt + 1) c')) := by
  obtain ⟨ms, h1, h2⟩ := h.own2
  have e1 := h.eg
  have e2 := h.er_
  have e3 := h.es
  have hsz := h.size
  have low : ∀ k, k < s + 1 → W'.heap[k]? = W.heap[k]? := fun k hk => grown_low h.own1 hg hk (by omega)
  have hrow := (low s (by omega)).trans h.row
  have hb : Below w.heap.size w W' := below_append h.below (own_less h.own1 (by omega)) hg
  have k3 : ∀ ty, ty ≠ 9 → KeepT ty W W' := fun ty hty => KeepT.trans (KeepT.alloc W o) (KeepT.grown hg fun k hk => by
    rcases h.own1.2 with ⟨he, _⟩ | ⟨g', cap, cur, he, hle, hh, _⟩
    · rw [he] at hk; simp [Value.ownBlock] at hk
    · rw [he] at hk
      have : g' = k := by simpa [Value.ownBlock] using hk
      subst this
      exact ⟨cur, 9, (0, 0), (below_cells hh ((Below.refl _ W).alloc (Nat.le_refl _) o)), fun e => hty e.symm⟩)
  refine ⟨hrow, hb.setCell (p := ⟨s, 6, none⟩) (by show w.heap.size ≤ s; omega) _, e1, e2, e3, (Below.heap_setCell _ _ _ _ (by show g ≠ s; omega)).trans ((low g (by omega)).trans h.res), rdN_keep h.rd (fun k hk => (Below.heap_setCell _ _ _ _ (by show k ≠ s; omega)).trans (low k (by omega))), (set_at hrow 6 _).trans rfl, ?_, ⟨ms, ?_, ?_⟩, by simp [h.n1], h.n2⟩
  · have := own_rb_lt ho ((RB.refl s W').setCell 6 (.slice A' (nt + 1) c')) (Nat.lt_succ_self _)
    simpa using this
  · exact own_rb_lt (own_keepT h1 (k3 67 (by decide))) ((RB.refl s W').setCell 6 (.slice A' (nt + 1) c')) (Nat.lt_succ_self _)
  · exact (h2.keep (k3 3 (by decide))).keep (KeepT.setCell hrow (by decide) 6 _)
theorem DN.step {x : StepD} {A A' : Option Addr} {c0 c' : Nat} {ms : List Value} {o : Obj} (h : DN w g r s a b c d e f T nt tc U ns uc xs ys l er W) (h1 : W.ownsRow (s + 1) 67 2 (.slice U ns uc) ns ms) (h2 : StepsT W ys ms) (hA : SlT W W.heap.size 3 A (x.args.map intC)) (hc : x.args.length ≤ c0) (ho : W'.ownsRow (s + 1) 67 2 (.slice A' (ns + 1) c') (ns + 1) (ms ++ [.int .i64 x.kind, .slice A x.args.length c0])) (hg : (W.alloc o).grownBy W' (Value.slice U ns uc).ownBlock) :
    W'.heap[s]? = some (.cells (scrCs a b c d e f T nt tc U ns uc) 27) ∧ DN w g r s a b c d e f T nt tc A' (ns + 1) c' xs (ys ++ [x]) l er (W'.setCell ⟨s, 7, none⟩ (.slice A' (ns + 1) c')) := by
  have e1 := h.eg
  have e2 := h.er_
  have e3 := h.es
  have hsz := h.size
  have low : ∀ k, k < s + 1 → W'.heap[k]? = W.heap[k]? := fun k hk => grown_low h1 hg hk (by omega)
  have hrow := (low s (by omega)).trans h.row
  have hb : Below w.heap.size w W' := below_append h.below (own_less h1 (by omega)) hg
  have k3 : ∀ ty, ty ≠ 67 → KeepT ty W W' := fun ty hty => KeepT.trans (KeepT.alloc W o) (KeepT.grown hg fun k hk => by
    rcases h1.2 with ⟨he, _⟩ | ⟨g', cap, cur, he, hle, hh, _⟩
    · rw [he] at hk; simp [Value.ownBlock] at hk
    · rw [he] at hk
      have : g' = k := by simpa [Value.ownBlock] using hk
      subst this
      exact ⟨cur, 67, (0, 0), (below_cells hh ((Below.refl _ W).alloc (Nat.le_refl _) o)), fun e => hty e.symm⟩)
  have kk : KeepT 3 W (W'.setCell ⟨s, 7, none⟩ (.slice A' (ns + 1) c')) := (k3 3 (by decide)).trans (KeepT.setCell hrow (by decide) 7 _)
  refine ⟨hrow, hb.setCell (p := ⟨s, 7, none⟩) (by show w.heap.size ≤ s; omega) _, e1, e2, e3, (Below.heap_setCell _ _ _ _ (by show g ≠ s; omega)).trans ((low g (by omega)).trans h.res), rdN_keep h.rd (fun k hk => (Below.heap_setCell _ _ _ _ (by show k ≠ s; omega)).trans (low k (by omega))), (set_at hrow 7 _).trans rfl, ?_, ⟨ms ++ [.int .i64 x.kind, .slice A x.args.length c0], ?_, ?_⟩, h.n1, by simp [h.n2]⟩
  · exact own_rb_lt (own_keepT h.own1 (k3 9 (by decide))) ((RB.refl s W').setCell 7 (.slice A' (ns + 1) c')) (Nat.lt_succ_self _)
  · exact own_rb_lt ho ((RB.refl s W').setCell 7 (.slice A' (ns + 1) c')) (Nat.lt_succ_self _)
  · exact StepsT.snoc (hA.keepT kk kk.size) hc (h2.keep kk)
theorem DN.script (h : DN w g r s a b c d e f T nt tc U ns uc xs ys l er W) : ScriptP W ⟨[a, b, c, d, e, f], xs, ys⟩ a b c d e f T tc U uc := by
  obtain ⟨ms, h1, h2⟩ := h.own2
  exact ⟨rfl, own_sl h.own1, ⟨ms, own_sl h1, h2.toS⟩, by have := (own_cap h.own1).1; rw [h.n1] at this; exact this, by have := (own_cap h1).1; rw [h.n2] at this; exact this⟩
end
theorem res29 (tmps : Array Value) (w : World) (g : Nat) (cs : Array Value) (u : Value) (hs : cs.size = 8) (hp : tmps.getD 2 undef = .pointer (some ⟨g, 0, none⟩)) (h3 : tmps.getD 3 undef = u) (hg : w.heap[g]? = some (.cells cs 27)) :
    (results Tryz.f29 tmps).run Tryz.prog w = .ok (.tuple #[.agg cs, u]) w := by
  rw [results_cell_tmp (p := 2) (u := 3) (ty := 27) rfl, hp, h3]
  simp [asAddr, run_loadVar_row w g 27 27 cs (0, 0) _ hg Tryz.underlying27 rfl (by rw [hs]; exact info27), Result.andThen]
theorem RdN.len {r e : Nat} {l : Bytes} {W : World} (h : RdN r l e W) : l.length ≤ 1000000000 := by obtain ⟨A, c, h1, h2, h3, h4, h5⟩ := h; exact h4
theorem RdN.cells {r e : Nat} {l : Bytes} {W : World} (h : RdN r l e W) : ∃ A c, W.cell? ⟨r, 0, none⟩ = some (.slice A l.length c) ∧ W.cell? ⟨r, 1, none⟩ = some (.int .i64 (e : Int)) := by
  obtain ⟨A, c, h1, -⟩ := h
  exact ⟨A, c, (two_cells h1).1, (two_cells h1).2.1⟩
theorem DN.start {w : World} {A : Option Addr} {b : Bytes} {c : Nat} (hb : b.length ≤ 1000000) (hc : b.length ≤ c) (hcm : c ≤ 9223372036854775807) (Hs : Sl w w.heap.size A (Lib.byteCells b)) :
    DN w w.heap.size (w.heap.size + 1) (w.heap.size + 1 + 1) 0 0 0 0 0 0 none 0 0 none 0 0 [] [] b 0 (((w.alloc (.cells (scrCs 0 0 0 0 0 0 none 0 0 none 0 0) 27)).alloc (.cells #[.slice A b.length c, .int .i64 0] 106)).alloc (.cells (scrCs 0 0 0 0 0 0 none 0 0 none 0 0) 27)) := by
  obtain ⟨W1, hW1⟩ : ∃ W, W = w.alloc (.cells (scrCs 0 0 0 0 0 0 none 0 0 none 0 0) 27) := ⟨_, rfl⟩
  obtain ⟨W2, hW2⟩ : ∃ W, W = W1.alloc (.cells #[.slice A b.length c, .int .i64 0] 106) := ⟨_, rfl⟩
  obtain ⟨W3, hW3⟩ : ∃ W, W = W2.alloc (.cells (scrCs 0 0 0 0 0 0 none 0 0 none 0 0) 27) := ⟨_, rfl⟩
  rw [← hW1, ← hW2, ← hW3]
  have h1 : Below w.heap.size w W1 := by rw [hW1]; exact (Below.refl _ _).alloc (Nat.le_refl _) _
  have h2 : Below W1.heap.size W1 W2 := by rw [hW2]; exact (Below.refl _ _).alloc (Nat.le_refl _) _
  have h3 : Below W2.heap.size W2 W3 := by rw [hW3]; exact (Below.refl _ _).alloc (Nat.le_refl _) _
  have s1 : W1.heap.size = w.heap.size + 1 := by rw [hW1]; simp
  have s2 : W2.heap.size = w.heap.size + 1 + 1 := by rw [hW2]; simp [s1]
  have r1 : W1.heap[w.heap.size]? = some (.cells (scrCs 0 0 0 0 0 0 none 0 0 none 0 0) 27) := by rw [hW1]; exact heap_new _ _
  have r2 : W2.heap[w.heap.size + 1]? = some (.cells #[.slice A b.length c, .int .i64 0] 106) := by rw [hW2, ← s1]; exact heap_new _ _
  have r3 : W3.heap[w.heap.size + 1 + 1]? = some (.cells (scrCs 0 0 0 0 0 0 none 0 0 none 0 0) 27) := by rw [hW3, ← s2]; exact heap_new _ _
  have b12 := h1.trans (h2.mono h1.size)
  have b13 := b12.trans (h3.mono b12.size)
  exact ⟨b13, rfl, rfl, rfl, below_cells (below_cells r1 h2) h3, ⟨A, c, below_cells r2 h3, (Hs.below b13).more (by omega), hc, by omega, hcm⟩, r3, own_nil _ _ _ _, ⟨[], own_nil _ _ _ _, rfl⟩, rfl, rfl⟩
theorem DN.cfg {w W : World} {g r s nt tc ns uc er : Nat} {a b c d e f : Int} {T U : Option Addr} {xs : List Bytes} {ys : List StepD} {l : Bytes} (h : DN w g r s a b c d e f T nt tc U ns uc xs ys l er W) (p q x y z u : Int) :
    DN w g r s p q x y z u T nt tc U ns uc xs ys l er ((((((W.setCell ⟨s, 0, none⟩ (.int .i64 p)).setCell ⟨s, 1, none⟩ (.int .i64 q)).setCell ⟨s, 2, none⟩ (.int .i64 x)).setCell ⟨s, 3, none⟩ (.int .i64 y)).setCell ⟨s, 4, none⟩ (.int .i64 z)).setCell ⟨s, 5, none⟩ (.int .i64 u)) := by
  have one : ∀ {a b c d e f : Int} {W : World} (h : DN w g r s a b c d e f T nt tc U ns uc xs ys l er W) (o : Nat) (v : Value) {a' b' c' d' e' f' : Int}, (scrCs a b c d e f T nt tc U ns uc).setIfInBounds o v = scrCs a' b' c' d' e' f' T nt tc U ns uc → DN w g r s a' b' c' d' e' f' T nt tc U ns uc xs ys l er (W.setCell ⟨s, o, none⟩ v) := by
    intro a b c d e f W h o v a' b' c' d' e' f' hv
    obtain ⟨k1, k2, k3, k4, k5⟩ := h.other o v
    obtain ⟨ms, m1, m2⟩ := h.own2
    exact ⟨k1, h.eg, h.er_, h.es, k2, k3, (set_at h.row o v).trans (by rw [hv]), own_rb_lt h.own1 k5 (Nat.lt_succ_self _), ⟨ms, own_rb_lt m1 k5 (Nat.lt_succ_self _), m2.keep k4⟩, h.n1, h.n2⟩
  exact one (one (one (one (one (one h 0 (.int .i64 p) rfl) 1 (.int .i64 q) rfl) 2 (.int .i64 x) rfl) 3 (.int .i64 y) rfl) 4 (.int .i64 z) rfl) 5 (.int .i64 u) rfl
theorem zer8N_row {w : World} {g : Nat} (h : w.heap[g]? = some (.cells (scrCs 0 0 0 0 0 0 none 0 0 none 0 0) 27)) : (zer8 w g).heap[g]? = some (.cells (scrCs 0 0 0 0 0 0 none 0 0 none 0 0) 27) := by
  unfold zer8
  rw [heap_drew]
  exact set_same (set_same (set_same (set_same (set_same (set_same (set_same (set_same h rfl) rfl) rfl) rfl) rfl) rfl) rfl) rfl
theorem DN.final {w W : World} {g r s nt tc ns uc er : Nat} {a b c d e f : Int} {T U : Option Addr} {xs : List Bytes} {ys : List StepD} {l : Bytes} (h : DN w g r s a b c d e f T nt tc U ns uc xs ys l er W) (cs : Array Value) : ScriptP (W.setRow g cs) ⟨[a, b, c, d, e, f], xs, ys⟩ a b c d e f T tc U uc := by
  obtain ⟨ms, h1, h2⟩ := h.own2
  have e1 := h.eg
  have e3 := h.es
  have k1 := own_rb_lt h.own1 (rb_setRow1 g W cs) (by omega)
  have k2 := own_rb_lt h1 (rb_setRow1 g W cs) (by omega)
  exact ⟨rfl, own_sl k1, ⟨ms, own_sl k2, (h2.keep (keep_setRow h.res (by decide) cs)).toS⟩, by have := (own_cap h.own1).1; rw [h.n1] at this; exact this, by have := (own_cap h1).1; rw [h.n2] at this; exact this⟩


set_option maxRecDepth 100000 in
set_option maxHeartbeats 400000 in
theorem rtake_bad (r er : Nat) (l : Bytes) (u : Int) (w : World) (he : er ≠ 0) (Hr : Hid (RdN r l 0 w)) : Calls Tryz.prog 77 #[.pointer (some ⟨r, 0, none⟩), .int .i64 u, .int .i64 (er : Int)] w fun e w' => e = .returned (.tuple #[]) ∧ RB r w w' ∧ RdN r l er w' := by
  obtain ⟨A, c, hrow, hsl, hc⟩ := Hr.out
  obtain ⟨z0, z1, y0, y1⟩ := two_cells hrow
  have q1 : ((er : Int) != 0) = true := by rw [bne_iff_ne]; omega
  have Hrow := Lib.hid hrow
  have Hsl := Lib.hid hsl
  have Hc := Lib.hid hc
  unfold errI at z1
  clear hrow hsl hc he
  go_enter Tryz.func77, Tryz.ntmps77
  go_wp2_with fail
  refine bodyPost_ret (results_none (by rfl) _ _ _) rfl ?_
  exact ⟨rfl, (RB.refl _ _).setCell 1 _, A, c, two_set1 Hrow.out _, sl_setR Hsl.out 1 _, Hc.out⟩
set_option maxRecDepth 100000 in
set_option maxHeartbeats 400000 in
theorem rtake_ok (r : Nat) (l : Bytes) (k : Nat) (w : World) (hk1 : 1 ≤ k) (hkl : k ≤ l.length) (Hr : Hid (RdN r l 0 w)) : Calls Tryz.prog 77 #[.pointer (some ⟨r, 0, none⟩), .int .i64 (k : Int), .int .i64 0] w fun e w' => e = .returned (.tuple #[]) ∧ RB r w w' ∧ RdN r (l.drop k) 0 w' := by
  obtain ⟨A, c, hrow, hsl, hc, hl, hcm⟩ := Hr.out
  obtain ⟨c0, hc0⟩ : ∃ y, l[0]? = some y := ⟨l[0]'(by omega), List.getElem?_eq_getElem _⟩
  obtain ⟨b, o, hA, -, -⟩ := byte_at hsl hc0
  subst hA
  have Hdr := Lib.hid (sl_from hsl hkl hc)
  have Hrow := Lib.hid hrow
  obtain ⟨m, hm⟩ : ∃ m, m = l.length := ⟨_, rfl⟩
  have Hdl : Hid ((l.drop k).length = m - k) := by show _ = _; rw [List.length_drop, hm]
  rw [← hm] at Hrow hc hl hkl
  obtain ⟨z0, z1, y0, y1⟩ := two_cells Hrow.out
  unfold errI at z1
  clear hrow hsl hm hc0 c0
  by_cases hck : c = k
  · subst hck
    obtain rfl : m = c := by omega
    go_enter Tryz.func77, Tryz.ntmps77
    go_wp2_with fail
    go_end0
    refine ⟨rfl, (RB.refl _ _).setCell 0 _, some ⟨b, o, none⟩, 0, ?_, ?_, ?_, ?_⟩
    · rw [Hdl.out, Nat.sub_self]; exact two_set0 Hrow.out _
    · have := Hdr.out
      simp only [if_true] at this
      exact sl_setR this 0 _
    · rw [Hdl.out, Nat.sub_self]; exact Nat.le_refl _
    · rw [Hdl.out]; exact ⟨by omega, by omega⟩
  · go_enter Tryz.func77, Tryz.ntmps77
    go_wp2_with fail
    go_end0
    refine ⟨rfl, (RB.refl _ _).setCell 0 _, some ⟨b, o + k, none⟩, c - k, ?_, ?_, ?_, ?_⟩
    · rw [Hdl.out]; exact two_set0 Hrow.out _
    · have := Hdr.out
      rw [if_neg hck] at this
      exact sl_setR this 0 _
    · rw [Hdl.out]; omega
    · rw [Hdl.out]; exact ⟨by omega, by omega⟩
/-- The slice in a reader, for a callee. -/
theorem RdN.sl {r e : Nat} {l : Bytes} {W : World} (h : RdN r l e W) : ∃ A c, (W.cell? ⟨r, 0, none⟩ = some (.slice A l.length c) ∧ W.cell? ⟨r, 1, none⟩ = some (.int .i64 (e : Int))) ∧ Sl W W.heap.size A (Lib.byteCells l) ∧ l.length ≤ c ∧ l.length ≤ 1000000000 ∧ c ≤ 9223372036854775807 := by
  obtain ⟨A, c, hrow, hsl, hc⟩ := h
  obtain ⟨z0, z1, -⟩ := two_cells hrow
  exact ⟨A, c, ⟨z0, z1⟩, hsl.more (Nat.le_of_lt (Array.getElem?_eq_some_iff.1 hrow).1), hc⟩
theorem RdN.below' {r e : Nat} {l : Bytes} {W W' : World} (h : RdN r l e W) (hb : Below W.heap.size W W') : RB r W W' ∧ RdN r l e W' := ⟨RB.of_below hb, h.below hb⟩
set_option maxRecDepth 100000 in
set_option maxHeartbeats 400000 in
theorem rtakeI_any (r e0 : Nat) (l : Bytes) (w : World) (Hr : Hid (RdN r l e0 w)) : Calls Tryz.prog 78 #[.pointer (some ⟨r, 0, none⟩)] w fun e w' => e = .returned (.int .i64 (tkI l e0).1) ∧ RB r w w' ∧ RdN r (tkI l e0).2.1 (tkI l e0).2.2 w' := by
  obtain ⟨A, c, ⟨z0, z1⟩, hsl, hc, hl, hcm⟩ := Hr.out.sl
  by_cases h0 : e0 = 0
  · subst h0
    have hg := rgetint_any l A c w hl hc (Lib.hid hsl)
    have z1 : w.cell? ⟨r, 1, none⟩ = some (.int .i64 0) := z1
    cases hx : getIntB l with
    | error er =>
      rw [hx] at hg
      have he := getInt_err hx
      have HX : Hid (tkI l 0 = (0, l, er)) := by show _ = _; unfold tkI; rw [if_neg (by simp), hx]
      have HT : Hid (∀ u W, RdN r l 0 W → Calls Tryz.prog 77 #[.pointer (some ⟨r, 0, none⟩), .int .i64 u, .int .i64 (er : Int)] W fun e w' => e = .returned (.tuple #[]) ∧ RB r W w' ∧ RdN r l er w') := Lib.hid fun u W h => rtake_bad r er l u W (by omega) (Lib.hid h)
      have Hg := Lib.hid hg
      clear hg hx he hsl hc hl hcm
      obtain ⟨m, hm⟩ : ∃ m, m = l.length := ⟨_, rfl⟩
      rw [← hm] at Hg z0
      clear hm
      go_enter Tryz.func78, Tryz.ntmps78
      go_wp2_with fail
      refine Hg.out.mono ?_
      unfold GetIntRB gotV errI
      rintro e w1 ⟨rfl, hb⟩
      obtain ⟨hb1, hr1⟩ := Hr.out.below' hb
      have HB1 := Lib.hid hb1
      have HR1 := Lib.hid hr1
      clear hb hb1 hr1
      go_wp2_with fail
      refine (HT.out _ _ HR1.out).mono ?_
      rintro e w2 ⟨rfl, hb2, hr2⟩
      have HB2 := Lib.hid (HB1.out.trans hb2)
      have HR2 := Lib.hid hr2
      clear hb2 hr2
      go_wp2_with fail
      go_ret
      rw [HX.out]
      exact ⟨rfl, HB2.out, HR2.out⟩
    | ok nk =>
      obtain ⟨n, k⟩ := nk
      rw [hx] at hg
      obtain ⟨hk1, hkl⟩ := getInt_pos hx
      have HX : Hid (tkI l 0 = (n, l.drop k, 0)) := by show _ = _; unfold tkI; rw [if_neg (by simp), hx]
      have HT : Hid (∀ W, RdN r l 0 W → Calls Tryz.prog 77 #[.pointer (some ⟨r, 0, none⟩), .int .i64 (k : Int), .int .i64 0] W fun e w' => e = .returned (.tuple #[]) ∧ RB r W w' ∧ RdN r (l.drop k) 0 w') := Lib.hid fun W h => rtake_ok r l k W hk1 hkl (Lib.hid h)
      have Hg := Lib.hid hg
      clear hg hx hk1 hkl hsl hc hl hcm
      obtain ⟨m, hm⟩ : ∃ m, m = l.length := ⟨_, rfl⟩
      rw [← hm] at Hg z0
      clear hm
      go_enter Tryz.func78, Tryz.ntmps78
      go_wp2_with fail
      refine Hg.out.mono ?_
      unfold GetIntRB gotV
      rintro e w1 ⟨rfl, hb⟩
      obtain ⟨hb1, hr1⟩ := Hr.out.below' hb
      have HB1 := Lib.hid hb1
      have HR1 := Lib.hid hr1
      clear hb hb1 hr1
      go_wp2_with fail
      refine (HT.out _ HR1.out).mono ?_
      rintro e w2 ⟨rfl, hb2, hr2⟩
      have HB2 := Lib.hid (HB1.out.trans hb2)
      have HR2 := Lib.hid hr2
      clear hb2 hr2
      go_wp2_with fail
      go_ret
      rw [HX.out]
      exact ⟨rfl, HB2.out, HR2.out⟩
  · have q1 : ((e0 : Int) != 0) = true := by rw [bne_iff_ne]; omega
    have HX : Hid (tkI l e0 = (0, l, e0)) := by show _ = _; unfold tkI; rw [if_pos h0]
    clear h0 hsl hc hl hcm z0
    go_enter Tryz.func78, Tryz.ntmps78
    go_wp2_with fail
    go_ret
    rw [HX.out]
    exact ⟨rfl, RB.refl _ _, Hr.out⟩
set_option maxRecDepth 100000 in
set_option maxHeartbeats 400000 in
theorem rtakeL_any (r e0 : Nat) (l : Bytes) (w : World) (Hr : Hid (RdN r l e0 w)) : Calls Tryz.prog 73 #[.pointer (some ⟨r, 0, none⟩)] w fun e w' => RB r w w' ∧ RdN r (tkL l e0).2.1 (tkL l e0).2.2 w' ∧ IntsV w.heap.size (tkL l e0).1 (tkL l e0).1.length e w' := by
  obtain ⟨A, c, ⟨z0, z1⟩, hsl, hc, hl, hcm⟩ := Hr.out.sl
  by_cases h0 : e0 = 0
  · subst h0
    have hg := rgetints_any l A c w hl hc hcm (Lib.hid hsl)
    have z1 : w.cell? ⟨r, 1, none⟩ = some (.int .i64 0) := z1
    cases hx : getIntsB l with
    | error er =>
      rw [hx] at hg
      have he := getInts_err hx
      have HX : Hid (tkL l 0 = ([], l, er)) := by show _ = _; unfold tkL; rw [if_neg (by simp), hx]
      have HT : Hid (∀ u W, RdN r l 0 W → Calls Tryz.prog 77 #[.pointer (some ⟨r, 0, none⟩), .int .i64 u, .int .i64 (er : Int)] W fun e w' => e = .returned (.tuple #[]) ∧ RB r W w' ∧ RdN r l er w') := Lib.hid fun u W h => rtake_bad r er l u W (by omega) (Lib.hid h)
      have Hg := Lib.hid hg
      clear hg hx he hsl hc hl hcm
      obtain ⟨m, hm⟩ : ∃ m, m = l.length := ⟨_, rfl⟩
      rw [← hm] at Hg z0
      clear hm
      go_enter Tryz.func73, Tryz.ntmps73
      go_wp2_with fail
      refine Hg.out.mono ?_
      unfold GetIntsR errI
      rintro e w1 ⟨hb, rfl⟩
      obtain ⟨hb1, hr1⟩ := Hr.out.below' hb
      have HB1 := Lib.hid hb1
      have HR1 := Lib.hid hr1
      clear hb hb1 hr1
      go_wp2_with fail
      refine (HT.out _ _ HR1.out).mono ?_
      rintro e w2 ⟨rfl, hb2, hr2⟩
      have HB2 := Lib.hid (HB1.out.trans hb2)
      have HR2 := Lib.hid hr2
      clear hb2 hr2
      go_wp2_with fail
      go_ret
      rw [HX.out]
      exact ⟨HB2.out, HR2.out, none, 0, rfl, own_nil _ _ _ _⟩
    | ok nk =>
      obtain ⟨n, k⟩ := nk
      rw [hx] at hg
      obtain ⟨hk1, hkl⟩ := getInts_pos hx
      have HX : Hid (tkL l 0 = (n, l.drop k, 0)) := by show _ = _; unfold tkL; rw [if_neg (by simp), hx]
      have HT : Hid (∀ W, RdN r l 0 W → Calls Tryz.prog 77 #[.pointer (some ⟨r, 0, none⟩), .int .i64 (k : Int), .int .i64 0] W fun e w' => e = .returned (.tuple #[]) ∧ RB r W w' ∧ RdN r (l.drop k) 0 w') := Lib.hid fun W h => rtake_ok r l k W hk1 hkl (Lib.hid h)
      have Hg := Lib.hid hg
      have hrs : r < w.heap.size := Hr.out.lt
      have Hrs := Lib.hid hrs
      clear hg hx hk1 hkl hsl hc hl hcm hrs
      obtain ⟨m, hm⟩ : ∃ m, m = l.length := ⟨_, rfl⟩
      rw [← hm] at Hg z0
      clear hm
      go_enter Tryz.func73, Tryz.ntmps73
      go_wp2_with fail
      refine Hg.out.mono ?_
      unfold GetIntsR
      rintro e w1 ⟨hb, A1, c1, rfl, ho1⟩
      obtain ⟨hb1, hr1⟩ := Hr.out.below' hb
      have HB1 := Lib.hid hb1
      have HR1 := Lib.hid hr1
      have HO1 := Lib.hid ho1
      clear hb hb1 hr1 ho1
      go_wp2_with fail
      refine (HT.out _ HR1.out).mono ?_
      rintro e w2 ⟨rfl, hb2, hr2⟩
      have HB2 := Lib.hid (HB1.out.trans hb2)
      have HR2 := Lib.hid hr2
      have HO2 := Lib.hid (own_rb' HO1.out hb2 Hrs.out)
      clear hb2 hr2
      go_wp2_with fail
      go_ret
      rw [HX.out]
      exact ⟨HB2.out, HR2.out, _, _, rfl, HO2.out⟩
  · have q1 : ((e0 : Int) != 0) = true := by rw [bne_iff_ne]; omega
    have HX : Hid (tkL l e0 = ([], l, e0)) := by show _ = _; unfold tkL; rw [if_pos h0]
    clear h0 hsl hc hl hcm z0
    go_enter Tryz.func73, Tryz.ntmps73
    go_wp2_with fail
    go_ret
    rw [HX.out]
    exact ⟨RB.refl _ _, Hr.out, none, 0, rfl, own_nil _ _ _ _⟩
end Go.Proofs.YtdfhbnfhkckkbaaGreatDoor
namespace Go.Proofs.YtdfhbnfhkckkbaaGreatDoor
open Go Go.RowKit Go.Walks

theorem RdN.setE {r e : Nat} {l : Bytes} {W : World} (h : RdN r l e W) (e' : Nat) : RB r W (W.setCell ⟨r, 1, none⟩ (.int .i64 (e' : Int))) ∧ RdN r l e' (W.setCell ⟨r, 1, none⟩ (.int .i64 (e' : Int))) := by
  obtain ⟨A, c, hrow, hsl, hc⟩ := h
  exact ⟨(RB.refl _ _).setCell 1 _, A, c, two_set1 hrow _, sl_setR hsl 1 _, hc⟩
theorem RdN.e {r e : Nat} {l : Bytes} {W : World} (h : RdN r l e W) : W.cell? ⟨r, 1, none⟩ = some (.int .i64 (e : Int)) ∧ W.frozen? ⟨r, 1, none⟩ = false := by obtain ⟨A, c, h, -⟩ := h; exact ⟨(two_cells h).2.1, (two_cells h).2.2.2⟩
def CntN (r : Nat) (x : Int × Bytes × Nat) (w : World) (e : Ending) (w' : World) : Prop := e = .returned (.int .i64 x.1) ∧ RB r w w' ∧ RdN r x.2.1 x.2.2 w'
theorem cntSt_tk (top : Int) (l : Bytes) (e0 : Nat) : cntSt top l e0 = if (tkI l e0).2.2 = 0 then (if 0 ≤ (tkI l e0).1 ∧ (tkI l e0).1 ≤ top then ((tkI l e0).1, (tkI l e0).2.1, 0) else (0, (tkI l e0).2.1, 6)) else (0, (tkI l e0).2.1, (tkI l e0).2.2) := by
  by_cases h0 : e0 = 0
  · subst h0
    have ht : tkI l 0 = (match getIntB l with
      | .error er => (0, l, er)
      | .ok (x, k) => (x, l.drop k, 0)) := by unfold tkI; rw [if_neg (by simp)]; rfl
    unfold cntSt
    rw [if_neg (by simp), ht]
    cases hx : getIntB l with
    | error er =>
      have := getInt_err hx
      dsimp only
      rw [if_neg (by omega)]
    | ok nk => rfl
  · have ht : tkI l e0 = (0, l, e0) := by unfold tkI; rw [if_pos h0]
    unfold cntSt
    rw [ht, if_pos h0]
    dsimp only
    rw [if_neg h0]
set_option maxRecDepth 100000 in
set_option maxHeartbeats 400000 in
theorem rcnt_any (r e0 : Nat) (top : Int) (l : Bytes) (w : World) (Hr : Hid (RdN r l e0 w)) : Calls Tryz.prog 75 #[.pointer (some ⟨r, 0, none⟩), .int .i64 top] w (CntN r (cntSt top l e0) w) := by
  have HT := Lib.hid (rtakeI_any r e0 l w Hr)
  have HX := Lib.hid (cntSt_tk top l e0)
  obtain ⟨n, hn⟩ : ∃ n, n = (tkI l e0).1 := ⟨_, rfl⟩
  obtain ⟨l1, hl1⟩ : ∃ n, n = (tkI l e0).2.1 := ⟨_, rfl⟩
  obtain ⟨e1, he1⟩ : ∃ n, n = (tkI l e0).2.2 := ⟨_, rfl⟩
  obtain ⟨x, hx⟩ : ∃ x, x = cntSt top l e0 := ⟨_, rfl⟩
  rw [← hn, ← hl1, ← he1] at HX HT
  rw [← hx] at HX ⊢
  clear hn hl1 he1 hx
  by_cases h1 : e1 = 0
  · subst h1
    by_cases hr : 0 ≤ n ∧ n ≤ top
    · have hx : x = (n, l1, 0) := by rw [HX.out, if_pos rfl, if_pos hr]
      obtain ⟨hr1, hr2⟩ := hr
      have q1 : decide (n < 0) = false := decide_eq_false (by omega)
      have q2 : decide (top < n) = false := decide_eq_false (by omega)
      subst hx
      go_enter Tryz.func75, Tryz.ntmps75
      go_wp2_with fail
      refine HT.out.mono ?_
      rintro e w1 ⟨rfl, hb1, hr1⟩
      have HB1 := Lib.hid hb1
      have HR1 := Lib.hid hr1
      have z1 : w1.cell? ⟨r, 1, none⟩ = some (.int .i64 0) := hr1.e.1
      clear hb1 hr1
      go_wp2_with fail
      go_ret
      exact ⟨rfl, HB1.out, HR1.out⟩
    · have hx : x = (0, l1, 6) := by rw [HX.out, if_pos rfl, if_neg hr]
      subst hx
      by_cases hn0 : n < 0
      · have q1 : decide (n < 0) = true := decide_eq_true hn0
        clear hr
        go_enter Tryz.func75, Tryz.ntmps75
        go_wp2_with fail
        refine HT.out.mono ?_
        rintro e w1 ⟨rfl, hb1, hr1⟩
        obtain ⟨hb2, hr2⟩ := hr1.setE 6
        have HB2 := Lib.hid (hb1.trans hb2)
        have HR2 := Lib.hid hr2
        have z1 : w1.cell? ⟨r, 1, none⟩ = some (.int .i64 0) := hr1.e.1
        have y1 := hr1.e.2
        clear hb1 hr1 hb2 hr2
        go_wp2_with fail
        go_ret
        exact ⟨rfl, HB2.out, HR2.out⟩
      · have q1 : decide (n < 0) = false := decide_eq_false hn0
        have q2 : decide (top < n) = true := decide_eq_true (by omega)
        clear hr
        go_enter Tryz.func75, Tryz.ntmps75
        go_wp2_with fail
        refine HT.out.mono ?_
        rintro e w1 ⟨rfl, hb1, hr1⟩
        obtain ⟨hb2, hr2⟩ := hr1.setE 6
        have HB2 := Lib.hid (hb1.trans hb2)
        have HR2 := Lib.hid hr2
        have z1 : w1.cell? ⟨r, 1, none⟩ = some (.int .i64 0) := hr1.e.1
        have y1 := hr1.e.2
        clear hb1 hr1 hb2 hr2
        go_wp2_with fail
        go_ret
        exact ⟨rfl, HB2.out, HR2.out⟩
  · have hx : x = (0, l1, e1) := by rw [HX.out, if_neg h1]
    have q1 : ((e1 : Int) == 0) = false := bne_int (by omega)
    have q2 : ((e1 : Int) != 0) = true := by rw [bne_iff_ne]; omega
    subst hx
    clear h1
    go_enter Tryz.func75, Tryz.ntmps75
    go_wp2_with fail
    refine HT.out.mono ?_
    rintro e w1 ⟨rfl, hb1, hr1⟩
    have HB1 := Lib.hid hb1
    have HR1 := Lib.hid hr1
    have z1 : w1.cell? ⟨r, 1, none⟩ = some (.int .i64 (e1 : Int)) := hr1.e.1
    clear hb1 hr1
    go_wp2_with fail
    go_ret
    exact ⟨rfl, HB1.out, HR1.out⟩
theorem res74 (tmps : Array Value) (w : World) (g : Nat) (cs : Array Value) (hs : cs.size = 6) (hp : tmps.getD 2 undef = .pointer (some ⟨g, 0, none⟩)) (hg : w.heap[g]? = some (.cells cs 23)) :
    (results Tryz.f74 tmps).run Tryz.prog w = .ok (.agg cs) w := by
  obtain ⟨a, b, c, d, e, f, rfl⟩ : ∃ a b c d e f, cs = #[a, b, c, d, e, f] := by
    obtain ⟨l⟩ := cs
    match l, hs with
    | [a, b, c, d, e, f], _ => exact ⟨a, b, c, d, e, f, rfl⟩
  exact results_cell_row (p := 2) (ty := 23) rfl tmps w g 23 #[a, b, c, d, e, f] (0, 0) _ hp hg Tryz.underlying23 rfl info23
set_option maxRecDepth 100000 in
set_option maxHeartbeats 1000000 in
theorem rconfig_any (a b c d e f : Int) (A : Option Addr) (cap : Nat) (w : World) (Hs : Hid (Sl w w.heap.size A ([a, b, c, d, e, f].map intC))) : Calls Tryz.prog 74 #[.slice A 6 cap] w fun en w' => en = .returned (.agg #[.int .i64 a, .int .i64 b, .int .i64 c, .int .i64 d, .int .i64 e, .int .i64 f]) ∧ Below w.heap.size w w' := by
  obtain ⟨g, o, hA, hgw, c0⟩ := int_at Hs.out (k := 0) (x := a) rfl
  subst hA
  have hcs : ∀ k x, [a, b, c, d, e, f][k]? = some x → w.cell? ⟨g, o + k, none⟩ = some (.int .i64 x) := fun k x hx => by
    obtain ⟨g', o', hA, -, h⟩ := int_at Hs.out hx
    obtain ⟨rfl, rfl⟩ : g = g' ∧ o = o' := by simpa using hA
    exact h
  obtain ⟨r, hr⟩ : ∃ r, r = w.heap.size := ⟨_, rfl⟩
  obtain ⟨W1, hW1⟩ : ∃ W, W = w.alloc (.cells #[.int .i64 0, .int .i64 0, .int .i64 0, .int .i64 0, .int .i64 0, .int .i64 0] 23) := ⟨_, rfl⟩
  have hb1 : Below w.heap.size w W1 := by rw [hW1]; exact (Below.refl _ _).alloc (Nat.le_refl _) _
  have hr1 : W1.heap[r]? = some (.cells #[.int .i64 0, .int .i64 0, .int .i64 0, .int .i64 0, .int .i64 0, .int .i64 0] 23) := by rw [hW1, hr]; exact heap_new _ _
  have hk : ∀ k x, [a, b, c, d, e, f][k]? = some x → W1.cell? ⟨g, o + k, none⟩ = some (.int .i64 x) := fun k x hx => (hb1.cell (p := ⟨g, o + k, none⟩) hgw).trans (hcs k x hx)
  have d0 := hk 0 a rfl
  have d1 := hk 1 b rfl
  have d2 := hk 2 c rfl
  have d3 := hk 3 d rfl
  have d4 := hk 4 e rfl
  have d5 := hk 5 f rfl
  rw [Nat.add_zero] at d0
  have HB := Lib.hid hb1
  have HR := Lib.hid hr1
  have Hr : Hid (r = w.heap.size) := hr
  obtain ⟨z0, y0⟩ := cell_at hr1 0 rfl
  obtain ⟨z1, y1⟩ := cell_at hr1 1 rfl
  obtain ⟨z2, y2⟩ := cell_at hr1 2 rfl
  obtain ⟨z3, y3⟩ := cell_at hr1 3 rfl
  obtain ⟨z4, y4⟩ := cell_at hr1 4 rfl
  obtain ⟨z5, y5⟩ := cell_at hr1 5 rfl
  clear hk hcs c0 hb1 hr1
  go_enter Tryz.func74, Tryz.ntmps74
  go_upto_region 1 with fail
  rw [← hW1, ← hr]
  clear hW1 hr
  go_region
  obtain ⟨W2, hW2⟩ : ∃ W, W = ((((((W1.setCell ⟨r, 0, none⟩ (.int .i64 a)).setCell ⟨r, 1, none⟩ (.int .i64 b)).setCell ⟨r, 2, none⟩ (.int .i64 c)).setCell ⟨r, 3, none⟩ (.int .i64 d)).setCell ⟨r, 4, none⟩ (.int .i64 e)).setCell ⟨r, 5, none⟩ (.int .i64 f)).drew := ⟨_, rfl⟩
  have HR6 : Hid (W2.heap[r]? = some (.cells #[.int .i64 a, .int .i64 b, .int .i64 c, .int .i64 d, .int .i64 e, .int .i64 f] 23)) := by
    rw [hW2, heap_drew]
    exact six_set HR.out _ _ _ _ _ _
  have HB6 : Hid (Below w.heap.size w W2) := by
    rw [hW2]
    exact six_below HB.out (by rw [Hr.out]; exact Nat.le_refl _) _ _ _ _ _ _
  rw [← hW2]
  clear hW2
  clear z0 z1 z2 z3 z4 z5 y0 y1 y2 y3 y4 y5
  go_wp2_with fail
  refine bodyPost_ret (res74 _ _ _ _ rfl rfl HR6.out) rfl ?_
  exact ⟨rfl, HB6.out⟩
end Go.Proofs.YtdfhbnfhkckkbaaGreatDoor
