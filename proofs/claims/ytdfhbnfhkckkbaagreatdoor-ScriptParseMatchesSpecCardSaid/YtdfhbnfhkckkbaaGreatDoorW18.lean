/-
  The walk of Decode (printed by genW18.py).
-/
import Derived.Test.YtdfhbnfhkckkbaaGreatDoorW17
namespace Go.Proofs.YtdfhbnfhkckkbaaGreatDoor
open Go Go.RowKit Go.Walks

set_option maxRecDepth 100000 in
theorem info35 : (Tryz.prog.info? 35).map (·.size) = some 8 := by kernel_rfl
theorem res28 (tmps : Array Value) (w : World) (g : Nat) (cs : Array Value) (u : Value) (hs : cs.size = 8) (hp : tmps.getD 2 undef = .pointer (some ⟨g, 0, none⟩)) (h3 : tmps.getD 3 undef = u) (hg : w.heap[g]? = some (.cells cs 35)) :
    (results Tryz.f28 tmps).run Tryz.prog w = .ok (.tuple #[.agg cs, u]) w := by
  rw [results_cell_tmp (p := 2) (u := 3) (ty := 35) rfl, hp, h3]
  simp [asAddr, run_loadVar_row w g 35 35 cs (0, 0) _ hg Tryz.underlying35 rfl (by rw [hs]; exact info35), Result.andThen]
/-- What Decode hands back. -/
def DecR (x : Except Nat ScriptD) (w : World) (e : Ending) (w' : World) : Prop := Below w.heap.size w w' ∧ match x with
  | .error er => e = .returned (.tuple #[.agg (scrCs 0 0 0 0 0 0 none 0 0 none 0 0), .int .i64 (er : Int)])
  | .ok S => ∃ v, e = .returned (.tuple #[v, .int .i64 0]) ∧ ScriptS w' S v

def decB4 (cfg : List Int) (ts : List Bytes) (ss : List StepD) (l : Bytes) : Except Nat ScriptD := if l ≠ [] then .error 6 else if (checkB ⟨cfg, ts, ss⟩).2 ≠ 0 then .error 6 else .ok ⟨cfg, ts, ss⟩
def decB3 (cfg : List Int) (ts : List Bytes) (l : Bytes) : Except Nat ScriptD := match rdCount 1000 l with
  | .error e => .error e
  | .ok (m, b4) => match rdL rdStep m b4 with
    | .error e => .error e
    | .ok (ss, b5) => decB4 cfg ts ss b5
def decB2 (cfg : List Int) (l : Bytes) : Except Nat ScriptD := match rdCount 16 l with
  | .error e => .error e
  | .ok (n, b2) => match rdL (rd getBytesB) n b2 with
    | .error e => .error e
    | .ok (ts, b3) => decB3 cfg ts b3
/-- So far: no error and the rest is Y; or the error has come up. -/
def Stat (er : Nat) (X Y : Except Nat ScriptD) : Prop := (er = 0 ∧ X = Y) ∨ (er ≠ 0 ∧ X = .error er)
/-- While the elements are read, an error ahead of them included. -/
def RunE {α : Type} (g : Bytes → Rd α) (N : Nat) (b : Bytes) (e0 : Nat) (k : Nat) (xs : List α) (l : Bytes) (er : Nat) : Prop := (e0 = 0 ∧ RunL g N b k xs l er) ∨ (e0 ≠ 0 ∧ e0 ≤ 100 ∧ N = 0 ∧ k = 0 ∧ xs = [] ∧ l = b ∧ er = e0)
theorem RunE.start {α : Type} (g : Bytes → Rd α) (N : Nat) (b : Bytes) (e0 : Nat) (h : e0 ≤ 100) (hN : e0 ≠ 0 → N = 0) : RunE g N b e0 0 [] b e0 := by
  by_cases h0 : e0 = 0
  · subst h0; exact .inl ⟨rfl, RunL.start g N b⟩
  · exact .inr ⟨h0, h, hN h0, rfl, rfl, rfl, rfl⟩
theorem RunE.len {α : Type} {g : Bytes → Rd α} {N : Nat} {b : Bytes} {e0 k : Nat} {xs : List α} {l : Bytes} {er : Nat} (h : RunE g N b e0 k xs l er) : xs.length = k ∧ er ≤ 100 := by
  rcases h with ⟨_, h⟩ | ⟨_, h1, _, h2, h3, _, h4⟩
  · exact ⟨h.1, h.2.1⟩
  · subst h2 h3 h4; exact ⟨rfl, h1⟩
theorem RunE.text {n : Nat} {b : Bytes} {k e0 : Nat} {xs : List Bytes} {l : Bytes} {er : Nat} (h : RunE (rd getBytesB) n b e0 k xs l er) (hk : k < n) {x l' : Bytes} {er' : Nat} (he : tkS l er = (x, l', er')) : RunE (rd getBytesB) n b e0 (k + 1) (xs ++ [x]) l' er' := by
  rcases h with ⟨h0, h⟩ | ⟨_, _, h, _⟩
  · exact .inl ⟨h0, h.text hk he⟩
  · omega
theorem RunE.step {n : Nat} {b : Bytes} {k e0 : Nat} {xs : List StepD} {l : Bytes} {er : Nat} (h : RunE rdStep n b e0 k xs l er) (hk : k < n) {kd : Int} {l1 : Bytes} {e1 : Nat} (he : tkI l er = (kd, l1, e1)) {x : List Int} {l' : Bytes} {er' : Nat} (he' : tkL l1 e1 = (x, l', er')) : RunE rdStep n b e0 (k + 1) (xs ++ [⟨kd, x⟩]) l' er' := by
  rcases h with ⟨h0, h⟩ | ⟨_, _, h, _⟩
  · exact .inl ⟨h0, h.step hk he he'⟩
  · omega
theorem stat_texts {X : Except Nat ScriptD} {cfg : List Int} {l l2 : Bytes} {e1 e2 : Nat} {m : Int} (h : Stat e1 X (decB2 cfg l)) (hc : cntSt 16 l e1 = (m, l2, e2)) {xs : List Bytes} {l3 : Bytes} {er : Nat} (hr : RunE (rd getBytesB) m.toNat l2 e2 m.toNat xs l3 er) : Stat er X (decB3 cfg xs l3) := by
  obtain ⟨-, -, -, -, h1, h2⟩ := cntSt_rd e1 (by decide) hc
  rcases h with ⟨h0, h⟩ | ⟨h0, h⟩
  · rcases h2 h0 with ⟨h3, h4⟩ | ⟨h3, h4⟩
    · rcases hr with ⟨-, hr⟩ | ⟨hr, _⟩
      · rcases hr.all with ⟨h5, h6⟩ | ⟨h5, h6⟩
        · exact .inl ⟨h5, by rw [h, decB2, h4]; dsimp only; rw [h6]⟩
        · exact .inr ⟨h5, by rw [h, decB2, h4]; dsimp only; rw [h6]⟩
      · exact absurd h3 hr
    · rcases hr with ⟨hr, _⟩ | ⟨_, _, _, _, _, _, hr⟩
      · exact absurd hr h3
      · exact .inr ⟨by rw [hr]; exact h3, by rw [h, decB2, h4, hr]⟩
  · have := h1 h0
    rcases hr with ⟨hr, _⟩ | ⟨_, _, _, _, _, _, hr⟩
    · exact absurd (this.symm.trans hr) h0
    · exact .inr ⟨by rw [hr, this]; exact h0, by rw [h, hr, this]⟩
theorem stat_steps {X : Except Nat ScriptD} {cfg : List Int} {ts : List Bytes} {l l2 : Bytes} {e1 e2 : Nat} {m : Int} (h : Stat e1 X (decB3 cfg ts l)) (hc : cntSt 1000 l e1 = (m, l2, e2)) {xs : List StepD} {l3 : Bytes} {er : Nat} (hr : RunE rdStep m.toNat l2 e2 m.toNat xs l3 er) : Stat er X (decB4 cfg ts xs l3) := by
  obtain ⟨-, -, -, -, h1, h2⟩ := cntSt_rd e1 (by decide) hc
  rcases h with ⟨h0, h⟩ | ⟨h0, h⟩
  · rcases h2 h0 with ⟨h3, h4⟩ | ⟨h3, h4⟩
    · rcases hr with ⟨-, hr⟩ | ⟨hr, _⟩
      · rcases hr.all with ⟨h5, h6⟩ | ⟨h5, h6⟩
        · exact .inl ⟨h5, by rw [h, decB3, h4]; dsimp only; rw [h6]⟩
        · exact .inr ⟨h5, by rw [h, decB3, h4]; dsimp only; rw [h6]⟩
      · exact absurd h3 hr
    · rcases hr with ⟨hr, _⟩ | ⟨_, _, _, _, _, _, hr⟩
      · exact absurd hr h3
      · exact .inr ⟨by rw [hr]; exact h3, by rw [h, decB3, h4, hr]⟩
  · have := h1 h0
    rcases hr with ⟨hr, _⟩ | ⟨_, _, _, _, _, _, hr⟩
    · exact absurd (this.symm.trans hr) h0
    · exact .inr ⟨by rw [hr, this]; exact h0, by rw [h, hr, this]⟩
theorem stat_start {b l1 : Bytes} {e1 : Nat} {x : List Int} (h : tkL b 0 = (x, l1, e1)) : (e1 = 0 → x.length = 6 → Stat 0 (decodeB b) (decB2 x l1)) ∧ (∀ Y, e1 ≠ 0 → Stat e1 (decodeB b) Y) ∧ (∀ Y, e1 = 0 → x.length ≠ 6 → Stat 6 (decodeB b) Y) := by
  unfold tkL at h
  rw [if_neg (by simp)] at h
  cases hx : getIntsB b with
  | error e =>
    have hg : rd getIntsB b = .error e := by unfold rd; rw [hx]
    have := getInts_err hx
    rw [hx] at h; dsimp only at h
    injection h with f1 h; injection h with f2 f3
    subst f1 f2 f3
    exact ⟨fun h => by omega, fun Y _ => .inr ⟨by omega, by rw [decodeB, hg]⟩, fun Y h => by omega⟩
  | ok y =>
    obtain ⟨y, u⟩ := y
    have hg : rd getIntsB b = .ok (y, b.drop u) := by unfold rd; rw [hx]
    rw [hx] at h; dsimp only at h
    injection h with f1 h; injection h with f2 f3
    subst f1 f2 f3
    refine ⟨fun _ h6 => .inl ⟨rfl, ?_⟩, fun Y h => absurd rfl h, fun Y _ h6 => .inr ⟨by omega, ?_⟩⟩
    · rw [decodeB, hg]; dsimp only; rw [if_neg (fun h => h h6)]; rfl
    · rw [decodeB, hg]; dsimp only; rw [if_pos h6]
theorem tkS_len (l : Bytes) (e : Nat) : (tkS l e).1.length ≤ l.length := by
  unfold tkS
  split
  · simp
  · split
    · simp
    · rename_i x k hx
      rw [getBytesB] at hx
      split at hx
      · cases hx
      · injection hx with hx
        injection hx with h1 h2
        rw [← h1]
        simp; omega
theorem tkL_len (l : Bytes) (e : Nat) : (tkL l e).1.length ≤ l.length := by
  unfold tkL
  split
  · simp
  · split
    · simp
    · rename_i x k hx
      rw [getIntsB] at hx
      split at hx
      · cases hx
      · rename_i n j hc
        split at hx
        · cases hx
        · rename_i y u hn
          injection hx with hx
          injection hx with h1 h2
          have a1 := count_can hc
          have a2 := getN_can _ _ _ _ hn
          rw [← h1]
          show y.length ≤ l.length
          omega
theorem RdM.len {r e : Nat} {l : Bytes} {W : World} (h : RdM r l e W) : l.length ≤ 1000000000 := by obtain ⟨A, c, h1, h2, h3, h4, h5⟩ := h; exact h4
theorem RdM.cells {r e : Nat} {l : Bytes} {W : World} (h : RdM r l e W) : ∃ A c, W.cell? ⟨r, 0, none⟩ = some (.slice A l.length c) ∧ W.cell? ⟨r, 1, none⟩ = some (.int .i64 (e : Int)) := by
  obtain ⟨A, c, h1, -⟩ := h
  exact ⟨A, c, (two_cells h1).1, (two_cells h1).2.1⟩
theorem DS.start {w : World} {A : Option Addr} {b : Bytes} {c : Nat} (hb : b.length ≤ 1000000) (hc : b.length ≤ c) (hcm : c ≤ 9223372036854775807) (Hs : Sl w w.heap.size A (Lib.byteCells b)) :
    DS w w.heap.size (w.heap.size + 1) (w.heap.size + 1 + 1) 0 0 0 0 0 0 none 0 0 none 0 0 [] [] b 0 (((w.alloc (.cells (scrCs 0 0 0 0 0 0 none 0 0 none 0 0) 35)).alloc (.cells #[.slice A b.length c, .int .i64 0] 95)).alloc (.cells (scrCs 0 0 0 0 0 0 none 0 0 none 0 0) 35)) := by
  obtain ⟨W1, hW1⟩ : ∃ W, W = w.alloc (.cells (scrCs 0 0 0 0 0 0 none 0 0 none 0 0) 35) := ⟨_, rfl⟩
  obtain ⟨W2, hW2⟩ : ∃ W, W = W1.alloc (.cells #[.slice A b.length c, .int .i64 0] 95) := ⟨_, rfl⟩
  obtain ⟨W3, hW3⟩ : ∃ W, W = W2.alloc (.cells (scrCs 0 0 0 0 0 0 none 0 0 none 0 0) 35) := ⟨_, rfl⟩
  rw [← hW1, ← hW2, ← hW3]
  have h1 : Below w.heap.size w W1 := by rw [hW1]; exact (Below.refl _ _).alloc (Nat.le_refl _) _
  have h2 : Below W1.heap.size W1 W2 := by rw [hW2]; exact (Below.refl _ _).alloc (Nat.le_refl _) _
  have h3 : Below W2.heap.size W2 W3 := by rw [hW3]; exact (Below.refl _ _).alloc (Nat.le_refl _) _
  have s1 : W1.heap.size = w.heap.size + 1 := by rw [hW1]; simp
  have s2 : W2.heap.size = w.heap.size + 1 + 1 := by rw [hW2]; simp [s1]
  have r1 : W1.heap[w.heap.size]? = some (.cells (scrCs 0 0 0 0 0 0 none 0 0 none 0 0) 35) := by rw [hW1]; exact heap_new _ _
  have r2 : W2.heap[w.heap.size + 1]? = some (.cells #[.slice A b.length c, .int .i64 0] 95) := by rw [hW2, ← s1]; exact heap_new _ _
  have r3 : W3.heap[w.heap.size + 1 + 1]? = some (.cells (scrCs 0 0 0 0 0 0 none 0 0 none 0 0) 35) := by rw [hW3, ← s2]; exact heap_new _ _
  have b12 := h1.trans (h2.mono h1.size)
  have b13 := b12.trans (h3.mono b12.size)
  exact ⟨b13, rfl, rfl, rfl, below_cells (below_cells r1 h2) h3, ⟨A, c, below_cells r2 h3, (Hs.below b13).more (by omega), hc, by omega, hcm⟩, r3, own_nil _ _ _ _, ⟨[], own_nil _ _ _ _, rfl⟩, rfl, rfl⟩
theorem DS.cfg {w W : World} {g r s nt tc ns uc er : Nat} {a b c d e f : Int} {T U : Option Addr} {xs : List Bytes} {ys : List StepD} {l : Bytes} (h : DS w g r s a b c d e f T nt tc U ns uc xs ys l er W) (p q x y z u : Int) :
    DS w g r s p q x y z u T nt tc U ns uc xs ys l er ((((((W.setCell ⟨s, 0, none⟩ (.int .i64 p)).setCell ⟨s, 1, none⟩ (.int .i64 q)).setCell ⟨s, 2, none⟩ (.int .i64 x)).setCell ⟨s, 3, none⟩ (.int .i64 y)).setCell ⟨s, 4, none⟩ (.int .i64 z)).setCell ⟨s, 5, none⟩ (.int .i64 u)) := by
  have one : ∀ {a b c d e f : Int} {W : World} (h : DS w g r s a b c d e f T nt tc U ns uc xs ys l er W) (o : Nat) (v : Value) {a' b' c' d' e' f' : Int}, (scrCs a b c d e f T nt tc U ns uc).setIfInBounds o v = scrCs a' b' c' d' e' f' T nt tc U ns uc → DS w g r s a' b' c' d' e' f' T nt tc U ns uc xs ys l er (W.setCell ⟨s, o, none⟩ v) := by
    intro a b c d e f W h o v a' b' c' d' e' f' hv
    obtain ⟨k1, k2, k3, k4, k5⟩ := h.other o v
    obtain ⟨ms, m1, m2⟩ := h.own2
    exact ⟨k1, h.eg, h.er_, h.es, k2, k3, (set_at h.row o v).trans (by rw [hv]), own_rb_lt h.own1 k5 (Nat.lt_succ_self _), ⟨ms, own_rb_lt m1 k5 (Nat.lt_succ_self _), m2.keep k4⟩, h.n1, h.n2⟩
  exact one (one (one (one (one (one h 0 (.int .i64 p) rfl) 1 (.int .i64 q) rfl) 2 (.int .i64 x) rfl) 3 (.int .i64 y) rfl) 4 (.int .i64 z) rfl) 5 (.int .i64 u) rfl
def zer8 (w : World) (g : Nat) : World := ((((((((w.setCell ⟨g, 0, none⟩ (.int .i64 0)).setCell ⟨g, 1, none⟩ (.int .i64 0)).setCell ⟨g, 2, none⟩ (.int .i64 0)).setCell ⟨g, 3, none⟩ (.int .i64 0)).setCell ⟨g, 4, none⟩ (.int .i64 0)).setCell ⟨g, 5, none⟩ (.int .i64 0)).setCell ⟨g, 6, none⟩ (.slice none 0 0)).setCell ⟨g, 7, none⟩ (.slice none 0 0)).drew
theorem set_same {w : World} {g : Nat} {t : TypeId} {cs : Array Value} {o : Nat} {u : Value} (h : w.heap[g]? = some (.cells cs t)) (hu : cs[o]? = some u) : (w.setCell ⟨g, o, none⟩ u).heap[g]? = some (.cells cs t) := by
  rw [set_at h o u]
  have : cs.setIfInBounds o u = cs := by
    obtain ⟨ho, hu⟩ := Array.getElem?_eq_some_iff.1 hu
    apply Array.ext
    · simp
    · intro i h1 h2
      rw [Array.getElem_setIfInBounds]
      split
      · rename_i e; subst e; exact hu.symm
      · rfl
  rw [this]
theorem zer8_row {w : World} {g : Nat} (h : w.heap[g]? = some (.cells (scrCs 0 0 0 0 0 0 none 0 0 none 0 0) 35)) : (zer8 w g).heap[g]? = some (.cells (scrCs 0 0 0 0 0 0 none 0 0 none 0 0) 35) := by
  unfold zer8
  rw [heap_drew]
  exact set_same (set_same (set_same (set_same (set_same (set_same (set_same (set_same h rfl) rfl) rfl) rfl) rfl) rfl) rfl) rfl
theorem zer8_below {w W : World} {g B : Nat} (h : Below B w W) (hg : B ≤ g) : Below B w (zer8 W g) :=
  ((((((((h.setCell (p := ⟨g, 0, none⟩) hg _).setCell (p := ⟨g, 1, none⟩) hg _).setCell (p := ⟨g, 2, none⟩) hg _).setCell (p := ⟨g, 3, none⟩) hg _).setCell (p := ⟨g, 4, none⟩) hg _).setCell (p := ⟨g, 5, none⟩) hg _).setCell (p := ⟨g, 6, none⟩) hg _).setCell (p := ⟨g, 7, none⟩) hg _).drew
theorem scr_one (a b c d e f : Int) (T : Option Addr) (nt tc : Nat) (U : Option Addr) (ns uc : Nat) : (scrCs a b c d e f T nt tc U ns uc).all (·.oneCell') = true := by simp [scrCs, Value.oneCell']
theorem rb_setRow1 (g : Nat) (w : World) (cs : Array Value) : RB g w (w.setRow g cs) := ⟨rfl, rfl, rfl, by rw [setRow_size]; exact Nat.le_refl _, fun k _ hr => setRow_other _ _ _ _ hr⟩
theorem below_setRow1 {B g : Nat} {a w : World} (h : Below B a w) (hg : B ≤ g) (cs : Array Value) : Below B a (w.setRow g cs) :=
  ⟨h.os, h.tape, h.output, by rw [setRow_size]; exact h.size, fun k hk => (setRow_other _ _ _ _ (by omega)).trans (h.block k hk)⟩
theorem keep_setRow {g : Nat} {t ty : TypeId} {w : World} {cs0 : Array Value} (hg : w.heap[g]? = some (.cells cs0 t)) (ht : t ≠ ty) (cs : Array Value) : KeepT ty w (w.setRow g cs) :=
  ⟨by rw [setRow_size]; exact Nat.le_refl _, fun i cur fz h => (setRow_other _ _ _ _ (cells_other h hg ht)).trans h⟩
/-- The script as a value, behind the store of the result. -/
theorem DS.final {w W : World} {g r s nt tc ns uc er : Nat} {a b c d e f : Int} {T U : Option Addr} {xs : List Bytes} {ys : List StepD} {l : Bytes} (h : DS w g r s a b c d e f T nt tc U ns uc xs ys l er W) (cs : Array Value) : ScriptP (W.setRow g cs) ⟨[a, b, c, d, e, f], xs, ys⟩ a b c d e f T tc U uc := by
  obtain ⟨ms, h1, h2⟩ := h.own2
  have e1 := h.eg
  have e3 := h.es
  have k1 := own_rb_lt h.own1 (rb_setRow1 g W cs) (by omega)
  have k2 := own_rb_lt h1 (rb_setRow1 g W cs) (by omega)
  exact ⟨rfl, own_sl k1, ⟨ms, own_sl k2, (h2.keep (keep_setRow h.res (by decide) cs)).toS⟩, by have := (own_cap h.own1).1; rw [h.n1] at this; exact this, by have := (own_cap h1).1; rw [h.n2] at this; exact this⟩

set_option maxRecDepth 100000 in
set_option maxHeartbeats 16000000 in
theorem decode_any (b : Bytes) (A : Option Addr) (c : Nat) (w : World) (Hg : Hid (Gl w)) (hb : b.length ≤ 1000000) (hc : b.length ≤ c) (hcm : c ≤ 9223372036854775807) (Hs : Hid (Sl w w.heap.size A (Lib.byteCells b))) : Calls Tryz.prog 28 #[.slice A b.length c] w (DecR (decodeB b) w) := by
  have HD := Lib.hid (DS.start hb hc hcm Hs.out)
  obtain ⟨n, hn⟩ : ∃ n, n = b.length := ⟨_, rfl⟩
  rw [← hn] at HD ⊢
  obtain ⟨W0, hW0⟩ : ∃ W, W = ((w.alloc (.cells (scrCs 0 0 0 0 0 0 none 0 0 none 0 0) 35)).alloc (.cells #[.slice A n c, .int .i64 0] 95)).alloc (.cells (scrCs 0 0 0 0 0 0 none 0 0 none 0 0) 35) := ⟨_, rfl⟩
  rw [← hW0] at HD
  obtain ⟨g, hgg⟩ : ∃ g, g = w.heap.size := ⟨_, rfl⟩
  obtain ⟨r, hrr⟩ : ∃ g, g = w.heap.size + 1 := ⟨_, rfl⟩
  obtain ⟨s, hss⟩ : ∃ g, g = w.heap.size + 1 + 1 := ⟨_, rfl⟩
  rw [← hss, ← hrr] at HD
  replace HD : Hid (DS w g r s 0 0 0 0 0 0 none 0 0 none 0 0 [] [] b 0 W0) := by rw [hgg]; exact HD.out
  have Hdem : Hid (∀ l e p W, e ≤ 100 → RdM r l e W → Calls Tryz.prog 66 #[.pointer (some ⟨r, 0, none⟩), .bool p] W fun en w' => en = .returned (.tuple #[]) ∧ RB r W w' ∧ RdM r l (if e = 0 ∧ p = false then 6 else e) w') := fun l e p W he h => demand_any r e l p W he h
  obtain ⟨x, l1, e1, hx⟩ : ∃ x l1 e1, tkL b 0 = (x, l1, e1) := ⟨_, _, _, rfl⟩
  obtain ⟨st1, st2, st3⟩ := stat_start hx
  have he100 : e1 ≤ 100 := by have := tkL_e (l := b) (e := 0) (by omega); rw [hx] at this; exact this
  have HT := fun W h => takeL_any r 0 b W h
  rw [hx] at HT
  dsimp only at HT
  have HTk := Lib.hid HT
  obtain ⟨m, hm⟩ : ∃ m, m = x.length := ⟨_, rfl⟩
  rw [← hm] at st1 st3 HTk
  have Hm := Lib.hid hm
  clear HT hx hn hb hc hcm hm Hs
  go_enter Tryz.func28, Tryz.ntmps28
  go_upto_region 3 with fail
  rw [← hss, ← hrr, ← hgg]
  have hW0' : ((w.alloc (.cells #[.int .i64 0, .int .i64 0, .int .i64 0, .int .i64 0, .int .i64 0, .int .i64 0, .slice none 0 0, .slice none 0 0] 35)).alloc (.cells #[.slice A n c, .int .i64 0] 95)).alloc (.cells #[.int .i64 0, .int .i64 0, .int .i64 0, .int .i64 0, .int .i64 0, .int .i64 0, .slice none 0 0, .slice none 0 0] 35) = W0 := hW0.symm
  rw [hW0']
  clear hW0' hW0 hss hrr hgg
  go_wp2_with fail
  refine (HTk.out _ (Lib.hid HD.out.rd)).mono ?_
  rintro en w1 ⟨hb1, hr1, A1, c1, rfl, ho1⟩
  have HD1 := Lib.hid (HD.out.rb hb1 hr1)
  have HO1 := Lib.hid ho1
  have HS1 : Hid (w.heap.size ≤ W0.heap.size) := HD.out.below.size
  clear hb1 hr1 ho1 HTk
  go_wp2_with fail
  by_cases hgood : e1 = 0 ∧ m = 6
  · obtain ⟨rfl, rfl⟩ := hgood
    have HST := Lib.hid (st1 rfl rfl)
    clear st1 st2 st3 he100
    obtain ⟨p0, p1, p2, p3, p4, p5, hx⟩ : ∃ a b c d e f, x = [a, b, c, d, e, f] := by
      have := Hm.out
      match x, this with
      | [a, b, c, d, e, f], _ => exact ⟨a, b, c, d, e, f, rfl⟩
    subst hx
    clear Hm
    have q1 : (((6 : Nat) : Int) == 6) = true := rfl
    refine (Hdem.out _ _ _ _ (by omega) HD1.out.rd).mono ?_
    rw [if_neg (by simp)]
    rintro en w2 ⟨rfl, hb2, hr2⟩
    have HD2 := Lib.hid (HD1.out.rb hb2 hr2)
    have HC2 : Hid (Sl w2 w2.heap.size A1 ([p0, p1, p2, p3, p4, p5].map intC)) := by
      have h1 := HD.out.rd.lt
      exact own_sl (own_rb_lt HO1.out hb2 h1)
    clear hb2 hr2 HO1 HD1
    have z1 : w2.cell? ⟨r, 1, none⟩ = some (.int .i64 0) := HD2.out.rd.e
    go_wp2_with fail
    refine (config_any p0 p1 p2 p3 p4 p5 A1 c1 w2 HC2).mono ?_
    rintro en w3 ⟨rfl, hb3⟩
    have HD3 := Lib.hid (HD2.out.call hb3)
    clear hb3 z1
    have hrow := HD3.out.row
    unfold scrCs at hrow
    obtain ⟨z0, y0⟩ := cell_at hrow 0 rfl
    obtain ⟨z1, y1⟩ := cell_at hrow 1 rfl
    obtain ⟨z2, y2⟩ := cell_at hrow 2 rfl
    obtain ⟨z3, y3⟩ := cell_at hrow 3 rfl
    obtain ⟨z4, y4⟩ := cell_at hrow 4 rfl
    obtain ⟨z5, y5⟩ := cell_at hrow 5 rfl
    clear hrow
    go_upto_region 7 with fail
    obtain ⟨Wc, hWc⟩ : ∃ W, W = (((((w3.setCell ⟨s, 0, none⟩ (.int .i64 p0)).setCell ⟨s, 1, none⟩ (.int .i64 p1)).setCell ⟨s, 2, none⟩ (.int .i64 p2)).setCell ⟨s, 3, none⟩ (.int .i64 p3)).setCell ⟨s, 4, none⟩ (.int .i64 p4)).setCell ⟨s, 5, none⟩ (.int .i64 p5) := ⟨_, rfl⟩
    have HDc : Hid (DS w g r s p0 p1 p2 p3 p4 p5 none 0 0 none 0 0 [] [] l1 0 Wc) := by rw [hWc]; exact HD3.out.cfg p0 p1 p2 p3 p4 p5
    rw [← hWc]
    clear hWc z0 z1 z2 z3 z4 z5 y0 y1 y2 y3 y4 y5 HD3 HD2 HC2 q1
    obtain ⟨er, a0, a1, a2, a3, a4, a5, he100, HDa, HST⟩ : ∃ (er : Nat) (a0 a1 a2 a3 a4 a5 : Int), er ≤ 100 ∧ Hid (DS w g r s a0 a1 a2 a3 a4 a5 none 0 0 none 0 0 [] [] l1 er Wc) ∧ Hid (Stat er (decodeB b) (decB2 [a0, a1, a2, a3, a4, a5] l1)) := ⟨0, p0, p1, p2, p3, p4, p5, by omega, HDc, HST⟩
    obtain ⟨mq, l2, e2, hcs⟩ : ∃ a b c, cntSt 16 l1 er = (a, b, c) := ⟨_, _, _, rfl⟩
    obtain ⟨hm0, hm16, he2, hmz, -, -⟩ := cntSt_rd er (by decide) hcs
    have hCn := cnt_any r er 16 l1 Wc (by decide) he100 HDa.out.rd
    rw [hcs] at hCn
    unfold CntP at hCn
    dsimp only at hCn
    obtain ⟨N, hN⟩ : ∃ N : Nat, mq = (N : Int) := ⟨mq.toNat, by omega⟩
    subst hN
    have HCn := Lib.hid hCn
    have Hcs := Lib.hid hcs
    have he2 := he2 he100
    have hR0 := RunE.start (rd getBytesB) N l2 e2 he2 (fun h => by have := hmz h; omega)
    have hN16 : N ≤ 16 := by omega
    clear hcs hCn hm0 hm16 hmz he100 he2
    go_wp2_with fail
    refine HCn.out.mono ?_
    rintro en w4 ⟨rfl, hb4, hr4⟩
    have HD4 := Lib.hid (HDa.out.rb hb4 hr4)
    have HR0 := Lib.hid hR0
    clear hb4 hr4 hR0 HCn HDa
    go_wp2_with fail
    go_loopg [31] N (fun gh s31 wr => ∃ (k : Nat) (T : Option Addr) (tc : Nat) (xs : List Bytes) (l : Bytes) (e : Nat), s31 = .int .i64 (k : Int) ∧ gh = N - k ∧ k ≤ N ∧ Hid (RunE (rd getBytesB) N l2 e2 k xs l e ∧ ∀ t ∈ xs, t.length ≤ maxLen) ∧ Hid (DS w g r s a0 a1 a2 a3 a4 a5 T k tc none 0 0 xs [] l e wr))
    case atStart => exact ⟨0, none, 0, [], l2, e2, rfl, rfl, Nat.zero_le _, ⟨HR0.out, fun t h => by cases h⟩, HD4.out⟩
    case round =>
      obtain ⟨k, T, tc, xs, l, e, rfl, hgh, hk, HRk, HDk⟩ := hrel
      by_cases hlt : k < N
      · have hI1 : (0 : Int) ≤ (k : Int) := by omega
        have hI2 : (k : Int) < (N : Int) := by omega
        obtain ⟨x, l', e', hx⟩ : ∃ x l' e', tkS l e = (x, l', e') := ⟨_, _, _, rfl⟩
        have HT := fun W h => takeS_any r e l W h
        rw [hx] at HT
        dsimp only at HT
        have HTk := Lib.hid HT
        have HR1 : Hid (RunE (rd getBytesB) N l2 e2 (k + 1) (xs ++ [x]) l' e' ∧ ∀ t ∈ xs ++ [x], t.length ≤ maxLen) := by
          refine ⟨HRk.out.1.text hlt hx, fun t ht => ?_⟩
          rcases List.mem_append.1 ht with ht | ht
          · exact HRk.out.2 t ht
          · rw [List.mem_singleton.1 ht]
            have h1 := tkS_len l e
            rw [hx] at h1
            have h2 := HDk.out.rd.len
            unfold maxLen
            dsimp only at h1
            omega
        have hb1 : k + 1 ≤ maxLen := by unfold maxLen; omega
        have hb2 : (k + 1) * 16 ≤ 140737488355328 := by omega
        have hd : Below wr.heap.size wr wr.drew := (Below.refl _ _).drew
        have HD5 := Lib.hid (HDk.out.call hd)
        clear HT hx hd HRk
        go_upto_region 9 with fail
        refine wp_region_held_drew (S := fun _ => True) (by kernel_rfl) trivial (fun hHeld => ?_)
        refine wpAnyH_take (i := 0) (v := ?_) (by simp only [List.getElem?_toArray, List.getElem?_cons_zero] <;> rfl) (by kernel_rfl) (by kernel_rfl) (by kernel_rfl) (by intro _ _ _ h; exact h) (Or.inl ⟨by rfl, ?_⟩) hHeld ?_
        rotate_left
        · intro w hSw; (try dsimp only at hSw); go_simp
          with_reducible rfl
        try simp only [Act.put, List.setIfInBounds_toArray, List.set_cons_zero, List.set_cons_succ]
        refine wpAnyH_take (i := 2) (v := ?_) (by simp only [List.getElem?_toArray, List.getElem?_cons_zero, List.getElem?_cons_succ] <;> rfl) (by kernel_rfl) (by kernel_rfl) (by kernel_rfl) (by intro _ _ _ h; exact h) (Or.inl ⟨by rfl, ?_⟩) hHeld ?_
        rotate_left
        · intro w hSw; (try dsimp only at hSw); go_simp
          with_reducible rfl
        try simp only [Act.put, List.setIfInBounds_toArray, List.set_cons_zero, List.set_cons_succ]
        refine wpAnyH_ready (rs := [1, 3]) (by kernel_rfl) (by simp) ?_
        refine (AllReadyH.cons (by simp only [List.getElem?_toArray, List.getElem?_cons_zero, List.getElem?_cons_succ] <;> rfl) (fun K hK => ?_) (AllReadyH.cons (by simp only [List.getElem?_toArray, List.getElem?_cons_zero, List.getElem?_cons_succ] <;> rfl) (fun K hK => ?_) AllReadyH.nil))
        · obtain ⟨⟨c6, -⟩, -⟩ := HD5.out.cells
          go_simp
          refine hK.out _ _ trivial (fun hHeld => ?_)
          clear hK K
          try simp only [Act.put, List.setIfInBounds_toArray, List.set_cons_zero, List.set_cons_succ]
          clear c6
          refine wpAnyH_ready (rs := [3]) (by kernel_rfl) (by simp) ?_
          refine (AllReadyH.cons (by simp only [List.getElem?_toArray, List.getElem?_cons_zero, List.getElem?_cons_succ] <;> rfl) (fun K hK => ?_) AllReadyH.nil)
          · go_simp
            go_at_call 69
            refine (HTk.out _ (Lib.hid HD5.out.rd)).mono ?_
            rintro en w6 ⟨rfl, hb6, hr6⟩
            have HD6 := Lib.hid (HD5.out.rb hb6 hr6)
            clear hb6 hr6
            refine hK.out _ _ trivial (fun hHeld => ?_)
            clear hK K
            try simp only [Act.put, List.setIfInBounds_toArray, List.set_cons_zero, List.set_cons_succ]
            refine wpAnyH_ready (rs := [4]) (by kernel_rfl) (by simp) ?_
            refine (AllReadyH.cons (by simp only [List.getElem?_toArray, List.getElem?_cons_zero, List.getElem?_cons_succ] <;> rfl) (fun K hK => ?_) AllReadyH.nil)
            · go_simp
              have HD7 := Lib.hid (HD6.out.call ((Below.refl _ _).alloc (Nat.le_refl _) (.cells #[.string ⟨x.toArray⟩] 9)))
              refine hK.out _ _ trivial (fun hHeld => ?_)
              clear hK K
              try simp only [Act.put, List.setIfInBounds_toArray, List.set_cons_zero, List.set_cons_succ]
              refine wpAnyH_ready (rs := [5]) (by kernel_rfl) (by simp) ?_
              refine (AllReadyH.cons (by simp only [List.getElem?_toArray, List.getElem?_cons_zero, List.getElem?_cons_succ] <;> rfl) (fun K hK => ?_) AllReadyH.nil)
              · refine step_append_sl rfl _ _ 24 rfl rfl rfl so24 (HD6.out.own1.alloc _) (m := 1) (news := [.string ⟨x.toArray⟩]) rfl (Sl.new _ _ _) (fun u hu => by rw [List.mem_singleton.1 hu]; rfl) hb1 hb2 (Nat.le_trans (show s + 1 ≤ w6.heap.size from HD6.out.size) (by simp)) ?_
                intro A8 c8 w8 ho8 hg8
                obtain ⟨hrow8, hD8⟩ := HD6.out.text (x := x) ho8 hg8
                have HD8 := Lib.hid hD8
                clear ho8 hg8 hD8
                refine hK.out _ _ trivial (fun hHeld => ?_)
                clear hK K
                try simp only [Act.put, List.setIfInBounds_toArray, List.set_cons_zero, List.set_cons_succ]
                refine wpAnyH_take (i := 6) (v := ?_) (by simp only [List.getElem?_toArray, List.getElem?_cons_zero, List.getElem?_cons_succ] <;> rfl) (by kernel_rfl) (by kernel_rfl) (by kernel_rfl) (by intro _ _ _ h; exact h) (Or.inl ⟨by rfl, ?_⟩) hHeld ?_
                rotate_left
                · intro w hSw; (try dsimp only at hSw); go_simp
                  with_reducible rfl
                try simp only [Act.put, List.setIfInBounds_toArray, List.set_cons_zero, List.set_cons_succ]
                refine wpAnyH_ready (rs := [7]) (by kernel_rfl) (by simp) ?_
                refine (AllReadyH.cons (by simp only [List.getElem?_toArray, List.getElem?_cons_zero, List.getElem?_cons_succ] <;> rfl) (fun K hK => ?_) AllReadyH.nil)
                · obtain ⟨c6, f6⟩ := cell_at (u := .slice T k tc) hrow8 6 rfl
                  go_simp
                  refine hK.out _ _ trivial (fun hHeld => ?_)
                  clear hK K
                  try simp only [Act.put, List.setIfInBounds_toArray, List.set_cons_zero, List.set_cons_succ]
                  refine wpAnyH_done (by kernel_rfl) ?_ _
                  clear hHeld hrow8 f6 c6
                  go_wp2_with fail
                  go_roundg (N - (k + 1))
                  case measure => omega
                  case rel => exact ⟨k + 1, A8, c8, xs ++ [x], l', e', by go_num, rfl, by omega, HR1, HD8⟩
        · go_simp
          go_at_call 69
          refine (HTk.out _ (Lib.hid HD5.out.rd)).mono ?_
          rintro en w6 ⟨rfl, hb6, hr6⟩
          have HD6 := Lib.hid (HD5.out.rb hb6 hr6)
          clear hb6 hr6
          refine hK.out _ _ trivial (fun hHeld => ?_)
          clear hK K
          try simp only [Act.put, List.setIfInBounds_toArray, List.set_cons_zero, List.set_cons_succ]
          refine wpAnyH_ready (rs := [1, 4]) (by kernel_rfl) (by simp) ?_
          refine (AllReadyH.cons (by simp only [List.getElem?_toArray, List.getElem?_cons_zero, List.getElem?_cons_succ] <;> rfl) (fun K hK => ?_) (AllReadyH.cons (by simp only [List.getElem?_toArray, List.getElem?_cons_zero, List.getElem?_cons_succ] <;> rfl) (fun K hK => ?_) AllReadyH.nil))
          · obtain ⟨⟨c6, -⟩, -⟩ := HD6.out.cells
            go_simp
            refine hK.out _ _ trivial (fun hHeld => ?_)
            clear hK K
            try simp only [Act.put, List.setIfInBounds_toArray, List.set_cons_zero, List.set_cons_succ]
            clear c6
            refine wpAnyH_ready (rs := [4]) (by kernel_rfl) (by simp) ?_
            refine (AllReadyH.cons (by simp only [List.getElem?_toArray, List.getElem?_cons_zero, List.getElem?_cons_succ] <;> rfl) (fun K hK => ?_) AllReadyH.nil)
            · go_simp
              have HD7 := Lib.hid (HD6.out.call ((Below.refl _ _).alloc (Nat.le_refl _) (.cells #[.string ⟨x.toArray⟩] 9)))
              refine hK.out _ _ trivial (fun hHeld => ?_)
              clear hK K
              try simp only [Act.put, List.setIfInBounds_toArray, List.set_cons_zero, List.set_cons_succ]
              refine wpAnyH_ready (rs := [5]) (by kernel_rfl) (by simp) ?_
              refine (AllReadyH.cons (by simp only [List.getElem?_toArray, List.getElem?_cons_zero, List.getElem?_cons_succ] <;> rfl) (fun K hK => ?_) AllReadyH.nil)
              · refine step_append_sl rfl _ _ 24 rfl rfl rfl so24 (HD6.out.own1.alloc _) (m := 1) (news := [.string ⟨x.toArray⟩]) rfl (Sl.new _ _ _) (fun u hu => by rw [List.mem_singleton.1 hu]; rfl) hb1 hb2 (Nat.le_trans (show s + 1 ≤ w6.heap.size from HD6.out.size) (by simp)) ?_
                intro A8 c8 w8 ho8 hg8
                obtain ⟨hrow8, hD8⟩ := HD6.out.text (x := x) ho8 hg8
                have HD8 := Lib.hid hD8
                clear ho8 hg8 hD8
                refine hK.out _ _ trivial (fun hHeld => ?_)
                clear hK K
                try simp only [Act.put, List.setIfInBounds_toArray, List.set_cons_zero, List.set_cons_succ]
                refine wpAnyH_take (i := 6) (v := ?_) (by simp only [List.getElem?_toArray, List.getElem?_cons_zero, List.getElem?_cons_succ] <;> rfl) (by kernel_rfl) (by kernel_rfl) (by kernel_rfl) (by intro _ _ _ h; exact h) (Or.inl ⟨by rfl, ?_⟩) hHeld ?_
                rotate_left
                · intro w hSw; (try dsimp only at hSw); go_simp
                  with_reducible rfl
                try simp only [Act.put, List.setIfInBounds_toArray, List.set_cons_zero, List.set_cons_succ]
                refine wpAnyH_ready (rs := [7]) (by kernel_rfl) (by simp) ?_
                refine (AllReadyH.cons (by simp only [List.getElem?_toArray, List.getElem?_cons_zero, List.getElem?_cons_succ] <;> rfl) (fun K hK => ?_) AllReadyH.nil)
                · obtain ⟨c6, f6⟩ := cell_at (u := .slice T k tc) hrow8 6 rfl
                  go_simp
                  refine hK.out _ _ trivial (fun hHeld => ?_)
                  clear hK K
                  try simp only [Act.put, List.setIfInBounds_toArray, List.set_cons_zero, List.set_cons_succ]
                  refine wpAnyH_done (by kernel_rfl) ?_ _
                  clear hHeld hrow8 f6 c6
                  go_wp2_with fail
                  go_roundg (N - (k + 1))
                  case measure => omega
                  case rel => exact ⟨k + 1, A8, c8, xs ++ [x], l', e', by go_num, rfl, by omega, HR1, HD8⟩
          · go_simp
            have HD7 := Lib.hid (HD6.out.call ((Below.refl _ _).alloc (Nat.le_refl _) (.cells #[.string ⟨x.toArray⟩] 9)))
            refine hK.out _ _ trivial (fun hHeld => ?_)
            clear hK K
            try simp only [Act.put, List.setIfInBounds_toArray, List.set_cons_zero, List.set_cons_succ]
            refine wpAnyH_ready (rs := [1]) (by kernel_rfl) (by simp) ?_
            refine (AllReadyH.cons (by simp only [List.getElem?_toArray, List.getElem?_cons_zero, List.getElem?_cons_succ] <;> rfl) (fun K hK => ?_) AllReadyH.nil)
            · obtain ⟨⟨c6, -⟩, -⟩ := HD7.out.cells
              go_simp
              refine hK.out _ _ trivial (fun hHeld => ?_)
              clear hK K
              try simp only [Act.put, List.setIfInBounds_toArray, List.set_cons_zero, List.set_cons_succ]
              clear c6
              refine wpAnyH_ready (rs := [5]) (by kernel_rfl) (by simp) ?_
              refine (AllReadyH.cons (by simp only [List.getElem?_toArray, List.getElem?_cons_zero, List.getElem?_cons_succ] <;> rfl) (fun K hK => ?_) AllReadyH.nil)
              · refine step_append_sl rfl _ _ 24 rfl rfl rfl so24 (HD6.out.own1.alloc _) (m := 1) (news := [.string ⟨x.toArray⟩]) rfl (Sl.new _ _ _) (fun u hu => by rw [List.mem_singleton.1 hu]; rfl) hb1 hb2 (Nat.le_trans (show s + 1 ≤ w6.heap.size from HD6.out.size) (by simp)) ?_
                intro A8 c8 w8 ho8 hg8
                obtain ⟨hrow8, hD8⟩ := HD6.out.text (x := x) ho8 hg8
                have HD8 := Lib.hid hD8
                clear ho8 hg8 hD8
                refine hK.out _ _ trivial (fun hHeld => ?_)
                clear hK K
                try simp only [Act.put, List.setIfInBounds_toArray, List.set_cons_zero, List.set_cons_succ]
                refine wpAnyH_take (i := 6) (v := ?_) (by simp only [List.getElem?_toArray, List.getElem?_cons_zero, List.getElem?_cons_succ] <;> rfl) (by kernel_rfl) (by kernel_rfl) (by kernel_rfl) (by intro _ _ _ h; exact h) (Or.inl ⟨by rfl, ?_⟩) hHeld ?_
                rotate_left
                · intro w hSw; (try dsimp only at hSw); go_simp
                  with_reducible rfl
                try simp only [Act.put, List.setIfInBounds_toArray, List.set_cons_zero, List.set_cons_succ]
                refine wpAnyH_ready (rs := [7]) (by kernel_rfl) (by simp) ?_
                refine (AllReadyH.cons (by simp only [List.getElem?_toArray, List.getElem?_cons_zero, List.getElem?_cons_succ] <;> rfl) (fun K hK => ?_) AllReadyH.nil)
                · obtain ⟨c6, f6⟩ := cell_at (u := .slice T k tc) hrow8 6 rfl
                  go_simp
                  refine hK.out _ _ trivial (fun hHeld => ?_)
                  clear hK K
                  try simp only [Act.put, List.setIfInBounds_toArray, List.set_cons_zero, List.set_cons_succ]
                  refine wpAnyH_done (by kernel_rfl) ?_ _
                  clear hHeld hrow8 f6 c6
                  go_wp2_with fail
                  go_roundg (N - (k + 1))
                  case measure => omega
                  case rel => exact ⟨k + 1, A8, c8, xs ++ [x], l', e', by go_num, rfl, by omega, HR1, HD8⟩
      · have hke : k = N := by omega
        have hI3 : ¬ (k : Int) < (N : Int) := by omega
        subst hke
        have hst2 : Stat e (decodeB b) (decB3 [a0, a1, a2, a3, a4, a5] xs l) := stat_texts HST.out Hcs.out (by rw [Int.toNat_natCast]; exact HRk.out.1)
        have he100 : e ≤ 100 := HRk.out.1.len.2
        obtain ⟨mq, l3, e3, hcs⟩ : ∃ a b c, cntSt 1000 l e = (a, b, c) := ⟨_, _, _, rfl⟩
        obtain ⟨hm0, hm16, he2, hmz, -, -⟩ := cntSt_rd e (by decide) hcs
        have hCn := cnt_any r e 1000 l wr (by decide) he100 HDk.out.rd
        rw [hcs] at hCn
        unfold CntP at hCn
        dsimp only at hCn
        obtain ⟨M, hM⟩ : ∃ N : Nat, mq = (N : Int) := ⟨mq.toNat, by omega⟩
        subst hM
        have HCn := Lib.hid hCn
        have Hcs2 := Lib.hid hcs
        have HST2 := Lib.hid hst2
        have HXL : Hid (∀ t ∈ xs, t.length ≤ maxLen) := HRk.out.2
        have he2 := he2 he100
        have hR0 := RunE.start rdStep M l3 e3 he2 (fun h => by have := hmz h; omega)
        have hN1000 : M ≤ 1000 := by omega
        clear hcs hCn hm0 hm16 hmz he100 he2 hst2 HST Hcs HRk HR0 HD4 hgh hlt
        go_wp2_with fail
        refine HCn.out.mono ?_
        rintro en w5 ⟨rfl, hb4, hr4⟩
        have HD5 := Lib.hid (HDk.out.rb hb4 hr4)
        have HR0 := Lib.hid hR0
        clear hb4 hr4 hR0 HCn HDk
        go_wp2_with fail
        go_loopg [43] M (fun gh s43 wr => ∃ (j : Nat) (U : Option Addr) (uc : Nat) (ys : List StepD) (l : Bytes) (e : Nat), s43 = .int .i64 (j : Int) ∧ gh = M - j ∧ j ≤ M ∧ Hid (RunE rdStep M l3 e3 j ys l e ∧ ∀ y ∈ ys, y.args.length ≤ maxLen) ∧ Hid (DS w g r s a0 a1 a2 a3 a4 a5 T k tc U j uc xs ys l e wr))
        case atStart => exact ⟨0, none, 0, [], l3, e3, rfl, rfl, Nat.zero_le _, ⟨HR0.out, fun t h => by cases h⟩, HD5.out⟩
        case round =>
          obtain ⟨j, U, uc, ys, l, e, rfl, hgh, hj, HRk, HDk⟩ := hrel
          by_cases hlt : j < M
          · have hI1 : (0 : Int) ≤ (j : Int) := by omega
            have hI2 : (j : Int) < (M : Int) := by omega
            obtain ⟨kd, l', e', hx⟩ : ∃ x l' e', tkI l e = (x, l', e') := ⟨_, _, _, rfl⟩
            obtain ⟨x, l'', e'', hx'⟩ : ∃ x l'' e'', tkL l' e' = (x, l'', e'') := ⟨_, _, _, rfl⟩
            have HT := takeI_any r e l wr HDk.out.rd
            rw [hx] at HT
            dsimp only at HT
            have HTk := Lib.hid HT
            have HT' := fun W h => takeL_any r e' l' W h
            rw [hx'] at HT'
            dsimp only at HT'
            have HR1 : Hid (RunE rdStep M l3 e3 (j + 1) (ys ++ [⟨kd, x⟩]) l'' e'' ∧ (∀ y ∈ ys ++ [⟨kd, x⟩], y.args.length ≤ maxLen) ∨ 1000000000 < l'.length) := by
              by_cases hl : l'.length ≤ 1000000000
              · refine .inl ⟨HRk.out.1.step hlt hx hx', fun t ht => ?_⟩
                rcases List.mem_append.1 ht with ht | ht
                · exact HRk.out.2 t ht
                · rw [List.mem_singleton.1 ht]
                  have h1 := tkL_len l' e'
                  rw [hx'] at h1
                  unfold maxLen
                  dsimp only at h1 ⊢
                  omega
              · exact .inr (by omega)
            obtain ⟨q, hq⟩ : ∃ q, q = x.length := ⟨_, rfl⟩
            rw [← hq] at HT'
            have Hq := Lib.hid hq
            have HTl := Lib.hid HT'
            have hb1 : j + 1 ≤ maxLen := by unfold maxLen; omega
            have hb2 : (j + 1) * 32 ≤ 140737488355328 := by omega
            clear HT hx HT' hx' HRk hq
            go_wp2_with fail
            refine HTk.out.mono ?_
            rintro en w6 ⟨rfl, hb6, hr6⟩
            have hD6 := HDk.out.rb hb6 hr6
            have hd : Below w6.heap.size w6 w6.drew := (Below.refl _ _).drew
            have HD5 := Lib.hid (hD6.call hd)
            have HR2 : Hid (RunE rdStep M l3 e3 (j + 1) (ys ++ [⟨kd, x⟩]) l'' e'' ∧ ∀ y ∈ ys ++ [⟨kd, x⟩], y.args.length ≤ maxLen) := by
              rcases HR1.out with h | h
              · exact h
              · exact absurd hr6.len (by omega)
            clear hb6 hr6 hD6 hd HR1 HTk HDk
            go_upto_region 14 with fail
            refine wp_region_held_drew (S := fun _ => True) (by kernel_rfl) trivial (fun hHeld => ?_)
            refine wpAnyH_take (i := 0) (v := ?_) (by simp only [List.getElem?_toArray, List.getElem?_cons_zero] <;> rfl) (by kernel_rfl) (by kernel_rfl) (by kernel_rfl) (by intro _ _ _ h; exact h) (Or.inl ⟨by rfl, ?_⟩) hHeld ?_
            rotate_left
            · intro w hSw; (try dsimp only at hSw); go_simp
              with_reducible rfl
            try simp only [Act.put, List.setIfInBounds_toArray, List.set_cons_zero, List.set_cons_succ]
            refine wpAnyH_take (i := 2) (v := ?_) (by simp only [List.getElem?_toArray, List.getElem?_cons_zero, List.getElem?_cons_succ] <;> rfl) (by kernel_rfl) (by kernel_rfl) (by kernel_rfl) (by intro _ _ _ h; exact h) (Or.inl ⟨by rfl, ?_⟩) hHeld ?_
            rotate_left
            · intro w hSw; (try dsimp only at hSw); go_simp
              with_reducible rfl
            try simp only [Act.put, List.setIfInBounds_toArray, List.set_cons_zero, List.set_cons_succ]
            refine wpAnyH_take (i := 3) (v := ?_) (by simp only [List.getElem?_toArray, List.getElem?_cons_zero, List.getElem?_cons_succ] <;> rfl) (by kernel_rfl) (by kernel_rfl) (by kernel_rfl) (by intro _ _ _ h; exact h) (Or.inl ⟨by rfl, ?_⟩) hHeld ?_
            rotate_left
            · intro w hSw; (try dsimp only at hSw); go_simp
              with_reducible rfl
            try simp only [Act.put, List.setIfInBounds_toArray, List.set_cons_zero, List.set_cons_succ]
            refine wpAnyH_ready (rs := [1, 4]) (by kernel_rfl) (by simp) ?_
            refine (AllReadyH.cons (by simp only [List.getElem?_toArray, List.getElem?_cons_zero, List.getElem?_cons_succ] <;> rfl) (fun K hK => ?_) (AllReadyH.cons (by simp only [List.getElem?_toArray, List.getElem?_cons_zero, List.getElem?_cons_succ] <;> rfl) (fun K hK => ?_) AllReadyH.nil))
            · obtain ⟨⟨-, c7⟩, -⟩ := HD5.out.cells
              go_simp
              refine hK.out _ _ trivial (fun hHeld => ?_)
              clear hK K
              try simp only [Act.put, List.setIfInBounds_toArray, List.set_cons_zero, List.set_cons_succ]
              clear c7
              refine wpAnyH_ready (rs := [4]) (by kernel_rfl) (by simp) ?_
              refine (AllReadyH.cons (by simp only [List.getElem?_toArray, List.getElem?_cons_zero, List.getElem?_cons_succ] <;> rfl) (fun K hK => ?_) AllReadyH.nil)
              · go_simp
                go_at_call 64
                refine (HTl.out _ (Lib.hid HD5.out.rd)).mono ?_
                rintro en w7 ⟨hb7, hr7, A7, c7, rfl, ho7⟩
                have HD7 := Lib.hid (HD5.out.rb hb7 hr7)
                have HO7 := Lib.hid ho7
                clear hb7 hr7 ho7
                refine hK.out _ _ trivial (fun hHeld => ?_)
                clear hK K
                try simp only [Act.put, List.setIfInBounds_toArray, List.set_cons_zero, List.set_cons_succ]
                refine wpAnyH_take (i := 5) (v := ?_) (by simp only [List.getElem?_toArray, List.getElem?_cons_zero, List.getElem?_cons_succ] <;> rfl) (by kernel_rfl) (by kernel_rfl) (by kernel_rfl) (by intro _ _ _ h; exact h) (Or.inl ⟨by rfl, ?_⟩) hHeld ?_
                rotate_left
                · intro w hSw; (try dsimp only at hSw); go_simp
                  with_reducible rfl
                try simp only [Act.put, List.setIfInBounds_toArray, List.set_cons_zero, List.set_cons_succ]
                refine wpAnyH_ready (rs := [6]) (by kernel_rfl) (by simp) ?_
                refine (AllReadyH.cons (by simp only [List.getElem?_toArray, List.getElem?_cons_zero, List.getElem?_cons_succ] <;> rfl) (fun K hK => ?_) AllReadyH.nil)
                · go_simp
                  have HD8 := Lib.hid (HD7.out.call ((Below.refl _ _).alloc (Nat.le_refl _) (.cells #[.int .i64 kd, .slice A7 q c7] 69)))
                  refine hK.out _ _ trivial (fun hHeld => ?_)
                  clear hK K
                  try simp only [Act.put, List.setIfInBounds_toArray, List.set_cons_zero, List.set_cons_succ]
                  refine wpAnyH_ready (rs := [7]) (by kernel_rfl) (by simp) ?_
                  refine (AllReadyH.cons (by simp only [List.getElem?_toArray, List.getElem?_cons_zero, List.getElem?_cons_succ] <;> rfl) (fun K hK => ?_) AllReadyH.nil)
                  · obtain ⟨ms, hm1, hm2⟩ := HD7.out.own2
                    have hA7 : SlT w7 w7.heap.size 3 A7 (x.map intC) := own_slT HO7.out
                    have hc7 := (own_cap HO7.out).1
                    refine step_append_sl rfl _ _ 33 rfl rfl rfl so33 (hm1.alloc _) (m := 1) (news := [.int .i64 kd, .slice A7 q c7]) rfl (Sl.new _ _ _) (fun u hu => by simp at hu; rcases hu with rfl | rfl <;> rfl) hb1 hb2 (Nat.le_trans (show s + 1 ≤ w7.heap.size from HD7.out.size) (by simp)) ?_
                    intro A9 c9 w9 ho9 hg9
                    have hqx := Hq.out
                    subst hqx
                    obtain ⟨hrow9, hD9⟩ := HD7.out.step (x := ⟨kd, x⟩) hm1 hm2 hA7 hc7 ho9 hg9
                    have HD9 := Lib.hid hD9
                    clear ho9 hg9 hD9 hm1 hm2 hA7 hc7
                    refine hK.out _ _ trivial (fun hHeld => ?_)
                    clear hK K
                    try simp only [Act.put, List.setIfInBounds_toArray, List.set_cons_zero, List.set_cons_succ]
                    refine wpAnyH_take (i := 8) (v := ?_) (by simp only [List.getElem?_toArray, List.getElem?_cons_zero, List.getElem?_cons_succ] <;> rfl) (by kernel_rfl) (by kernel_rfl) (by kernel_rfl) (by intro _ _ _ h; exact h) (Or.inl ⟨by rfl, ?_⟩) hHeld ?_
                    rotate_left
                    · intro w hSw; (try dsimp only at hSw); go_simp
                      with_reducible rfl
                    try simp only [Act.put, List.setIfInBounds_toArray, List.set_cons_zero, List.set_cons_succ]
                    refine wpAnyH_ready (rs := [9]) (by kernel_rfl) (by simp) ?_
                    refine (AllReadyH.cons (by simp only [List.getElem?_toArray, List.getElem?_cons_zero, List.getElem?_cons_succ] <;> rfl) (fun K hK => ?_) AllReadyH.nil)
                    · obtain ⟨c77, f7⟩ := cell_at (u := .slice U j uc) hrow9 7 rfl
                      go_simp
                      refine hK.out _ _ trivial (fun hHeld => ?_)
                      clear hK K
                      try simp only [Act.put, List.setIfInBounds_toArray, List.set_cons_zero, List.set_cons_succ]
                      refine wpAnyH_done (by kernel_rfl) ?_ _
                      clear hHeld hrow9 f7 c77
                      go_wp2_with fail
                      go_roundg (M - (j + 1))
                      case measure => omega
                      case rel => exact ⟨j + 1, A9, c9, ys ++ [⟨kd, x⟩], l'', e'', by go_num, rfl, by omega, HR2, HD9⟩
            · go_simp
              go_at_call 64
              refine (HTl.out _ (Lib.hid HD5.out.rd)).mono ?_
              rintro en w7 ⟨hb7, hr7, A7, c7, rfl, ho7⟩
              have HD7 := Lib.hid (HD5.out.rb hb7 hr7)
              have HO7 := Lib.hid ho7
              clear hb7 hr7 ho7
              refine hK.out _ _ trivial (fun hHeld => ?_)
              clear hK K
              try simp only [Act.put, List.setIfInBounds_toArray, List.set_cons_zero, List.set_cons_succ]
              refine wpAnyH_take (i := 5) (v := ?_) (by simp only [List.getElem?_toArray, List.getElem?_cons_zero, List.getElem?_cons_succ] <;> rfl) (by kernel_rfl) (by kernel_rfl) (by kernel_rfl) (by intro _ _ _ h; exact h) (Or.inl ⟨by rfl, ?_⟩) hHeld ?_
              rotate_left
              · intro w hSw; (try dsimp only at hSw); go_simp
                with_reducible rfl
              try simp only [Act.put, List.setIfInBounds_toArray, List.set_cons_zero, List.set_cons_succ]
              refine wpAnyH_ready (rs := [1, 6]) (by kernel_rfl) (by simp) ?_
              refine (AllReadyH.cons (by simp only [List.getElem?_toArray, List.getElem?_cons_zero, List.getElem?_cons_succ] <;> rfl) (fun K hK => ?_) (AllReadyH.cons (by simp only [List.getElem?_toArray, List.getElem?_cons_zero, List.getElem?_cons_succ] <;> rfl) (fun K hK => ?_) AllReadyH.nil))
              · obtain ⟨⟨-, c7⟩, -⟩ := HD7.out.cells
                go_simp
                refine hK.out _ _ trivial (fun hHeld => ?_)
                clear hK K
                try simp only [Act.put, List.setIfInBounds_toArray, List.set_cons_zero, List.set_cons_succ]
                clear c7
                refine wpAnyH_ready (rs := [6]) (by kernel_rfl) (by simp) ?_
                refine (AllReadyH.cons (by simp only [List.getElem?_toArray, List.getElem?_cons_zero, List.getElem?_cons_succ] <;> rfl) (fun K hK => ?_) AllReadyH.nil)
                · go_simp
                  have HD8 := Lib.hid (HD7.out.call ((Below.refl _ _).alloc (Nat.le_refl _) (.cells #[.int .i64 kd, .slice A7 q c7] 69)))
                  refine hK.out _ _ trivial (fun hHeld => ?_)
                  clear hK K
                  try simp only [Act.put, List.setIfInBounds_toArray, List.set_cons_zero, List.set_cons_succ]
                  refine wpAnyH_ready (rs := [7]) (by kernel_rfl) (by simp) ?_
                  refine (AllReadyH.cons (by simp only [List.getElem?_toArray, List.getElem?_cons_zero, List.getElem?_cons_succ] <;> rfl) (fun K hK => ?_) AllReadyH.nil)
                  · obtain ⟨ms, hm1, hm2⟩ := HD7.out.own2
                    have hA7 : SlT w7 w7.heap.size 3 A7 (x.map intC) := own_slT HO7.out
                    have hc7 := (own_cap HO7.out).1
                    refine step_append_sl rfl _ _ 33 rfl rfl rfl so33 (hm1.alloc _) (m := 1) (news := [.int .i64 kd, .slice A7 q c7]) rfl (Sl.new _ _ _) (fun u hu => by simp at hu; rcases hu with rfl | rfl <;> rfl) hb1 hb2 (Nat.le_trans (show s + 1 ≤ w7.heap.size from HD7.out.size) (by simp)) ?_
                    intro A9 c9 w9 ho9 hg9
                    have hqx := Hq.out
                    subst hqx
                    obtain ⟨hrow9, hD9⟩ := HD7.out.step (x := ⟨kd, x⟩) hm1 hm2 hA7 hc7 ho9 hg9
                    have HD9 := Lib.hid hD9
                    clear ho9 hg9 hD9 hm1 hm2 hA7 hc7
                    refine hK.out _ _ trivial (fun hHeld => ?_)
                    clear hK K
                    try simp only [Act.put, List.setIfInBounds_toArray, List.set_cons_zero, List.set_cons_succ]
                    refine wpAnyH_take (i := 8) (v := ?_) (by simp only [List.getElem?_toArray, List.getElem?_cons_zero, List.getElem?_cons_succ] <;> rfl) (by kernel_rfl) (by kernel_rfl) (by kernel_rfl) (by intro _ _ _ h; exact h) (Or.inl ⟨by rfl, ?_⟩) hHeld ?_
                    rotate_left
                    · intro w hSw; (try dsimp only at hSw); go_simp
                      with_reducible rfl
                    try simp only [Act.put, List.setIfInBounds_toArray, List.set_cons_zero, List.set_cons_succ]
                    refine wpAnyH_ready (rs := [9]) (by kernel_rfl) (by simp) ?_
                    refine (AllReadyH.cons (by simp only [List.getElem?_toArray, List.getElem?_cons_zero, List.getElem?_cons_succ] <;> rfl) (fun K hK => ?_) AllReadyH.nil)
                    · obtain ⟨c77, f7⟩ := cell_at (u := .slice U j uc) hrow9 7 rfl
                      go_simp
                      refine hK.out _ _ trivial (fun hHeld => ?_)
                      clear hK K
                      try simp only [Act.put, List.setIfInBounds_toArray, List.set_cons_zero, List.set_cons_succ]
                      refine wpAnyH_done (by kernel_rfl) ?_ _
                      clear hHeld hrow9 f7 c77
                      go_wp2_with fail
                      go_roundg (M - (j + 1))
                      case measure => omega
                      case rel => exact ⟨j + 1, A9, c9, ys ++ [⟨kd, x⟩], l'', e'', by go_num, rfl, by omega, HR2, HD9⟩
              · go_simp
                have HD8 := Lib.hid (HD7.out.call ((Below.refl _ _).alloc (Nat.le_refl _) (.cells #[.int .i64 kd, .slice A7 q c7] 69)))
                refine hK.out _ _ trivial (fun hHeld => ?_)
                clear hK K
                try simp only [Act.put, List.setIfInBounds_toArray, List.set_cons_zero, List.set_cons_succ]
                refine wpAnyH_ready (rs := [1]) (by kernel_rfl) (by simp) ?_
                refine (AllReadyH.cons (by simp only [List.getElem?_toArray, List.getElem?_cons_zero, List.getElem?_cons_succ] <;> rfl) (fun K hK => ?_) AllReadyH.nil)
                · obtain ⟨⟨-, c7⟩, -⟩ := HD8.out.cells
                  go_simp
                  refine hK.out _ _ trivial (fun hHeld => ?_)
                  clear hK K
                  try simp only [Act.put, List.setIfInBounds_toArray, List.set_cons_zero, List.set_cons_succ]
                  clear c7
                  refine wpAnyH_ready (rs := [7]) (by kernel_rfl) (by simp) ?_
                  refine (AllReadyH.cons (by simp only [List.getElem?_toArray, List.getElem?_cons_zero, List.getElem?_cons_succ] <;> rfl) (fun K hK => ?_) AllReadyH.nil)
                  · obtain ⟨ms, hm1, hm2⟩ := HD7.out.own2
                    have hA7 : SlT w7 w7.heap.size 3 A7 (x.map intC) := own_slT HO7.out
                    have hc7 := (own_cap HO7.out).1
                    refine step_append_sl rfl _ _ 33 rfl rfl rfl so33 (hm1.alloc _) (m := 1) (news := [.int .i64 kd, .slice A7 q c7]) rfl (Sl.new _ _ _) (fun u hu => by simp at hu; rcases hu with rfl | rfl <;> rfl) hb1 hb2 (Nat.le_trans (show s + 1 ≤ w7.heap.size from HD7.out.size) (by simp)) ?_
                    intro A9 c9 w9 ho9 hg9
                    have hqx := Hq.out
                    subst hqx
                    obtain ⟨hrow9, hD9⟩ := HD7.out.step (x := ⟨kd, x⟩) hm1 hm2 hA7 hc7 ho9 hg9
                    have HD9 := Lib.hid hD9
                    clear ho9 hg9 hD9 hm1 hm2 hA7 hc7
                    refine hK.out _ _ trivial (fun hHeld => ?_)
                    clear hK K
                    try simp only [Act.put, List.setIfInBounds_toArray, List.set_cons_zero, List.set_cons_succ]
                    refine wpAnyH_take (i := 8) (v := ?_) (by simp only [List.getElem?_toArray, List.getElem?_cons_zero, List.getElem?_cons_succ] <;> rfl) (by kernel_rfl) (by kernel_rfl) (by kernel_rfl) (by intro _ _ _ h; exact h) (Or.inl ⟨by rfl, ?_⟩) hHeld ?_
                    rotate_left
                    · intro w hSw; (try dsimp only at hSw); go_simp
                      with_reducible rfl
                    try simp only [Act.put, List.setIfInBounds_toArray, List.set_cons_zero, List.set_cons_succ]
                    refine wpAnyH_ready (rs := [9]) (by kernel_rfl) (by simp) ?_
                    refine (AllReadyH.cons (by simp only [List.getElem?_toArray, List.getElem?_cons_zero, List.getElem?_cons_succ] <;> rfl) (fun K hK => ?_) AllReadyH.nil)
                    · obtain ⟨c77, f7⟩ := cell_at (u := .slice U j uc) hrow9 7 rfl
                      go_simp
                      refine hK.out _ _ trivial (fun hHeld => ?_)
                      clear hK K
                      try simp only [Act.put, List.setIfInBounds_toArray, List.set_cons_zero, List.set_cons_succ]
                      refine wpAnyH_done (by kernel_rfl) ?_ _
                      clear hHeld hrow9 f7 c77
                      go_wp2_with fail
                      go_roundg (M - (j + 1))
                      case measure => omega
                      case rel => exact ⟨j + 1, A9, c9, ys ++ [⟨kd, x⟩], l'', e'', by go_num, rfl, by omega, HR2, HD9⟩
          · have hje : j = M := by omega
            have hI4 : ¬ (j : Int) < (M : Int) := by omega
            subst hje
            have hst3 : Stat e (decodeB b) (decB4 [a0, a1, a2, a3, a4, a5] xs ys l) := stat_steps HST2.out Hcs2.out (by rw [Int.toNat_natCast]; exact HRk.out.1)
            have he100 : e ≤ 100 := HRk.out.1.len.2
            have HST3 := Lib.hid hst3
            have HYL : Hid (∀ y ∈ ys, y.args.length ≤ maxLen) := HRk.out.2
            clear hst3 HRk HST2 Hcs2 HR0 hgh hlt
            obtain ⟨A3, c3, z0, z1⟩ := HDk.out.rd.cells
            obtain ⟨ln, hln⟩ : ∃ n, n = l.length := ⟨_, rfl⟩
            rw [← hln] at z0
            have Hln := Lib.hid hln
            clear hln
            go_wp2_with fail
            clear z0 z1
            by_cases hgo : e = 0 ∧ ln = 0
            · obtain ⟨rfl, rfl⟩ := hgo
              have hlnil : l = [] := List.eq_nil_of_length_eq_zero Hln.out.symm
              have hst4 : decodeB b = decB4 [a0, a1, a2, a3, a4, a5] xs ys l := by
                rcases HST3.out with ⟨_, h⟩ | ⟨h, _⟩
                · exact h
                · exact absurd rfl h
              rw [decB4, if_neg (fun h => h hlnil)] at hst4
              have HST4 := Lib.hid hst4
              clear hst4 HST3 hlnil
              refine (Hdem.out _ _ _ _ he100 HDk.out.rd).mono ?_
              rw [if_neg (by simp)]
              rintro en w7 ⟨rfl, hb7, hr7⟩
              have HD7 := Lib.hid (HDk.out.rb hb7 hr7)
              clear hb7 hr7 HDk
              obtain ⟨S, hS⟩ : ∃ S : ScriptD, S = ⟨[a0, a1, a2, a3, a4, a5], xs, ys⟩ := ⟨_, rfl⟩
              have hSP := HD7.out.script
              rw [← hS] at hSP
              have hxs : S.texts.length = k := by rw [hS]; exact HD7.out.n1.symm
              have hys : S.steps.length = j := by rw [hS]; exact HD7.out.n2.symm
              have hSS : ScriptS w7 S (.agg (scrCs a0 a1 a2 a3 a4 a5 T k tc U j uc)) := ⟨a0, a1, a2, a3, a4, a5, T, tc, U, uc, by rw [hxs, hys], hSP⟩
              have hchk := check_any S _ w7 (Hg.out.below HD7.out.below) (Lib.hid hSS) ⟨by rw [hxs]; unfold maxLen; omega, by rw [hys]; unfold maxLen; omega, by rw [hS]; exact HXL.out, by rw [hS]; exact HYL.out⟩
              rw [← hS] at HST4
              have HS := Lib.hid hS
              obtain ⟨ck, hck⟩ : ∃ x, x = checkB S := ⟨_, rfl⟩
              rw [← hck] at hchk HST4
              obtain ⟨ce, ch⟩ := ck
              unfold CheckR at hchk
              dsimp only at hchk HST4
              have Hchk := Lib.hid hchk
              have HSS := Lib.hid hSS
              have hrow := HD7.out.row
              have z1 : w7.cell? ⟨r, 1, none⟩ = some (.int .i64 0) := HD7.out.rd.e
              have y0 := (cell_at (u := .int .i64 a0) hrow 0 rfl).1
              have y1 := (cell_at (u := .int .i64 a1) hrow 1 rfl).1
              have y2 := (cell_at (u := .int .i64 a2) hrow 2 rfl).1
              have y3 := (cell_at (u := .int .i64 a3) hrow 3 rfl).1
              have y4 := (cell_at (u := .int .i64 a4) hrow 4 rfl).1
              have y5 := (cell_at (u := .int .i64 a5) hrow 5 rfl).1
              have y6 := (cell_at (u := .slice T k tc) hrow 6 rfl).1
              have y7 := (cell_at (u := .slice U j uc) hrow 7 rfl).1
              clear hchk hSS hck hS hSP hxs hys hrow
              go_wp2_with fail
              refine Hchk.out.mono ?_
              rintro en w8 ⟨rfl, hb8⟩
              have HD8 := Lib.hid (HD7.out.call hb8)
              have HSS8 := Lib.hid (HSS.out.below hb8)
              clear hb8 z1 y0 y1 y2 y3 y4 y5 y6 y7 Hchk HSS HD7
              go_wp2_with fail
              by_cases hch : ch = 0
              · subst hch
                have hdec : decodeB b = .ok S := by rw [HST4.out, if_neg (by simp), HS.out]
                have Hdec := Lib.hid hdec
                clear hdec HST4
                refine (Hdem.out _ _ _ _ (by omega) HD8.out.rd).mono ?_
                rw [if_neg (by simp)]
                rintro en w9 ⟨rfl, hb9, hr9⟩
                have HD9 := Lib.hid (HD8.out.rb hb9 hr9)
                clear hb9 hr9 HD8 HSS8
                have hrow := HD9.out.row
                have hres := HD9.out.res
                have z1 : w9.cell? ⟨r, 1, none⟩ = some (.int .i64 0) := HD9.out.rd.e
                have HSP := Lib.hid fun cs => HD9.out.final cs
                have hxs : k = xs.length := HD9.out.n1
                have hys : j = ys.length := HD9.out.n2
                have HXY := Lib.hid (And.intro hxs hys)
                have HB9 := Lib.hid HD9.out.below
                have heg := HD9.out.eg
                have HEG := Lib.hid heg
                obtain ⟨CS, hCS⟩ : ∃ C, C = scrCs a0 a1 a2 a3 a4 a5 T k tc U j uc := ⟨_, rfl⟩
                obtain ⟨C0, hC0⟩ : ∃ C, C = scrCs 0 0 0 0 0 0 none 0 0 none 0 0 := ⟨_, rfl⟩
                have i8 : (Tryz.prog.info? 35).map (·.size) = some CS.size := by rw [hCS]; exact info35
                have o8 : C0.size = CS.size := by rw [hCS, hC0]; rfl
                have c8 : CS.size = 8 := by rw [hCS]; rfl
                have all1 : CS.all (·.oneCell') = true := by rw [hCS]; exact scr_one _ _ _ _ _ _ _ _ _ _ _ _
                rw [← hC0] at hres
                rw [← hCS] at hrow
                have HCS := Lib.hid hCS
                clear heg hCS hC0 HD9 hxs hys
                go_wp2_with (first | (refine wpList_load_row rfl 35 _ rfl s rfl 35 CS (0, 0) _ hrow Tryz.underlying35 rfl i8 ?_) | (refine wpList_store_row rfl 35 _ _ rfl g CS rfl rfl 35 C0 hres i8 o8 all1 ?_))
                refine bodyPost_ret (res28 _ _ g CS (.int .i64 0) c8 rfl rfl (setRow_heap _ _ _ _ _ _ hres)) rfl ?_
                unfold DecR
                rw [Hdec.out]
                have hb10 : Below w.heap.size w (w9.setRow g CS) := below_setRow1 HB9.out (by rw [HEG.out]; exact Nat.le_refl _) CS
                refine ⟨hb10, _, rfl, a0, a1, a2, a3, a4, a5, T, tc, U, uc, ?_, ?_⟩
                · rw [HCS.out, HS.out, HXY.out.1, HXY.out.2]
                · rw [HS.out]
                  exact HSP.out CS
              · have q1 : ((ch : Int) == 0) = false := bne_int (by omega)
                have hdec : decodeB b = .error 6 := by rw [HST4.out, if_pos hch]
                have Hdec := Lib.hid hdec
                clear hdec HST4 HSS8
                refine (Hdem.out _ _ _ _ (by omega) HD8.out.rd).mono ?_
                rw [if_pos (by first | exact ⟨rfl, q1⟩ | simp)]
                rintro en w9 ⟨rfl, hb9, hr9⟩
                have HD9 := Lib.hid (HD8.out.rb hb9 hr9)
                clear hb9 hr9 HD8 q1
                obtain ⟨er2, her2⟩ : ∃ e : Nat, e = 6 := ⟨_, rfl⟩
                rw [← her2] at HD9 Hdec
                have hne : er2 ≠ 0 := by omega
                clear her2
                have z1 : w9.cell? ⟨r, 1, none⟩ = some (.int .i64 (er2 : Int)) := HD9.out.rd.e
                have q2 : ((er2 : Int) == 0) = false := bne_int (by omega)
                have q3 : ((er2 : Int) != 0) = true := by rw [bne_iff_ne]; omega
                have HB9 := Lib.hid HD9.out.below
                have heg := HD9.out.eg
                have HEG := Lib.hid heg
                have her9 := HD9.out.er_
                have hgr : ¬ g = r := by omega
                have hrg : ¬ r = g := by omega
                have hres := HD9.out.res
                obtain ⟨C0, hC0⟩ : ∃ C, C = scrCs 0 0 0 0 0 0 none 0 0 none 0 0 := ⟨_, rfl⟩
                have HC0 := Lib.hid hC0
                have Hres := Lib.hid hres
                unfold scrCs at hres
                have y0 := (cell_at (u := .int .i64 0) hres 0 rfl).1
                have y1 := (cell_at (u := .int .i64 0) hres 1 rfl).1
                have y2 := (cell_at (u := .int .i64 0) hres 2 rfl).1
                have y3 := (cell_at (u := .int .i64 0) hres 3 rfl).1
                have y4 := (cell_at (u := .int .i64 0) hres 4 rfl).1
                have y5 := (cell_at (u := .int .i64 0) hres 5 rfl).1
                have y6 := (cell_at (u := .slice none 0 0) hres 6 rfl).1
                have y7 := (cell_at (u := .slice none 0 0) hres 7 rfl).1
                have f0 := (cell_at (u := .int .i64 0) hres 0 rfl).2
                have f1 := (cell_at (u := .int .i64 0) hres 1 rfl).2
                have f2 := (cell_at (u := .int .i64 0) hres 2 rfl).2
                have f3 := (cell_at (u := .int .i64 0) hres 3 rfl).2
                have f4 := (cell_at (u := .int .i64 0) hres 4 rfl).2
                have f5 := (cell_at (u := .int .i64 0) hres 5 rfl).2
                have f6 := (cell_at (u := .slice none 0 0) hres 6 rfl).2
                have f7 := (cell_at (u := .slice none 0 0) hres 7 rfl).2
                clear heg her9 hC0 HD9 hres
                go_upto_region 21 with fail
                go_region
                clear y0 y1 y2 y3 y4 y5 y6 y7 f0 f1 f2 f3 f4 f5 f6 f7 z1 q2 q3
                obtain ⟨W10, hW10⟩ : ∃ W, W = zer8 w9 g := ⟨_, rfl⟩
                have HR10 := Lib.hid (zer8_row Hres.out)
                have HB10 := Lib.hid (zer8_below HB9.out (show w.heap.size ≤ g by rw [HEG.out]; exact Nat.le_refl _))
                rw [← hW10] at HR10 HB10
                unfold zer8 at hW10
                rw [← hW10]
                clear hW10
                go_wp2_with fail
                refine bodyPost_ret (res28 _ _ g (scrCs 0 0 0 0 0 0 none 0 0 none 0 0) (.int .i64 (er2 : Int)) rfl rfl rfl HR10.out) rfl ?_
                unfold DecR
                rw [Hdec.out]
                exact ⟨HB10.out, rfl⟩
            · obtain ⟨er2, hne, hdm, hdec⟩ : ∃ er : Nat, er ≠ 0 ∧ (if e = 0 ∧ ((ln : Int) == 0) = false then 6 else e) = er ∧ decodeB b = .error er := by
                rcases HST3.out with ⟨h0, h⟩ | ⟨h0, h⟩
                · have hl0 : ln ≠ 0 := fun h => hgo ⟨h0, h⟩
                  refine ⟨6, by omega, if_pos ⟨h0, bne_int (by omega)⟩, ?_⟩
                  rw [h, decB4, if_pos (fun h => hl0 (by rw [Hln.out, h]; rfl))]
                · exact ⟨e, h0, if_neg (fun h => h0 h.1), h⟩
              have Hdm := Lib.hid hdm
              have Hdec := Lib.hid hdec
              refine (Hdem.out _ _ _ _ he100 HDk.out.rd).mono ?_
              rw [Hdm.out]
              rintro en w9 ⟨rfl, hb9, hr9⟩
              have HD9 := Lib.hid (HDk.out.rb hb9 hr9)
              clear hb9 hr9 HDk hdm hdec Hdm hgo HST3
              obtain ⟨q6, hq6⟩ : ∃ q, q = ((ln : Int) == 0) := ⟨_, rfl⟩
              rw [← hq6]
              clear hq6
              have z1 : w9.cell? ⟨r, 1, none⟩ = some (.int .i64 (er2 : Int)) := HD9.out.rd.e
              have q2 : ((er2 : Int) == 0) = false := bne_int (by omega)
              have q3 : ((er2 : Int) != 0) = true := by rw [bne_iff_ne]; omega
              have HB9 := Lib.hid HD9.out.below
              have heg := HD9.out.eg
              have HEG := Lib.hid heg
              have her9 := HD9.out.er_
              have hgr : ¬ g = r := by omega
              have hrg : ¬ r = g := by omega
              have hres := HD9.out.res
              obtain ⟨C0, hC0⟩ : ∃ C, C = scrCs 0 0 0 0 0 0 none 0 0 none 0 0 := ⟨_, rfl⟩
              have HC0 := Lib.hid hC0
              have Hres := Lib.hid hres
              unfold scrCs at hres
              have y0 := (cell_at (u := .int .i64 0) hres 0 rfl).1
              have y1 := (cell_at (u := .int .i64 0) hres 1 rfl).1
              have y2 := (cell_at (u := .int .i64 0) hres 2 rfl).1
              have y3 := (cell_at (u := .int .i64 0) hres 3 rfl).1
              have y4 := (cell_at (u := .int .i64 0) hres 4 rfl).1
              have y5 := (cell_at (u := .int .i64 0) hres 5 rfl).1
              have y6 := (cell_at (u := .slice none 0 0) hres 6 rfl).1
              have y7 := (cell_at (u := .slice none 0 0) hres 7 rfl).1
              have f0 := (cell_at (u := .int .i64 0) hres 0 rfl).2
              have f1 := (cell_at (u := .int .i64 0) hres 1 rfl).2
              have f2 := (cell_at (u := .int .i64 0) hres 2 rfl).2
              have f3 := (cell_at (u := .int .i64 0) hres 3 rfl).2
              have f4 := (cell_at (u := .int .i64 0) hres 4 rfl).2
              have f5 := (cell_at (u := .int .i64 0) hres 5 rfl).2
              have f6 := (cell_at (u := .slice none 0 0) hres 6 rfl).2
              have f7 := (cell_at (u := .slice none 0 0) hres 7 rfl).2
              clear heg her9 hC0 HD9 hres
              go_upto_region 21 with fail
              go_region
              clear y0 y1 y2 y3 y4 y5 y6 y7 f0 f1 f2 f3 f4 f5 f6 f7 z1 q2 q3
              obtain ⟨W10, hW10⟩ : ∃ W, W = zer8 w9 g := ⟨_, rfl⟩
              have HR10 := Lib.hid (zer8_row Hres.out)
              have HB10 := Lib.hid (zer8_below HB9.out (show w.heap.size ≤ g by rw [HEG.out]; exact Nat.le_refl _))
              rw [← hW10] at HR10 HB10
              unfold zer8 at hW10
              rw [← hW10]
              clear hW10
              go_wp2_with fail
              refine bodyPost_ret (res28 _ _ g (scrCs 0 0 0 0 0 0 none 0 0 none 0 0) (.int .i64 (er2 : Int)) rfl rfl rfl HR10.out) rfl ?_
              unfold DecR
              rw [Hdec.out]
              exact ⟨HB10.out, rfl⟩
  · obtain ⟨er, her, hdm, hst⟩ : ∃ er : Nat, (er ≠ 0 ∧ er ≤ 100) ∧ (if e1 = 0 ∧ ((m : Int) == 6) = false then 6 else e1) = er ∧ ∀ Y, Stat er (decodeB b) Y := by
      by_cases h0 : e1 = 0
      · have hm6 : m ≠ 6 := fun h => hgood ⟨h0, h⟩
        exact ⟨6, by omega, if_pos ⟨h0, bne_int (by omega)⟩, fun Y => st3 Y h0 hm6⟩
      · exact ⟨e1, ⟨h0, he100⟩, if_neg (fun h => h0 h.1), fun Y => st2 Y h0⟩
    have HST := Lib.hid (hst (decB2 [0, 0, 0, 0, 0, 0] l1))
    have Hdm := Lib.hid hdm
    have he100' := he100
    obtain ⟨her, he100⟩ := her
    refine (Hdem.out _ _ _ _ he100' HD1.out.rd).mono ?_
    rw [Hdm.out]
    rintro en Wc ⟨rfl, hb2, hr2⟩
    have HDa := Lib.hid (HD1.out.rb hb2 hr2)
    clear hb2 hr2 HO1 HD1 st1 st2 st3 hst hdm Hdm hgood he100'
    have z1 : Wc.cell? ⟨r, 1, none⟩ = some (.int .i64 (er : Int)) := HDa.out.rd.e
    have q1 : ((er : Int) == 0) = false := bne_int (by omega)
    obtain ⟨q6, hq6⟩ : ∃ q, q = ((m : Int) == 6) := ⟨_, rfl⟩
    rw [← hq6]
    clear hq6
    go_upto_region 7 with fail
    clear q1 z1 her
    obtain ⟨a0, a1, a2, a3, a4, a5, HDa, HST⟩ : ∃ (a0 a1 a2 a3 a4 a5 : Int), Hid (DS w g r s a0 a1 a2 a3 a4 a5 none 0 0 none 0 0 [] [] l1 er Wc) ∧ Hid (Stat er (decodeB b) (decB2 [a0, a1, a2, a3, a4, a5] l1)) := ⟨0, 0, 0, 0, 0, 0, HDa, HST⟩
    obtain ⟨mq, l2, e2, hcs⟩ : ∃ a b c, cntSt 16 l1 er = (a, b, c) := ⟨_, _, _, rfl⟩
    obtain ⟨hm0, hm16, he2, hmz, -, -⟩ := cntSt_rd er (by decide) hcs
    have hCn := cnt_any r er 16 l1 Wc (by decide) he100 HDa.out.rd
    rw [hcs] at hCn
    unfold CntP at hCn
    dsimp only at hCn
    obtain ⟨N, hN⟩ : ∃ N : Nat, mq = (N : Int) := ⟨mq.toNat, by omega⟩
    subst hN
    have HCn := Lib.hid hCn
    have Hcs := Lib.hid hcs
    have he2 := he2 he100
    have hR0 := RunE.start (rd getBytesB) N l2 e2 he2 (fun h => by have := hmz h; omega)
    have hN16 : N ≤ 16 := by omega
    clear hcs hCn hm0 hm16 hmz he100 he2
    go_wp2_with fail
    refine HCn.out.mono ?_
    rintro en w4 ⟨rfl, hb4, hr4⟩
    have HD4 := Lib.hid (HDa.out.rb hb4 hr4)
    have HR0 := Lib.hid hR0
    clear hb4 hr4 hR0 HCn HDa
    go_wp2_with fail
    go_loopg [31] N (fun gh s31 wr => ∃ (k : Nat) (T : Option Addr) (tc : Nat) (xs : List Bytes) (l : Bytes) (e : Nat), s31 = .int .i64 (k : Int) ∧ gh = N - k ∧ k ≤ N ∧ Hid (RunE (rd getBytesB) N l2 e2 k xs l e ∧ ∀ t ∈ xs, t.length ≤ maxLen) ∧ Hid (DS w g r s a0 a1 a2 a3 a4 a5 T k tc none 0 0 xs [] l e wr))
    case atStart => exact ⟨0, none, 0, [], l2, e2, rfl, rfl, Nat.zero_le _, ⟨HR0.out, fun t h => by cases h⟩, HD4.out⟩
    case round =>
      obtain ⟨k, T, tc, xs, l, e, rfl, hgh, hk, HRk, HDk⟩ := hrel
      by_cases hlt : k < N
      · have hI1 : (0 : Int) ≤ (k : Int) := by omega
        have hI2 : (k : Int) < (N : Int) := by omega
        obtain ⟨x, l', e', hx⟩ : ∃ x l' e', tkS l e = (x, l', e') := ⟨_, _, _, rfl⟩
        have HT := fun W h => takeS_any r e l W h
        rw [hx] at HT
        dsimp only at HT
        have HTk := Lib.hid HT
        have HR1 : Hid (RunE (rd getBytesB) N l2 e2 (k + 1) (xs ++ [x]) l' e' ∧ ∀ t ∈ xs ++ [x], t.length ≤ maxLen) := by
          refine ⟨HRk.out.1.text hlt hx, fun t ht => ?_⟩
          rcases List.mem_append.1 ht with ht | ht
          · exact HRk.out.2 t ht
          · rw [List.mem_singleton.1 ht]
            have h1 := tkS_len l e
            rw [hx] at h1
            have h2 := HDk.out.rd.len
            unfold maxLen
            dsimp only at h1
            omega
        have hb1 : k + 1 ≤ maxLen := by unfold maxLen; omega
        have hb2 : (k + 1) * 16 ≤ 140737488355328 := by omega
        have hd : Below wr.heap.size wr wr.drew := (Below.refl _ _).drew
        have HD5 := Lib.hid (HDk.out.call hd)
        clear HT hx hd HRk
        go_upto_region 9 with fail
        refine wp_region_held_drew (S := fun _ => True) (by kernel_rfl) trivial (fun hHeld => ?_)
        refine wpAnyH_take (i := 0) (v := ?_) (by simp only [List.getElem?_toArray, List.getElem?_cons_zero] <;> rfl) (by kernel_rfl) (by kernel_rfl) (by kernel_rfl) (by intro _ _ _ h; exact h) (Or.inl ⟨by rfl, ?_⟩) hHeld ?_
        rotate_left
        · intro w hSw; (try dsimp only at hSw); go_simp
          with_reducible rfl
        try simp only [Act.put, List.setIfInBounds_toArray, List.set_cons_zero, List.set_cons_succ]
        refine wpAnyH_take (i := 2) (v := ?_) (by simp only [List.getElem?_toArray, List.getElem?_cons_zero, List.getElem?_cons_succ] <;> rfl) (by kernel_rfl) (by kernel_rfl) (by kernel_rfl) (by intro _ _ _ h; exact h) (Or.inl ⟨by rfl, ?_⟩) hHeld ?_
        rotate_left
        · intro w hSw; (try dsimp only at hSw); go_simp
          with_reducible rfl
        try simp only [Act.put, List.setIfInBounds_toArray, List.set_cons_zero, List.set_cons_succ]
        refine wpAnyH_ready (rs := [1, 3]) (by kernel_rfl) (by simp) ?_
        refine (AllReadyH.cons (by simp only [List.getElem?_toArray, List.getElem?_cons_zero, List.getElem?_cons_succ] <;> rfl) (fun K hK => ?_) (AllReadyH.cons (by simp only [List.getElem?_toArray, List.getElem?_cons_zero, List.getElem?_cons_succ] <;> rfl) (fun K hK => ?_) AllReadyH.nil))
        · obtain ⟨⟨c6, -⟩, -⟩ := HD5.out.cells
          go_simp
          refine hK.out _ _ trivial (fun hHeld => ?_)
          clear hK K
          try simp only [Act.put, List.setIfInBounds_toArray, List.set_cons_zero, List.set_cons_succ]
          clear c6
          refine wpAnyH_ready (rs := [3]) (by kernel_rfl) (by simp) ?_
          refine (AllReadyH.cons (by simp only [List.getElem?_toArray, List.getElem?_cons_zero, List.getElem?_cons_succ] <;> rfl) (fun K hK => ?_) AllReadyH.nil)
          · go_simp
            go_at_call 69
            refine (HTk.out _ (Lib.hid HD5.out.rd)).mono ?_
            rintro en w6 ⟨rfl, hb6, hr6⟩
            have HD6 := Lib.hid (HD5.out.rb hb6 hr6)
            clear hb6 hr6
            refine hK.out _ _ trivial (fun hHeld => ?_)
            clear hK K
            try simp only [Act.put, List.setIfInBounds_toArray, List.set_cons_zero, List.set_cons_succ]
            refine wpAnyH_ready (rs := [4]) (by kernel_rfl) (by simp) ?_
            refine (AllReadyH.cons (by simp only [List.getElem?_toArray, List.getElem?_cons_zero, List.getElem?_cons_succ] <;> rfl) (fun K hK => ?_) AllReadyH.nil)
            · go_simp
              have HD7 := Lib.hid (HD6.out.call ((Below.refl _ _).alloc (Nat.le_refl _) (.cells #[.string ⟨x.toArray⟩] 9)))
              refine hK.out _ _ trivial (fun hHeld => ?_)
              clear hK K
              try simp only [Act.put, List.setIfInBounds_toArray, List.set_cons_zero, List.set_cons_succ]
              refine wpAnyH_ready (rs := [5]) (by kernel_rfl) (by simp) ?_
              refine (AllReadyH.cons (by simp only [List.getElem?_toArray, List.getElem?_cons_zero, List.getElem?_cons_succ] <;> rfl) (fun K hK => ?_) AllReadyH.nil)
              · refine step_append_sl rfl _ _ 24 rfl rfl rfl so24 (HD6.out.own1.alloc _) (m := 1) (news := [.string ⟨x.toArray⟩]) rfl (Sl.new _ _ _) (fun u hu => by rw [List.mem_singleton.1 hu]; rfl) hb1 hb2 (Nat.le_trans (show s + 1 ≤ w6.heap.size from HD6.out.size) (by simp)) ?_
                intro A8 c8 w8 ho8 hg8
                obtain ⟨hrow8, hD8⟩ := HD6.out.text (x := x) ho8 hg8
                have HD8 := Lib.hid hD8
                clear ho8 hg8 hD8
                refine hK.out _ _ trivial (fun hHeld => ?_)
                clear hK K
                try simp only [Act.put, List.setIfInBounds_toArray, List.set_cons_zero, List.set_cons_succ]
                refine wpAnyH_take (i := 6) (v := ?_) (by simp only [List.getElem?_toArray, List.getElem?_cons_zero, List.getElem?_cons_succ] <;> rfl) (by kernel_rfl) (by kernel_rfl) (by kernel_rfl) (by intro _ _ _ h; exact h) (Or.inl ⟨by rfl, ?_⟩) hHeld ?_
                rotate_left
                · intro w hSw; (try dsimp only at hSw); go_simp
                  with_reducible rfl
                try simp only [Act.put, List.setIfInBounds_toArray, List.set_cons_zero, List.set_cons_succ]
                refine wpAnyH_ready (rs := [7]) (by kernel_rfl) (by simp) ?_
                refine (AllReadyH.cons (by simp only [List.getElem?_toArray, List.getElem?_cons_zero, List.getElem?_cons_succ] <;> rfl) (fun K hK => ?_) AllReadyH.nil)
                · obtain ⟨c6, f6⟩ := cell_at (u := .slice T k tc) hrow8 6 rfl
                  go_simp
                  refine hK.out _ _ trivial (fun hHeld => ?_)
                  clear hK K
                  try simp only [Act.put, List.setIfInBounds_toArray, List.set_cons_zero, List.set_cons_succ]
                  refine wpAnyH_done (by kernel_rfl) ?_ _
                  clear hHeld hrow8 f6 c6
                  go_wp2_with fail
                  go_roundg (N - (k + 1))
                  case measure => omega
                  case rel => exact ⟨k + 1, A8, c8, xs ++ [x], l', e', by go_num, rfl, by omega, HR1, HD8⟩
        · go_simp
          go_at_call 69
          refine (HTk.out _ (Lib.hid HD5.out.rd)).mono ?_
          rintro en w6 ⟨rfl, hb6, hr6⟩
          have HD6 := Lib.hid (HD5.out.rb hb6 hr6)
          clear hb6 hr6
          refine hK.out _ _ trivial (fun hHeld => ?_)
          clear hK K
          try simp only [Act.put, List.setIfInBounds_toArray, List.set_cons_zero, List.set_cons_succ]
          refine wpAnyH_ready (rs := [1, 4]) (by kernel_rfl) (by simp) ?_
          refine (AllReadyH.cons (by simp only [List.getElem?_toArray, List.getElem?_cons_zero, List.getElem?_cons_succ] <;> rfl) (fun K hK => ?_) (AllReadyH.cons (by simp only [List.getElem?_toArray, List.getElem?_cons_zero, List.getElem?_cons_succ] <;> rfl) (fun K hK => ?_) AllReadyH.nil))
          · obtain ⟨⟨c6, -⟩, -⟩ := HD6.out.cells
            go_simp
            refine hK.out _ _ trivial (fun hHeld => ?_)
            clear hK K
            try simp only [Act.put, List.setIfInBounds_toArray, List.set_cons_zero, List.set_cons_succ]
            clear c6
            refine wpAnyH_ready (rs := [4]) (by kernel_rfl) (by simp) ?_
            refine (AllReadyH.cons (by simp only [List.getElem?_toArray, List.getElem?_cons_zero, List.getElem?_cons_succ] <;> rfl) (fun K hK => ?_) AllReadyH.nil)
            · go_simp
              have HD7 := Lib.hid (HD6.out.call ((Below.refl _ _).alloc (Nat.le_refl _) (.cells #[.string ⟨x.toArray⟩] 9)))
              refine hK.out _ _ trivial (fun hHeld => ?_)
              clear hK K
              try simp only [Act.put, List.setIfInBounds_toArray, List.set_cons_zero, List.set_cons_succ]
              refine wpAnyH_ready (rs := [5]) (by kernel_rfl) (by simp) ?_
              refine (AllReadyH.cons (by simp only [List.getElem?_toArray, List.getElem?_cons_zero, List.getElem?_cons_succ] <;> rfl) (fun K hK => ?_) AllReadyH.nil)
              · refine step_append_sl rfl _ _ 24 rfl rfl rfl so24 (HD6.out.own1.alloc _) (m := 1) (news := [.string ⟨x.toArray⟩]) rfl (Sl.new _ _ _) (fun u hu => by rw [List.mem_singleton.1 hu]; rfl) hb1 hb2 (Nat.le_trans (show s + 1 ≤ w6.heap.size from HD6.out.size) (by simp)) ?_
                intro A8 c8 w8 ho8 hg8
                obtain ⟨hrow8, hD8⟩ := HD6.out.text (x := x) ho8 hg8
                have HD8 := Lib.hid hD8
                clear ho8 hg8 hD8
                refine hK.out _ _ trivial (fun hHeld => ?_)
                clear hK K
                try simp only [Act.put, List.setIfInBounds_toArray, List.set_cons_zero, List.set_cons_succ]
                refine wpAnyH_take (i := 6) (v := ?_) (by simp only [List.getElem?_toArray, List.getElem?_cons_zero, List.getElem?_cons_succ] <;> rfl) (by kernel_rfl) (by kernel_rfl) (by kernel_rfl) (by intro _ _ _ h; exact h) (Or.inl ⟨by rfl, ?_⟩) hHeld ?_
                rotate_left
                · intro w hSw; (try dsimp only at hSw); go_simp
                  with_reducible rfl
                try simp only [Act.put, List.setIfInBounds_toArray, List.set_cons_zero, List.set_cons_succ]
                refine wpAnyH_ready (rs := [7]) (by kernel_rfl) (by simp) ?_
                refine (AllReadyH.cons (by simp only [List.getElem?_toArray, List.getElem?_cons_zero, List.getElem?_cons_succ] <;> rfl) (fun K hK => ?_) AllReadyH.nil)
                · obtain ⟨c6, f6⟩ := cell_at (u := .slice T k tc) hrow8 6 rfl
                  go_simp
                  refine hK.out _ _ trivial (fun hHeld => ?_)
                  clear hK K
                  try simp only [Act.put, List.setIfInBounds_toArray, List.set_cons_zero, List.set_cons_succ]
                  refine wpAnyH_done (by kernel_rfl) ?_ _
                  clear hHeld hrow8 f6 c6
                  go_wp2_with fail
                  go_roundg (N - (k + 1))
                  case measure => omega
                  case rel => exact ⟨k + 1, A8, c8, xs ++ [x], l', e', by go_num, rfl, by omega, HR1, HD8⟩
          · go_simp
            have HD7 := Lib.hid (HD6.out.call ((Below.refl _ _).alloc (Nat.le_refl _) (.cells #[.string ⟨x.toArray⟩] 9)))
            refine hK.out _ _ trivial (fun hHeld => ?_)
            clear hK K
            try simp only [Act.put, List.setIfInBounds_toArray, List.set_cons_zero, List.set_cons_succ]
            refine wpAnyH_ready (rs := [1]) (by kernel_rfl) (by simp) ?_
            refine (AllReadyH.cons (by simp only [List.getElem?_toArray, List.getElem?_cons_zero, List.getElem?_cons_succ] <;> rfl) (fun K hK => ?_) AllReadyH.nil)
            · obtain ⟨⟨c6, -⟩, -⟩ := HD7.out.cells
              go_simp
              refine hK.out _ _ trivial (fun hHeld => ?_)
              clear hK K
              try simp only [Act.put, List.setIfInBounds_toArray, List.set_cons_zero, List.set_cons_succ]
              clear c6
              refine wpAnyH_ready (rs := [5]) (by kernel_rfl) (by simp) ?_
              refine (AllReadyH.cons (by simp only [List.getElem?_toArray, List.getElem?_cons_zero, List.getElem?_cons_succ] <;> rfl) (fun K hK => ?_) AllReadyH.nil)
              · refine step_append_sl rfl _ _ 24 rfl rfl rfl so24 (HD6.out.own1.alloc _) (m := 1) (news := [.string ⟨x.toArray⟩]) rfl (Sl.new _ _ _) (fun u hu => by rw [List.mem_singleton.1 hu]; rfl) hb1 hb2 (Nat.le_trans (show s + 1 ≤ w6.heap.size from HD6.out.size) (by simp)) ?_
                intro A8 c8 w8 ho8 hg8
                obtain ⟨hrow8, hD8⟩ := HD6.out.text (x := x) ho8 hg8
                have HD8 := Lib.hid hD8
                clear ho8 hg8 hD8
                refine hK.out _ _ trivial (fun hHeld => ?_)
                clear hK K
                try simp only [Act.put, List.setIfInBounds_toArray, List.set_cons_zero, List.set_cons_succ]
                refine wpAnyH_take (i := 6) (v := ?_) (by simp only [List.getElem?_toArray, List.getElem?_cons_zero, List.getElem?_cons_succ] <;> rfl) (by kernel_rfl) (by kernel_rfl) (by kernel_rfl) (by intro _ _ _ h; exact h) (Or.inl ⟨by rfl, ?_⟩) hHeld ?_
                rotate_left
                · intro w hSw; (try dsimp only at hSw); go_simp
                  with_reducible rfl
                try simp only [Act.put, List.setIfInBounds_toArray, List.set_cons_zero, List.set_cons_succ]
                refine wpAnyH_ready (rs := [7]) (by kernel_rfl) (by simp) ?_
                refine (AllReadyH.cons (by simp only [List.getElem?_toArray, List.getElem?_cons_zero, List.getElem?_cons_succ] <;> rfl) (fun K hK => ?_) AllReadyH.nil)
                · obtain ⟨c6, f6⟩ := cell_at (u := .slice T k tc) hrow8 6 rfl
                  go_simp
                  refine hK.out _ _ trivial (fun hHeld => ?_)
                  clear hK K
                  try simp only [Act.put, List.setIfInBounds_toArray, List.set_cons_zero, List.set_cons_succ]
                  refine wpAnyH_done (by kernel_rfl) ?_ _
                  clear hHeld hrow8 f6 c6
                  go_wp2_with fail
                  go_roundg (N - (k + 1))
                  case measure => omega
                  case rel => exact ⟨k + 1, A8, c8, xs ++ [x], l', e', by go_num, rfl, by omega, HR1, HD8⟩
      · have hke : k = N := by omega
        have hI3 : ¬ (k : Int) < (N : Int) := by omega
        subst hke
        have hst2 : Stat e (decodeB b) (decB3 [a0, a1, a2, a3, a4, a5] xs l) := stat_texts HST.out Hcs.out (by rw [Int.toNat_natCast]; exact HRk.out.1)
        have he100 : e ≤ 100 := HRk.out.1.len.2
        obtain ⟨mq, l3, e3, hcs⟩ : ∃ a b c, cntSt 1000 l e = (a, b, c) := ⟨_, _, _, rfl⟩
        obtain ⟨hm0, hm16, he2, hmz, -, -⟩ := cntSt_rd e (by decide) hcs
        have hCn := cnt_any r e 1000 l wr (by decide) he100 HDk.out.rd
        rw [hcs] at hCn
        unfold CntP at hCn
        dsimp only at hCn
        obtain ⟨M, hM⟩ : ∃ N : Nat, mq = (N : Int) := ⟨mq.toNat, by omega⟩
        subst hM
        have HCn := Lib.hid hCn
        have Hcs2 := Lib.hid hcs
        have HST2 := Lib.hid hst2
        have HXL : Hid (∀ t ∈ xs, t.length ≤ maxLen) := HRk.out.2
        have he2 := he2 he100
        have hR0 := RunE.start rdStep M l3 e3 he2 (fun h => by have := hmz h; omega)
        have hN1000 : M ≤ 1000 := by omega
        clear hcs hCn hm0 hm16 hmz he100 he2 hst2 HST Hcs HRk HR0 HD4 hgh hlt
        go_wp2_with fail
        refine HCn.out.mono ?_
        rintro en w5 ⟨rfl, hb4, hr4⟩
        have HD5 := Lib.hid (HDk.out.rb hb4 hr4)
        have HR0 := Lib.hid hR0
        clear hb4 hr4 hR0 HCn HDk
        go_wp2_with fail
        go_loopg [43] M (fun gh s43 wr => ∃ (j : Nat) (U : Option Addr) (uc : Nat) (ys : List StepD) (l : Bytes) (e : Nat), s43 = .int .i64 (j : Int) ∧ gh = M - j ∧ j ≤ M ∧ Hid (RunE rdStep M l3 e3 j ys l e ∧ ∀ y ∈ ys, y.args.length ≤ maxLen) ∧ Hid (DS w g r s a0 a1 a2 a3 a4 a5 T k tc U j uc xs ys l e wr))
        case atStart => exact ⟨0, none, 0, [], l3, e3, rfl, rfl, Nat.zero_le _, ⟨HR0.out, fun t h => by cases h⟩, HD5.out⟩
        case round =>
          obtain ⟨j, U, uc, ys, l, e, rfl, hgh, hj, HRk, HDk⟩ := hrel
          by_cases hlt : j < M
          · have hI1 : (0 : Int) ≤ (j : Int) := by omega
            have hI2 : (j : Int) < (M : Int) := by omega
            obtain ⟨kd, l', e', hx⟩ : ∃ x l' e', tkI l e = (x, l', e') := ⟨_, _, _, rfl⟩
            obtain ⟨x, l'', e'', hx'⟩ : ∃ x l'' e'', tkL l' e' = (x, l'', e'') := ⟨_, _, _, rfl⟩
            have HT := takeI_any r e l wr HDk.out.rd
            rw [hx] at HT
            dsimp only at HT
            have HTk := Lib.hid HT
            have HT' := fun W h => takeL_any r e' l' W h
            rw [hx'] at HT'
            dsimp only at HT'
            have HR1 : Hid (RunE rdStep M l3 e3 (j + 1) (ys ++ [⟨kd, x⟩]) l'' e'' ∧ (∀ y ∈ ys ++ [⟨kd, x⟩], y.args.length ≤ maxLen) ∨ 1000000000 < l'.length) := by
              by_cases hl : l'.length ≤ 1000000000
              · refine .inl ⟨HRk.out.1.step hlt hx hx', fun t ht => ?_⟩
                rcases List.mem_append.1 ht with ht | ht
                · exact HRk.out.2 t ht
                · rw [List.mem_singleton.1 ht]
                  have h1 := tkL_len l' e'
                  rw [hx'] at h1
                  unfold maxLen
                  dsimp only at h1 ⊢
                  omega
              · exact .inr (by omega)
            obtain ⟨q, hq⟩ : ∃ q, q = x.length := ⟨_, rfl⟩
            rw [← hq] at HT'
            have Hq := Lib.hid hq
            have HTl := Lib.hid HT'
            have hb1 : j + 1 ≤ maxLen := by unfold maxLen; omega
            have hb2 : (j + 1) * 32 ≤ 140737488355328 := by omega
            clear HT hx HT' hx' HRk hq
            go_wp2_with fail
            refine HTk.out.mono ?_
            rintro en w6 ⟨rfl, hb6, hr6⟩
            have hD6 := HDk.out.rb hb6 hr6
            have hd : Below w6.heap.size w6 w6.drew := (Below.refl _ _).drew
            have HD5 := Lib.hid (hD6.call hd)
            have HR2 : Hid (RunE rdStep M l3 e3 (j + 1) (ys ++ [⟨kd, x⟩]) l'' e'' ∧ ∀ y ∈ ys ++ [⟨kd, x⟩], y.args.length ≤ maxLen) := by
              rcases HR1.out with h | h
              · exact h
              · exact absurd hr6.len (by omega)
            clear hb6 hr6 hD6 hd HR1 HTk HDk
            go_upto_region 14 with fail
            refine wp_region_held_drew (S := fun _ => True) (by kernel_rfl) trivial (fun hHeld => ?_)
            refine wpAnyH_take (i := 0) (v := ?_) (by simp only [List.getElem?_toArray, List.getElem?_cons_zero] <;> rfl) (by kernel_rfl) (by kernel_rfl) (by kernel_rfl) (by intro _ _ _ h; exact h) (Or.inl ⟨by rfl, ?_⟩) hHeld ?_
            rotate_left
            · intro w hSw; (try dsimp only at hSw); go_simp
              with_reducible rfl
            try simp only [Act.put, List.setIfInBounds_toArray, List.set_cons_zero, List.set_cons_succ]
            refine wpAnyH_take (i := 2) (v := ?_) (by simp only [List.getElem?_toArray, List.getElem?_cons_zero, List.getElem?_cons_succ] <;> rfl) (by kernel_rfl) (by kernel_rfl) (by kernel_rfl) (by intro _ _ _ h; exact h) (Or.inl ⟨by rfl, ?_⟩) hHeld ?_
            rotate_left
            · intro w hSw; (try dsimp only at hSw); go_simp
              with_reducible rfl
            try simp only [Act.put, List.setIfInBounds_toArray, List.set_cons_zero, List.set_cons_succ]
            refine wpAnyH_take (i := 3) (v := ?_) (by simp only [List.getElem?_toArray, List.getElem?_cons_zero, List.getElem?_cons_succ] <;> rfl) (by kernel_rfl) (by kernel_rfl) (by kernel_rfl) (by intro _ _ _ h; exact h) (Or.inl ⟨by rfl, ?_⟩) hHeld ?_
            rotate_left
            · intro w hSw; (try dsimp only at hSw); go_simp
              with_reducible rfl
            try simp only [Act.put, List.setIfInBounds_toArray, List.set_cons_zero, List.set_cons_succ]
            refine wpAnyH_ready (rs := [1, 4]) (by kernel_rfl) (by simp) ?_
            refine (AllReadyH.cons (by simp only [List.getElem?_toArray, List.getElem?_cons_zero, List.getElem?_cons_succ] <;> rfl) (fun K hK => ?_) (AllReadyH.cons (by simp only [List.getElem?_toArray, List.getElem?_cons_zero, List.getElem?_cons_succ] <;> rfl) (fun K hK => ?_) AllReadyH.nil))
            · obtain ⟨⟨-, c7⟩, -⟩ := HD5.out.cells
              go_simp
              refine hK.out _ _ trivial (fun hHeld => ?_)
              clear hK K
              try simp only [Act.put, List.setIfInBounds_toArray, List.set_cons_zero, List.set_cons_succ]
              clear c7
              refine wpAnyH_ready (rs := [4]) (by kernel_rfl) (by simp) ?_
              refine (AllReadyH.cons (by simp only [List.getElem?_toArray, List.getElem?_cons_zero, List.getElem?_cons_succ] <;> rfl) (fun K hK => ?_) AllReadyH.nil)
              · go_simp
                go_at_call 64
                refine (HTl.out _ (Lib.hid HD5.out.rd)).mono ?_
                rintro en w7 ⟨hb7, hr7, A7, c7, rfl, ho7⟩
                have HD7 := Lib.hid (HD5.out.rb hb7 hr7)
                have HO7 := Lib.hid ho7
                clear hb7 hr7 ho7
                refine hK.out _ _ trivial (fun hHeld => ?_)
                clear hK K
                try simp only [Act.put, List.setIfInBounds_toArray, List.set_cons_zero, List.set_cons_succ]
                refine wpAnyH_take (i := 5) (v := ?_) (by simp only [List.getElem?_toArray, List.getElem?_cons_zero, List.getElem?_cons_succ] <;> rfl) (by kernel_rfl) (by kernel_rfl) (by kernel_rfl) (by intro _ _ _ h; exact h) (Or.inl ⟨by rfl, ?_⟩) hHeld ?_
                rotate_left
                · intro w hSw; (try dsimp only at hSw); go_simp
                  with_reducible rfl
                try simp only [Act.put, List.setIfInBounds_toArray, List.set_cons_zero, List.set_cons_succ]
                refine wpAnyH_ready (rs := [6]) (by kernel_rfl) (by simp) ?_
                refine (AllReadyH.cons (by simp only [List.getElem?_toArray, List.getElem?_cons_zero, List.getElem?_cons_succ] <;> rfl) (fun K hK => ?_) AllReadyH.nil)
                · go_simp
                  have HD8 := Lib.hid (HD7.out.call ((Below.refl _ _).alloc (Nat.le_refl _) (.cells #[.int .i64 kd, .slice A7 q c7] 69)))
                  refine hK.out _ _ trivial (fun hHeld => ?_)
                  clear hK K
                  try simp only [Act.put, List.setIfInBounds_toArray, List.set_cons_zero, List.set_cons_succ]
                  refine wpAnyH_ready (rs := [7]) (by kernel_rfl) (by simp) ?_
                  refine (AllReadyH.cons (by simp only [List.getElem?_toArray, List.getElem?_cons_zero, List.getElem?_cons_succ] <;> rfl) (fun K hK => ?_) AllReadyH.nil)
                  · obtain ⟨ms, hm1, hm2⟩ := HD7.out.own2
                    have hA7 : SlT w7 w7.heap.size 3 A7 (x.map intC) := own_slT HO7.out
                    have hc7 := (own_cap HO7.out).1
                    refine step_append_sl rfl _ _ 33 rfl rfl rfl so33 (hm1.alloc _) (m := 1) (news := [.int .i64 kd, .slice A7 q c7]) rfl (Sl.new _ _ _) (fun u hu => by simp at hu; rcases hu with rfl | rfl <;> rfl) hb1 hb2 (Nat.le_trans (show s + 1 ≤ w7.heap.size from HD7.out.size) (by simp)) ?_
                    intro A9 c9 w9 ho9 hg9
                    have hqx := Hq.out
                    subst hqx
                    obtain ⟨hrow9, hD9⟩ := HD7.out.step (x := ⟨kd, x⟩) hm1 hm2 hA7 hc7 ho9 hg9
                    have HD9 := Lib.hid hD9
                    clear ho9 hg9 hD9 hm1 hm2 hA7 hc7
                    refine hK.out _ _ trivial (fun hHeld => ?_)
                    clear hK K
                    try simp only [Act.put, List.setIfInBounds_toArray, List.set_cons_zero, List.set_cons_succ]
                    refine wpAnyH_take (i := 8) (v := ?_) (by simp only [List.getElem?_toArray, List.getElem?_cons_zero, List.getElem?_cons_succ] <;> rfl) (by kernel_rfl) (by kernel_rfl) (by kernel_rfl) (by intro _ _ _ h; exact h) (Or.inl ⟨by rfl, ?_⟩) hHeld ?_
                    rotate_left
                    · intro w hSw; (try dsimp only at hSw); go_simp
                      with_reducible rfl
                    try simp only [Act.put, List.setIfInBounds_toArray, List.set_cons_zero, List.set_cons_succ]
                    refine wpAnyH_ready (rs := [9]) (by kernel_rfl) (by simp) ?_
                    refine (AllReadyH.cons (by simp only [List.getElem?_toArray, List.getElem?_cons_zero, List.getElem?_cons_succ] <;> rfl) (fun K hK => ?_) AllReadyH.nil)
                    · obtain ⟨c77, f7⟩ := cell_at (u := .slice U j uc) hrow9 7 rfl
                      go_simp
                      refine hK.out _ _ trivial (fun hHeld => ?_)
                      clear hK K
                      try simp only [Act.put, List.setIfInBounds_toArray, List.set_cons_zero, List.set_cons_succ]
                      refine wpAnyH_done (by kernel_rfl) ?_ _
                      clear hHeld hrow9 f7 c77
                      go_wp2_with fail
                      go_roundg (M - (j + 1))
                      case measure => omega
                      case rel => exact ⟨j + 1, A9, c9, ys ++ [⟨kd, x⟩], l'', e'', by go_num, rfl, by omega, HR2, HD9⟩
            · go_simp
              go_at_call 64
              refine (HTl.out _ (Lib.hid HD5.out.rd)).mono ?_
              rintro en w7 ⟨hb7, hr7, A7, c7, rfl, ho7⟩
              have HD7 := Lib.hid (HD5.out.rb hb7 hr7)
              have HO7 := Lib.hid ho7
              clear hb7 hr7 ho7
              refine hK.out _ _ trivial (fun hHeld => ?_)
              clear hK K
              try simp only [Act.put, List.setIfInBounds_toArray, List.set_cons_zero, List.set_cons_succ]
              refine wpAnyH_take (i := 5) (v := ?_) (by simp only [List.getElem?_toArray, List.getElem?_cons_zero, List.getElem?_cons_succ] <;> rfl) (by kernel_rfl) (by kernel_rfl) (by kernel_rfl) (by intro _ _ _ h; exact h) (Or.inl ⟨by rfl, ?_⟩) hHeld ?_
              rotate_left
              · intro w hSw; (try dsimp only at hSw); go_simp
                with_reducible rfl
              try simp only [Act.put, List.setIfInBounds_toArray, List.set_cons_zero, List.set_cons_succ]
              refine wpAnyH_ready (rs := [1, 6]) (by kernel_rfl) (by simp) ?_
              refine (AllReadyH.cons (by simp only [List.getElem?_toArray, List.getElem?_cons_zero, List.getElem?_cons_succ] <;> rfl) (fun K hK => ?_) (AllReadyH.cons (by simp only [List.getElem?_toArray, List.getElem?_cons_zero, List.getElem?_cons_succ] <;> rfl) (fun K hK => ?_) AllReadyH.nil))
              · obtain ⟨⟨-, c7⟩, -⟩ := HD7.out.cells
                go_simp
                refine hK.out _ _ trivial (fun hHeld => ?_)
                clear hK K
                try simp only [Act.put, List.setIfInBounds_toArray, List.set_cons_zero, List.set_cons_succ]
                clear c7
                refine wpAnyH_ready (rs := [6]) (by kernel_rfl) (by simp) ?_
                refine (AllReadyH.cons (by simp only [List.getElem?_toArray, List.getElem?_cons_zero, List.getElem?_cons_succ] <;> rfl) (fun K hK => ?_) AllReadyH.nil)
                · go_simp
                  have HD8 := Lib.hid (HD7.out.call ((Below.refl _ _).alloc (Nat.le_refl _) (.cells #[.int .i64 kd, .slice A7 q c7] 69)))
                  refine hK.out _ _ trivial (fun hHeld => ?_)
                  clear hK K
                  try simp only [Act.put, List.setIfInBounds_toArray, List.set_cons_zero, List.set_cons_succ]
                  refine wpAnyH_ready (rs := [7]) (by kernel_rfl) (by simp) ?_
                  refine (AllReadyH.cons (by simp only [List.getElem?_toArray, List.getElem?_cons_zero, List.getElem?_cons_succ] <;> rfl) (fun K hK => ?_) AllReadyH.nil)
                  · obtain ⟨ms, hm1, hm2⟩ := HD7.out.own2
                    have hA7 : SlT w7 w7.heap.size 3 A7 (x.map intC) := own_slT HO7.out
                    have hc7 := (own_cap HO7.out).1
                    refine step_append_sl rfl _ _ 33 rfl rfl rfl so33 (hm1.alloc _) (m := 1) (news := [.int .i64 kd, .slice A7 q c7]) rfl (Sl.new _ _ _) (fun u hu => by simp at hu; rcases hu with rfl | rfl <;> rfl) hb1 hb2 (Nat.le_trans (show s + 1 ≤ w7.heap.size from HD7.out.size) (by simp)) ?_
                    intro A9 c9 w9 ho9 hg9
                    have hqx := Hq.out
                    subst hqx
                    obtain ⟨hrow9, hD9⟩ := HD7.out.step (x := ⟨kd, x⟩) hm1 hm2 hA7 hc7 ho9 hg9
                    have HD9 := Lib.hid hD9
                    clear ho9 hg9 hD9 hm1 hm2 hA7 hc7
                    refine hK.out _ _ trivial (fun hHeld => ?_)
                    clear hK K
                    try simp only [Act.put, List.setIfInBounds_toArray, List.set_cons_zero, List.set_cons_succ]
                    refine wpAnyH_take (i := 8) (v := ?_) (by simp only [List.getElem?_toArray, List.getElem?_cons_zero, List.getElem?_cons_succ] <;> rfl) (by kernel_rfl) (by kernel_rfl) (by kernel_rfl) (by intro _ _ _ h; exact h) (Or.inl ⟨by rfl, ?_⟩) hHeld ?_
                    rotate_left
                    · intro w hSw; (try dsimp only at hSw); go_simp
                      with_reducible rfl
                    try simp only [Act.put, List.setIfInBounds_toArray, List.set_cons_zero, List.set_cons_succ]
                    refine wpAnyH_ready (rs := [9]) (by kernel_rfl) (by simp) ?_
                    refine (AllReadyH.cons (by simp only [List.getElem?_toArray, List.getElem?_cons_zero, List.getElem?_cons_succ] <;> rfl) (fun K hK => ?_) AllReadyH.nil)
                    · obtain ⟨c77, f7⟩ := cell_at (u := .slice U j uc) hrow9 7 rfl
                      go_simp
                      refine hK.out _ _ trivial (fun hHeld => ?_)
                      clear hK K
                      try simp only [Act.put, List.setIfInBounds_toArray, List.set_cons_zero, List.set_cons_succ]
                      refine wpAnyH_done (by kernel_rfl) ?_ _
                      clear hHeld hrow9 f7 c77
                      go_wp2_with fail
                      go_roundg (M - (j + 1))
                      case measure => omega
                      case rel => exact ⟨j + 1, A9, c9, ys ++ [⟨kd, x⟩], l'', e'', by go_num, rfl, by omega, HR2, HD9⟩
              · go_simp
                have HD8 := Lib.hid (HD7.out.call ((Below.refl _ _).alloc (Nat.le_refl _) (.cells #[.int .i64 kd, .slice A7 q c7] 69)))
                refine hK.out _ _ trivial (fun hHeld => ?_)
                clear hK K
                try simp only [Act.put, List.setIfInBounds_toArray, List.set_cons_zero, List.set_cons_succ]
                refine wpAnyH_ready (rs := [1]) (by kernel_rfl) (by simp) ?_
                refine (AllReadyH.cons (by simp only [List.getElem?_toArray, List.getElem?_cons_zero, List.getElem?_cons_succ] <;> rfl) (fun K hK => ?_) AllReadyH.nil)
                · obtain ⟨⟨-, c7⟩, -⟩ := HD8.out.cells
                  go_simp
                  refine hK.out _ _ trivial (fun hHeld => ?_)
                  clear hK K
                  try simp only [Act.put, List.setIfInBounds_toArray, List.set_cons_zero, List.set_cons_succ]
                  clear c7
                  refine wpAnyH_ready (rs := [7]) (by kernel_rfl) (by simp) ?_
                  refine (AllReadyH.cons (by simp only [List.getElem?_toArray, List.getElem?_cons_zero, List.getElem?_cons_succ] <;> rfl) (fun K hK => ?_) AllReadyH.nil)
                  · obtain ⟨ms, hm1, hm2⟩ := HD7.out.own2
                    have hA7 : SlT w7 w7.heap.size 3 A7 (x.map intC) := own_slT HO7.out
                    have hc7 := (own_cap HO7.out).1
                    refine step_append_sl rfl _ _ 33 rfl rfl rfl so33 (hm1.alloc _) (m := 1) (news := [.int .i64 kd, .slice A7 q c7]) rfl (Sl.new _ _ _) (fun u hu => by simp at hu; rcases hu with rfl | rfl <;> rfl) hb1 hb2 (Nat.le_trans (show s + 1 ≤ w7.heap.size from HD7.out.size) (by simp)) ?_
                    intro A9 c9 w9 ho9 hg9
                    have hqx := Hq.out
                    subst hqx
                    obtain ⟨hrow9, hD9⟩ := HD7.out.step (x := ⟨kd, x⟩) hm1 hm2 hA7 hc7 ho9 hg9
                    have HD9 := Lib.hid hD9
                    clear ho9 hg9 hD9 hm1 hm2 hA7 hc7
                    refine hK.out _ _ trivial (fun hHeld => ?_)
                    clear hK K
                    try simp only [Act.put, List.setIfInBounds_toArray, List.set_cons_zero, List.set_cons_succ]
                    refine wpAnyH_take (i := 8) (v := ?_) (by simp only [List.getElem?_toArray, List.getElem?_cons_zero, List.getElem?_cons_succ] <;> rfl) (by kernel_rfl) (by kernel_rfl) (by kernel_rfl) (by intro _ _ _ h; exact h) (Or.inl ⟨by rfl, ?_⟩) hHeld ?_
                    rotate_left
                    · intro w hSw; (try dsimp only at hSw); go_simp
                      with_reducible rfl
                    try simp only [Act.put, List.setIfInBounds_toArray, List.set_cons_zero, List.set_cons_succ]
                    refine wpAnyH_ready (rs := [9]) (by kernel_rfl) (by simp) ?_
                    refine (AllReadyH.cons (by simp only [List.getElem?_toArray, List.getElem?_cons_zero, List.getElem?_cons_succ] <;> rfl) (fun K hK => ?_) AllReadyH.nil)
                    · obtain ⟨c77, f7⟩ := cell_at (u := .slice U j uc) hrow9 7 rfl
                      go_simp
                      refine hK.out _ _ trivial (fun hHeld => ?_)
                      clear hK K
                      try simp only [Act.put, List.setIfInBounds_toArray, List.set_cons_zero, List.set_cons_succ]
                      refine wpAnyH_done (by kernel_rfl) ?_ _
                      clear hHeld hrow9 f7 c77
                      go_wp2_with fail
                      go_roundg (M - (j + 1))
                      case measure => omega
                      case rel => exact ⟨j + 1, A9, c9, ys ++ [⟨kd, x⟩], l'', e'', by go_num, rfl, by omega, HR2, HD9⟩
          · have hje : j = M := by omega
            have hI4 : ¬ (j : Int) < (M : Int) := by omega
            subst hje
            have hst3 : Stat e (decodeB b) (decB4 [a0, a1, a2, a3, a4, a5] xs ys l) := stat_steps HST2.out Hcs2.out (by rw [Int.toNat_natCast]; exact HRk.out.1)
            have he100 : e ≤ 100 := HRk.out.1.len.2
            have HST3 := Lib.hid hst3
            have HYL : Hid (∀ y ∈ ys, y.args.length ≤ maxLen) := HRk.out.2
            clear hst3 HRk HST2 Hcs2 HR0 hgh hlt
            obtain ⟨A3, c3, z0, z1⟩ := HDk.out.rd.cells
            obtain ⟨ln, hln⟩ : ∃ n, n = l.length := ⟨_, rfl⟩
            rw [← hln] at z0
            have Hln := Lib.hid hln
            clear hln
            go_wp2_with fail
            clear z0 z1
            by_cases hgo : e = 0 ∧ ln = 0
            · obtain ⟨rfl, rfl⟩ := hgo
              have hlnil : l = [] := List.eq_nil_of_length_eq_zero Hln.out.symm
              have hst4 : decodeB b = decB4 [a0, a1, a2, a3, a4, a5] xs ys l := by
                rcases HST3.out with ⟨_, h⟩ | ⟨h, _⟩
                · exact h
                · exact absurd rfl h
              rw [decB4, if_neg (fun h => h hlnil)] at hst4
              have HST4 := Lib.hid hst4
              clear hst4 HST3 hlnil
              refine (Hdem.out _ _ _ _ he100 HDk.out.rd).mono ?_
              rw [if_neg (by simp)]
              rintro en w7 ⟨rfl, hb7, hr7⟩
              have HD7 := Lib.hid (HDk.out.rb hb7 hr7)
              clear hb7 hr7 HDk
              obtain ⟨S, hS⟩ : ∃ S : ScriptD, S = ⟨[a0, a1, a2, a3, a4, a5], xs, ys⟩ := ⟨_, rfl⟩
              have hSP := HD7.out.script
              rw [← hS] at hSP
              have hxs : S.texts.length = k := by rw [hS]; exact HD7.out.n1.symm
              have hys : S.steps.length = j := by rw [hS]; exact HD7.out.n2.symm
              have hSS : ScriptS w7 S (.agg (scrCs a0 a1 a2 a3 a4 a5 T k tc U j uc)) := ⟨a0, a1, a2, a3, a4, a5, T, tc, U, uc, by rw [hxs, hys], hSP⟩
              have hchk := check_any S _ w7 (Hg.out.below HD7.out.below) (Lib.hid hSS) ⟨by rw [hxs]; unfold maxLen; omega, by rw [hys]; unfold maxLen; omega, by rw [hS]; exact HXL.out, by rw [hS]; exact HYL.out⟩
              rw [← hS] at HST4
              have HS := Lib.hid hS
              obtain ⟨ck, hck⟩ : ∃ x, x = checkB S := ⟨_, rfl⟩
              rw [← hck] at hchk HST4
              obtain ⟨ce, ch⟩ := ck
              unfold CheckR at hchk
              dsimp only at hchk HST4
              have Hchk := Lib.hid hchk
              have HSS := Lib.hid hSS
              have hrow := HD7.out.row
              have z1 : w7.cell? ⟨r, 1, none⟩ = some (.int .i64 0) := HD7.out.rd.e
              have y0 := (cell_at (u := .int .i64 a0) hrow 0 rfl).1
              have y1 := (cell_at (u := .int .i64 a1) hrow 1 rfl).1
              have y2 := (cell_at (u := .int .i64 a2) hrow 2 rfl).1
              have y3 := (cell_at (u := .int .i64 a3) hrow 3 rfl).1
              have y4 := (cell_at (u := .int .i64 a4) hrow 4 rfl).1
              have y5 := (cell_at (u := .int .i64 a5) hrow 5 rfl).1
              have y6 := (cell_at (u := .slice T k tc) hrow 6 rfl).1
              have y7 := (cell_at (u := .slice U j uc) hrow 7 rfl).1
              clear hchk hSS hck hS hSP hxs hys hrow
              go_wp2_with fail
              refine Hchk.out.mono ?_
              rintro en w8 ⟨rfl, hb8⟩
              have HD8 := Lib.hid (HD7.out.call hb8)
              have HSS8 := Lib.hid (HSS.out.below hb8)
              clear hb8 z1 y0 y1 y2 y3 y4 y5 y6 y7 Hchk HSS HD7
              go_wp2_with fail
              by_cases hch : ch = 0
              · subst hch
                have hdec : decodeB b = .ok S := by rw [HST4.out, if_neg (by simp), HS.out]
                have Hdec := Lib.hid hdec
                clear hdec HST4
                refine (Hdem.out _ _ _ _ (by omega) HD8.out.rd).mono ?_
                rw [if_neg (by simp)]
                rintro en w9 ⟨rfl, hb9, hr9⟩
                have HD9 := Lib.hid (HD8.out.rb hb9 hr9)
                clear hb9 hr9 HD8 HSS8
                have hrow := HD9.out.row
                have hres := HD9.out.res
                have z1 : w9.cell? ⟨r, 1, none⟩ = some (.int .i64 0) := HD9.out.rd.e
                have HSP := Lib.hid fun cs => HD9.out.final cs
                have hxs : k = xs.length := HD9.out.n1
                have hys : j = ys.length := HD9.out.n2
                have HXY := Lib.hid (And.intro hxs hys)
                have HB9 := Lib.hid HD9.out.below
                have heg := HD9.out.eg
                have HEG := Lib.hid heg
                obtain ⟨CS, hCS⟩ : ∃ C, C = scrCs a0 a1 a2 a3 a4 a5 T k tc U j uc := ⟨_, rfl⟩
                obtain ⟨C0, hC0⟩ : ∃ C, C = scrCs 0 0 0 0 0 0 none 0 0 none 0 0 := ⟨_, rfl⟩
                have i8 : (Tryz.prog.info? 35).map (·.size) = some CS.size := by rw [hCS]; exact info35
                have o8 : C0.size = CS.size := by rw [hCS, hC0]; rfl
                have c8 : CS.size = 8 := by rw [hCS]; rfl
                have all1 : CS.all (·.oneCell') = true := by rw [hCS]; exact scr_one _ _ _ _ _ _ _ _ _ _ _ _
                rw [← hC0] at hres
                rw [← hCS] at hrow
                have HCS := Lib.hid hCS
                clear heg hCS hC0 HD9 hxs hys
                go_wp2_with (first | (refine wpList_load_row rfl 35 _ rfl s rfl 35 CS (0, 0) _ hrow Tryz.underlying35 rfl i8 ?_) | (refine wpList_store_row rfl 35 _ _ rfl g CS rfl rfl 35 C0 hres i8 o8 all1 ?_))
                refine bodyPost_ret (res28 _ _ g CS (.int .i64 0) c8 rfl rfl (setRow_heap _ _ _ _ _ _ hres)) rfl ?_
                unfold DecR
                rw [Hdec.out]
                have hb10 : Below w.heap.size w (w9.setRow g CS) := below_setRow1 HB9.out (by rw [HEG.out]; exact Nat.le_refl _) CS
                refine ⟨hb10, _, rfl, a0, a1, a2, a3, a4, a5, T, tc, U, uc, ?_, ?_⟩
                · rw [HCS.out, HS.out, HXY.out.1, HXY.out.2]
                · rw [HS.out]
                  exact HSP.out CS
              · have q1 : ((ch : Int) == 0) = false := bne_int (by omega)
                have hdec : decodeB b = .error 6 := by rw [HST4.out, if_pos hch]
                have Hdec := Lib.hid hdec
                clear hdec HST4 HSS8
                refine (Hdem.out _ _ _ _ (by omega) HD8.out.rd).mono ?_
                rw [if_pos (by first | exact ⟨rfl, q1⟩ | simp)]
                rintro en w9 ⟨rfl, hb9, hr9⟩
                have HD9 := Lib.hid (HD8.out.rb hb9 hr9)
                clear hb9 hr9 HD8 q1
                obtain ⟨er2, her2⟩ : ∃ e : Nat, e = 6 := ⟨_, rfl⟩
                rw [← her2] at HD9 Hdec
                have hne : er2 ≠ 0 := by omega
                clear her2
                have z1 : w9.cell? ⟨r, 1, none⟩ = some (.int .i64 (er2 : Int)) := HD9.out.rd.e
                have q2 : ((er2 : Int) == 0) = false := bne_int (by omega)
                have q3 : ((er2 : Int) != 0) = true := by rw [bne_iff_ne]; omega
                have HB9 := Lib.hid HD9.out.below
                have heg := HD9.out.eg
                have HEG := Lib.hid heg
                have her9 := HD9.out.er_
                have hgr : ¬ g = r := by omega
                have hrg : ¬ r = g := by omega
                have hres := HD9.out.res
                obtain ⟨C0, hC0⟩ : ∃ C, C = scrCs 0 0 0 0 0 0 none 0 0 none 0 0 := ⟨_, rfl⟩
                have HC0 := Lib.hid hC0
                have Hres := Lib.hid hres
                unfold scrCs at hres
                have y0 := (cell_at (u := .int .i64 0) hres 0 rfl).1
                have y1 := (cell_at (u := .int .i64 0) hres 1 rfl).1
                have y2 := (cell_at (u := .int .i64 0) hres 2 rfl).1
                have y3 := (cell_at (u := .int .i64 0) hres 3 rfl).1
                have y4 := (cell_at (u := .int .i64 0) hres 4 rfl).1
                have y5 := (cell_at (u := .int .i64 0) hres 5 rfl).1
                have y6 := (cell_at (u := .slice none 0 0) hres 6 rfl).1
                have y7 := (cell_at (u := .slice none 0 0) hres 7 rfl).1
                have f0 := (cell_at (u := .int .i64 0) hres 0 rfl).2
                have f1 := (cell_at (u := .int .i64 0) hres 1 rfl).2
                have f2 := (cell_at (u := .int .i64 0) hres 2 rfl).2
                have f3 := (cell_at (u := .int .i64 0) hres 3 rfl).2
                have f4 := (cell_at (u := .int .i64 0) hres 4 rfl).2
                have f5 := (cell_at (u := .int .i64 0) hres 5 rfl).2
                have f6 := (cell_at (u := .slice none 0 0) hres 6 rfl).2
                have f7 := (cell_at (u := .slice none 0 0) hres 7 rfl).2
                clear heg her9 hC0 HD9 hres
                go_upto_region 21 with fail
                go_region
                clear y0 y1 y2 y3 y4 y5 y6 y7 f0 f1 f2 f3 f4 f5 f6 f7 z1 q2 q3
                obtain ⟨W10, hW10⟩ : ∃ W, W = zer8 w9 g := ⟨_, rfl⟩
                have HR10 := Lib.hid (zer8_row Hres.out)
                have HB10 := Lib.hid (zer8_below HB9.out (show w.heap.size ≤ g by rw [HEG.out]; exact Nat.le_refl _))
                rw [← hW10] at HR10 HB10
                unfold zer8 at hW10
                rw [← hW10]
                clear hW10
                go_wp2_with fail
                refine bodyPost_ret (res28 _ _ g (scrCs 0 0 0 0 0 0 none 0 0 none 0 0) (.int .i64 (er2 : Int)) rfl rfl rfl HR10.out) rfl ?_
                unfold DecR
                rw [Hdec.out]
                exact ⟨HB10.out, rfl⟩
            · obtain ⟨er2, hne, hdm, hdec⟩ : ∃ er : Nat, er ≠ 0 ∧ (if e = 0 ∧ ((ln : Int) == 0) = false then 6 else e) = er ∧ decodeB b = .error er := by
                rcases HST3.out with ⟨h0, h⟩ | ⟨h0, h⟩
                · have hl0 : ln ≠ 0 := fun h => hgo ⟨h0, h⟩
                  refine ⟨6, by omega, if_pos ⟨h0, bne_int (by omega)⟩, ?_⟩
                  rw [h, decB4, if_pos (fun h => hl0 (by rw [Hln.out, h]; rfl))]
                · exact ⟨e, h0, if_neg (fun h => h0 h.1), h⟩
              have Hdm := Lib.hid hdm
              have Hdec := Lib.hid hdec
              refine (Hdem.out _ _ _ _ he100 HDk.out.rd).mono ?_
              rw [Hdm.out]
              rintro en w9 ⟨rfl, hb9, hr9⟩
              have HD9 := Lib.hid (HDk.out.rb hb9 hr9)
              clear hb9 hr9 HDk hdm hdec Hdm hgo HST3
              obtain ⟨q6, hq6⟩ : ∃ q, q = ((ln : Int) == 0) := ⟨_, rfl⟩
              rw [← hq6]
              clear hq6
              have z1 : w9.cell? ⟨r, 1, none⟩ = some (.int .i64 (er2 : Int)) := HD9.out.rd.e
              have q2 : ((er2 : Int) == 0) = false := bne_int (by omega)
              have q3 : ((er2 : Int) != 0) = true := by rw [bne_iff_ne]; omega
              have HB9 := Lib.hid HD9.out.below
              have heg := HD9.out.eg
              have HEG := Lib.hid heg
              have her9 := HD9.out.er_
              have hgr : ¬ g = r := by omega
              have hrg : ¬ r = g := by omega
              have hres := HD9.out.res
              obtain ⟨C0, hC0⟩ : ∃ C, C = scrCs 0 0 0 0 0 0 none 0 0 none 0 0 := ⟨_, rfl⟩
              have HC0 := Lib.hid hC0
              have Hres := Lib.hid hres
              unfold scrCs at hres
              have y0 := (cell_at (u := .int .i64 0) hres 0 rfl).1
              have y1 := (cell_at (u := .int .i64 0) hres 1 rfl).1
              have y2 := (cell_at (u := .int .i64 0) hres 2 rfl).1
              have y3 := (cell_at (u := .int .i64 0) hres 3 rfl).1
              have y4 := (cell_at (u := .int .i64 0) hres 4 rfl).1
              have y5 := (cell_at (u := .int .i64 0) hres 5 rfl).1
              have y6 := (cell_at (u := .slice none 0 0) hres 6 rfl).1
              have y7 := (cell_at (u := .slice none 0 0) hres 7 rfl).1
              have f0 := (cell_at (u := .int .i64 0) hres 0 rfl).2
              have f1 := (cell_at (u := .int .i64 0) hres 1 rfl).2
              have f2 := (cell_at (u := .int .i64 0) hres 2 rfl).2
              have f3 := (cell_at (u := .int .i64 0) hres 3 rfl).2
              have f4 := (cell_at (u := .int .i64 0) hres 4 rfl).2
              have f5 := (cell_at (u := .int .i64 0) hres 5 rfl).2
              have f6 := (cell_at (u := .slice none 0 0) hres 6 rfl).2
              have f7 := (cell_at (u := .slice none 0 0) hres 7 rfl).2
              clear heg her9 hC0 HD9 hres
              go_upto_region 21 with fail
              go_region
              clear y0 y1 y2 y3 y4 y5 y6 y7 f0 f1 f2 f3 f4 f5 f6 f7 z1 q2 q3
              obtain ⟨W10, hW10⟩ : ∃ W, W = zer8 w9 g := ⟨_, rfl⟩
              have HR10 := Lib.hid (zer8_row Hres.out)
              have HB10 := Lib.hid (zer8_below HB9.out (show w.heap.size ≤ g by rw [HEG.out]; exact Nat.le_refl _))
              rw [← hW10] at HR10 HB10
              unfold zer8 at hW10
              rw [← hW10]
              clear hW10
              go_wp2_with fail
              refine bodyPost_ret (res28 _ _ g (scrCs 0 0 0 0 0 0 none 0 0 none 0 0) (.int .i64 (er2 : Int)) rfl rfl rfl HR10.out) rfl ?_
              unfold DecR
              rw [Hdec.out]
              exact ⟨HB10.out, rfl⟩
end Go.Proofs.YtdfhbnfhkckkbaaGreatDoor
