/-
  The reference's add (printed by genQ9.py).
  The reference's Parse.
  The law of the specification of Parse: walked whole (printed by genL6.py).
-/
import Derived.Test.YtdfhbnfhkckkbaaGreatDoorQ6
import Derived.Test.YtdfhbnfhkckkbaaGreatDoorW26
import Derived.Deep.DeepCutAuto
import Derived.Test.YtdfhbnfhkckkbaaGreatDoorL2
namespace Go.Proofs.YtdfhbnfhkckkbaaGreatDoor
open Go Go.RowKit Go.Walks

theorem res74 (tmps : Array Value) (w : World) (g : Nat) (cs : Array Value) (hs : cs.size = 6) (hp : tmps.getD 2 undef = .pointer (some ⟨g, 0, none⟩)) (hg : w.heap[g]? = some (.cells cs 23)) :
    (results Tryz.f74 tmps).run Tryz.prog w = .ok (.agg cs) w := by
  obtain ⟨a, b, c, d, e, f, rfl⟩ : ∃ a b c d e f, cs = #[a, b, c, d, e, f] := by
    obtain ⟨l⟩ := cs
    match l, hs with
    | [a, b, c, d, e, f], _ => exact ⟨a, b, c, d, e, f, rfl⟩
  exact results_cell_row (p := 2) (ty := 23) rfl tmps w g 23 #[a, b, c, d, e, f] (0, 0) _ hp hg Tryz.underlying23 rfl info23
set_option maxRecDepth 100000 in
set_option maxHeartbeats 1000000 in
theorem rconfig_any (a b c d e f : Int) (A : Option Addr) (cap : Nat) (w : World) (Hs : Hid (Sl w w.heap.size A ([a, b, c, d, e, f].map intC))) : Calls Tryz.prog 74 #[.slice A 6 cap] w fun en w' => en = .returned (.agg #[.int .i64 a, .int .i64 b, .int .i64 c, .int .i64 d, .int .i64 e, .int .i64 f]) ∧ Below w.heap.size w w' := by
  obtain ⟨g, o, hA, hgw, c0⟩ := int_at Hs.out (k := 0) (x := a) rfl
  subst hA
  have hcs : ∀ k x, [a, b, c, d, e, f][k]? = some x → w.cell? ⟨g, o + k, none⟩ = some (.int .i64 x) := fun k x hx => by
    obtain ⟨g', o', hA, -, h⟩ := int_at Hs.out hx
    obtain ⟨rfl, rfl⟩ : g = g' ∧ o = o' := by simpa using hA
    exact h
  obtain ⟨r, hr⟩ : ∃ r, r = w.heap.size := ⟨_, rfl⟩
  obtain ⟨W1, hW1⟩ : ∃ W, W = w.alloc (.cells #[.int .i64 0, .int .i64 0, .int .i64 0, .int .i64 0, .int .i64 0, .int .i64 0] 23) := ⟨_, rfl⟩
  have hb1 : Below w.heap.size w W1 := by rw [hW1]; exact (Below.refl _ _).alloc (Nat.le_refl _) _
  have hr1 : W1.heap[r]? = some (.cells #[.int .i64 0, .int .i64 0, .int .i64 0, .int .i64 0, .int .i64 0, .int .i64 0] 23) := by rw [hW1, hr]; exact heap_new _ _
  have hk : ∀ k x, [a, b, c, d, e, f][k]? = some x → W1.cell? ⟨g, o + k, none⟩ = some (.int .i64 x) := fun k x hx => (hb1.cell (p := ⟨g, o + k, none⟩) hgw).trans (hcs k x hx)
  have d0 := hk 0 a rfl
  have d1 := hk 1 b rfl
  have d2 := hk 2 c rfl
  have d3 := hk 3 d rfl
  have d4 := hk 4 e rfl
  have d5 := hk 5 f rfl
  rw [Nat.add_zero] at d0
  have HB := Lib.hid hb1
  have HR := Lib.hid hr1
  have Hr : Hid (r = w.heap.size) := hr
  obtain ⟨z0, y0⟩ := cell_at hr1 0 rfl
  obtain ⟨z1, y1⟩ := cell_at hr1 1 rfl
  obtain ⟨z2, y2⟩ := cell_at hr1 2 rfl
  obtain ⟨z3, y3⟩ := cell_at hr1 3 rfl
  obtain ⟨z4, y4⟩ := cell_at hr1 4 rfl
  obtain ⟨z5, y5⟩ := cell_at hr1 5 rfl
  clear hk hcs c0 hb1 hr1
  go_enter Tryz.func74, Tryz.ntmps74
  go_upto_region 1 with fail
  rw [← hW1, ← hr]
  clear hW1 hr
  go_region
  obtain ⟨W2, hW2⟩ : ∃ W, W = ((((((W1.setCell ⟨r, 0, none⟩ (.int .i64 a)).setCell ⟨r, 1, none⟩ (.int .i64 b)).setCell ⟨r, 2, none⟩ (.int .i64 c)).setCell ⟨r, 3, none⟩ (.int .i64 d)).setCell ⟨r, 4, none⟩ (.int .i64 e)).setCell ⟨r, 5, none⟩ (.int .i64 f)).drew := ⟨_, rfl⟩
  have HR6 : Hid (W2.heap[r]? = some (.cells #[.int .i64 a, .int .i64 b, .int .i64 c, .int .i64 d, .int .i64 e, .int .i64 f] 23)) := by
    rw [hW2, heap_drew]
    exact six_set HR.out _ _ _ _ _ _
  have HB6 : Hid (Below w.heap.size w W2) := by
    rw [hW2]
    exact six_below HB.out (by rw [Hr.out]; exact Nat.le_refl _) _ _ _ _ _ _
  rw [← hW2]
  clear hW2
  clear z0 z1 z2 z3 z4 z5 y0 y1 y2 y3 y4 y5
  go_wp2_with fail
  refine bodyPost_ret (res74 _ _ _ _ rfl rfl HR6.out) rfl ?_
  exact ⟨rfl, HB6.out⟩
/-- A script in memory, in rows of its own: its parts. -/
structure XP (B s : Nat) (a b c d e f : Int) (T : Option Addr) (nt tc : Nat) (U : Option Addr) (ns uc : Nat) (xs : List Bytes) (ys : List StepD) (W : World) : Prop where
  hs : s < B
  hB : B ≤ W.heap.size
  row : W.heap[s]? = some (.cells (scrCs a b c d e f T nt tc U ns uc) 27)
  own1 : W.ownsRow B 9 1 (.slice T nt tc) nt (xs.map strV)
  own2 : ∃ ms, W.ownsRow B 67 2 (.slice U ns uc) ns ms ∧ StepsT W ys ms
  n1 : nt = xs.length
  n2 : ns = ys.length
/-- A script in memory. -/
def XM (B s : Nat) (S : ScriptD) (W : World) : Prop := ∃ a b c d e f T nt tc U ns uc, S.cfg = [a, b, c, d, e, f] ∧ XP B s a b c d e f T nt tc U ns uc S.texts S.steps W
section
variable {W W' : World} {B s nt tc ns uc : Nat} {a b c d e f : Int} {T U : Option Addr} {xs : List Bytes} {ys : List StepD}
theorem XP.call (h : XP B s a b c d e f T nt tc U ns uc xs ys W) (hb : Below W.heap.size W W') : XP B s a b c d e f T nt tc U ns uc xs ys W' := by
  obtain ⟨ms, h1, h2⟩ := h.own2
  exact ⟨h.hs, Nat.le_trans h.hB hb.size, below_cells h.row hb, own_below h.own1 hb, ⟨ms, own_below h1 hb, h2.keep (KeepT.below hb)⟩, h.n1, h.n2⟩
theorem XP.cells (h : XP B s a b c d e f T nt tc U ns uc xs ys W) : (W.cell? ⟨s, 6, none⟩ = some (.slice T nt tc) ∧ W.cell? ⟨s, 7, none⟩ = some (.slice U ns uc)) ∧ W.frozen? ⟨s, 6, none⟩ = false ∧ W.frozen? ⟨s, 7, none⟩ = false :=
  ⟨⟨(cell_at h.row 6 rfl).1, (cell_at h.row 7 rfl).1⟩, (cell_at (u := .slice T nt tc) h.row 6 rfl).2, (cell_at (u := .slice U ns uc) h.row 7 rfl).2⟩
theorem XP.other (h : XP B s a b c d e f T nt tc U ns uc xs ys W) (o : Nat) (u : Value) {a' b' c' d' e' f' : Int} (hv : (scrCs a b c d e f T nt tc U ns uc).setIfInBounds o u = scrCs a' b' c' d' e' f' T nt tc U ns uc) : XP B s a' b' c' d' e' f' T nt tc U ns uc xs ys (W.setCell ⟨s, o, none⟩ u) := by
  obtain ⟨ms, h1, h2⟩ := h.own2
  have k := (RB.refl s W).setCell o u
  exact ⟨h.hs, by rw [World.size_setCell]; exact h.hB, (set_at h.row o u).trans (by rw [hv]), own_rb_lt h.own1 k h.hs, ⟨ms, own_rb_lt h1 k h.hs, h2.keep (KeepT.setCell h.row (by decide) o u)⟩, h.n1, h.n2⟩
theorem XP.cfg (h : XP B s a b c d e f T nt tc U ns uc xs ys W) (p q x y z u : Int) :
    XP B s p q x y z u T nt tc U ns uc xs ys ((((((W.setCell ⟨s, 0, none⟩ (.int .i64 p)).setCell ⟨s, 1, none⟩ (.int .i64 q)).setCell ⟨s, 2, none⟩ (.int .i64 x)).setCell ⟨s, 3, none⟩ (.int .i64 y)).setCell ⟨s, 4, none⟩ (.int .i64 z)).setCell ⟨s, 5, none⟩ (.int .i64 u)) ∧
    KB B s W ((((((W.setCell ⟨s, 0, none⟩ (.int .i64 p)).setCell ⟨s, 1, none⟩ (.int .i64 q)).setCell ⟨s, 2, none⟩ (.int .i64 x)).setCell ⟨s, 3, none⟩ (.int .i64 y)).setCell ⟨s, 4, none⟩ (.int .i64 z)).setCell ⟨s, 5, none⟩ (.int .i64 u)) :=
  ⟨(((((h.other 0 (.int .i64 p) rfl).other 1 (.int .i64 q) rfl).other 2 (.int .i64 x) rfl).other 3 (.int .i64 y) rfl).other 4 (.int .i64 z) rfl).other 5 (.int .i64 u) rfl,
   (((((KB.setCell B s W 0 _).trans (KB.setCell B s _ 1 _)).trans (KB.setCell B s _ 2 _)).trans (KB.setCell B s _ 3 _)).trans (KB.setCell B s _ 4 _)).trans (KB.setCell B s _ 5 _)⟩
/-- A text is appended. -/
theorem XP.text {x : Bytes} {A' : Option Addr} {c' : Nat} {o : Obj} (h : XP B s a b c d e f T nt tc U ns uc xs ys W) (ho : W'.ownsRow B 9 1 (.slice A' (nt + 1) c') (nt + 1) (xs.map strV ++ [strV x])) (hg : (W.alloc o).grownBy W' (Value.slice T nt tc).ownBlock) :
    W'.heap[s]? = some (.cells (scrCs a b c d e f T nt tc U ns uc) 27) ∧ XP B s a b c d e f A' (nt + 1) c' U ns uc (xs ++ [x]) ys (W'.setCell ⟨s, 6, none⟩ (.slice A' (nt + 1) c')) ∧ KB B s W (W'.setCell ⟨s, 6, none⟩ (.slice A' (nt + 1) c')) := by
  obtain ⟨ms, h1, h2⟩ := h.own2
  have e1 := h.hs
  have e2 := h.hB
  have hkb : KB B s W W' := KB.grown h.own1 h.hB hg
  have hrow := (grown_low h.own1 hg h.hs (by omega)).trans h.row
  have k3 : ∀ ty, ty ≠ 9 → KeepT ty W W' := fun ty hty => KeepT.trans (KeepT.alloc W o) (KeepT.grown hg fun k hk => by
    rcases h.own1.2 with ⟨he, _⟩ | ⟨g', cap, cur, he, hle, hh, _⟩
    · rw [he] at hk; simp [Value.ownBlock] at hk
    · rw [he] at hk
      have : g' = k := by simpa [Value.ownBlock] using hk
      subst this
      exact ⟨cur, 9, (0, 0), (below_cells hh ((Below.refl _ W).alloc (Nat.le_refl _) o)), fun e => hty e.symm⟩)
  refine ⟨hrow, ⟨h.hs, by rw [World.size_setCell]; have := hkb.size; omega, (set_at hrow 6 _).trans rfl, ?_, ⟨ms, ?_, ?_⟩, by simp [h.n1], h.n2⟩, hkb.trans (KB.setCell B s W' 6 _)⟩
  · have := own_rb_lt ho ((RB.refl s W').setCell 6 (.slice A' (nt + 1) c')) h.hs
    simpa using this
  · exact own_rb_lt (own_keepT h1 (k3 67 (by decide))) ((RB.refl s W').setCell 6 (.slice A' (nt + 1) c')) h.hs
  · exact (h2.keep (k3 3 (by decide))).keep (KeepT.setCell hrow (by decide) 6 _)
/-- A step is appended. -/
theorem XP.step {x : StepD} {A A' : Option Addr} {c0 c' : Nat} {ms : List Value} {o : Obj} (h : XP B s a b c d e f T nt tc U ns uc xs ys W) (h1 : W.ownsRow B 67 2 (.slice U ns uc) ns ms) (h2 : StepsT W ys ms) (hA : SlT W W.heap.size 3 A (x.args.map intC)) (hc : x.args.length ≤ c0) (ho : W'.ownsRow B 67 2 (.slice A' (ns + 1) c') (ns + 1) (ms ++ [.int .i64 x.kind, .slice A x.args.length c0])) (hg : (W.alloc o).grownBy W' (Value.slice U ns uc).ownBlock) :
    W'.heap[s]? = some (.cells (scrCs a b c d e f T nt tc U ns uc) 27) ∧ XP B s a b c d e f T nt tc A' (ns + 1) c' xs (ys ++ [x]) (W'.setCell ⟨s, 7, none⟩ (.slice A' (ns + 1) c')) ∧ KB B s W (W'.setCell ⟨s, 7, none⟩ (.slice A' (ns + 1) c')) := by
  have e1 := h.hs
  have e2 := h.hB
  have hkb : KB B s W W' := KB.grown h1 h.hB hg
  have hrow := (grown_low h1 hg h.hs (by omega)).trans h.row
  have k3 : ∀ ty, ty ≠ 67 → KeepT ty W W' := fun ty hty => KeepT.trans (KeepT.alloc W o) (KeepT.grown hg fun k hk => by
    rcases h1.2 with ⟨he, _⟩ | ⟨g', cap, cur, he, hle, hh, _⟩
    · rw [he] at hk; simp [Value.ownBlock] at hk
    · rw [he] at hk
      have : g' = k := by simpa [Value.ownBlock] using hk
      subst this
      exact ⟨cur, 67, (0, 0), (below_cells hh ((Below.refl _ W).alloc (Nat.le_refl _) o)), fun e => hty e.symm⟩)
  have kk : KeepT 3 W (W'.setCell ⟨s, 7, none⟩ (.slice A' (ns + 1) c')) := (k3 3 (by decide)).trans (KeepT.setCell hrow (by decide) 7 _)
  refine ⟨hrow, ⟨h.hs, by rw [World.size_setCell]; have := hkb.size; omega, (set_at hrow 7 _).trans rfl, ?_, ⟨ms ++ [.int .i64 x.kind, .slice A x.args.length c0], ?_, ?_⟩, h.n1, by simp [h.n2]⟩, hkb.trans (KB.setCell B s W' 7 _)⟩
  · exact own_rb_lt (own_keepT h.own1 (k3 9 (by decide))) ((RB.refl s W').setCell 7 (.slice A' (ns + 1) c')) h.hs
  · exact own_rb_lt ho ((RB.refl s W').setCell 7 (.slice A' (ns + 1) c')) h.hs
  · exact StepsT.snoc (hA.keepT kk kk.size) hc (h2.keep kk)
/-- The script as a value. -/
theorem XP.script (h : XP B s a b c d e f T nt tc U ns uc xs ys W) : ScriptP W ⟨[a, b, c, d, e, f], xs, ys⟩ a b c d e f T tc U uc := by
  obtain ⟨ms, h1, h2⟩ := h.own2
  exact ⟨rfl, own_sl h.own1, ⟨ms, own_sl h1, h2.toS⟩, by have := (own_cap h.own1).1; rw [h.n1] at this; exact this, by have := (own_cap h1).1; rw [h.n2] at this; exact this⟩
end

theorem kind_text : kindOf [116, 101, 120, 116] = 0 := by decide +kernel
theorem fits_zero (k : Nat) : fitsB 0 k = false := by unfold fitsB; rw [show isKindB 0 = false from rfl]; rfl
/-- What a line is for the reference, where it is no text. -/
def lineF (S : ScriptD) (x : Bytes) : Option ScriptD := match fieldsB x with
  | none => none
  | some (w, l) => if fitsB (kindOf w) l.length = true then some ⟨S.cfg, S.texts, S.steps ++ [⟨kindOf w, l⟩]⟩ else none
theorem line_ref {S : ScriptD} {x : Bytes} (h : ¬ (S.steps = [] ∧ 5 < x.length ∧ x.take 5 = textW)) : lineB S 1 x = lineF S x := by
  by_cases ht : x.take 5 = textW
  · have hx : x = [116, 101, 120, 116] ++ 32 :: x.drop 5 := by
      have := List.take_append_drop 5 x
      rw [ht] at this
      exact this.symm
    have hF : lineF S x = none := by
      unfold lineF fieldsB
      rw [hx, splitB_hit 32 [116, 101, 120, 116] _ (by decide)]
      dsimp only
      cases numsB (splitB 32 (x.drop 5)) with
      | none => rfl
      | some r =>
        dsimp only
        rw [kind_text, if_neg (by rw [show ((0 : Nat) : Int) = 0 from rfl, fits_zero]; simp)]
    rw [hF, line_text (by omega) ht]
    rw [if_neg]
    rintro ⟨h1, h2⟩
    apply h
    refine ⟨h2, ?_, ht⟩
    rcases Nat.lt_or_ge 5 x.length with h5 | h5
    · exact h5
    · exfalso
      rw [List.drop_of_length_le h5] at h1
      unfold quoteB at h1
      cases h1
  · rw [line_other (fun h => ht h.2)]
    rfl
theorem line_first (S : ScriptD) (x : Bytes) : lineB S 0 x = match fieldsB x with
    | none => none
    | some (w, l) => if w = arrayW ∧ l.length = 6 then some ⟨l, S.texts, S.steps⟩ else none := by
  rw [line_other (fun h => absurd h.1 (by omega))]
  rfl
theorem line_t {S : ScriptD} {x : Bytes} (h0 : S.steps = []) (ht : x.take 5 = textW) : lineB S 1 x = if (unqR (x.drop 5)).2 = true then some ⟨S.cfg, S.texts ++ [(unqR (x.drop 5)).1], S.steps⟩ else none := by
  rw [line_text (by omega) ht]
  have hu : unqB (x.drop 5) = rawL ((x.drop 5).drop 1) := rfl
  by_cases h : (unqR (x.drop 5)).2 = true
  · rw [if_pos h, if_pos ⟨by rw [hu]; exact (unqR_iff _).1 h, h0⟩, unqR_val h, hu]
  · rw [if_neg h, if_neg]
    rintro ⟨h1, -⟩
    exact h ((unqR_iff _).2 (by rw [← hu]; exact h1))
/-- What the reference's add hands back. -/
def LineN (B s : Nat) (S : ScriptD) (n : Nat) (x : Bytes) (w : World) (e : Ending) (w' : World) : Prop := KB B s w w' ∧ match lineB S n x with
  | some S' => e = .returned (.bool true) ∧ XM B s S' w'
  | none => e = .returned (.bool false)
set_option maxRecDepth 100000 in
set_option maxHeartbeats 4000000 in
theorem radd_first (S : ScriptD) (x : Bytes) (B s : Nat) (w : World) (HS : Hid (XM B s S w)) (hl : x.length ≤ 1000000) :
    Calls Tryz.prog 82 #[.pointer (some ⟨s, 0, none⟩), .string ⟨x.toArray⟩, .bool true] w (LineN B s S 0 x w) := by
  have HL := Lib.hid (line_first S x)
  obtain ⟨a, b, c, d, e, f, T, nt, tc, U, ns, uc, hcfg, hsp⟩ := HS.out
  have Hcfg := Lib.hid hcfg
  have HSP := Lib.hid hsp
  have HST := Lib.hid (rstep_any x w hl)
  unfold StepN at HST
  clear hcfg hsp HS
  go_enter Tryz.func82, Tryz.ntmps82
  go_wp2_with fail
  refine HST.out.mono ?_
  cases hF : fieldsB x with
  | none =>
    have HR : Hid (lineB S 0 x = none) := Lib.hid (by rw [HL.out, hF])
    dsimp only
    rintro en w1 ⟨hb, rfl⟩
    have HB := Lib.hid hb
    clear hb hF
    go_wp2_with fail
    go_ret
    unfold LineN
    rw [HR.out]
    exact ⟨KB.of_below HB.out HSP.out.hB, rfl⟩
  | some wl =>
    obtain ⟨wd, l⟩ := wl
    have HR : Hid (lineB S 0 x = if wd = arrayW ∧ l.length = 6 then some ⟨l, S.texts, S.steps⟩ else none) := Lib.hid (by rw [HL.out, hF])
    dsimp only
    rintro en w1 ⟨hb, A, c1, rfl, ho⟩
    have HB := Lib.hid hb
    have HO := Lib.hid ho
    clear hb ho hF
    unfold strV
    obtain ⟨m, hm⟩ : ∃ m, m = l.length := ⟨_, rfl⟩
    rw [← hm] at HO ⊢
    by_cases hwd : wd = arrayW
    · have q1 : (wd == [97, 114, 114, 97, 121]) = true := by rw [hwd]; rfl
      have q1' : (wd != [97, 114, 114, 97, 121]) = false := by rw [hwd]; rfl
      by_cases h6 : m = 6
      · have HR2 : Hid (lineB S 0 x = some ⟨l, S.texts, S.steps⟩) := Lib.hid (by rw [HR.out, if_pos ⟨hwd, by rw [← hm]; exact h6⟩])
        obtain ⟨p0, p1, p2, p3, p4, p5, hx⟩ : ∃ a b c d e f, l = [a, b, c, d, e, f] := by
          have h6 := hm.symm.trans h6
          match l, h6 with
          | [a, b, c, d, e, f], _ => exact ⟨a, b, c, d, e, f, rfl⟩
        subst hx
        have HC : Hid (Sl w1 w1.heap.size A ([p0, p1, p2, p3, p4, p5].map intC)) := own_sl HO.out
        have HSP1 := Lib.hid (HSP.out.call HB.out)
        have HK1 := Lib.hid (KB.of_below (s := s) HB.out HSP.out.hB)
        subst h6
        clear hwd hm HO
        go_wp2_with fail
        refine (rconfig_any p0 p1 p2 p3 p4 p5 A c1 w1 HC).mono ?_
        rintro en w3 ⟨rfl, hb3⟩
        have HSP3 := Lib.hid (HSP1.out.call hb3)
        have HK3 := Lib.hid (HK1.out.trans (KB.of_below (s := s) hb3 HSP1.out.hB))
        clear hb3 HC
        have hrow := HSP3.out.row
        unfold scrCs at hrow
        obtain ⟨z0, y0⟩ := cell_at hrow 0 rfl
        obtain ⟨z1, y1⟩ := cell_at hrow 1 rfl
        obtain ⟨z2, y2⟩ := cell_at hrow 2 rfl
        obtain ⟨z3, y3⟩ := cell_at hrow 3 rfl
        obtain ⟨z4, y4⟩ := cell_at hrow 4 rfl
        obtain ⟨z5, y5⟩ := cell_at hrow 5 rfl
        clear hrow
        have HF := Lib.hid (HSP3.out.cfg p0 p1 p2 p3 p4 p5)
        go_wp2_with fail
        go_ret
        unfold LineN
        rw [HR2.out]
        exact ⟨HK3.out.trans HF.out.2, rfl, p0, p1, p2, p3, p4, p5, T, nt, tc, U, ns, uc, rfl, HF.out.1⟩
      · have HR2 : Hid (lineB S 0 x = none) := Lib.hid (by rw [HR.out, if_neg (fun h => h6 (hm.trans h.2))])
        have q2 : ((m : Int) != 6) = true := by rw [bne_iff_ne]; omega
        clear hwd hm h6
        go_wp2_with fail
        go_ret
        unfold LineN
        rw [HR2.out]
        exact ⟨KB.of_below HB.out HSP.out.hB, rfl⟩
    · have HR2 : Hid (lineB S 0 x = none) := Lib.hid (by rw [HR.out, if_neg (fun h => hwd h.1)])
      have q1 : (wd == [97, 114, 114, 97, 121]) = false := beq_eq_false_iff_ne.2 hwd
      have q1' : (wd != [97, 114, 114, 97, 121]) = true := by rw [bne_iff_ne]; exact hwd
      clear hwd hm
      go_wp2_with fail
      go_ret
      unfold LineN
      rw [HR2.out]
      exact ⟨KB.of_below HB.out HSP.out.hB, rfl⟩

def ctB (S : ScriptD) (x : Bytes) : Bool := decide (S.steps = []) && decide (5 < x.length) && decide (x.take 5 = textW)
theorem ct_iff {S : ScriptD} {x : Bytes} : ctB S x = true ↔ (S.steps = [] ∧ 5 < x.length ∧ x.take 5 = textW) := by
  unfold ctB
  simp only [Bool.and_eq_true, decide_eq_true_eq]
  exact ⟨fun ⟨⟨a, b⟩, c⟩ => ⟨a, b, c⟩, fun ⟨a, b, c⟩ => ⟨⟨a, b⟩, c⟩⟩
set_option maxRecDepth 100000 in
set_option maxHeartbeats 4000000 in
theorem radd_rest (S : ScriptD) (x : Bytes) (B s : Nat) (w : World) (HS : Hid (XM B s S w)) (hl : x.length ≤ 1000000) (ht : S.texts.length ≤ 1000000) (hst : S.steps.length ≤ 1000000) :
    Calls Tryz.prog 82 #[.pointer (some ⟨s, 0, none⟩), .string ⟨x.toArray⟩, .bool false] w (LineN B s S 1 x w) := by
  obtain ⟨a, b, c, d, e, f, T, nt, tc, U, ns, uc, hcfg, hsp⟩ := HS.out
  obtain ⟨n, hn⟩ : ∃ n, n = x.length := ⟨_, rfl⟩
  have hss := strBytes_size x
  obtain ⟨tb, htb⟩ : ∃ tb : ByteArray, tb = ⟨x.toArray⟩ := ⟨_, rfl⟩
  have HST := Lib.hid (rstep_any x w hl)
  unfold StepN at HST
  rw [← htb] at hss HST ⊢
  rw [← hn] at hss
  have Hn := Lib.hid hn
  have Htb := Lib.hid htb
  have Hcfg := Lib.hid hcfg
  have HSP := Lib.hid hsp
  have hnt : nt ≤ 1000000 := by have := hsp.n1; omega
  have hns : ns ≤ 1000000 := by have := hsp.n2; omega
  have hb1 : nt + 1 ≤ maxLen := by unfold maxLen; omega
  have hb2 : (nt + 1) * 16 ≤ 140737488355328 := by omega
  have hd1 : ns + 1 ≤ maxLen := by unfold maxLen; omega
  have hd2 : (ns + 1) * 32 ≤ 140737488355328 := by omega
  have HSt : Hid (S.steps = [] ↔ ns = 0) := by
    have := hsp.n2
    exact ⟨fun h => by rw [this, h]; rfl, fun h => List.eq_nil_of_length_eq_zero (by omega)⟩
  obtain ⟨⟨c6, c7⟩, -⟩ := hsp.cells
  have hnl : n ≤ 1000000 := by rw [hn]; exact hl
  clear hn htb hcfg hsp ht hst HS hl
  go_enter Tryz.func82, Tryz.ntmps82
  go_upto_region 1 with fail
  go_cut [32] (fun v W => BoolAt (ctB S x) w v W)
  case first =>
    by_cases h0 : ns = 0
    · subst h0
      by_cases h5 : 5 < n
      · have q1 : decide ((5 : Int) < (n : Int)) = true := decide_eq_true (by omega)
        obtain ⟨x5, hx5⟩ : ∃ q, q = x.take 5 := ⟨_, rfl⟩
        have hex : tb.extract 0 5 = ⟨x5.toArray⟩ := by rw [Htb.out, ByteArray.extract_mk, hx5]; rfl
        by_cases ht : x5 = textW
        · have HC : Hid (ctB S x = true) := Lib.hid (ct_iff.2 ⟨HSt.out.2 rfl, by rw [← Hn.out]; exact h5, by rw [← hx5]; exact ht⟩)
          have hq : (x5 == [116, 101, 120, 116, 32]) = true := by rw [ht]; rfl
          clear hx5 ht
          go_wp2_with fail
          go_meet
          case rel => exact ⟨by rw [HC.out], rfl⟩
        · have HC : Hid (ctB S x = false) := Lib.hid (by
            rw [Bool.eq_false_iff]
            intro h
            exact ht (hx5.trans (ct_iff.1 h).2.2))
          have hq : (x5 == [116, 101, 120, 116, 32]) = false := beq_eq_false_iff_ne.2 ht
          clear hx5 ht
          go_wp2_with fail
          go_meet
          case rel => exact ⟨by rw [HC.out], rfl⟩
      · have q1 : decide ((5 : Int) < (n : Int)) = false := decide_eq_false (by omega)
        have HC : Hid (ctB S x = false) := Lib.hid (by
          rw [Bool.eq_false_iff]
          intro h
          have := (ct_iff.1 h).2.1
          rw [← Hn.out] at this; exact h5 this)
        go_wp2_with fail
        go_meet
        case rel => exact ⟨by rw [HC.out], rfl⟩
    · have q0 : ((ns : Int) == 0) = false := bne_int (by omega)
      have HC : Hid (ctB S x = false) := Lib.hid (by
        rw [Bool.eq_false_iff]
        intro h
        exact h0 (HSt.out.1 (ct_iff.1 h).1))
      clear h0
      go_wp2_with fail
      go_meet
      case rel => exact ⟨by rw [HC.out], rfl⟩
  case rest =>
    obtain ⟨rfl, rfl⟩ := hcut
    cases hct : ctB S x with
    | true =>
      obtain ⟨h1, h2, h3⟩ := ct_iff.1 hct
      rw [← Hn.out] at h2
      have HL := Lib.hid (line_t h1 h3)
      obtain ⟨z, hz⟩ : ∃ z, z = (unqR (x.drop 5)).1 := ⟨_, rfl⟩
      obtain ⟨is, his⟩ : ∃ z, z = (unqR (x.drop 5)).2 := ⟨_, rfl⟩
      have HQ := Lib.hid (runq_any (x.drop 5) wc (by rw [List.length_drop, ← Hn.out]; omega))
      unfold UnqR at HQ
      rw [← hz, ← his] at HQ HL
      obtain ⟨y, hy⟩ : ∃ y, y = x.drop 5 := ⟨_, rfl⟩
      rw [← hy] at HQ
      have hI5 : (5 : Int) < (n : Int) := by omega
      have hex : tb.extract 5 n = ⟨y.toArray⟩ := by
        rw [Htb.out, ByteArray.extract_mk, hy, List.take_of_length_le (by rw [List.length_drop, ← Hn.out]; exact Nat.le_refl _)]
      have HSP0 := HSP
      clear hz his h1 h3 hct hy
      go_wp2_with fail
      refine HQ.out.mono ?_
      rintro en w1 ⟨hb, rfl⟩
      have HSP2 := Lib.hid (HSP.out.call hb)
      have HK2 := Lib.hid (KB.of_below (s := s) hb HSP.out.hB)
      clear hb HQ c6 c7 HSP0 hex
      obtain ⟨⟨c6, c7⟩, -⟩ := HSP2.out.cells
      cases is with
      | false =>
        go_wp2_with (at_builtin; refine wpList_append_sl rfl _ _ 24 rfl rfl rfl so24 (HSP2.out.own1.alloc _) (m := 1) (news := [.string ⟨z.toArray⟩]) rfl (Sl.new _ _ _) (fun u hu => by rw [List.mem_singleton.1 hu]; rfl) hb1 hb2 (Nat.le_trans HSP2.out.hB (by simp)) ?_; clear c6 c7; intro A8 c8 w8 ho8 hg8; obtain ⟨hrow8, hS8, hK8⟩ := HSP2.out.text (x := z) ho8 hg8; have HS8 := Lib.hid hS8; have HK8 := Lib.hid (HK2.out.trans hK8); obtain ⟨c6, f6⟩ := cell_at (u := .slice T nt tc) hrow8 6 rfl; clear ho8 hg8 hS8 hK8 hrow8)
        go_ret
        unfold LineN
        rw [HL.out, if_neg (by simp)]
        exact ⟨HK8.out, rfl⟩
      | true =>
        go_wp2_with (at_builtin; refine wpList_append_sl rfl _ _ 24 rfl rfl rfl so24 (HSP2.out.own1.alloc _) (m := 1) (news := [.string ⟨z.toArray⟩]) rfl (Sl.new _ _ _) (fun u hu => by rw [List.mem_singleton.1 hu]; rfl) hb1 hb2 (Nat.le_trans HSP2.out.hB (by simp)) ?_; clear c6 c7; intro A8 c8 w8 ho8 hg8; obtain ⟨hrow8, hS8, hK8⟩ := HSP2.out.text (x := z) ho8 hg8; have HS8 := Lib.hid hS8; have HK8 := Lib.hid (HK2.out.trans hK8); obtain ⟨c6, f6⟩ := cell_at (u := .slice T nt tc) hrow8 6 rfl; clear ho8 hg8 hS8 hK8 hrow8)
        go_ret
        unfold LineN
        rw [HL.out, if_pos (by first | trivial | rfl)]
        exact ⟨HK8.out, rfl, a, b, c, d, e, f, _, _, _, _, _, _, Hcfg.out, HS8.out⟩
    | false =>
      have HL := Lib.hid (line_ref (S := S) (x := x) (fun h => by have := ct_iff.2 h; rw [hct] at this; cases this))
      unfold lineF at HL
      clear hct
      go_wp2_with fail
      refine HST.out.mono ?_
      cases hF : fieldsB x with
      | none =>
        have HR : Hid (lineB S 1 x = none) := Lib.hid (by rw [HL.out, hF])
        dsimp only
        rintro en w1 ⟨hb, rfl⟩
        have HB := Lib.hid hb
        clear hb hF c6 c7
        go_wp2_with fail
        go_ret
        unfold LineN
        rw [HR.out]
        exact ⟨KB.of_below HB.out HSP.out.hB, rfl⟩
      | some wl =>
        obtain ⟨wd, l⟩ := wl
        have HR : Hid (lineB S 1 x = if fitsB (kindOf wd) l.length = true then some ⟨S.cfg, S.texts, S.steps ++ [⟨kindOf wd, l⟩]⟩ else none) := Lib.hid (by rw [HL.out, hF])
        dsimp only
        rintro en w1 ⟨hb, A, c1, rfl, ho⟩
        have HSP1 := Lib.hid (HSP.out.call hb)
        have HK1 := Lib.hid (KB.of_below (s := s) hb HSP.out.hB)
        have HO := Lib.hid ho
        have hlen : l.length ≤ maxLen := Nat.le_trans (own_cap ho).1 (own_cap ho).2
        have Hlen := Lib.hid hlen
        clear hb ho hF c6 c7 hlen HST
        unfold strV
        obtain ⟨m, hm⟩ : ∃ m, m = l.length := ⟨_, rfl⟩
        obtain ⟨kd, hkd⟩ : ∃ k, k = kindOf wd := ⟨_, rfl⟩
        have HKd := Lib.hid (fun W => rkindOf_any wd W)
        unfold IntB at HKd
        rw [← hkd] at HKd HR
        have HFi := Lib.hid (fun W => rfits_any (kd : Int) m W (by have := Hlen.out; unfold maxLen at this; omega))
        obtain ⟨fb, hfb⟩ : ∃ k, k = fitsB (kd : Int) m := ⟨_, rfl⟩
        unfold BoolR at HFi
        rw [← hfb] at HFi
        rw [← hm, ← hfb] at HR
        rw [← hm] at HO ⊢
        have Hm := Lib.hid hm
        clear hm hkd hfb
        go_wp2_with fail
        refine (HKd.out _).mono ?_
        rintro en w2 ⟨rfl, hb2'⟩
        have HSP2 := Lib.hid (HSP1.out.call hb2')
        have HK2 := Lib.hid (HK1.out.trans (KB.of_below (s := s) hb2' HSP1.out.hB))
        have HO2 := Lib.hid (own_below HO.out hb2')
        clear hb2' HKd HO
        obtain ⟨⟨c6, c7⟩, -⟩ := HSP2.out.cells
        have hA7 : SlT w2 w2.heap.size 3 A (l.map intC) := own_slT HO2.out
        have hc7 : l.length ≤ c1 := by rw [← Hm.out]; exact (own_cap HO2.out).1
        obtain ⟨ms, hm1, hm2⟩ := HSP2.out.own2
        have HA7 := Lib.hid hA7
        have HC7 := Lib.hid hc7
        have HM1 := Lib.hid hm1
        have HM2 := Lib.hid hm2
        clear hA7 hc7 hm1 hm2
        go_wp2_with (at_builtin; refine wpList_append_sl rfl _ _ 25 rfl rfl rfl so25 (HM1.out.alloc _) (m := 1) (news := [.int .i64 (kd : Int), .slice A m c1]) rfl (Sl.new _ _ _) (fun u hu => by simp at hu; rcases hu with rfl | rfl <;> rfl) hd1 hd2 (Nat.le_trans HSP2.out.hB (by simp)) ?_; clear c6 c7; intro A9 c9 w9 ho9 hg9; have hqx := Hm.out; subst hqx; obtain ⟨hrow9, hS9, hK9⟩ := HSP2.out.step (x := ⟨(kd : Int), l⟩) HM1.out HM2.out HA7.out HC7.out ho9 hg9; have HS9 := Lib.hid hS9; have HK9 := Lib.hid (HK2.out.trans hK9); obtain ⟨c77, f7⟩ := cell_at (u := .slice U ns uc) hrow9 7 rfl; clear ho9 hg9 hS9 hK9 hrow9)
        refine (HFi.out _).mono ?_
        rintro en w10 ⟨rfl, hb10⟩
        have HS10 := Lib.hid (HS9.out.call hb10)
        have HK10 := Lib.hid (HK9.out.trans (KB.of_below (s := s) hb10 HS9.out.hB))
        clear hb10
        go_wp2_with fail
        go_ret
        unfold LineN
        rw [HR.out]
        cases fb with
        | false =>
          rw [if_neg (by simp)]
          exact ⟨HK10.out, rfl⟩
        | true =>
          rw [if_pos rfl]
          exact ⟨HK10.out, rfl, a, b, c, d, e, f, _, _, _, _, _, _, Hcfg.out, HS10.out⟩
end Go.Proofs.YtdfhbnfhkckkbaaGreatDoor
namespace Go.Proofs.YtdfhbnfhkckkbaaGreatDoor
open Go Go.RowKit Go.Walks

theorem res32 (tmps : Array Value) (w : World) (g : Nat) (cs : Array Value) (u v : Value) (hs : cs.size = 8) (hp : tmps.getD 2 undef = .pointer (some ⟨g, 0, none⟩)) (h3 : tmps.getD 3 undef = u) (h4 : tmps.getD 4 undef = v) (hg : w.heap[g]? = some (.cells cs 27)) :
    (results Tryz.f32 tmps).run Tryz.prog w = .ok (.tuple #[.agg cs, u, v]) w := by
  have hp' : tmps[2]?.getD undef = .pointer (some ⟨g, 0, none⟩) := by simpa using hp
  have h3' : tmps[3]?.getD undef = u := by simpa using h3
  have h4' : tmps[4]?.getD undef = v := by simpa using h4
  simp [results, Tryz.results32, h3', h4', hp', asAddr, run_loadVar_row w g 27 27 cs (0, 0) _ hg Tryz.underlying27 rfl (by rw [hs]; exact info27)]
theorem XP.final {B s nt tc ns uc g : Nat} {a b c d e f : Int} {T U : Option Addr} {xs : List Bytes} {ys : List StepD} {W : World} {cs0 : Array Value} (h : XP B s a b c d e f T nt tc U ns uc xs ys W) (hg : g < B) (hr : W.heap[g]? = some (.cells cs0 27)) (cs : Array Value) : ScriptP (W.setRow g cs) ⟨[a, b, c, d, e, f], xs, ys⟩ a b c d e f T tc U uc := by
  obtain ⟨ms, h1, h2⟩ := h.own2
  have k1 := own_rb_lt h.own1 (rb_setRow1 g W cs) hg
  have k2 := own_rb_lt h1 (rb_setRow1 g W cs) hg
  exact ⟨rfl, own_sl k1, ⟨ms, own_sl k2, (h2.keep (keep_setRow hr (by decide) cs)).toS⟩, by have := (own_cap h.own1).1; rw [h.n1] at this; exact this, by have := (own_cap h1).1; rw [h.n2] at this; exact this⟩
/-- In the reference's Parse: the result's block and the script. -/
structure XW (w : World) (g s : Nat) (S : ScriptD) (W : World) : Prop where
  below : Below w.heap.size w W
  hg : w.heap.size ≤ g
  gs : g < s
  res : W.heap[g]? = some (.cells (scrCs 0 0 0 0 0 0 none 0 0 none 0 0) 27)
  sm : XM (s + 1) s S W
theorem XW.kb {w W W' : World} {g s : Nat} {S : ScriptD} (h : XW w g s S W) (hk : KB (s + 1) s W W') : Below w.heap.size w W' ∧ W'.heap[g]? = some (.cells (scrCs 0 0 0 0 0 0 none 0 0 none 0 0) 27) := by
  have e1 := h.gs
  have e3 := h.hg
  have e4 := h.below.size
  exact ⟨⟨hk.os.trans h.below.os, hk.tape.trans h.below.tape, hk.output.trans h.below.output, Nat.le_trans h.below.size hk.size, fun k hkk => (hk.block k (by omega) (by omega)).trans (h.below.block k hkk)⟩, (hk.block g (by omega) (by omega)).trans h.res⟩
theorem XM.call {B s : Nat} {S : ScriptD} {W W' : World} (h : XM B s S W) (hb : Below W.heap.size W W') : XM B s S W' := by
  obtain ⟨a, b, c, d, e, f, T, nt, tc, U, ns, uc, h1, h2⟩ := h
  exact ⟨a, b, c, d, e, f, T, nt, tc, U, ns, uc, h1, h2.call hb⟩
theorem XW.start {w : World} : XW w w.heap.size (w.heap.size + 1) emptyS ((w.alloc (.cells (scrCs 0 0 0 0 0 0 none 0 0 none 0 0) 27)).alloc (.cells (scrCs 0 0 0 0 0 0 none 0 0 none 0 0) 27)) := by
  obtain ⟨W1, hW1⟩ : ∃ W, W = w.alloc (.cells (scrCs 0 0 0 0 0 0 none 0 0 none 0 0) 27) := ⟨_, rfl⟩
  obtain ⟨W3, hW3⟩ : ∃ W, W = W1.alloc (.cells (scrCs 0 0 0 0 0 0 none 0 0 none 0 0) 27) := ⟨_, rfl⟩
  rw [← hW1, ← hW3]
  have h1 : Below w.heap.size w W1 := by rw [hW1]; exact (Below.refl _ _).alloc (Nat.le_refl _) _
  have h3 : Below W1.heap.size W1 W3 := by rw [hW3]; exact (Below.refl _ _).alloc (Nat.le_refl _) _
  have s1 : W1.heap.size = w.heap.size + 1 := by rw [hW1]; simp
  have s3 : W3.heap.size = w.heap.size + 1 + 1 := by rw [hW3]; simp [s1]
  have r1 : W1.heap[w.heap.size]? = some (.cells (scrCs 0 0 0 0 0 0 none 0 0 none 0 0) 27) := by rw [hW1]; exact heap_new _ _
  have r3 : W3.heap[w.heap.size + 1]? = some (.cells (scrCs 0 0 0 0 0 0 none 0 0 none 0 0) 27) := by rw [hW3, ← s1]; exact heap_new _ _
  exact ⟨h1.trans (h3.mono h1.size), Nat.le_refl _, by omega, below_cells r1 h3, 0, 0, 0, 0, 0, 0, none, 0, 0, none, 0, 0, rfl, by omega, by omega, r3, own_nil _ _ _ _, ⟨[], own_nil _ _ _ _, rfl⟩, rfl, rfl⟩
theorem cut_hit : ∀ (a r : Bytes), (∀ x ∈ a, x ≠ 10) → cutL (a ++ 10 :: r) = (a :: (cutL r).1, (cutL r).2)
  | [], r, _ => by rw [List.nil_append, cutL, if_pos rfl]
  | x :: a, r, h => by
    rw [List.cons_append, cutL, if_neg (h x (by simp)), cut_hit a r (fun y hy => h y (by simp [hy]))]
theorem cutT_last : ∀ (a : Bytes), (∀ x ∈ a, x ≠ 10) → cutL a = ([], a)
  | [], _ => rfl
  | x :: a, h => by
    rw [cutL, if_neg (h x (by simp)), cutT_last a (fun y hy => h y (by simp [hy]))]
theorem line_n (S : ScriptD) (n : Nat) (x : Bytes) : lineB S n x = lineB S (if n = 0 then 0 else 1) x := by
  by_cases h : n = 0
  · subst h; rfl
  · rw [if_neg h]
    by_cases ht : x.take 5 = textW
    · rw [line_text (by omega) ht, line_text (by omega) ht]
    · rw [line_other (fun k => ht k.2), line_other (fun k => ht k.2)]
      cases fieldsB x with
      | none => rfl
      | some wl => dsimp only; rw [if_neg h, if_neg Nat.one_ne_zero]
theorem lines_cons (S : ScriptD) (n : Nat) (x : Bytes) (l : List Bytes) : linesB S n (x :: l) = match lineB S n x with
    | none => .error n
    | some S' => linesB S' (n + 1) l := rfl
theorem radd_any (S : ScriptD) (x : Bytes) (s nl : Nat) (fb : Bool) (w : World) (hfb : ((nl : Int) == 0) = fb) (HS : Hid (XM (s + 1) s S w)) (hl : x.length ≤ 1000000) (ht : S.texts.length ≤ 1000000) (hst : S.steps.length ≤ 1000000) :
    Calls Tryz.prog 82 #[.pointer (some ⟨s, 0, none⟩), .string ⟨x.toArray⟩, .bool fb] w (LineN (s + 1) s S nl x w) := by
  by_cases h : nl = 0
  · subst h
    obtain rfl : true = fb := hfb
    exact radd_first S x (s + 1) s w HS hl
  · obtain rfl : false = fb := by rw [← hfb]; exact (bne_int (by omega)).symm
    unfold LineN
    rw [line_n S nl x, if_neg h]
    exact radd_rest S x (s + 1) s w HS hl ht hst
set_option maxRecDepth 100000 in
set_option maxHeartbeats 8000000 in
theorem rparse_any (t : Bytes) (w : World) (hl : t.length ≤ 1000000) : Calls Tryz.prog 32 #[.string ⟨t.toArray⟩] w (ParR t w) := by
  obtain ⟨n, hn⟩ : ∃ n, n = t.length := ⟨_, rfl⟩
  have hss := strBytes_size t
  obtain ⟨tb, htb⟩ : ∃ tb : ByteArray, tb = ⟨t.toArray⟩ := ⟨_, rfl⟩
  rw [← htb] at hss ⊢
  rw [← hn] at hss hl
  obtain ⟨P, hP⟩ : ∃ P, P = parseB t := ⟨_, rfl⟩
  have HPR : Hid (ParR t w = fun e w' => Below w.heap.size w w' ∧ match P with
    | .error (n, er) => e = .returned (.tuple #[.agg (scrCs 0 0 0 0 0 0 none 0 0 none 0 0), .int .i64 (n : Int), .int .i64 (er : Int)])
    | .ok S => ∃ v, e = .returned (.tuple #[v, .int .i64 0, .int .i64 0]) ∧ ScriptS w' S v) := Lib.hid (by rw [hP]; rfl)
  have HP : Hid (P = if 200000 < n then .error (0, 2)
    else match linesB emptyS 0 (cutL t).1 with
      | .error n => .error (n, 3)
      | .ok s => if (cutL t).1 = [] ∨ (cutL t).2 ≠ [] then .error ((cutL t).1.length, 3) else if (checkB s).2 ≠ 0 then .error (0, (checkB s).2) else .ok s) := Lib.hid (by rw [hP, hn]; rfl)
  have Hn := Lib.hid hn
  have Htb := Lib.hid htb
  clear hP hn htb
  by_cases hbig : 200000 < n
  · have hx : P = .error (0, 2) := by rw [HP.out, if_pos hbig]
    have q1 : decide ((200000 : Int) < (n : Int)) = true := decide_eq_true (by omega)
    obtain ⟨W1, hW1⟩ : ∃ W, W = w.alloc (.cells (scrCs 0 0 0 0 0 0 none 0 0 none 0 0) 27) := ⟨_, rfl⟩
    obtain ⟨g, hg⟩ : ∃ g, g = w.heap.size := ⟨_, rfl⟩
    have hr1 : W1.heap[g]? = some (.cells (scrCs 0 0 0 0 0 0 none 0 0 none 0 0) 27) := by rw [hW1, hg]; exact heap_new _ _
    have HB1 : Hid (Below w.heap.size w W1) := by rw [hW1]; exact (Below.refl _ _).alloc (Nat.le_refl _) _
    have HG : Hid (w.heap.size ≤ g) := by rw [hg]; exact Nat.le_refl _
    subst hx
    go_enter Tryz.func32, Tryz.ntmps32
    go_upto_region 1 with fail
    have hW1' : w.alloc (.cells #[.int .i64 0, .int .i64 0, .int .i64 0, .int .i64 0, .int .i64 0, .int .i64 0, .slice none 0 0, .slice none 0 0] 27) = W1 := hW1.symm
    rw [hW1', ← hg]
    clear hW1' hg hW1
    go_wp2_with (refine wpList_store_row rfl 27 _ _ rfl g (scrCs 0 0 0 0 0 0 none 0 0 none 0 0) rfl rfl 27 (scrCs 0 0 0 0 0 0 none 0 0 none 0 0) hr1 info27 rfl (scr_one _ _ _ _ _ _ _ _ _ _ _ _) ?_)
    refine bodyPost_ret (res32 _ _ g (scrCs 0 0 0 0 0 0 none 0 0 none 0 0) (.int .i64 0) (.int .i64 2) rfl rfl rfl rfl (setRow_heap _ _ _ _ _ _ hr1)) rfl ?_
    rw [HPR.out]
    exact ⟨below_setRow1 HB1.out HG.out _, rfl⟩
  · have q1 : decide ((200000 : Int) < (n : Int)) = false := decide_eq_false (by omega)
    have HP2 : Hid (P = match linesB emptyS 0 (cutL t).1 with
      | .error n => .error (n, 3)
      | .ok s => if (cutL t).1 = [] ∨ (cutL t).2 ≠ [] then .error ((cutL t).1.length, 3) else if (checkB s).2 ≠ 0 then .error (0, (checkB s).2) else .ok s) := Lib.hid (by rw [HP.out, if_neg hbig])
    obtain ⟨ls, hls⟩ : ∃ ls, ls = (cutL t).1 := ⟨_, rfl⟩
    obtain ⟨rs, hrs⟩ : ∃ rs, rs = (cutL t).2 := ⟨_, rfl⟩
    have HC0 : Hid (cutL (t.drop 0) = (ls.drop 0, rs)) := Lib.hid (by rw [List.drop_zero, List.drop_zero, hls, hrs])
    rw [← hls, ← hrs] at HP2
    obtain ⟨W0, hW0⟩ : ∃ W, W = (w.alloc (.cells (scrCs 0 0 0 0 0 0 none 0 0 none 0 0) 27)).alloc (.cells (scrCs 0 0 0 0 0 0 none 0 0 none 0 0) 27) := ⟨_, rfl⟩
    have HX0 := Lib.hid (XW.start (w := w))
    rw [← hW0] at HX0
    obtain ⟨g, hg⟩ : ∃ g, g = w.heap.size := ⟨_, rfl⟩
    obtain ⟨s, hs⟩ : ∃ g, g = w.heap.size + 1 := ⟨_, rfl⟩
    rw [← hs] at HX0
    replace HX0 : Hid (XW w g s emptyS W0) := by rw [hg]; exact HX0.out
    clear hls hrs HP hbig
    go_enter Tryz.func32, Tryz.ntmps32
    go_upto_region 4 with fail
    have hW0' : (w.alloc (.cells #[.int .i64 0, .int .i64 0, .int .i64 0, .int .i64 0, .int .i64 0, .int .i64 0, .slice none 0 0, .slice none 0 0] 27)).alloc (.cells #[.int .i64 0, .int .i64 0, .int .i64 0, .int .i64 0, .int .i64 0, .int .i64 0, .slice none 0 0, .slice none 0 0] 27) = W0 := hW0.symm
    rw [hW0', ← hs, ← hg]
    clear hW0' hW0 hs hg q1
    go_wp2_with fail
    go_loopg [8, 6, 7] n (fun gh s8 s6 s7 wr => ∃ (k nl f : Nat) (S : ScriptD), s8 = .int .i64 (k : Int) ∧ s6 = .int .i64 (nl : Int) ∧ s7 = .int .i64 (f : Int) ∧ gh = n - k ∧ k ≤ n ∧ f ≤ k ∧ nl ≤ k ∧ Hid (cutL (t.drop f) = (ls.drop nl, rs)) ∧ Hid (∀ c ∈ (t.drop f).take (k - f), c ≠ 10) ∧ Hid (linesB emptyS 0 ls = linesB S nl (ls.drop nl)) ∧ Hid (ScrB S ∧ S.texts.length ≤ nl ∧ S.steps.length ≤ nl ∧ nl ≤ ls.length) ∧ Hid (XW w g s S wr))
    case atStart => exact ⟨0, 0, 0, emptyS, rfl, rfl, rfl, rfl, Nat.zero_le _, Nat.le_refl _, Nat.le_refl _, HC0, fun c h => by simp at h, (by show _ = _; rw [List.drop_zero]), ⟨scrB_nil, Nat.le_refl _, Nat.le_refl _, Nat.zero_le _⟩, HX0⟩
    case round =>
      obtain ⟨k, nl, f, S, rfl, rfl, rfl, hgh, hk, hf, hnl, HC, HNo, HLs, HS, HX⟩ := hrel
      clear HC0 HX0
      by_cases hlt : k < n
      · have hI1 : (0 : Int) ≤ (k : Int) := by omega
        have hI2 : (k : Int) < (n : Int) := by omega
        have hks : k < tb.size := by omega
        obtain ⟨y, hy⟩ : ∃ y, t[k]? = some y := ⟨_, List.getElem?_eq_getElem (by rw [← Hn.out]; exact hlt)⟩
        have hby : tb[k] = y := by
          have h1 := bytes_get Htb.out hks
          rw [hy] at h1
          exact (Option.some.inj h1).symm
        obtain ⟨v, hv⟩ : ∃ v, v = y.toNat := ⟨_, rfl⟩
        have hbv : tb[k].toNat = v := by rw [hby, hv]
        by_cases h10 : v = 10
        · have hy10 : y = 10 := UInt8.toNat_inj.1 (by rw [← hv, h10]; rfl)
          obtain ⟨a, ha⟩ : ∃ a, a = (t.drop f).take (k - f) := ⟨_, rfl⟩
          have hdr := drop_take_hit hf hy
          have hcut := HC.out
          rw [hdr, hy10, cut_hit _ _ HNo.out, ← ha] at hcut
          injection hcut with hc1 hc2
          have hnl2 : nl < ls.length := by
            rcases Nat.lt_or_ge nl ls.length with h | h
            · exact h
            · rw [List.drop_of_length_le h] at hc1; cases hc1
          have hget : ls[nl]? = some a := by
            rw [List.drop_eq_getElem_cons hnl2] at hc1
            injection hc1 with h1 h2
            rw [List.getElem?_eq_getElem hnl2, h1]
          have hc3 : (cutL (t.drop (k + 1))).1 = ls.drop (nl + 1) := by
            rw [List.drop_eq_getElem_cons hnl2] at hc1
            injection hc1
          have HC2 : Hid (cutL (t.drop (k + 1)) = (ls.drop (nl + 1), rs)) := Lib.hid (by rw [← hc3, ← hc2])
          have HStep := Lib.hid (lines_step (S := S) hget)
          have hal : a.length ≤ 1000000 := by
            rw [ha, List.length_take, List.length_drop, ← Hn.out]; omega
          have hsl := run_slice_string wr 9 tb .i64 .i64 (f : Int) (k : Int) Tryz.underlying9 (by omega) (by omega) (by omega)
          have hex : tb.extract (f : Int).toNat (k : Int).toNat = ⟨a.toArray⟩ := by
            rw [Htb.out, ByteArray.extract_mk, ha]; rfl
          rw [hex] at hsl
          obtain ⟨fb, hfb⟩ : ∃ b : Bool, ((nl : Int) == 0) = b := ⟨_, rfl⟩
          have HAdd := Lib.hid (radd_any S a s nl fb wr hfb (Lib.hid HX.out.sm) hal (by have := HS.out.2.1; omega) (by have := HS.out.2.2.1; omega))
          unfold LineN at HAdd
          have HN2 : Hid (nl + 1 ≤ ls.length) := hnl2
          have Hal := Lib.hid hal
          subst h10
          clear hy hby hv hy10 ha hdr hc1 hc2 hnl2 hget hc3 hex hal
          go_wp2_with fail
          clear hsl hfb
          refine HAdd.out.mono ?_
          cases hb : lineB S nl a with
          | none =>
            have HPx : Hid (P = .error (nl, 3)) := Lib.hid (by rw [HP2.out, HLs.out, HStep.out, hb])
            dsimp only
            rintro en w2 ⟨hkb, rfl⟩
            obtain ⟨hB2, hres⟩ := HX.out.kb hkb
            have HB2 := Lib.hid hB2
            have HG := Lib.hid HX.out.hg
            clear hkb hB2 hb HAdd HX
            go_wp2_with (refine wpList_store_row rfl 27 _ _ rfl g (scrCs 0 0 0 0 0 0 none 0 0 none 0 0) rfl rfl 27 (scrCs 0 0 0 0 0 0 none 0 0 none 0 0) hres info27 rfl (scr_one _ _ _ _ _ _ _ _ _ _ _ _) ?_)
            refine bodyPost_ret (res32 _ _ g (scrCs 0 0 0 0 0 0 none 0 0 none 0 0) (.int .i64 (nl : Int)) (.int .i64 3) rfl rfl rfl rfl (setRow_heap _ _ _ _ _ _ hres)) rfl ?_
            rw [HPR.out, HPx.out]
            exact ⟨below_setRow1 HB2.out HG.out _, rfl⟩
          | some S' =>
            have HLs2 : Hid (linesB emptyS 0 ls = linesB S' (nl + 1) (ls.drop (nl + 1))) := Lib.hid (by rw [HLs.out, HStep.out, hb])
            have HS2 : Hid (ScrB S' ∧ S'.texts.length ≤ nl + 1 ∧ S'.steps.length ≤ nl + 1 ∧ nl + 1 ≤ ls.length) := Lib.hid (by
              obtain ⟨h1, h2, h3, h4⟩ := HS.out
              have h5 := line_lens hb
              exact ⟨scrB_line h1 Hal.out hb, by omega, by omega, HN2.out⟩)
            dsimp only
            rintro en w2 ⟨hkb, rfl, hsm⟩
            obtain ⟨hB2, hres⟩ := HX.out.kb hkb
            have HX2 : Hid (XW w g s S' w2) := ⟨hB2, HX.out.hg, HX.out.gs, hres, hsm⟩
            clear hkb hB2 hres hsm hb HAdd HX
            go_wp2_with fail
            go_roundg (n - (k + 1))
            case measure => omega
            case rel => exact ⟨k + 1, nl + 1, k + 1, S', by go_num, by go_num, by go_num, rfl, by omega, by omega, by omega, HC2, fun c h => by simp at h, HLs2, HS2, HX2⟩
        · have q2 : ((v : Int) != 10) = true := by rw [bne_iff_ne]; omega
          have HNo2 : Hid (∀ c ∈ (t.drop f).take (k + 1 - f), c ≠ 10) := Lib.hid (fun c hc => by
            rw [take_snoc_get hf hy] at hc
            rcases List.mem_append.1 hc with hc | hc
            · exact HNo.out c hc
            · have : c = y := by simpa using hc
              subst this
              intro h
              apply h10
              rw [hv, h]; rfl)
          clear hy hby hv h10
          go_wp2_with fail
          go_roundg (n - (k + 1))
          case measure => omega
          case rel => exact ⟨k + 1, nl, f, S, by go_num, rfl, rfl, rfl, by omega, by omega, by omega, HC, HNo2, HLs, HS, HX⟩
      · have hke : k = n := by omega
        have hI3 : ¬ (k : Int) < (n : Int) := by omega
        have hno := HNo.out
        rw [hke, List.take_of_length_le (by rw [List.length_drop, ← Hn.out]; exact Nat.le_refl _)] at hno
        have hcut := HC.out
        rw [cutT_last _ hno] at hcut
        injection hcut with hc1 hc2
        have hnle : nl = ls.length := by
          have h1 := congrArg List.length hc1
          rw [List.length_nil, List.length_drop] at h1
          have h2 := HS.out.2.2.2
          omega
        have HNl := Lib.hid hnle
        have HRs : Hid (rs = t.drop f) := Lib.hid hc2.symm
        have HPy : Hid (P = if ls = [] ∨ rs ≠ [] then .error (ls.length, 3) else if (checkB S).2 ≠ 0 then .error (0, (checkB S).2) else .ok S) := Lib.hid (by rw [HP2.out, HLs.out, ← hc1]; rfl)
        have hfn : f ≤ n := by omega
        clear hno hc1 hnle hlt hgh
        by_cases hn0 : nl = 0
        · have HPx : Hid (P = .error (0, 3)) := Lib.hid (by
            have h1 : ls.length = 0 := by rw [← HNl.out]; exact hn0
            rw [HPy.out, if_pos (.inl (List.eq_nil_of_length_eq_zero h1)), h1])
          subst hn0
          clear hke
          have hres := HX.out.res
          have HB2 := Lib.hid HX.out.below
          have HG := Lib.hid HX.out.hg
          clear HX
          go_wp2_with (refine wpList_store_row rfl 27 _ _ rfl g (scrCs 0 0 0 0 0 0 none 0 0 none 0 0) rfl rfl 27 (scrCs 0 0 0 0 0 0 none 0 0 none 0 0) hres info27 rfl (scr_one _ _ _ _ _ _ _ _ _ _ _ _) ?_)
          refine bodyPost_ret (res32 _ _ g (scrCs 0 0 0 0 0 0 none 0 0 none 0 0) (.int .i64 0) (.int .i64 3) rfl rfl rfl rfl (setRow_heap _ _ _ _ _ _ hres)) rfl ?_
          rw [HPR.out, HPx.out]
          exact ⟨below_setRow1 HB2.out HG.out _, rfl⟩
        · have qn : ((nl : Int) == 0) = false := bne_int (by omega)
          by_cases hfl : f < n
          · have HPx : Hid (P = .error (nl, 3)) := Lib.hid (by
              rw [HPy.out, if_pos, HNl.out]
              refine .inr ?_
              rw [HRs.out]
              intro h
              have := congrArg List.length h
              rw [List.length_drop, ← Hn.out, List.length_nil] at this
              omega)
            have hfI : (f : Int) < (n : Int) := by omega
            clear hke hn0 hfl
            have hres := HX.out.res
            have HB2 := Lib.hid HX.out.below
            have HG := Lib.hid HX.out.hg
            clear HX
            go_wp2_with (refine wpList_store_row rfl 27 _ _ rfl g (scrCs 0 0 0 0 0 0 none 0 0 none 0 0) rfl rfl 27 (scrCs 0 0 0 0 0 0 none 0 0 none 0 0) hres info27 rfl (scr_one _ _ _ _ _ _ _ _ _ _ _ _) ?_)
            refine bodyPost_ret (res32 _ _ g (scrCs 0 0 0 0 0 0 none 0 0 none 0 0) (.int .i64 (nl : Int)) (.int .i64 3) rfl rfl rfl rfl (setRow_heap _ _ _ _ _ _ hres)) rfl ?_
            rw [HPR.out, HPx.out]
            exact ⟨below_setRow1 HB2.out HG.out _, rfl⟩
          · have HPz : Hid (P = if (checkB S).2 ≠ 0 then .error (0, (checkB S).2) else .ok S) := Lib.hid (by
              rw [HPy.out, if_neg]
              rintro (h | h)
              · rw [h] at HNl; exact hn0 HNl.out
              · apply h
                rw [HRs.out, List.drop_of_length_le (by rw [← Hn.out]; omega)])
            have hfI : ¬ (f : Int) < (n : Int) := by omega
            obtain ⟨a, b, c, d, e, f0, T, nt, tc, U, ns, uc, hcfg, hsp⟩ := HX.out.sm
            have hxs : S.texts.length = nt := hsp.n1.symm
            have hys : S.steps.length = ns := hsp.n2.symm
            have hSP := hsp.script
            have hSeq : S = ⟨[a, b, c, d, e, f0], S.texts, S.steps⟩ := by rw [← hcfg]
            rw [← hSeq] at hSP
            have hSS : ScriptS wr S (.agg (scrCs a b c d e f0 T nt tc U ns uc)) := ⟨a, b, c, d, e, f0, T, tc, U, uc, by rw [hxs, hys], hSP⟩
            have hchk := rcheck_any S _ wr (Lib.hid hSS) (Lib.hid (scrB_L (k := nl) HS.out.1 HS.out.2.1 HS.out.2.2.1 (by omega)))
            obtain ⟨ck, hck⟩ : ∃ x, x = checkB S := ⟨_, rfl⟩
            rw [← hck] at hchk HPz
            obtain ⟨ce, ch⟩ := ck
            unfold CheckR at hchk
            dsimp only at hchk HPz
            have Hchk := Lib.hid hchk
            have HSP := Lib.hid hsp
            have HSeq := Lib.hid hSeq
            have HXY := Lib.hid (And.intro hxs hys)
            have HB1 := Lib.hid HX.out.below
            have HR1 := Lib.hid HX.out.res
            have HG := Lib.hid HX.out.hg
            have HGS := Lib.hid HX.out.gs
            have hrow := hsp.row
            have y0 := (cell_at (u := .int .i64 a) hrow 0 rfl).1
            have y1 := (cell_at (u := .int .i64 b) hrow 1 rfl).1
            have y2 := (cell_at (u := .int .i64 c) hrow 2 rfl).1
            have y3 := (cell_at (u := .int .i64 d) hrow 3 rfl).1
            have y4 := (cell_at (u := .int .i64 e) hrow 4 rfl).1
            have y5 := (cell_at (u := .int .i64 f0) hrow 5 rfl).1
            have y6 := (cell_at (u := .slice T nt tc) hrow 6 rfl).1
            have y7 := (cell_at (u := .slice U ns uc) hrow 7 rfl).1
            clear hke hn0 hfl hcfg hsp hxs hys hSP hSeq hSS hchk hck hrow HX HPy HP2 HRs HC HLs HNo
            go_wp2_with fail
            refine Hchk.out.mono ?_
            rintro en w8 ⟨rfl, hb8⟩
            have HSP8 := Lib.hid (HSP.out.call hb8)
            have HB8 := Lib.hid (HB1.out.trans (hb8.mono HB1.out.size))
            have hres := below_cells HR1.out hb8
            clear hb8 y0 y1 y2 y3 y4 y5 y6 y7 Hchk HSP HB1
            have hrow := HSP8.out.row
            obtain ⟨CS, hCS⟩ : ∃ C, C = scrCs a b c d e f0 T nt tc U ns uc := ⟨_, rfl⟩
            have i8 : (Tryz.prog.info? 27).map (·.size) = some CS.size := by rw [hCS]; exact info27
            have c8 : CS.size = 8 := by rw [hCS]; rfl
            have all1 : CS.all (·.oneCell') = true := by rw [hCS]; exact scr_one _ _ _ _ _ _ _ _ _ _ _ _
            have o8 : (scrCs 0 0 0 0 0 0 none 0 0 none 0 0).size = CS.size := by rw [hCS]; rfl
            rw [← hCS] at hrow
            have HCS := Lib.hid hCS
            by_cases hch : ch = 0
            · subst hch
              have HPx : Hid (P = .ok S) := Lib.hid (by rw [HPz.out, if_neg (by simp)])
              have HFin := Lib.hid (HSP8.out.final (show g < s + 1 by have := HGS.out; omega) hres CS)
              clear HPz hCS
              go_wp2_with (first | (refine wpList_load_row rfl 27 _ rfl s rfl 27 CS (0, 0) _ hrow Tryz.underlying27 rfl i8 ?_) | (refine wpList_store_row rfl 27 _ _ rfl g CS rfl rfl 27 (scrCs 0 0 0 0 0 0 none 0 0 none 0 0) hres i8 o8 all1 ?_))
              refine bodyPost_ret (res32 _ _ g CS (.int .i64 0) (.int .i64 0) c8 rfl rfl rfl (setRow_heap _ _ _ _ _ _ hres)) rfl ?_
              rw [HPR.out, HPx.out]
              refine ⟨below_setRow1 HB8.out HG.out CS, _, rfl, a, b, c, d, e, f0, T, tc, U, uc, ?_, ?_⟩
              · rw [HCS.out, HXY.out.1, HXY.out.2]
              · rw [HSeq.out]; exact HFin.out
            · have q3 : ((ch : Int) != 0) = true := by rw [bne_iff_ne]; omega
              have HPx : Hid (P = .error (0, ch)) := Lib.hid (by rw [HPz.out, if_pos hch])
              clear HPz hCS hrow i8 c8 all1 o8 hch
              go_wp2_with (refine wpList_store_row rfl 27 _ _ rfl g (scrCs 0 0 0 0 0 0 none 0 0 none 0 0) rfl rfl 27 (scrCs 0 0 0 0 0 0 none 0 0 none 0 0) hres info27 rfl (scr_one _ _ _ _ _ _ _ _ _ _ _ _) ?_)
              refine bodyPost_ret (res32 _ _ g (scrCs 0 0 0 0 0 0 none 0 0 none 0 0) (.int .i64 0) (.int .i64 (ch : Int)) rfl rfl rfl rfl (setRow_heap _ _ _ _ _ _ hres)) rfl ?_
              rw [HPR.out, HPx.out]
              exact ⟨below_setRow1 HB8.out HG.out _, rfl⟩
end Go.Proofs.YtdfhbnfhkckkbaaGreatDoor
namespace Go.Proofs.YtdfhbnfhkckkbaaGreatDoor
open Go Go.RowKit Go.Walks

def parS : Except (Nat × Nat) ScriptD → ScriptD
  | .ok S => S
  | .error _ => emptyS
def parE : Except (Nat × Nat) ScriptD → Nat × Nat
  | .ok _ => (0, 0)
  | .error e => e
theorem zero_P (W : World) : ScriptS W emptyS (.agg (scrCs 0 0 0 0 0 0 none 0 0 none 0 0)) :=
  ⟨0, 0, 0, 0, 0, 0, none, 0, none, 0, rfl, rfl, .inl rfl, ⟨[], .inl rfl, rfl⟩, Nat.le_refl _, Nat.le_refl _⟩
theorem par_two {t : Bytes} {w : World} {e : Ending} {w' : World} (h : ParR t w e w') : Below w.heap.size w w' ∧ ∃ v, e = .returned (.tuple #[v, .int .i64 ((parE (parseB t)).1 : Int), .int .i64 ((parE (parseB t)).2 : Int)]) ∧ ScriptS w' (parS (parseB t)) v := by
  unfold ParR at h
  cases hx : parseB t with
  | error er => rw [hx] at h; exact ⟨h.1, _, h.2, zero_P _⟩
  | ok S => rw [hx] at h; exact h
theorem par_okS (t : Bytes) : OkS (parS (parseB t)) := by
  cases h : parseB t with
  | error e => exact check_ok.1 (show (checkB emptyS).2 = 0 by decide +kernel)
  | ok S => exact (print_parse h).2.2.1

set_option maxRecDepth 100000 in
set_option maxHeartbeats 8000000 in
theorem lawPar_any (t : Bytes) (w : World) (Hg : Hid (Gl w)) : Calls Tryz.prog 5 #[.string ⟨t.toArray⟩] w (BoolR true w) := by
  have HSan : Hid (∀ W, Below w.heap.size w W → Calls Tryz.prog 11 #[] W (BoolR true W)) := Lib.hid fun W hb => sanity_any W (Lib.hid (Hg.out.below hb))
  obtain ⟨S, hS⟩ : ∃ S, S = parS (parseB t) := ⟨_, rfl⟩
  have hO : OkS S := by rw [hS]; exact par_okS t
  have HSpec : Hid (∀ v W, ScriptS W S v → Calls Tryz.prog 30 #[v] W fun e w' => Below W.heap.size W w' ∧ ∃ v', e = .returned v' ∧ ScriptS w' S v') := Lib.hid fun v W h => spec_any S v W (Lib.hid h) (by have := hO.ns; omega)
  have HSm : Hid (∀ u v W, ScriptS W S u → ScriptS W S v → Calls Tryz.prog 24 #[u, v] W (BoolR true W)) := Lib.hid fun u v W h1 h2 => by
    have := rsame_any S S u v W (Lib.hid h1) (Lib.hid h2) (Lib.hid (check_okL hO))
    rw [decide_eq_true rfl] at this
    exact this
  obtain ⟨ln, hln⟩ : ∃ e, e = (parE (parseB t)).1 := ⟨_, rfl⟩
  obtain ⟨er, her⟩ : ∃ e, e = (parE (parseB t)).2 := ⟨_, rfl⟩
  have HPa : Hid (t.length ≤ 20000 → ∀ W, Below w.heap.size w W → Calls Tryz.prog 31 #[.string ⟨t.toArray⟩] W fun e w' => Below W.heap.size W w' ∧ ∃ v, e = .returned (.tuple #[v, .int .i64 (ln : Int), .int .i64 (er : Int)]) ∧ ScriptS w' S v) := Lib.hid fun h0 W hb => by
    rw [hS, her, hln]
    exact (parse_any t W (Lib.hid (Hg.out.below hb)) (by omega)).mono fun _ _ h => par_two h
  have HPr : Hid (t.length ≤ 20000 → ∀ W, Calls Tryz.prog 32 #[.string ⟨t.toArray⟩] W fun e w' => Below W.heap.size W w' ∧ ∃ v, e = .returned (.tuple #[v, .int .i64 (ln : Int), .int .i64 (er : Int)]) ∧ ScriptS w' S v) := Lib.hid fun h0 W => by
    rw [hS, her, hln]
    exact (rparse_any t W (by omega)).mono fun _ _ h => par_two h
  have HB0 : Hid (Below w.heap.size w w) := Below.refl _ _
  obtain ⟨n, hn⟩ : ∃ n, n = t.length := ⟨_, rfl⟩
  have hss := strBytes_size t
  obtain ⟨tb, htb⟩ : ∃ tb : ByteArray, tb = ⟨t.toArray⟩ := ⟨_, rfl⟩
  rw [← htb] at hss HPa HPr ⊢
  rw [← hn] at hss HPa HPr
  clear hn htb Hg hS her hln hO
  by_cases hgt : (20000 : Int) < (n : Int)
  · go_enter Tryz.func5, Tryz.ntmps5
    go_wp2_with fail
    refine (HSan.out _ HB0.out).mono ?_
    rintro en w1 ⟨rfl, hb1⟩
    have HB1 := Lib.hid (HB0.out.trans (hb1.mono HB0.out.size))
    clear hb1 HB0
    go_wp2_with fail
    go_ret
    exact ⟨rfl, HB1.out⟩
  have HPa1 := Lib.hid (HPa.out (by omega))
  have HPr1 := Lib.hid (HPr.out (by omega))
  clear HPa HPr
  go_enter Tryz.func5, Tryz.ntmps5
  go_wp2_with fail
  refine (HPa1.out _ HB0.out).mono ?_
  rintro en w1 ⟨hb1, va, rfl, hva⟩
  have HB1 := Lib.hid (HB0.out.trans (hb1.mono HB0.out.size))
  clear hb1 HB0
  obtain ⟨p0, p1, p2, p3, p4, p5, T, tc, U, uc, rfl, hp⟩ := hva
  obtain ⟨nt, hnt⟩ : ∃ n, n = S.texts.length := ⟨_, rfl⟩
  obtain ⟨ns, hns⟩ : ∃ n, n = S.steps.length := ⟨_, rfl⟩
  have HVx : Hid (ScriptS w1 S (.agg (scrCs p0 p1 p2 p3 p4 p5 T nt tc U ns uc))) := ⟨p0, p1, p2, p3, p4, p5, T, tc, U, uc, by rw [hnt, hns], hp⟩
  rw [← hnt, ← hns]
  obtain ⟨cs, hcs⟩ : ∃ cs, cs = scrCs p0 p1 p2 p3 p4 p5 T nt tc U ns uc := ⟨_, rfl⟩
  rw [← hcs] at HVx
  obtain ⟨g3, hg⟩ : ∃ g, g = w1.heap.size := ⟨_, rfl⟩
  obtain ⟨W2, hW⟩ : ∃ W, W = w1.alloc (.cells cs 35) := ⟨_, rfl⟩
  have HS2 : Hid (SNt 35 S g3 cs W2) := by rw [hW, hg]; exact SNt.start HVx.out
  have hb2 : Below w1.heap.size w1 W2 := by rw [hW]; exact (Below.refl _ _).alloc (Nat.le_refl _) _
  have Hcs := Lib.hid hcs
  rw [hcs] at hW
  have HB2 := Lib.hid (HB1.out.trans (hb2.mono HB1.out.size))
  clear hb2 HB1 hp hnt hns hcs HVx
  unfold scrCs
  unfold scrCs at hW
  go_upto_region 4 with fail
  rw [← hW, ← hg]
  clear hW hg
  go_wp2_with fail
  refine (HPr1.out _).mono ?_
  rintro en w3 ⟨hb3, vb, rfl, hvb⟩
  have HB3 := Lib.hid (HB2.out.trans (hb3.mono HB2.out.size))
  have HS3 := Lib.hid (HS2.out.call hb3)
  clear hb3 HB2 HS2
  obtain ⟨q0, q1, q2, q3, q4, q5, T', tc', U', uc', rfl, hp⟩ := hvb
  obtain ⟨nt', hnt⟩ : ∃ n, n = S.texts.length := ⟨_, rfl⟩
  obtain ⟨ns', hns⟩ : ∃ n, n = S.steps.length := ⟨_, rfl⟩
  have HVx : Hid (ScriptS w3 S (.agg (scrCs q0 q1 q2 q3 q4 q5 T' nt' tc' U' ns' uc'))) := ⟨q0, q1, q2, q3, q4, q5, T', tc', U', uc', by rw [hnt, hns], hp⟩
  rw [← hnt, ← hns]
  obtain ⟨ds, hcs⟩ : ∃ cs, cs = scrCs q0 q1 q2 q3 q4 q5 T' nt' tc' U' ns' uc' := ⟨_, rfl⟩
  rw [← hcs] at HVx
  obtain ⟨g5, hg⟩ : ∃ g, g = w3.heap.size := ⟨_, rfl⟩
  obtain ⟨W4, hW⟩ : ∃ W, W = w3.alloc (.cells ds 27) := ⟨_, rfl⟩
  have HT4 : Hid (SNt 27 S g5 ds W4) := by rw [hW, hg]; exact SNt.start HVx.out
  have hb4 : Below w3.heap.size w3 W4 := by rw [hW]; exact (Below.refl _ _).alloc (Nat.le_refl _) _
  have Hds := Lib.hid hcs
  rw [hcs] at hW
  have HB4 := Lib.hid (HB3.out.trans (hb4.mono HB3.out.size))
  have HS4 := Lib.hid (HS3.out.call hb4)
  clear hb4 HB3 HS3 hp hnt hns hcs HVx
  unfold scrCs
  unfold scrCs at hW
  go_upto_region 5 with fail
  rw [← hW, ← hg]
  clear hW hg
  have hv := HS4.out.2
  rw [Hcs.out] at hv
  have HVl := Lib.hid hv
  clear hv
  have hz := HT4.out.2
  rw [Hds.out] at hz
  have HVz := Lib.hid hz
  clear hz
  have crow := HS4.out.1
  rw [Hcs.out] at crow
  have c0 := (cell_at (u := .int .i64 p0) crow 0 rfl).1
  have c1 := (cell_at (u := .int .i64 p1) crow 1 rfl).1
  have c2 := (cell_at (u := .int .i64 p2) crow 2 rfl).1
  have c3 := (cell_at (u := .int .i64 p3) crow 3 rfl).1
  have c4 := (cell_at (u := .int .i64 p4) crow 4 rfl).1
  have c5 := (cell_at (u := .int .i64 p5) crow 5 rfl).1
  have c6 := (cell_at (u := .slice T nt tc) crow 6 rfl).1
  have c7 := (cell_at (u := .slice U ns uc) crow 7 rfl).1
  clear crow
  have crow := HT4.out.1
  rw [Hds.out] at crow
  have d0 := (cell_at (u := .int .i64 q0) crow 0 rfl).1
  have d1 := (cell_at (u := .int .i64 q1) crow 1 rfl).1
  have d2 := (cell_at (u := .int .i64 q2) crow 2 rfl).1
  have d3 := (cell_at (u := .int .i64 q3) crow 3 rfl).1
  have d4 := (cell_at (u := .int .i64 q4) crow 4 rfl).1
  have d5 := (cell_at (u := .int .i64 q5) crow 5 rfl).1
  have d6 := (cell_at (u := .slice T' nt' tc') crow 6 rfl).1
  have d7 := (cell_at (u := .slice U' ns' uc') crow 7 rfl).1
  clear crow
  have hltg3 : g3 < W4.heap.size := (Array.getElem?_eq_some_iff.1 HS4.out.1).1
  have hltg5 : g5 < W4.heap.size := (Array.getElem?_eq_some_iff.1 HT4.out.1).1
  have KS : Hid (∀ w' : World, Below W4.heap.size W4 w' → (w'.cell? ⟨g3, 0, none⟩ = some (.int .i64 p0) ∧ w'.cell? ⟨g3, 1, none⟩ = some (.int .i64 p1) ∧ w'.cell? ⟨g3, 2, none⟩ = some (.int .i64 p2) ∧ w'.cell? ⟨g3, 3, none⟩ = some (.int .i64 p3) ∧ w'.cell? ⟨g3, 4, none⟩ = some (.int .i64 p4) ∧ w'.cell? ⟨g3, 5, none⟩ = some (.int .i64 p5) ∧ w'.cell? ⟨g3, 6, none⟩ = some (.slice T nt tc) ∧ w'.cell? ⟨g3, 7, none⟩ = some (.slice U ns uc) ∧ w'.cell? ⟨g5, 0, none⟩ = some (.int .i64 q0) ∧ w'.cell? ⟨g5, 1, none⟩ = some (.int .i64 q1) ∧ w'.cell? ⟨g5, 2, none⟩ = some (.int .i64 q2) ∧ w'.cell? ⟨g5, 3, none⟩ = some (.int .i64 q3) ∧ w'.cell? ⟨g5, 4, none⟩ = some (.int .i64 q4) ∧ w'.cell? ⟨g5, 5, none⟩ = some (.int .i64 q5) ∧ w'.cell? ⟨g5, 6, none⟩ = some (.slice T' nt' tc') ∧ w'.cell? ⟨g5, 7, none⟩ = some (.slice U' ns' uc'))) := fun w' hb => ⟨(hb.cell (p := ⟨g3, 0, none⟩) hltg3).trans c0, (hb.cell (p := ⟨g3, 1, none⟩) hltg3).trans c1, (hb.cell (p := ⟨g3, 2, none⟩) hltg3).trans c2, (hb.cell (p := ⟨g3, 3, none⟩) hltg3).trans c3, (hb.cell (p := ⟨g3, 4, none⟩) hltg3).trans c4, (hb.cell (p := ⟨g3, 5, none⟩) hltg3).trans c5, (hb.cell (p := ⟨g3, 6, none⟩) hltg3).trans c6, (hb.cell (p := ⟨g3, 7, none⟩) hltg3).trans c7, (hb.cell (p := ⟨g5, 0, none⟩) hltg5).trans d0, (hb.cell (p := ⟨g5, 1, none⟩) hltg5).trans d1, (hb.cell (p := ⟨g5, 2, none⟩) hltg5).trans d2, (hb.cell (p := ⟨g5, 3, none⟩) hltg5).trans d3, (hb.cell (p := ⟨g5, 4, none⟩) hltg5).trans d4, (hb.cell (p := ⟨g5, 5, none⟩) hltg5).trans d5, (hb.cell (p := ⟨g5, 6, none⟩) hltg5).trans d6, (hb.cell (p := ⟨g5, 7, none⟩) hltg5).trans d7⟩
  have B0 : Hid (Below W4.heap.size W4 W4.drew) := (Below.refl _ _).drew
  go_wp2_with fail
  go_region_held3 (fun w' => (w'.cell? ⟨g3, 0, none⟩ = some (.int .i64 p0) ∧ w'.cell? ⟨g3, 1, none⟩ = some (.int .i64 p1) ∧ w'.cell? ⟨g3, 2, none⟩ = some (.int .i64 p2) ∧ w'.cell? ⟨g3, 3, none⟩ = some (.int .i64 p3) ∧ w'.cell? ⟨g3, 4, none⟩ = some (.int .i64 p4) ∧ w'.cell? ⟨g3, 5, none⟩ = some (.int .i64 p5) ∧ w'.cell? ⟨g3, 6, none⟩ = some (.slice T nt tc) ∧ w'.cell? ⟨g3, 7, none⟩ = some (.slice U ns uc) ∧ w'.cell? ⟨g5, 0, none⟩ = some (.int .i64 q0) ∧ w'.cell? ⟨g5, 1, none⟩ = some (.int .i64 q1) ∧ w'.cell? ⟨g5, 2, none⟩ = some (.int .i64 q2) ∧ w'.cell? ⟨g5, 3, none⟩ = some (.int .i64 q3) ∧ w'.cell? ⟨g5, 4, none⟩ = some (.int .i64 q4) ∧ w'.cell? ⟨g5, 5, none⟩ = some (.int .i64 q5) ∧ w'.cell? ⟨g5, 6, none⟩ = some (.slice T' nt' tc') ∧ w'.cell? ⟨g5, 7, none⟩ = some (.slice U' ns' uc'))) (first | exact hKeep | go_keep)
    (first
      | (go_at_call 11; refine (HSan.out _ (HB4.out.trans (B0.out.mono HB4.out.size))).mono ?_; rintro e w5 ⟨rfl, hbx⟩; have B1 := Lib.hid (B0.out.trans (hbx.mono B0.out.size)); have hKeep := KS.out _ B1.out; clear hbx)
      | (go_at_call 30; refine (HSpec.out (.agg (scrCs p0 p1 p2 p3 p4 p5 T nt tc U ns uc)) _ (HVl.out.below B1.out)).mono ?_; rintro e w6 ⟨hbx, vc, rfl, hvc⟩; have HVC := Lib.hid hvc; clear hvc; have B2 := Lib.hid (B1.out.trans (hbx.mono B1.out.size)); have hKeep := KS.out _ B2.out; clear hbx)
      | (go_at_call 24; refine (HSm.out _ (.agg (scrCs q0 q1 q2 q3 q4 q5 T' nt' tc' U' ns' uc')) _ HVC.out (HVz.out.below B2.out)).mono ?_; rintro e w7 ⟨rfl, hbx⟩; have B3 := Lib.hid (B2.out.trans (hbx.mono B2.out.size)); have hKeep := KS.out _ B3.out; clear hbx))
  clear KS c0 c1 c2 c3 c4 c5 c6 c7 d0 d1 d2 d3 d4 d5 d6 d7 hltg3 hltg5 B0 B1 B2
  have hb7 := B3.out
  clear B3
  have HB7 := Lib.hid (HB4.out.trans (hb7.mono HB4.out.size))
  have HS7 := Lib.hid (HS4.out.call hb7)
  have HT7 := Lib.hid (HT4.out.call hb7)
  clear hb7 HB4 HS4 HT4 HVz HVl HVC
  go_wp2_with fail
  go_ret
  exact ⟨rfl, HB7.out⟩
end Go.Proofs.YtdfhbnfhkckkbaaGreatDoor
