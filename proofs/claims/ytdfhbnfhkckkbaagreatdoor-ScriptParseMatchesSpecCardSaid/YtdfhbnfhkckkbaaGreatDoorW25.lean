/-
  The walk of (*Script).line.
-/
import Derived.Test.YtdfhbnfhkckkbaaGreatDoorW24
import Derived.Test.YtdfhbnfhkckkbaaGreatDoorW18
namespace Go.Proofs.YtdfhbnfhkckkbaaGreatDoor
open Go Go.RowKit Go.Walks

/-- All old blocks below B but s stay. -/
structure KB (B s : Nat) (w w' : World) : Prop where
  os : w'.os = w.os
  tape : w'.tape = w.tape
  output : w'.output = w.output
  size : w.heap.size ≤ w'.heap.size
  block : ∀ k : Nat, k < B → k ≠ s → w'.heap[k]? = w.heap[k]?
theorem KB.refl (B s : Nat) (w : World) : KB B s w w := ⟨rfl, rfl, rfl, Nat.le_refl _, fun _ _ _ => rfl⟩
theorem KB.trans {B s : Nat} {a b c : World} (h : KB B s a b) (k : KB B s b c) : KB B s a c :=
  ⟨k.os.trans h.os, k.tape.trans h.tape, k.output.trans h.output, Nat.le_trans h.size k.size, fun i hi hs => (k.block i hi hs).trans (h.block i hi hs)⟩
theorem KB.of_below {B s : Nat} {a b : World} (h : Below a.heap.size a b) (hB : B ≤ a.heap.size) : KB B s a b := ⟨h.os, h.tape, h.output, h.size, fun k hk _ => h.block k (by omega)⟩
theorem KB.setCell (B s : Nat) (w : World) (o : Nat) (u : Value) : KB B s w (w.setCell ⟨s, o, none⟩ u) := ⟨rfl, rfl, rfl, by rw [World.size_setCell]; exact Nat.le_refl _, fun k _ hs => Below.heap_setCell _ _ _ _ hs⟩
theorem KB.gl {B s : Nat} {w w' : World} (h : KB B s w w') (hg : Gl w) (hs : 9 ≤ s) (hB : s < B) : Gl w' := hg.keep h.size fun k hk => h.block k (by omega) (by omega)
/-- A script in memory, in rows of its own: its parts. -/
structure SP (B s : Nat) (a b c d e f : Int) (T : Option Addr) (nt tc : Nat) (U : Option Addr) (ns uc : Nat) (xs : List Bytes) (ys : List StepD) (W : World) : Prop where
  hs : s < B
  hB : B ≤ W.heap.size
  row : W.heap[s]? = some (.cells (scrCs a b c d e f T nt tc U ns uc) 35)
  own1 : W.ownsRow B 9 1 (.slice T nt tc) nt (xs.map strV)
  own2 : ∃ ms, W.ownsRow B 69 2 (.slice U ns uc) ns ms ∧ StepsT W ys ms
  n1 : nt = xs.length
  n2 : ns = ys.length
/-- A script in memory. -/
def SM (B s : Nat) (S : ScriptD) (W : World) : Prop := ∃ a b c d e f T nt tc U ns uc, S.cfg = [a, b, c, d, e, f] ∧ SP B s a b c d e f T nt tc U ns uc S.texts S.steps W
section
variable {W W' : World} {B s nt tc ns uc : Nat} {a b c d e f : Int} {T U : Option Addr} {xs : List Bytes} {ys : List StepD}
theorem SP.call (h : SP B s a b c d e f T nt tc U ns uc xs ys W) (hb : Below W.heap.size W W') : SP B s a b c d e f T nt tc U ns uc xs ys W' := by
  obtain ⟨ms, h1, h2⟩ := h.own2
  exact ⟨h.hs, Nat.le_trans h.hB hb.size, below_cells h.row hb, own_below h.own1 hb, ⟨ms, own_below h1 hb, h2.keep (KeepT.below hb)⟩, h.n1, h.n2⟩
theorem SP.cells (h : SP B s a b c d e f T nt tc U ns uc xs ys W) : (W.cell? ⟨s, 6, none⟩ = some (.slice T nt tc) ∧ W.cell? ⟨s, 7, none⟩ = some (.slice U ns uc)) ∧ W.frozen? ⟨s, 6, none⟩ = false ∧ W.frozen? ⟨s, 7, none⟩ = false :=
  ⟨⟨(cell_at h.row 6 rfl).1, (cell_at h.row 7 rfl).1⟩, (cell_at (u := .slice T nt tc) h.row 6 rfl).2, (cell_at (u := .slice U ns uc) h.row 7 rfl).2⟩
theorem SP.other (h : SP B s a b c d e f T nt tc U ns uc xs ys W) (o : Nat) (u : Value) {a' b' c' d' e' f' : Int} (hv : (scrCs a b c d e f T nt tc U ns uc).setIfInBounds o u = scrCs a' b' c' d' e' f' T nt tc U ns uc) : SP B s a' b' c' d' e' f' T nt tc U ns uc xs ys (W.setCell ⟨s, o, none⟩ u) := by
  obtain ⟨ms, h1, h2⟩ := h.own2
  have k := (RB.refl s W).setCell o u
  exact ⟨h.hs, by rw [World.size_setCell]; exact h.hB, (set_at h.row o u).trans (by rw [hv]), own_rb_lt h.own1 k h.hs, ⟨ms, own_rb_lt h1 k h.hs, h2.keep (KeepT.setCell h.row (by decide) o u)⟩, h.n1, h.n2⟩
theorem SP.cfg (h : SP B s a b c d e f T nt tc U ns uc xs ys W) (p q x y z u : Int) :
    SP B s p q x y z u T nt tc U ns uc xs ys ((((((W.setCell ⟨s, 0, none⟩ (.int .i64 p)).setCell ⟨s, 1, none⟩ (.int .i64 q)).setCell ⟨s, 2, none⟩ (.int .i64 x)).setCell ⟨s, 3, none⟩ (.int .i64 y)).setCell ⟨s, 4, none⟩ (.int .i64 z)).setCell ⟨s, 5, none⟩ (.int .i64 u)) ∧
    KB B s W ((((((W.setCell ⟨s, 0, none⟩ (.int .i64 p)).setCell ⟨s, 1, none⟩ (.int .i64 q)).setCell ⟨s, 2, none⟩ (.int .i64 x)).setCell ⟨s, 3, none⟩ (.int .i64 y)).setCell ⟨s, 4, none⟩ (.int .i64 z)).setCell ⟨s, 5, none⟩ (.int .i64 u)) :=
  ⟨(((((h.other 0 (.int .i64 p) rfl).other 1 (.int .i64 q) rfl).other 2 (.int .i64 x) rfl).other 3 (.int .i64 y) rfl).other 4 (.int .i64 z) rfl).other 5 (.int .i64 u) rfl,
   (((((KB.setCell B s W 0 _).trans (KB.setCell B s _ 1 _)).trans (KB.setCell B s _ 2 _)).trans (KB.setCell B s _ 3 _)).trans (KB.setCell B s _ 4 _)).trans (KB.setCell B s _ 5 _)⟩
theorem KB.grown {v : Value} {n size : Nat} {ty : TypeId} {vs : List Value} {o : Obj} (ho : W.ownsRow B ty size v n vs) (hB : B ≤ W.heap.size) (hg : (W.alloc o).grownBy W' v.ownBlock) : KB B s W W' :=
  ⟨hg.os, hg.tape, hg.output, by have := hg.size; simp at this; omega, fun k hk _ => grown_low ho hg hk (by omega)⟩
/-- A text is appended. -/
theorem SP.text {x : Bytes} {A' : Option Addr} {c' : Nat} {o : Obj} (h : SP B s a b c d e f T nt tc U ns uc xs ys W) (ho : W'.ownsRow B 9 1 (.slice A' (nt + 1) c') (nt + 1) (xs.map strV ++ [strV x])) (hg : (W.alloc o).grownBy W' (Value.slice T nt tc).ownBlock) :
    W'.heap[s]? = some (.cells (scrCs a b c d e f T nt tc U ns uc) 35) ∧ SP B s a b c d e f A' (nt + 1) c' U ns uc (xs ++ [x]) ys (W'.setCell ⟨s, 6, none⟩ (.slice A' (nt + 1) c')) ∧ KB B s W (W'.setCell ⟨s, 6, none⟩ (.slice A' (nt + 1) c')) := by
  obtain ⟨ms, h1, h2⟩ := h.own2
  have e1 := h.hs
  have e2 := h.hB
  have hkb : KB B s W W' := KB.grown h.own1 h.hB hg
  have hrow := (grown_low h.own1 hg h.hs (by omega)).trans h.row
  have k3 : ∀ ty, ty ≠ 9 → KeepT ty W W' := fun ty hty => KeepT.trans (KeepT.alloc W o) (KeepT.grown hg fun k hk => by
    rcases h.own1.2 with ⟨he, _⟩ | ⟨g', cap, cur, he, hle, hh, _⟩
    · rw [he] at hk; simp [Value.ownBlock] at hk
    · rw [he] at hk
      have : g' = k := by simpa [Value.ownBlock] using hk
      subst this
      exact ⟨cur, 9, (0, 0), (below_cells hh ((Below.refl _ W).alloc (Nat.le_refl _) o)), fun e => hty e.symm⟩)
  refine ⟨hrow, ⟨h.hs, by rw [World.size_setCell]; have := hkb.size; omega, (set_at hrow 6 _).trans rfl, ?_, ⟨ms, ?_, ?_⟩, by simp [h.n1], h.n2⟩, hkb.trans (KB.setCell B s W' 6 _)⟩
  · have := own_rb_lt ho ((RB.refl s W').setCell 6 (.slice A' (nt + 1) c')) h.hs
    simpa using this
  · exact own_rb_lt (own_keepT h1 (k3 69 (by decide))) ((RB.refl s W').setCell 6 (.slice A' (nt + 1) c')) h.hs
  · exact (h2.keep (k3 3 (by decide))).keep (KeepT.setCell hrow (by decide) 6 _)
/-- A step is appended. -/
theorem SP.step {x : StepD} {A A' : Option Addr} {c0 c' : Nat} {ms : List Value} {o : Obj} (h : SP B s a b c d e f T nt tc U ns uc xs ys W) (h1 : W.ownsRow B 69 2 (.slice U ns uc) ns ms) (h2 : StepsT W ys ms) (hA : SlT W W.heap.size 3 A (x.args.map intC)) (hc : x.args.length ≤ c0) (ho : W'.ownsRow B 69 2 (.slice A' (ns + 1) c') (ns + 1) (ms ++ [.int .i64 x.kind, .slice A x.args.length c0])) (hg : (W.alloc o).grownBy W' (Value.slice U ns uc).ownBlock) :
    W'.heap[s]? = some (.cells (scrCs a b c d e f T nt tc U ns uc) 35) ∧ SP B s a b c d e f T nt tc A' (ns + 1) c' xs (ys ++ [x]) (W'.setCell ⟨s, 7, none⟩ (.slice A' (ns + 1) c')) ∧ KB B s W (W'.setCell ⟨s, 7, none⟩ (.slice A' (ns + 1) c')) := by
  have e1 := h.hs
  have e2 := h.hB
  have hkb : KB B s W W' := KB.grown h1 h.hB hg
  have hrow := (grown_low h1 hg h.hs (by omega)).trans h.row
  have k3 : ∀ ty, ty ≠ 69 → KeepT ty W W' := fun ty hty => KeepT.trans (KeepT.alloc W o) (KeepT.grown hg fun k hk => by
    rcases h1.2 with ⟨he, _⟩ | ⟨g', cap, cur, he, hle, hh, _⟩
    · rw [he] at hk; simp [Value.ownBlock] at hk
    · rw [he] at hk
      have : g' = k := by simpa [Value.ownBlock] using hk
      subst this
      exact ⟨cur, 69, (0, 0), (below_cells hh ((Below.refl _ W).alloc (Nat.le_refl _) o)), fun e => hty e.symm⟩)
  have kk : KeepT 3 W (W'.setCell ⟨s, 7, none⟩ (.slice A' (ns + 1) c')) := (k3 3 (by decide)).trans (KeepT.setCell hrow (by decide) 7 _)
  refine ⟨hrow, ⟨h.hs, by rw [World.size_setCell]; have := hkb.size; omega, (set_at hrow 7 _).trans rfl, ?_, ⟨ms ++ [.int .i64 x.kind, .slice A x.args.length c0], ?_, ?_⟩, h.n1, by simp [h.n2]⟩, hkb.trans (KB.setCell B s W' 7 _)⟩
  · exact own_rb_lt (own_keepT h.own1 (k3 9 (by decide))) ((RB.refl s W').setCell 7 (.slice A' (ns + 1) c')) h.hs
  · exact own_rb_lt ho ((RB.refl s W').setCell 7 (.slice A' (ns + 1) c')) h.hs
  · exact StepsT.snoc (hA.keepT kk kk.size) hc (h2.keep kk)
/-- The script as a value. -/
theorem SP.script (h : SP B s a b c d e f T nt tc U ns uc xs ys W) : ScriptP W ⟨[a, b, c, d, e, f], xs, ys⟩ a b c d e f T tc U uc := by
  obtain ⟨ms, h1, h2⟩ := h.own2
  exact ⟨rfl, own_sl h.own1, ⟨ms, own_sl h1, h2.toS⟩, by have := (own_cap h.own1).1; rw [h.n1] at this; exact this, by have := (own_cap h1).1; rw [h.n2] at this; exact this⟩
end
/-- What line hands back. -/
def LineR (B s : Nat) (S : ScriptD) (n : Nat) (x : Bytes) (w : World) (e : Ending) (w' : World) : Prop := KB B s w w' ∧ match lineB S n x with
  | some S' => e = .returned (.bool true) ∧ SM B s S' w'
  | none => e = .returned (.bool false)
theorem prefix_iff (x : Bytes) : Lib.hasPrefix x textW = decide (x.take 5 = textW) := by
  unfold Lib.hasPrefix
  rw [Bool.eq_iff_iff, List.isPrefixOf_iff_prefix, decide_eq_true_iff, List.prefix_iff_eq_take]
  exact eq_comm
theorem line_text {S : ScriptD} {n : Nat} {x : Bytes} (hn : 0 < n) (hx : x.take 5 = textW) : lineB S n x = if quoteB (unqB (x.drop 5)) = x.drop 5 ∧ S.steps = [] then some ⟨S.cfg, S.texts ++ [unqB (x.drop 5)], S.steps⟩ else none := by
  unfold lineB
  rw [if_pos ⟨hn, hx⟩]
  have : unqB (x.drop 5) = rawL (x.drop 6) := by unfold unqB; rw [List.drop_drop]
  rw [this]
theorem line_other {S : ScriptD} {n : Nat} {x : Bytes} (h : ¬ (0 < n ∧ x.take 5 = textW)) : lineB S n x = match fieldsB x with
    | none => none
    | some (w, l) => if n = 0 then (if w = arrayW ∧ l.length = 6 then some ⟨l, S.texts, S.steps⟩ else none)
      else if fitsB (kindOf w) l.length = true then some ⟨S.cfg, S.texts, S.steps ++ [⟨kindOf w, l⟩]⟩ else none := by
  unfold lineB
  rw [if_neg h]
  rfl

set_option maxRecDepth 100000 in
set_option maxHeartbeats 4000000 in
theorem line_txt (S : ScriptD) (n : Nat) (x : Bytes) (B s : Nat) (w : World) (Hg : Hid (Gl w)) (HS : Hid (SM B s S w)) (hl : x.length ≤ 1000000) (ht : S.texts.length ≤ 1000000) (hst : S.steps.length ≤ 1000000) (hn : 0 < n) (hx : x.take 5 = textW) :
    Calls Tryz.prog 81 #[.pointer (some ⟨s, 0, none⟩), .int .i64 (n : Int), .string ⟨x.toArray⟩] w (LineR B s S n x w) := by
  have HL := Lib.hid (line_text (S := S) hn hx)
  obtain ⟨a, b, c, d, e, f, T, nt, tc, U, ns, uc, hcfg, hsp⟩ := HS.out
  have hcp := Tryz.strings_CutPrefix ⟨x.toArray⟩ ⟨#[116, 101, 120, 116, 32]⟩ w
  obtain ⟨y, hy⟩ : ∃ y, y = x.drop 5 := ⟨_, rfl⟩
  have hp1 : Lib.hasPrefix x [116, 101, 120, 116, 32] = true := (prefix_iff x).trans (decide_eq_true hx)
  have hp2 : Lib.trimPrefix x [116, 101, 120, 116, 32] = y := by unfold Lib.trimPrefix; rw [if_pos hp1, hy]; rfl
  have Hcp : Hid (Calls Tryz.prog 104 #[.string ⟨x.toArray⟩, .string ⟨#[116, 101, 120, 116, 32]⟩] w fun e w' => e = .returned (.tuple #[.string ⟨y.toArray⟩, .bool true]) ∧ w' = w) := by
    refine hcp.mono ?_
    rintro e w' ⟨rfl, hw⟩
    refine ⟨?_, hw⟩
    show Ending.returned (.tuple #[.string ⟨(Lib.trimPrefix x [116, 101, 120, 116, 32]).toArray⟩, .bool (Lib.hasPrefix x [116, 101, 120, 116, 32])]) = _
    rw [hp1, hp2]
  have hunq := unquote_any y w Hg (by rw [hy, List.length_drop]; omega)
  rw [← hy] at HL
  obtain ⟨z, hz⟩ : ∃ z, z = unqB y := ⟨_, rfl⟩
  rw [← hz] at HL hunq
  unfold strV at hunq
  have Hunq := Lib.hid hunq
  have Hcfg := Lib.hid hcfg
  have HSP := Lib.hid hsp
  have hnt : nt ≤ 1000000 := by have := hsp.n1; omega
  have hns : ns ≤ 1000000 := by have := hsp.n2; omega
  have hnI : (0 : Int) < (n : Int) := by omega
  have hb1 : nt + 1 ≤ maxLen := by unfold maxLen; omega
  have hb2 : (nt + 1) * 16 ≤ 140737488355328 := by omega
  have HSt : Hid (S.steps = [] ↔ ns = 0) := by
    have := hsp.n2
    exact ⟨fun h => by rw [this, h]; rfl, fun h => List.eq_nil_of_length_eq_zero (by omega)⟩
  clear hunq hz hcp hp1 hp2 hcfg hsp hx hl ht hst hy HS
  by_cases hq : quoteB z = y
  · rw [decide_eq_true hq] at Hunq
    by_cases h0 : ns = 0
    · have HR : Hid (lineB S n x = some ⟨S.cfg, S.texts ++ [z], S.steps⟩) := by
        show _ = _
        rw [HL.out, if_pos ⟨hq, HSt.out.2 h0⟩]
      subst h0
      clear hq
      go_enter Tryz.func81, Tryz.ntmps81
      go_wp2_with fail
      refine Hcp.out.mono ?_
      rintro en w1 ⟨rfl, hw⟩
      have hw1 := hw.symm
      subst hw1
      clear hw
      go_wp2_with fail
      refine Hunq.out.mono ?_
      rintro en w2 ⟨rfl, hb2'⟩
      have HSP2 := Lib.hid (HSP.out.call hb2')
      have HK2 := Lib.hid (KB.of_below (s := s) hb2' HSP.out.hB)
      clear hb2'
      obtain ⟨⟨c6, c7⟩, -⟩ := HSP2.out.cells
      go_wp2_with (at_builtin; refine wpList_append_sl rfl _ _ 24 rfl rfl rfl so24 (HSP2.out.own1.alloc _) (m := 1) (news := [.string ⟨z.toArray⟩]) rfl (Sl.new _ _ _) (fun u hu => by rw [List.mem_singleton.1 hu]; rfl) hb1 hb2 (Nat.le_trans HSP2.out.hB (by simp)) ?_; intro A8 c8 w8 ho8 hg8; obtain ⟨hrow8, hS8, hK8⟩ := HSP2.out.text (x := z) ho8 hg8; have HS8 := Lib.hid hS8; have HK8 := Lib.hid (HK2.out.trans hK8); obtain ⟨c66, f66⟩ := cell_at (u := .slice T nt tc) hrow8 6 rfl; obtain ⟨⟨-, d7⟩, -⟩ := HS8.out.cells; clear ho8 hg8 hS8 hK8 hrow8 c6 c7)
      go_ret
      refine ⟨HK8.out, ?_⟩
      rw [HR.out]
      exact ⟨rfl, a, b, c, d, e, f, _, _, _, _, _, _, Hcfg.out, HS8.out⟩
    · have HR : Hid (lineB S n x = none) := by
        show _ = _
        rw [HL.out, if_neg (fun h => h0 (HSt.out.1 h.2))]
      have q0 : ((ns : Int) == 0) = false := bne_int (by omega)
      clear hq h0
      go_enter Tryz.func81, Tryz.ntmps81
      go_wp2_with fail
      refine Hcp.out.mono ?_
      rintro en w1 ⟨rfl, hw⟩
      have hw1 := hw.symm
      subst hw1
      clear hw
      go_wp2_with fail
      refine Hunq.out.mono ?_
      rintro en w2 ⟨rfl, hb2'⟩
      have HSP2 := Lib.hid (HSP.out.call hb2')
      have HK2 := Lib.hid (KB.of_below (s := s) hb2' HSP.out.hB)
      clear hb2'
      obtain ⟨⟨c6, c7⟩, -⟩ := HSP2.out.cells
      go_wp2_with (at_builtin; refine wpList_append_sl rfl _ _ 24 rfl rfl rfl so24 (HSP2.out.own1.alloc _) (m := 1) (news := [.string ⟨z.toArray⟩]) rfl (Sl.new _ _ _) (fun u hu => by rw [List.mem_singleton.1 hu]; rfl) hb1 hb2 (Nat.le_trans HSP2.out.hB (by simp)) ?_; intro A8 c8 w8 ho8 hg8; obtain ⟨hrow8, hS8, hK8⟩ := HSP2.out.text (x := z) ho8 hg8; have HS8 := Lib.hid hS8; have HK8 := Lib.hid (HK2.out.trans hK8); obtain ⟨c66, f66⟩ := cell_at (u := .slice T nt tc) hrow8 6 rfl; obtain ⟨⟨-, d7⟩, -⟩ := HS8.out.cells; clear ho8 hg8 hS8 hK8 hrow8 c6 c7)
      go_ret
      refine ⟨HK8.out, ?_⟩
      rw [HR.out]
      rfl
  · rw [decide_eq_false hq] at Hunq
    have HR : Hid (lineB S n x = none) := by
      show _ = _
      rw [HL.out, if_neg (fun h => hq h.1)]
    clear hq
    go_enter Tryz.func81, Tryz.ntmps81
    go_wp2_with fail
    refine Hcp.out.mono ?_
    rintro en w1 ⟨rfl, hw⟩
    have hw1 := hw.symm
    subst hw1
    clear hw
    go_wp2_with fail
    refine Hunq.out.mono ?_
    rintro en w2 ⟨rfl, hb2'⟩
    have HSP2 := Lib.hid (HSP.out.call hb2')
    have HK2 := Lib.hid (KB.of_below (s := s) hb2' HSP.out.hB)
    clear hb2'
    obtain ⟨⟨c6, c7⟩, -⟩ := HSP2.out.cells
    go_wp2_with (at_builtin; refine wpList_append_sl rfl _ _ 24 rfl rfl rfl so24 (HSP2.out.own1.alloc _) (m := 1) (news := [.string ⟨z.toArray⟩]) rfl (Sl.new _ _ _) (fun u hu => by rw [List.mem_singleton.1 hu]; rfl) hb1 hb2 (Nat.le_trans HSP2.out.hB (by simp)) ?_; intro A8 c8 w8 ho8 hg8; obtain ⟨hrow8, hS8, hK8⟩ := HSP2.out.text (x := z) ho8 hg8; have HS8 := Lib.hid hS8; have HK8 := Lib.hid (HK2.out.trans hK8); obtain ⟨c66, f66⟩ := cell_at (u := .slice T nt tc) hrow8 6 rfl; obtain ⟨⟨-, d7⟩, -⟩ := HS8.out.cells; clear ho8 hg8 hS8 hK8 hrow8 c6 c7)
    go_ret
    refine ⟨HK8.out, ?_⟩
    rw [HR.out]
    rfl

theorem idx_le (wd : Bytes) : ∀ (l : List (Bytes × Nat)) (k : Nat), idxB wd l k ≤ k + l.length
  | [], k => by rw [idxB]; simp
  | x :: l, k => by
    rw [idxB]
    split
    · simp
    · have := idx_le wd l (k + 1); simp; omega
theorem kindOf_le (wd : Bytes) : kindOf wd ≤ 27 := by
  have := idx_le wd kindsB 0
  rw [kinds_len] at this
  unfold kindOf
  omega

set_option maxRecDepth 100000 in
set_option maxHeartbeats 4000000 in
theorem line_oth (S : ScriptD) (n : Nat) (x : Bytes) (B s : Nat) (w : World) (Hg : Hid (Gl w)) (HS : Hid (SM B s S w)) (hl : x.length ≤ 1000000) (hs9 : 9 ≤ s) (ht : S.texts.length ≤ 1000000) (hst : S.steps.length ≤ 1000000) (hn : n ≤ 1000000) (hx : ¬ (0 < n ∧ x.take 5 = textW)) :
    Calls Tryz.prog 81 #[.pointer (some ⟨s, 0, none⟩), .int .i64 (n : Int), .string ⟨x.toArray⟩] w (LineR B s S n x w) := by
  have HL := Lib.hid (line_other (S := S) hx)
  obtain ⟨a, b, c, d, e, f, T, nt, tc, U, ns, uc, hcfg, hsp⟩ := HS.out
  have hcp := Tryz.strings_CutPrefix ⟨x.toArray⟩ ⟨#[116, 101, 120, 116, 32]⟩ w
  obtain ⟨y, hy⟩ : ∃ y, y = Lib.trimPrefix x [116, 101, 120, 116, 32] := ⟨_, rfl⟩
  obtain ⟨p, hp⟩ : ∃ p, p = Lib.hasPrefix x [116, 101, 120, 116, 32] := ⟨_, rfl⟩
  have Hcp : Hid (Calls Tryz.prog 104 #[.string ⟨x.toArray⟩, .string ⟨#[116, 101, 120, 116, 32]⟩] w fun e w' => e = .returned (.tuple #[.string ⟨y.toArray⟩, .bool p]) ∧ w' = w) := by
    refine hcp.mono ?_
    rintro e w' ⟨rfl, hw⟩
    refine ⟨?_, hw⟩
    rw [hy, hp]
  have hpn : p = false ∨ n = 0 := by
    by_cases h : x.take 5 = textW
    · exact .inr (by have : ¬ 0 < n := fun h' => hx ⟨h', h⟩; omega)
    · exact .inl (by rw [hp]; exact (prefix_iff x).trans (decide_eq_false h))
  have Hf := Lib.hid (fields_any x w Hg hl)
  have Hcfg := Lib.hid hcfg
  have HSP := Lib.hid hsp
  have hnt : nt ≤ 1000000 := by have := hsp.n1; omega
  have hns : ns ≤ 1000000 := by have := hsp.n2; omega
  have hB : B ≤ w.heap.size := hsp.hB
  have hsB : s < B := hsp.hs
  clear hcp hcfg hsp hl ht hst hy hp HS
  unfold FieldsR at Hf
  cases hfx : fieldsB x with
  | none =>
    rw [hfx] at Hf HL
    dsimp only at Hf HL
    clear hfx
    by_cases h0 : n = 0
    · subst h0
      clear hpn hx hn
      cases p
      all_goals
        go_enter Tryz.func81, Tryz.ntmps81
        go_wp2_with fail
        refine Hcp.out.mono ?_
        rintro en w1 ⟨rfl, hw⟩
        have hw1 := hw.symm
        subst hw1
        clear hw
        go_wp2_with fail
        refine Hf.out.mono ?_
        rintro en w2 ⟨hb2, rfl⟩
        have HK2 := Lib.hid ((KB.of_below (B := B) (s := s) hb2 hB).trans (KB.of_below ((Below.refl w2.heap.size w2).alloc (Nat.le_refl _) (.cells #[.string ⟨#[]⟩] 9)) (Nat.le_trans hB hb2.size)))
        clear hb2
        go_wp2_with fail
        go_ret
        refine ⟨HK2.out, ?_⟩
        rw [HL.out]
        rfl
    · obtain rfl : p = false := by rcases hpn with h | h; exact h; exact absurd h h0
      have hnI : (0 : Int) < (n : Int) := by omega
      clear hpn hx hn h0
      go_enter Tryz.func81, Tryz.ntmps81
      go_wp2_with fail
      refine Hcp.out.mono ?_
      rintro en w1 ⟨rfl, hw⟩
      have hw1 := hw.symm
      subst hw1
      clear hw
      go_wp2_with fail
      refine Hf.out.mono ?_
      rintro en w2 ⟨hb2, rfl⟩
      have HK2 := Lib.hid ((KB.of_below (B := B) (s := s) hb2 hB).trans (KB.of_below ((Below.refl w2.heap.size w2).alloc (Nat.le_refl _) (.cells #[.string ⟨#[]⟩] 9)) (Nat.le_trans hB hb2.size)))
      clear hb2
      go_wp2_with fail
      go_ret
      refine ⟨HK2.out, ?_⟩
      rw [HL.out]
      rfl
  | some wl =>
    obtain ⟨wd, l⟩ := wl
    rw [hfx] at Hf HL
    dsimp only at Hf HL
    clear hfx
    obtain ⟨m, hm⟩ : ∃ m, m = l.length := ⟨_, rfl⟩
    rw [← hm] at Hf HL
    have Hm := Lib.hid hm
    clear hm
    by_cases h0 : n = 0
    · subst h0
      rw [if_pos rfl] at HL
      clear hpn hx hn
      by_cases hwd : wd = arrayW
      · by_cases h6 : m = 6
        · subst h6
          rw [if_pos ⟨hwd, rfl⟩] at HL
          obtain ⟨p0, p1, p2, p3, p4, p5, hl6⟩ : ∃ a b c d e f, l = [a, b, c, d, e, f] := by
            have := Hm.out
            match l, this with
            | [a, b, c, d, e, f], _ => exact ⟨a, b, c, d, e, f, rfl⟩
          subst hl6
          have hwd' : wd = [97, 114, 114, 97, 121] := hwd
          subst hwd'
          clear Hm hwd
          cases p
          all_goals
            go_enter Tryz.func81, Tryz.ntmps81
            go_wp2_with fail
            refine Hcp.out.mono ?_
            rintro en w1 ⟨rfl, hw⟩
            have hw1 := hw.symm
            subst hw1
            clear hw
            go_wp2_with fail
            refine Hf.out.mono ?_
            rintro en w2 ⟨hb2, A2, c2, rfl, ho2⟩
            obtain ⟨W3, hW3⟩ : ∃ W, W = w2.alloc (.cells #[.string ⟨#[97, 114, 114, 97, 121]⟩] 9) := ⟨_, rfl⟩
            obtain ⟨g3, hg3⟩ : ∃ g, g = w2.heap.size := ⟨_, rfl⟩
            have hb3 : Below w2.heap.size w2 W3 := by rw [hW3]; exact (Below.refl _ _).alloc (Nat.le_refl _) _
            have hr3 : W3.heap[g3]? = some (.cells #[.string ⟨#[97, 114, 114, 97, 121]⟩] 9) := by rw [hW3, hg3]; exact heap_new _ _
            have HSP3 := Lib.hid ((HSP.out.call hb2).call hb3)
            have HB3 := Lib.hid (hb2.trans (hb3.mono hb2.size))
            have HK3 := Lib.hid (KB.of_below (B := B) (s := s) HB3.out hB)
            have HO3 := Lib.hid (own_below ho2 hb3)
            have HR3 := Lib.hid hr3
            have z3 := (cell_at hr3 0 rfl).1
            clear hb2 ho2 hb3 hr3
            go_upto_region 7 with fail
            rw [← hW3, ← hg3]
            clear hW3 hg3
            go_wp2_with fail
            refine (config_any p0 p1 p2 p3 p4 p5 A2 c2 W3 (own_sl HO3.out)).mono ?_
            rintro en w4 ⟨rfl, hb4⟩
            have HSP4 := Lib.hid (HSP3.out.call hb4)
            have HK4 := Lib.hid (HK3.out.trans (KB.of_below hb4 HSP3.out.hB))
            clear hb4 z3
            have hrow := HSP4.out.row
            unfold scrCs at hrow
            obtain ⟨z0, y0⟩ := cell_at hrow 0 rfl
            obtain ⟨z1, y1⟩ := cell_at hrow 1 rfl
            obtain ⟨z2, y2⟩ := cell_at hrow 2 rfl
            obtain ⟨z3, y3⟩ := cell_at hrow 3 rfl
            obtain ⟨z4, y4⟩ := cell_at hrow 4 rfl
            obtain ⟨z5, y5⟩ := cell_at hrow 5 rfl
            clear hrow
            go_wp2_with fail
            go_ret
            obtain ⟨k1, k2⟩ := HSP4.out.cfg p0 p1 p2 p3 p4 p5
            refine ⟨HK4.out.trans k2, ?_⟩
            rw [HL.out]
            exact ⟨rfl, p0, p1, p2, p3, p4, p5, _, _, _, _, _, _, rfl, k1⟩
        · rw [if_neg (fun h => h6 h.2)] at HL
          have hwd' : wd = [97, 114, 114, 97, 121] := hwd
          subst hwd'
          have q6 : ((m : Int) == 6) = false := bne_int (by omega)
          have q7 : ((m : Int) != 6) = true := by rw [bne_iff_ne]; omega
          clear hwd h6
          cases p
          all_goals
            go_enter Tryz.func81, Tryz.ntmps81
            go_wp2_with fail
            refine Hcp.out.mono ?_
            rintro en w1 ⟨rfl, hw⟩
            have hw1 := hw.symm
            subst hw1
            clear hw
            go_wp2_with fail
            refine Hf.out.mono ?_
            rintro en w2 ⟨hb2, A2, c2, rfl, ho2⟩
            obtain ⟨W3, hW3⟩ : ∃ W, W = w2.alloc (.cells #[.string ⟨#[97, 114, 114, 97, 121]⟩] 9) := ⟨_, rfl⟩
            obtain ⟨g3, hg3⟩ : ∃ g, g = w2.heap.size := ⟨_, rfl⟩
            have hb3 : Below w2.heap.size w2 W3 := by rw [hW3]; exact (Below.refl _ _).alloc (Nat.le_refl _) _
            have hr3 : W3.heap[g3]? = some (.cells #[.string ⟨#[97, 114, 114, 97, 121]⟩] 9) := by rw [hW3, hg3]; exact heap_new _ _
            have HSP3 := Lib.hid ((HSP.out.call hb2).call hb3)
            have HB3 := Lib.hid (hb2.trans (hb3.mono hb2.size))
            have HK3 := Lib.hid (KB.of_below (B := B) (s := s) HB3.out hB)
            have HO3 := Lib.hid (own_below ho2 hb3)
            have HR3 := Lib.hid hr3
            have z3 := (cell_at hr3 0 rfl).1
            clear hb2 ho2 hb3 hr3
            go_upto_region 7 with fail
            rw [← hW3, ← hg3]
            clear hW3 hg3
            go_wp2_with fail
            go_ret
            refine ⟨HK3.out, ?_⟩
            rw [HL.out]
            rfl
      · rw [if_neg (fun h => hwd h.1)] at HL
        have q6 : (wd == [97, 114, 114, 97, 121]) = false := str_beq hwd
        have q7 : (wd != [97, 114, 114, 97, 121]) = true := by rw [bne_iff_ne]; exact hwd
        clear hwd
        cases p
        all_goals
          go_enter Tryz.func81, Tryz.ntmps81
          go_wp2_with fail
          refine Hcp.out.mono ?_
          rintro en w1 ⟨rfl, hw⟩
          have hw1 := hw.symm
          subst hw1
          clear hw
          go_wp2_with fail
          refine Hf.out.mono ?_
          rintro en w2 ⟨hb2, A2, c2, rfl, ho2⟩
          obtain ⟨W3, hW3⟩ : ∃ W, W = w2.alloc (.cells #[.string ⟨wd.toArray⟩] 9) := ⟨_, rfl⟩
          obtain ⟨g3, hg3⟩ : ∃ g, g = w2.heap.size := ⟨_, rfl⟩
          have hb3 : Below w2.heap.size w2 W3 := by rw [hW3]; exact (Below.refl _ _).alloc (Nat.le_refl _) _
          have hr3 : W3.heap[g3]? = some (.cells #[.string ⟨wd.toArray⟩] 9) := by rw [hW3, hg3]; exact heap_new _ _
          have HSP3 := Lib.hid ((HSP.out.call hb2).call hb3)
          have HB3 := Lib.hid (hb2.trans (hb3.mono hb2.size))
          have HK3 := Lib.hid (KB.of_below (B := B) (s := s) HB3.out hB)
          have HO3 := Lib.hid (own_below ho2 hb3)
          have HR3 := Lib.hid hr3
          have z3 := (cell_at hr3 0 rfl).1
          clear hb2 ho2 hb3 hr3
          go_upto_region 7 with fail
          rw [← hW3, ← hg3]
          clear hW3 hg3
          go_wp2_with fail
          go_ret
          refine ⟨HK3.out, ?_⟩
          rw [HL.out]
          rfl
    · obtain rfl : p = false := by rcases hpn with h | h; exact h; exact absurd h h0
      rw [if_neg h0] at HL
      have hnI : (0 : Int) < (n : Int) := by omega
      have qn : ((n : Int) == 0) = false := bne_int (by omega)
      obtain ⟨kd, hkd⟩ : ∃ k : Int, k = (kindOf wd : Int) := ⟨_, rfl⟩
      obtain ⟨r, hr⟩ : ∃ k : Int, k = (kindOf wd : Int) - 1 := ⟨_, rfl⟩
      have hkl := kindOf_le wd
      have hr0 : -1 ≤ r := by omega
      have hr1 : r ≤ 26 := by omega
      have Hkd : Hid (r + 1 = kd) := by show _ = _; omega
      have Hr := Lib.hid hr
      rw [← hkd] at HL
      have hb1 : ns + 1 ≤ maxLen := by unfold maxLen; omega
      have hb2 : (ns + 1) * 32 ≤ 140737488355328 := by omega
      clear hpn hx hn h0 hkd hr hkl
      by_cases hfit : fitsB kd m = true
      · rw [if_pos hfit] at HL
        have HF := Lib.hid hfit
        clear hfit
        go_enter Tryz.func81, Tryz.ntmps81
        go_wp2_with fail
        refine Hcp.out.mono ?_
        rintro en w1 ⟨rfl, hw⟩
        have hw1 := hw.symm
        subst hw1
        clear hw
        go_wp2_with fail
        refine Hf.out.mono ?_
        rintro en w2 ⟨hb2, A2, c2, rfl, ho2⟩
        obtain ⟨W3, hW3⟩ : ∃ W, W = w2.alloc (.cells #[.string ⟨wd.toArray⟩] 9) := ⟨_, rfl⟩
        obtain ⟨g3, hg3⟩ : ∃ g, g = w2.heap.size := ⟨_, rfl⟩
        have hb3 : Below w2.heap.size w2 W3 := by rw [hW3]; exact (Below.refl _ _).alloc (Nat.le_refl _) _
        have hr3 : W3.heap[g3]? = some (.cells #[.string ⟨wd.toArray⟩] 9) := by rw [hW3, hg3]; exact heap_new _ _
        have HSP3 := Lib.hid ((HSP.out.call hb2).call hb3)
        have HB3 := Lib.hid (hb2.trans (hb3.mono hb2.size))
        have HK3 := Lib.hid (KB.of_below (B := B) (s := s) HB3.out hB)
        have HO3 := Lib.hid (own_below ho2 hb3)
        have HR3 := Lib.hid hr3
        have z3 := (cell_at hr3 0 rfl).1
        clear hb2 ho2 hb3 hr3
        go_upto_region 7 with fail
        rw [← hW3, ← hg3]
        clear hW3 hg3
        have Hfk : Hid (Calls Tryz.prog 107 #[.slice (some ⟨0, 0, none⟩) 27 27, .func (.func 108) #[] #[.pointer (some ⟨g3, 0, none⟩)]] W3 fun e w' => e = .returned (.int .i64 r) ∧ Below W3.heap.size W3 w') := by
          have := findKind_any wd g3 W3 (Hg.out.below HB3.out) z3 (Array.getElem?_eq_some_iff.1 HR3.out).1
          rw [← Hr.out] at this
          exact this
        go_wp2_with fail
        refine Hfk.out.mono ?_
        rintro en w4 ⟨rfl, hb4⟩
        have HSP4 := Lib.hid (HSP3.out.call hb4)
        have HK4 := Lib.hid (HK3.out.trans (KB.of_below hb4 HSP3.out.hB))
        have HO4 := Lib.hid (own_below HO3.out hb4)
        clear hb4 z3 Hfk
        go_upto_region 15 with fail
        rw [Hkd.out]
        obtain ⟨⟨c6, c7⟩, -⟩ := HSP4.out.cells
        obtain ⟨ms, hm1, hm2⟩ := HSP4.out.own2
        have HA : Hid (SlT w4 w4.heap.size 3 A2 (l.map intC)) := own_slT HO4.out
        have HC : Hid (m ≤ c2) := (own_cap HO4.out).1
        have HM1 := Lib.hid hm1
        have HM2 := Lib.hid hm2
        clear hm1 hm2
        go_upto_region 16 with (at_builtin; refine wpList_append_sl rfl _ _ 33 rfl rfl rfl so33 (HM1.out.alloc _) (m := 1) (news := [.int .i64 kd, .slice A2 m c2]) rfl (Sl.new _ _ _) (fun u hu => by simp at hu; rcases hu with rfl | rfl <;> rfl) hb1 hb2 (Nat.le_trans HSP4.out.hB (by simp)) ?_; intro A8 c8 w8 ho8 hg8; have hst8 := HSP4.out.step (x := ⟨kd, l⟩) (A := A2) (c0 := c2) HM1.out HM2.out HA.out (by rw [← Hm.out]; exact HC.out) (by rw [← Hm.out]; exact ho8) hg8; obtain ⟨hrow8, hS8, hK8⟩ := hst8; have HS8 := Lib.hid hS8; have HK8 := Lib.hid (HK4.out.trans hK8); obtain ⟨c77, f77⟩ := cell_at (u := .slice U ns uc) hrow8 7 rfl; clear ho8 hg8 hS8 hK8 hrow8 c6 c7)
        have HGl8 := Lib.hid (HK8.out.gl Hg.out hs9 hsB)
        have Hfit := Lib.hid (fits_any kd m _ HGl8)
        clear c77 f77
        go_wp2_with fail
        refine Hfit.out.mono ?_
        rintro en w9 ⟨rfl, hw⟩
        have hw9 := hw.symm
        subst hw9
        clear hw Hfit
        go_wp2_with fail
        go_ret
        refine ⟨HK8.out, ?_⟩
        rw [HL.out]
        exact ⟨by show Ending.returned (.bool (fitsB kd m)) = _; rw [HF.out], a, b, c, d, e, f, _, _, _, _, _, _, Hcfg.out, HS8.out⟩
      · rw [if_neg hfit] at HL
        have HF : Hid (fitsB kd m = false) := by show _ = _; simpa using hfit
        clear hfit
        go_enter Tryz.func81, Tryz.ntmps81
        go_wp2_with fail
        refine Hcp.out.mono ?_
        rintro en w1 ⟨rfl, hw⟩
        have hw1 := hw.symm
        subst hw1
        clear hw
        go_wp2_with fail
        refine Hf.out.mono ?_
        rintro en w2 ⟨hb2, A2, c2, rfl, ho2⟩
        obtain ⟨W3, hW3⟩ : ∃ W, W = w2.alloc (.cells #[.string ⟨wd.toArray⟩] 9) := ⟨_, rfl⟩
        obtain ⟨g3, hg3⟩ : ∃ g, g = w2.heap.size := ⟨_, rfl⟩
        have hb3 : Below w2.heap.size w2 W3 := by rw [hW3]; exact (Below.refl _ _).alloc (Nat.le_refl _) _
        have hr3 : W3.heap[g3]? = some (.cells #[.string ⟨wd.toArray⟩] 9) := by rw [hW3, hg3]; exact heap_new _ _
        have HSP3 := Lib.hid ((HSP.out.call hb2).call hb3)
        have HB3 := Lib.hid (hb2.trans (hb3.mono hb2.size))
        have HK3 := Lib.hid (KB.of_below (B := B) (s := s) HB3.out hB)
        have HO3 := Lib.hid (own_below ho2 hb3)
        have HR3 := Lib.hid hr3
        have z3 := (cell_at hr3 0 rfl).1
        clear hb2 ho2 hb3 hr3
        go_upto_region 7 with fail
        rw [← hW3, ← hg3]
        clear hW3 hg3
        have Hfk : Hid (Calls Tryz.prog 107 #[.slice (some ⟨0, 0, none⟩) 27 27, .func (.func 108) #[] #[.pointer (some ⟨g3, 0, none⟩)]] W3 fun e w' => e = .returned (.int .i64 r) ∧ Below W3.heap.size W3 w') := by
          have := findKind_any wd g3 W3 (Hg.out.below HB3.out) z3 (Array.getElem?_eq_some_iff.1 HR3.out).1
          rw [← Hr.out] at this
          exact this
        go_wp2_with fail
        refine Hfk.out.mono ?_
        rintro en w4 ⟨rfl, hb4⟩
        have HSP4 := Lib.hid (HSP3.out.call hb4)
        have HK4 := Lib.hid (HK3.out.trans (KB.of_below hb4 HSP3.out.hB))
        have HO4 := Lib.hid (own_below HO3.out hb4)
        clear hb4 z3 Hfk
        go_upto_region 15 with fail
        rw [Hkd.out]
        obtain ⟨⟨c6, c7⟩, -⟩ := HSP4.out.cells
        obtain ⟨ms, hm1, hm2⟩ := HSP4.out.own2
        have HA : Hid (SlT w4 w4.heap.size 3 A2 (l.map intC)) := own_slT HO4.out
        have HC : Hid (m ≤ c2) := (own_cap HO4.out).1
        have HM1 := Lib.hid hm1
        have HM2 := Lib.hid hm2
        clear hm1 hm2
        go_upto_region 16 with (at_builtin; refine wpList_append_sl rfl _ _ 33 rfl rfl rfl so33 (HM1.out.alloc _) (m := 1) (news := [.int .i64 kd, .slice A2 m c2]) rfl (Sl.new _ _ _) (fun u hu => by simp at hu; rcases hu with rfl | rfl <;> rfl) hb1 hb2 (Nat.le_trans HSP4.out.hB (by simp)) ?_; intro A8 c8 w8 ho8 hg8; have hst8 := HSP4.out.step (x := ⟨kd, l⟩) (A := A2) (c0 := c2) HM1.out HM2.out HA.out (by rw [← Hm.out]; exact HC.out) (by rw [← Hm.out]; exact ho8) hg8; obtain ⟨hrow8, hS8, hK8⟩ := hst8; have HS8 := Lib.hid hS8; have HK8 := Lib.hid (HK4.out.trans hK8); obtain ⟨c77, f77⟩ := cell_at (u := .slice U ns uc) hrow8 7 rfl; clear ho8 hg8 hS8 hK8 hrow8 c6 c7)
        have HGl8 := Lib.hid (HK8.out.gl Hg.out hs9 hsB)
        have Hfit := Lib.hid (fits_any kd m _ HGl8)
        clear c77 f77
        go_wp2_with fail
        refine Hfit.out.mono ?_
        rintro en w9 ⟨rfl, hw⟩
        have hw9 := hw.symm
        subst hw9
        clear hw Hfit
        go_wp2_with fail
        go_ret
        refine ⟨HK8.out, ?_⟩
        rw [HL.out]
        show Ending.returned (.bool (fitsB kd m)) = _
        rw [HF.out]
theorem line_any (S : ScriptD) (n : Nat) (x : Bytes) (B s : Nat) (w : World) (Hg : Hid (Gl w)) (HS : Hid (SM B s S w)) (hl : x.length ≤ 1000000) (hs9 : 9 ≤ s) (ht : S.texts.length ≤ 1000000) (hst : S.steps.length ≤ 1000000) (hn : n ≤ 1000000) :
    Calls Tryz.prog 81 #[.pointer (some ⟨s, 0, none⟩), .int .i64 (n : Int), .string ⟨x.toArray⟩] w (LineR B s S n x w) := by
  by_cases h : 0 < n ∧ x.take 5 = textW
  · exact line_txt S n x B s w Hg HS hl ht hst h.1 h.2
  · exact line_oth S n x B s w Hg HS hl hs9 ht hst hn h
end Go.Proofs.YtdfhbnfhkckkbaaGreatDoor
