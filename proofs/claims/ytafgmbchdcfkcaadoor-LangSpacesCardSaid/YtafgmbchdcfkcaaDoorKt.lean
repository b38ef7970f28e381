/-
  The names that a parse has seen, its sources and its codes in memory. No program is run here but by its contracts.
  While a parse builds its codes: the state between two of them. No program is run here but by its contracts.
-/
import Derived.Test.YtafgmbchdcfkcaaDoorW10
import Derived.Test.YtafgmbchdcfkcaaDoorBq
import Derived.Maps.OwnSet
namespace Go.Proofs.YtafgmbchdcfkcaaDoor
open Go Go.RowKit Go.Walks Go.Maps Go.WideMaps

theorem lawS : Keyed Tryd.prog 9 := string_keyed Tryd.underlying9
theorem zeroB (w : World) : (zeroValue 4).run Tryd.prog w = .ok (.bool false) w := by kernel_rfl
theorem key_str {s : Bytes} (hs : s.length ≤ maxLen) : keyOf Tryd.prog 9 (strV s) = some (.string s) := keyOf_string_mk Tryd.underlying9 (s := ⟨s.toArray⟩) (by show s.length ≤ _; exact hs)
/-- Block b is a map that holds true at the names ns alone. -/
def NamesIs (w : World) (b n : Nat) (ns : List Bytes) : Prop :=
  ∃ D : DataW Unit, w.ownsMap Tryd.prog 9 (plainElem Tryd.prog 4) b n D ∧ ∀ s : Bytes, D.atKey (.string s) (.lit (.bool false)) = .lit (.bool (decide (s ∈ ns)))
section
variable {w w' : World} {b n : Nat} {ns : List Bytes}
theorem NamesIs.made (w : World) : NamesIs (w.alloc (.map #[] 0)) w.heap.size 0 [] := ⟨.map [], World.ownsMap_made _ _ _ _, fun s => by simp [DataW.atKey]⟩
theorem NamesIs.block (h : NamesIs w b n ns) (hb : w'.heap[b]? = w.heap[b]?) : NamesIs w' b n ns := by
  obtain ⟨D, ⟨es, clock, h1, h2⟩, hD⟩ := h
  exact ⟨D, ⟨es, clock, hb.trans h1, h2⟩, hD⟩
theorem NamesIs.row (h : NamesIs w b n ns) : ∃ es clock, w.heap[b]? = some (.map es clock) := by
  obtain ⟨D, ⟨es, clock, h1, h2⟩, hD⟩ := h
  exact ⟨es, clock, h1⟩
theorem NamesIs.look (h : NamesIs w b n ns) {s : Bytes} (hs : s.length ≤ maxLen) : (Instr.lookup 57 (.map (some b)) (strV s) false).run Tryd.prog w = .ok (.bool (decide (s ∈ ns))) w := by
  obtain ⟨D, h, hD⟩ := h
  obtain ⟨v, ps, hrun, hv⟩ := h.lookup lawS Tryd.underlying57 (zeroB w) (plainElem_bool Tryd.underlying4 false) (key_str hs)
  rw [hD s] at hv
  rw [hrun]
  cases v with
  | bool x =>
    simp [plainElem, Tryd.underlying4] at hv
    rw [hv.1]
  | _ => simp [plainElem, Tryd.underlying4] at hv
theorem NamesIs.put (h : NamesIs w b n ns) (hn : n < maxLen) {s : Bytes} (hs : s.length ≤ maxLen) : ∃ w', (Instr.mapUpdate 57 (.map (some b)) (strV s) (.bool true)).run Tryd.prog w = .ok () w' ∧ NamesIs w' b (n + 1) (ns ++ [s]) ∧ w.grownBy w' (some b) := by
  obtain ⟨D, h, hD⟩ := h
  obtain ⟨w', hrun, h1, h2⟩ := h.update lawS Tryd.underlying57 hn (key_str hs) (plainElem_bool Tryd.underlying4 true)
  refine ⟨w', hrun, ⟨_, h1, fun u => ?_⟩, h2⟩
  by_cases hu : u = s
  · subst hu
    rw [atKey_put_same h.isMap (lawS.key (key_str hs))]
    simp
  · rw [atKey_put_other (fun e => hu (by injection e)), hD u]
    simp [hu]
end
theorem wpList_names {ops : Array Oper} {rest : List Oper} {o : Oper} {a : Act} {w : World} {Q : Exit → Act → World → Prop} (hg : o.guard = none) (m x v : Operand) (hop : o.op = Op.mapUpdate 57 m x v) (b n : Nat) (ns : List Bytes) (s : Bytes)
    (hm : a.eval m = .map (some b)) (hx : a.eval x = strV s) (hv : a.eval v = .bool true) (h : NamesIs w b n ns) (hn : n < maxLen) (hs : s.length ≤ maxLen)
    (hK : ∀ w', NamesIs w' b (n + 1) (ns ++ [s]) → w.grownBy w' (some b) → wpList Tryd.prog ops Q rest (a.put o.dst undef) w') : wpList Tryd.prog ops Q (o :: rest) a w := by
  refine wpList_plain hg fun K' hK' => ?_
  obtain ⟨w', hrun, h1, h2⟩ := h.put hn hs
  unfold Oper.wp
  simp [execOp, hop, hm, hx, hv, hrun, Result.andThen]
  exact hK' _ _ (hK w' h1 h2)

/-- The cells of sources, one behind the other. -/
def SrcsT (w : World) : List Src → List Value → Prop
  | [], cs => cs = []
  | S :: Ss, cs => ∃ c1 c2, cs = c1 ++ c2 ∧ SrcCs w S c1 ∧ SrcsT w Ss c2
theorem SrcCs.keep {w w' : World} {S : Src} {cs : List Value} (h : SrcCs w S cs) (k : KeepT 117 w w') (k2 : KeepT 92 w w') : SrcCs w' S cs := by
  obtain ⟨A, c, rc, e, h1, h2, h3⟩ := h
  exact ⟨A, c, rc, e, h1.keepT k k.size, h2.keep k2, h3⟩
theorem SrcCs.len {w : World} {S : Src} {cs : List Value} (h : SrcCs w S cs) : cs.length = 13 := by
  obtain ⟨A, c, rc, rfl, _⟩ := h
  cases S.dom <;> simp [tokCells, domCs]
theorem SrcCs.one {w : World} {S : Src} {cs : List Value} (h : SrcCs w S cs) : ∀ u ∈ cs, u.oneCell' = true := by
  obtain ⟨A, c, rc, rfl, _⟩ := h
  intro v hv
  simp only [List.mem_append, List.mem_singleton] at hv
  rcases hv with (((hv | hv) | hv) | hv) | hv
  · exact tok_one _ v hv
  · exact tok_one _ v hv
  · exact tok_one _ v hv
  · rw [hv]; rfl
  · exact dom_one _ v hv
theorem SrcsT.keep {w w' : World} (k : KeepT 117 w w') (k2 : KeepT 92 w w') : ∀ {Ss : List Src} {cs : List Value}, SrcsT w Ss cs → SrcsT w' Ss cs
  | [], _, h => h
  | _ :: _, _, ⟨c1, c2, e, h1, h2⟩ => ⟨c1, c2, e, h1.keep k k2, h2.keep k k2⟩
theorem SrcsT.snoc {w : World} {S : Src} {c : List Value} (hc : SrcCs w S c) : ∀ {Ss : List Src} {cs : List Value}, SrcsT w Ss cs → SrcsT w (Ss ++ [S]) (cs ++ c)
  | [], _, h => by
    have : _ = [] := h
    subst this
    exact ⟨c, [], by simp, hc, rfl⟩
  | _ :: _, _, ⟨c1, c2, e, h1, h2⟩ => ⟨c1, c2 ++ c, by rw [e, List.append_assoc], h1, h2.snoc hc⟩
theorem SrcsT.at_ {w : World} {S : Src} : ∀ {Ss : List Src} {cs : List Value} {k : Nat}, SrcsT w Ss cs → Ss[k]? = some S → ∃ c1, SrcCs w S c1 ∧ ∀ j u, c1[j]? = some u → cs[k * 13 + j]? = some u
  | [], _, _, _, hk => by simp at hk
  | _ :: _, _, 0, ⟨c1, c2, e, h1, _⟩, hk => by
    simp at hk
    subst hk
    refine ⟨c1, h1, fun j u hu => ?_⟩
    rw [e, List.getElem?_append_left (by simpa using (List.getElem?_eq_some_iff.1 hu).1)]
    simpa using hu
  | _ :: _, _, k + 1, ⟨c1, c2, e, h1, h2⟩, hk => by
    obtain ⟨c, hc, hat⟩ := h2.at_ (k := k) (by simpa using hk)
    refine ⟨c, hc, fun j u hu => ?_⟩
    rw [e, List.getElem?_append_right (by rw [h1.len]; omega), h1.len]
    have := hat j u hu
    rwa [show (k + 1) * 13 + j - 13 = k * 13 + j by omega]

/-- The cells of codes, one behind the other. -/
def CodesT (w : World) : List Code → List Value → Prop
  | [], cs => cs = []
  | C :: Cs, cs => ∃ c1 c2, cs = c1 ++ c2 ∧ CodeT w C c1 ∧ CodesT w Cs c2
theorem CodeT.len {w : World} {C : Code} {cs : List Value} (h : CodeT w C cs) : cs.length = 5 := by obtain ⟨_, _, _, rfl, _⟩ := h; rfl
theorem CodeT.one {w : World} {C : Code} {cs : List Value} (h : CodeT w C cs) : ∀ u ∈ cs, u.oneCell' = true := by
  obtain ⟨_, _, _, rfl, _⟩ := h
  intro v hv
  simp at hv
  rcases hv with rfl | rfl | rfl | rfl | rfl <;> rfl
theorem CodesT.keep {w w' : World} (k : KeepT 61 w w') (k3 : KeepT 3 w w') : ∀ {Cs : List Code} {cs : List Value}, CodesT w Cs cs → CodesT w' Cs cs
  | [], _, h => h
  | _ :: _, _, ⟨c1, c2, e, h1, h2⟩ => ⟨c1, c2, e, h1.keep k k3, h2.keep k k3⟩
theorem CodesT.snoc {w : World} {C : Code} {c : List Value} (hc : CodeT w C c) : ∀ {Cs : List Code} {cs : List Value}, CodesT w Cs cs → CodesT w (Cs ++ [C]) (cs ++ c)
  | [], _, h => by
    have : _ = [] := h
    subst this
    exact ⟨c, [], by simp, hc, rfl⟩
  | _ :: _, _, ⟨c1, c2, e, h1, h2⟩ => ⟨c1, c2 ++ c, by rw [e, List.append_assoc], h1, h2.snoc hc⟩
theorem so90 : SliceOf Tryd.prog 90 95 13 152 := SliceOf.mk (z := .agg z13) Tryd.underlying90 (by omega) (by kernel_rfl) rfl
theorem so34 : SliceOf Tryd.prog 34 24 5 64 := SliceOf.mk (z := .agg z5) Tryd.underlying34 (by omega) (by kernel_rfl) rfl

theorem toksF_len : ∀ (f : Nat) (s : Bytes) (a : Nat), (toksF f s a).length ≤ s.length + 1
  | 0, _, _ => by simp [toksF]
  | f + 1, s, a => by
    simp only [toksF]
    split
    · simp
    · rename_i h3
      have hp := lexLen_pos (s := s.drop (skipS false s)) (by simp only [lexT] at h3; omega)
      have hl := lexT_len (s.drop (skipS false s)) (a + skipS false s)
      have hle := lexLen_le (s.drop (skipS false s))
      rw [List.length_drop] at hle
      have ih := toksF_len f (s.drop (skipS false s + (lexT (s.drop (skipS false s)) (a + skipS false s)).text.length)) (a + skipS false s + (lexT (s.drop (skipS false s)) (a + skipS false s)).text.length)
      rw [List.length_drop] at ih
      simp only [List.length_cons]
      omega
theorem toks_len2 (t : ByteArray) (ht : t.size ≤ 2000) : (toks t.data.toList 0).length ≤ 2001 := by
  unfold toks
  have := toksF_len (t.data.toList.length + 1) (t.data.toList.drop 0) 0
  rw [List.length_drop, size_l] at this
  rw [size_l] at *
  omega
/-- What stands in the tokens of a text is no longer than the text. -/
theorem toksF_le : ∀ (f : Nat) (s : Bytes) (a : Nat) (T : Tok), T ∈ toksF f s a → T.text.length ≤ s.length
  | 0, _, _, T, h => by cases h
  | f + 1, s, a, T, h => by
    simp only [toksF] at h
    have key : (lexT (s.drop (skipS false s)) (a + skipS false s)).text.length ≤ s.length := by
      rw [lexT_len]
      have := lexLen_le (s.drop (skipS false s))
      rw [List.length_drop] at this
      omega
    split at h
    · have : T = lexT (s.drop (skipS false s)) (a + skipS false s) := by simpa using h
      subst this
      exact key
    · rcases List.mem_cons.1 h with rfl | h
      · exact key
      · have := toksF_le f _ _ T h
        rw [List.length_drop] at this
        omega
theorem PAt.short {w : World} {r : Nat} {t : ByteArray} {ts : List Tok} (h : PAt w r t ts) : ∀ T ∈ ts, T.text.length ≤ t.size := by
  obtain ⟨n, _, _, rfl⟩ := h
  intro T hT
  have := toksF_le _ _ _ T hT
  rw [List.length_drop, size_l] at this
  omega
/-- The end stands at the text's end, and nothing else does. -/
theorem PH.kind {w : World} {r : Nat} {t : ByteArray} {ts : List Tok} (h : PH w r t ts) : (headK ts = 4 → headAt ts = t.size) ∧ (headK ts ≠ 4 → headAt ts < t.size) := by
  obtain ⟨h1, h2, h3⟩ := h
  obtain ⟨T, rest, rfl, hd, hx, _⟩ := PAt.head h1 h3
  have hk := hd.kind
  have hle : T.at_ ≤ t.size := h1
  have e : headAt (T :: rest) = T.at_ := rfl
  have e2 : headK (T :: rest) = T.kind := rfl
  rw [e, e2]
  have hlen : (t.data.toList.drop T.at_).length = t.size - T.at_ := by rw [List.length_drop, size_l]
  cases hdr : t.data.toList.drop T.at_ with
  | nil =>
    rw [hdr] at hk hlen
    simp only [List.length_nil] at hlen
    have : kindL [] = 4 := rfl
    omega
  | cons c s =>
    rw [hdr] at hk hlen
    simp only [List.length_cons] at hlen
    have h4 : kindL (c :: s) ≠ 4 := by
      rw [kindL_cons]
      split
      · omega
      · split
        · split <;> omega
        · split <;> omega
    omega
end Go.Proofs.YtafgmbchdcfkcaaDoor
namespace Go.Proofs.YtafgmbchdcfkcaaDoor
open Go Go.RowKit Go.Walks

structure P2 (W1 : World) (go M : Nat) (k : Nat) (ns : List Bytes) (A : Option Addr) (n c : Nat) (cc : List Value) (Cs : List Code) (W : World) : Prop where
  rb : RB go W1 W
  nm : NamesIs W M k ns
  o : W.ownsRow W1.heap.size 24 5 (.slice A n c) n cc
  vo : W.heap[go]? = some (.cells #[.slice A n c] 34)
  cs : CodesT W Cs cc
  lo : go < W1.heap.size
  lm : W1.heap.size ≤ M
section
variable {W1 W W' : World} {go M k n c : Nat} {ns : List Bytes} {A : Option Addr} {cc : List Value} {Cs : List Code}
theorem own_below {w w' : World} {B e size n : Nat} {v : Value} {xs : List Value} (h : w.ownsRow B e size v n xs) (hb : Below w.heap.size w w') : w'.ownsRow B e size v n xs := by
  refine ⟨h.1, ?_⟩
  rcases h.2 with h' | ⟨g, cap, cur, e, hg, hh, h'⟩
  · exact .inl h'
  · exact .inr ⟨g, cap, cur, e, hg, (hb.block _ (Array.getElem?_eq_some_iff.1 hh).1).trans hh, h'⟩
theorem P2.start {W1 : World} {go : Nat} (h : W1.heap[go]? = some (.cells #[.slice none 0 0] 34)) : P2 W1 go W1.heap.size 0 [] none 0 0 [] [] (W1.alloc (.map #[] 0)) :=
  ⟨(RB.refl _ _).alloc _, NamesIs.made _, own_nil _ _ _ _, (Below.heap_alloc _ _ _ (Array.getElem?_eq_some_iff.1 h).1).trans h, rfl, (Array.getElem?_eq_some_iff.1 h).1, Nat.le_refl _⟩
theorem P2.lt (h : P2 W1 go M k ns A n c cc Cs W) : M < W.heap.size ∧ go < W.heap.size := by
  obtain ⟨es, clock, hr⟩ := h.nm.row
  exact ⟨(Array.getElem?_eq_some_iff.1 hr).1, (Array.getElem?_eq_some_iff.1 h.vo).1⟩
theorem P2.below (h : P2 W1 go M k ns A n c cc Cs W) (hb : Below W.heap.size W W') : P2 W1 go M k ns A n c cc Cs W' :=
  ⟨h.rb.trans (RB.of_below hb), h.nm.block (hb.block _ h.lt.1), own_below h.o hb, (hb.block _ h.lt.2).trans h.vo, h.cs.keep (KeepT.below hb) (KeepT.below hb), h.lo, h.lm⟩
theorem P2.alloc (h : P2 W1 go M k ns A n c cc Cs W) (o : Obj) : P2 W1 go M k ns A n c cc Cs (W.alloc o) := h.below ((Below.refl _ _).alloc (Nat.le_refl _) _)
theorem P2.drew (h : P2 W1 go M k ns A n c cc Cs W) : P2 W1 go M k ns A n c cc Cs W.drew := h.below (Below.refl _ _).drew
theorem P2.cell (h : P2 W1 go M k ns A n c cc Cs W) : W.cell? ⟨go, 0, none⟩ = some (.slice A n c) ∧ W.frozen? ⟨go, 0, none⟩ = false := cell_at h.vo 0 rfl
theorem map_other {w : World} {b g : Nat} {es : Array MapEntry} {clock : Nat} {cs : Array Value} {t : TypeId} {fz : Nat × Nat} (h : w.heap[b]? = some (.map es clock)) (h2 : w.heap[g]? = some (.cells cs t fz)) : g ≠ b := by
  intro e; subst e
  rw [h] at h2
  injection h2 with h2
  cases h2
theorem keep_map {w w' : World} {b : Nat} {es : Array MapEntry} {clock : Nat} {ty : TypeId} (h : w.heap[b]? = some (.map es clock)) (hg : w.grownBy w' (some b)) : KeepT ty w w' :=
  ⟨hg.size, fun i _ _ hh => (hg.block i (Array.getElem?_eq_some_iff.1 hh).1 (fun e => map_other h hh (by injection e))).trans hh⟩
theorem P2.put (h : P2 W1 go M k ns A n c cc Cs W) {k' : Nat} {ns' : List Bytes} (hn : NamesIs W' M k' ns') (hg : W.grownBy W' (some M)) : P2 W1 go M k' ns' A n c cc Cs W' := by
  obtain ⟨es, clock, hr⟩ := h.nm.row
  refine ⟨h.rb.grown hg (fun q hq => by injection hq with hq; rw [← hq]; exact h.lm), hn, ?_, (keep_map hr hg).keep _ _ _ h.vo, h.cs.keep (keep_map hr hg) (keep_map hr hg), h.lo, h.lm⟩
  refine ⟨h.o.1, ?_⟩
  rcases h.o.2 with h' | ⟨g, cap, cur, e, hg', hh, h'⟩
  · exact .inl h'
  · exact .inr ⟨g, cap, cur, e, hg', (keep_map hr hg).keep _ _ _ hh, h'⟩
theorem P2.cell2 {o : Obj} (h : P2 W1 go M k ns A n c cc Cs W) (hg : (W.alloc o).grownBy W' (Value.slice A n c).ownBlock) : W'.cell? ⟨go, 0, none⟩ = some (.slice A n c) ∧ W'.frozen? ⟨go, 0, none⟩ = false :=
  cell_at ((row_grownOwn h.o hg h.vo (by decide)).trans h.vo) 0 rfl
theorem P2.step {o : Obj} {C : Code} {news : List Value} {A' : Option Addr} {c' : Nat} (h : P2 W1 go M k ns A n c cc Cs W) (hC : CodeT W C news) (ho : W'.ownsRow W1.heap.size 24 5 (.slice A' (n + 1) c') (n + 1) (cc ++ news)) (hg : (W.alloc o).grownBy W' (Value.slice A n c).ownBlock) :
    P2 W1 go M k ns A' (n + 1) c' (cc ++ news) (Cs ++ [C]) (W'.setCell ⟨go, 0, none⟩ (.slice A' (n + 1) c')) := by
  obtain ⟨es, clock, hr⟩ := h.nm.row
  have hv := (row_grownOwn h.o hg h.vo (by decide)).trans h.vo
  have k61 := keep_append (ty := 61) (by decide) h.o hg
  have k3 := keep_append (ty := 3) (by decide) h.o hg
  have hM : W'.heap[M]? = W.heap[M]? := by
    refine (hg.block M (by have := h.lt.1; simp; omega) (fun e => ?_)).trans (Below.heap_alloc _ _ _ h.lt.1)
    rcases h.o.2 with ⟨h', _⟩ | ⟨g, cap, cur, h', _, hh, _⟩
    · rw [h'] at e; simp [Value.ownBlock] at e
    · rw [h'] at e
      have : M = g := by simpa [Value.ownBlock] using e
      exact map_other hr hh this.symm
  have hMo : M ≠ go := fun e => by have := h.lm; have := h.lo; omega
  refine ⟨?_, h.nm.block ((Below.heap_setCell _ _ _ _ hMo).trans hM), own_set ho hv (by decide) 0 _, set_at hv 0 (.slice A' (n + 1) c'), ?_, h.lo, h.lm⟩
  · refine RB.setCell ?_ 0 _
    have h1 := h.rb.alloc o
    refine h1.grown hg (fun q hq => ?_)
    rcases h.o.2 with ⟨h', _⟩ | ⟨g, cap, cur, h', hle, _⟩
    · rw [h'] at hq; simp [Value.ownBlock] at hq
    · rw [h'] at hq
      have : g = q := by simpa [Value.ownBlock] using hq
      omega
  · exact ((h.cs.keep k61 k3).snoc (hC.keep k61 k3)).keep (KeepT.setCell hv (by decide) 0 _) (KeepT.setCell hv (by decide) 0 _)
theorem P2.len (h : P2 W1 go M k ns A n c cc Cs W) : n = Cs.length := by
  have h1 := h.o.1
  have h2 : ∀ {Cs : List Code} {cc : List Value}, CodesT W Cs cc → cc.length = Cs.length * 5 := by
    intro Cs
    induction Cs with
    | nil => intro cc h; have : cc = [] := h; subst this; rfl
    | cons C Cs ih =>
      intro cc h
      obtain ⟨c1, c2, rfl, h1, h2⟩ := h
      rw [List.length_append, h1.len, ih h2, List.length_cons]
      omega
  have := h2 h.cs
  omega
theorem P2.slt (h : P2 W1 go M k ns A n c cc Cs W) : SlT W W.heap.size 24 A cc := by
  obtain ⟨A', c', e, hs, _⟩ := SlT.of_own h.o
  injection e with e1 _ _
  subst e1
  exact hs
/-- The source that the round has copied lies there as long as nothing writes it. -/
theorem P2.held {g7 : Nat} {xs : Array Value} (hx : W.heap[g7]? = some (.cells xs 95)) : W.rangeAt g7 0 xs.toList := by
  intro j v hv
  rw [Nat.zero_add]
  exact (cell_at hx j (by simpa using hv)).1
/-- A source of the list that was read, in a later world. -/
theorem src_at {A0 : Option Addr} {n0 c0 : Nat} {sc : List Value} {l : List Src} {B : Nat} (ho : W1.ownsRow B 95 13 (.slice A0 n0 c0) n0 sc) (hs : SrcsT W1 l sc) (hb : RB go W1 W) (hgo : W1.heap[go]? = some (.cells #[.slice none 0 0] 34)) {k : Nat} {S : Src} (hk : l[k]? = some S) :
    ∃ b o Ar cr rc, A0 = some ⟨b, o, none⟩ ∧ W.rangeAt b (o + k * 13) (sCs S.name S.field S.data (.slice Ar S.rows.length cr) S.dom).toList ∧ SlT W W.heap.size 117 Ar rc ∧ RowsCs W S.rows rc ∧ ∀ d, S.dom = some d → d.text ≠ [] := by
  obtain ⟨c1, ⟨Ar, cr, rc, rfl, h1, h2, h3, h4⟩, hat⟩ := hs.at_ hk
  obtain ⟨A', c', e, hsl, _⟩ := SlT.of_own ho
  injection e with e1 _ _
  subst e1
  have k95 : KeepT 95 W1 W := KeepT.rb hb hgo (by decide)
  have k117 : KeepT 117 W1 W := KeepT.rb hb hgo (by decide)
  have k92 : KeepT 92 W1 W := KeepT.rb hb hgo (by decide)
  rcases (hsl.keepT k95 k95.size).sl with he | ⟨b, o, e, hlt, hc⟩
  · have := hat 0 _ rfl
    rw [he] at this
    simp at this
  · exact ⟨b, o, Ar, cr, rc, e, fun j v hv => by have := hc _ _ (hat j v hv); rwa [← Nat.add_assoc] at this, h1.keepT k117 k117.size, h2.keep k92, h4⟩
theorem codesB_step {ns : List Bytes} {Cs : List Code} {l : List Src} {k : Nat} {S : Src} (hk : l[k]? = some S) : codesB ns Cs (l.drop k) = if ns.length < 8 then (if S.name.text ∈ ns then .bad S.name.at_ 4 else (buildS S).next fun C => codesB (ns ++ [S.name.text]) (Cs ++ [C]) (l.drop (k + 1))) else .bad S.name.at_ 2 := by
  have hl := (List.getElem?_eq_some_iff.1 hk)
  rw [List.drop_eq_getElem_cons hl.1, hl.2, codesB]
end
end Go.Proofs.YtafgmbchdcfkcaaDoor
