/-
  The reference's sources of a text in memory; the states of its ParseAll. No program is run here but by its contracts.
  The walk of the reference's ParseAll.
-/
import Derived.Test.YtafgmbchdcfkcaaDoorR19
import Derived.Deep.DeepCutAuto
namespace Go.Proofs.YtafgmbchdcfkcaaDoor
open Go Go.RowKit Go.Walks

/-- A source as it was read: its name and its lines. -/
structure SV where
  N : Tok
  Ls : List LV
abbrev srcC (V : SV) (A : Option Addr) (c : Nat) : List Value := [strV V.N.text, .int .i64 (V.N.at_ : Int), .int .i64 (V.N.kind : Int), .int .i64 (V.N.n : Int), .slice A V.Ls.length c]
def SrcsR (w : World) : List SV → List Value → Prop
  | [], cs => cs = []
  | V :: Vs, cs => ∃ A c lc cs', cs = srcC V A c ++ cs' ∧ SlT w w.heap.size 101 A lc ∧ LnsCs w V.Ls lc ∧ SrcsR w Vs cs'
theorem SrcsR.keep {w w' : World} (k : KeepT 101 w w') (k2 : KeepT 46 w w') : ∀ {Vs : List SV} {cs : List Value}, SrcsR w Vs cs → SrcsR w' Vs cs
  | [], _, h => h
  | _ :: _, _, ⟨A, c, lc, cs', e, h1, h2, h3⟩ => ⟨A, c, lc, cs', e, h1.keepT k k.size, h2.keep k2, h3.keep k k2⟩
theorem SrcsR.snoc {w : World} {V : SV} {A : Option Addr} {c : Nat} {lc : List Value} (h1 : SlT w w.heap.size 101 A lc) (h2 : LnsCs w V.Ls lc) : ∀ {Vs : List SV} {cs : List Value}, SrcsR w Vs cs → SrcsR w (Vs ++ [V]) (cs ++ srcC V A c)
  | [], _, h => by
    have : _ = [] := h
    subst this
    exact ⟨A, c, lc, [], by simp, h1, h2, rfl⟩
  | _ :: _, _, ⟨A', c', lc', cs', e, k1, k2, k3⟩ => ⟨A', c', lc', cs' ++ srcC V A c, by rw [e, List.append_assoc], k1, k2, k3.snoc h1 h2⟩
theorem SrcsR.at_ {w : World} : ∀ {Vs : List SV} {cs : List Value} {k : Nat} {V : SV}, SrcsR w Vs cs → Vs[k]? = some V → ∃ A c lc, SlT w w.heap.size 101 A lc ∧ LnsCs w V.Ls lc ∧ ∀ (j : Nat) (u : Value), (srcC V A c)[j]? = some u → cs[k * 5 + j]? = some u
  | [], _, k, V, _, hk => by simp at hk
  | V' :: Vs, cs, 0, V, ⟨A, c, lc, cs', e, h1, h2, h3⟩, hk => by
    have : V' = V := by simpa using hk
    subst this
    refine ⟨A, c, lc, h1, h2, fun j u hu => ?_⟩
    rw [e, Nat.zero_mul, Nat.zero_add, List.getElem?_append_left (List.getElem?_eq_some_iff.1 hu).1]
    exact hu
  | V' :: Vs, cs, k + 1, V, ⟨A, c, lc, cs', e, h1, h2, h3⟩, hk => by
    obtain ⟨A', c', lc', k1, k2, hj⟩ := SrcsR.at_ h3 (k := k) (V := V) (by simpa using hk)
    refine ⟨A', c', lc', k1, k2, fun j u hu => ?_⟩
    have := hj j u hu
    have hl : (srcC V' A c).length = 5 := rfl
    rw [e, List.getElem?_append_right (by rw [hl]; omega), hl, show (k + 1) * 5 + j - 5 = k * 5 + j by omega]
    exact this
/-- The sources that were read are those of the plain parser. -/
structure VM (V : SV) (S : Src) : Prop where
  n : V.N = S.name
  m : LMs V.Ls (srcL S)
  g : ∀ P ∈ srcL S, GoodP P
  r : ∀ R ∈ S.rows, RowOk R
  l : V.Ls.length ≤ 2010
inductive VMs : List SV → List Src → Prop where
  | nil : VMs [] []
  | cons {V : SV} {S : Src} {Vs : List SV} {Ss : List Src} (h : VM V S) (t : VMs Vs Ss) : VMs (V :: Vs) (S :: Ss)
theorem VMs.snoc {V : SV} {S : Src} : ∀ {Vs : List SV} {Ss : List Src}, VMs Vs Ss → VM V S → VMs (Vs ++ [V]) (Ss ++ [S])
  | _, _, .nil, h => .cons h .nil
  | _, _, .cons h t, k => .cons h (t.snoc k)
theorem VMs.len : ∀ {Vs : List SV} {Ss : List Src}, VMs Vs Ss → Vs.length = Ss.length
  | _, _, .nil => rfl
  | _, _, .cons _ t => by simp [t.len]
theorem VMs.at_ : ∀ {Vs : List SV} {Ss : List Src} {k : Nat} {V : SV}, VMs Vs Ss → Vs[k]? = some V → ∃ S, Ss[k]? = some S ∧ VM V S
  | _, _, k, V, .nil, hk => by simp at hk
  | _, _, 0, V, .cons h _, hk => by
    simp at hk
    subst hk
    exact ⟨_, rfl, h⟩
  | _, _, k + 1, V, .cons _ t, hk => by
    obtain ⟨S, h1, h2⟩ := t.at_ (k := k) (by simpa using hk)
    exact ⟨S, by simpa using h1, h2⟩
def namesV (Vs : List SV) : List Bytes := Vs.map fun V => V.N.text

theorem so81 : SliceOf Tryd.prog 81 77 5 64 := SliceOf.mk (z := .agg z5r) Tryd.underlying81 (by omega) (by kernel_rfl) rfl
/-- While the sources are read. -/
structure AS (w : World) (gp : Nat) (l : List Tok) (At : Option Addr) (ct : Nat) (A : Option Addr) (n c : Nat) (cs : List Value) (Vs : List SV) (x : PR Unit) (W : World) : Prop where
  at_ : RAt W gp l At ct x
  rb : RB gp w W
  h0 : ∃ x0, RAt w gp l At ct x0
  o : W.ownsRow w.heap.size 77 5 (.slice A n c) n cs
  ss : SrcsR W Vs cs
  nn : n = Vs.length
section
variable {w W W' : World} {gp : Nat} {l : List Tok} {At : Option Addr} {ct : Nat} {A A' : Option Addr} {n c c' : Nat} {cs : List Value} {Vs : List SV} {x y : PR Unit}
theorem AS.drewN (h : AS w gp l At ct A n c cs Vs x W) (q : Nat) : AS w gp l At ct A n c cs Vs x (W.drewN q) := ⟨h.at_.drewN q, h.rb.drewN q, h.h0, h.o, h.ss.keep (KeepT.drewN W q) (KeepT.drewN W q), h.nn⟩
theorem AS.call (h : AS w gp l At ct A n c cs Vs x W) (hb : RB gp W W') (hp : RAt W' gp l At ct y) : AS w gp l At ct A n c cs Vs y W' := by
  obtain ⟨cr, hcr⟩ := h.at_.row
  exact ⟨hp, h.rb.trans hb, h.h0, own_rb h.o hb hcr (by decide), h.ss.keep (KeepT.rb hb hcr (by decide)) (KeepT.rb hb hcr (by decide)), h.nn⟩
theorem AS.step {V : SV} {A2 : Option Addr} {c2 : Nat} {lc : List Value} {o : Obj} (h : AS w gp l At ct A n c cs Vs x W) (h1 : SlT W W.heap.size 101 A2 lc) (h2 : LnsCs W V.Ls lc) (ho : W'.ownsRow w.heap.size 77 5 (.slice A' (n + 1) c') (n + 1) (cs ++ srcC V A2 c2)) (hg : (W.alloc o).grownBy W' (Value.slice A n c).ownBlock) :
    AS w gp l At ct A' (n + 1) c' (cs ++ srcC V A2 c2) (Vs ++ [V]) x W' := by
  obtain ⟨cr, hcr⟩ := h.at_.row
  have hrb := rb_grownOwn h.rb h.o hg
  have k1 := keep_append (ty := 101) (by decide) h.o hg
  have k2 := keep_append (ty := 46) (by decide) h.o hg
  obtain ⟨x0, h0⟩ := h.h0
  exact ⟨h0.keep h.at_ (row_grownOwn h.o hg hcr (by decide)) hrb, hrb, ⟨x0, h0⟩, ho, (h.ss.snoc h1 h2).keep k1 k2, by simp [h.nn]⟩
theorem AS.slt (h : AS w gp l At ct A n c cs Vs x W) : SlT W W.heap.size 77 A cs := by
  obtain ⟨A', c', e, hs, -, -⟩ := SlT.of_own h.o
  injection e with e1 _ _
  subst e1
  exact hs
end
/-- While the codes are built: nothing older than w has turned. -/
structure AQ (w : World) (A : Option Addr) (n c : Nat) (cc : List Value) (Cs : List Code) (W : World) : Prop where
  below : Below w.heap.size w W
  o : W.ownsRow w.heap.size 24 5 (.slice A n c) n cc
  cs : CodesT W Cs cc
section
variable {w W W' : World} {A A' : Option Addr} {n c c' : Nat} {cc : List Value} {Cs : List Code}
theorem AQ.call (h : AQ w A n c cc Cs W) (hb : Below W.heap.size W W') : AQ w A n c cc Cs W' := ⟨h.below.trans (hb.mono h.below.size), own_below h.o hb, h.cs.keep (KeepT.below hb) (KeepT.below hb)⟩
theorem AQ.drewN (h : AQ w A n c cc Cs W) (q : Nat) : AQ w A n c cc Cs (W.drewN q) := h.call (below_drewN (Below.refl _ _) q)
theorem AQ.step {C : Code} {cv : List Value} {o : Obj} (h : AQ w A n c cc Cs W) (hC : CodeT W C cv) (ho : W'.ownsRow w.heap.size 24 5 (.slice A' (n + 1) c') (n + 1) (cc ++ cv)) (hg : (W.alloc o).grownBy W' (Value.slice A n c).ownBlock) : AQ w A' (n + 1) c' (cc ++ cv) (Cs ++ [C]) W' :=
  ⟨below_grownOwn h.below h.o hg, ho, (h.cs.snoc hC).keep (keep_append (by decide) h.o hg) (keep_append (by decide) h.o hg)⟩
theorem AQ.slt (h : AQ w A n c cc Cs W) : SlT W W.heap.size 24 A cc := by
  obtain ⟨A', c', e, hs, -, -⟩ := SlT.of_own h.o
  injection e with e1 _ _
  subst e1
  exact hs
end
theorem CodesT.len {w : World} : ∀ {Cs : List Code} {cs : List Value}, CodesT w Cs cs → cs.length = Cs.length * 5
  | [], _, h => by have : _ = [] := h; subst this; rfl
  | _ :: _, _, ⟨c1, c2, e, h1, h2⟩ => by rw [e, List.length_append, h1.len, h2.len]; simp; omega
theorem AQ.len {w W : World} {A : Option Addr} {n c : Nat} {cc : List Value} {Cs : List Code} (h : AQ w A n c cc Cs W) : n = Cs.length := by
  have h1 := h.o.1
  have h2 := h.cs.len
  omega
/-- A source of a slice of sources, in a later world. -/
theorem srcV_at {w W : World} {A : Option Addr} {cs : List Value} {Vs : List SV} (h : SlT w w.heap.size 77 A cs) (hs : SrcsR w Vs cs) (hb : Below w.heap.size w W) {k : Nat} {V : SV} (hk : Vs[k]? = some V) :
    ∃ b o A2 c2 lc, A = some ⟨b, o, none⟩ ∧ W.rangeAt b (o + k * 5) (srcC V A2 c2) ∧ SlT W W.heap.size 101 A2 lc ∧ LnsCs W V.Ls lc := by
  obtain ⟨A2, c2, lc, h1, h2, hat⟩ := hs.at_ hk
  rcases h.sl with he | ⟨b, o, e, hlt, hc⟩
  · have := hat 0 _ rfl
    rw [he] at this
    simp at this
  · exact ⟨b, o, A2, c2, lc, e, fun j v hv => (hb.cell (p := ⟨b, o + k * 5 + j, none⟩) hlt).trans (by have := hc _ _ (hat j v hv); rwa [← Nat.add_assoc] at this), h1.below hb hb.size, h2.keep (KeepT.below hb)⟩
/-- Where the reading of the sources stands. -/
structure LoopA (ts0 : List Tok) (Vs : List SV) (x : PR Unit) : Prop where
  ok : ∀ u ts, x = .ok u ts → ∃ f Ss, ts.length ≤ f ∧ VMs Vs Ss ∧ srcsT false (ts0.length + 1) [] ts0 = srcsT false (f + 1) Ss ts
  bad : ∀ p, x = .bad p → srcsT false (ts0.length + 1) [] ts0 = .bad p
theorem LoopA.start (ts0 : List Tok) : LoopA ts0 [] (.ok () ts0) :=
  ⟨(fun u ts h => by injection h with _ h; subst h; exact ⟨_, [], Nat.le_refl _, .nil, rfl⟩), (fun p h => by cases h)⟩
theorem srcsT_go {f : Nat} {l : List Src} {ts : List Tok} (h4 : headK ts ≠ 4) : srcsT false (f + 1) l ts = (codeT ts).next fun S a => srcsT false f (l ++ [S]) a := by
  rw [srcsT, if_pos (.inl h4), if_neg (by simp)]
theorem srcsT_stop {f : Nat} {l : List Src} {ts : List Tok} (h4 : headK ts = 4) : srcsT false (f + 1) l ts = .ok l ts := by
  rw [srcsT, if_neg (by simp [h4])]
theorem LoopA.next {ts0 ts : List Tok} {Vs : List SV} {V : SV} (h : LoopA ts0 Vs (.ok () ts)) (h4 : headK ts ≠ 4) (hl : ts.length ≤ 2001) (hv : ∀ S a, codeT ts = .ok S a → V.N = S.name ∧ LMs V.Ls (srcL S)) (hlb : V.Ls.length ≤ 2010) : LoopA ts0 (Vs ++ [V]) (codeU (.ok () ts)) := by
  obtain ⟨f, Ss, hf, hm, he⟩ := h.ok () ts rfl
  rw [srcsT_go (f := f) (l := Ss) h4] at he
  have hcu : codeU (.ok () ts) = (codeT ts).next fun _ a => .ok () a := rfl
  rw [hcu]
  cases hc : codeT ts with
  | bad p =>
    rw [hc] at he
    exact ⟨(fun u ts h => by cases h), (fun q h => by injection h with h; rw [← h]; exact he)⟩
  | ok S a =>
    rw [hc] at he
    obtain ⟨h1, -⟩ := codeT_ok hc
    obtain ⟨e1, e2⟩ := hv S a hc
    refine ⟨fun u ts' h => ?_, (fun q h => by cases h)⟩
    injection h with _ h
    subst h
    cases f with
    | zero => omega
    | succ f => exact ⟨f, Ss ++ [S], by omega, hm.snoc ⟨e1, e2, good_src hc hl, codeT_good hc, hlb⟩, he⟩
theorem LoopA.stop {ts0 ts : List Tok} {Vs : List SV} (h : LoopA ts0 Vs (.ok () ts)) (h4 : headK ts = 4) : ∃ Ss, VMs Vs Ss ∧ srcsT false (ts0.length + 1) [] ts0 = .ok Ss ts := by
  obtain ⟨f, Ss, hf, hm, he⟩ := h.ok () ts rfl
  exact ⟨Ss, hm, he.trans (srcsT_stop h4)⟩
theorem left_codeU {ts : List Tok} : leftU (codeU (.ok () ts)) + 1 ≤ ts.length + 1 := by
  have hcu : codeU (.ok () ts) = (codeT ts).next fun _ a => .ok () a := rfl
  rw [hcu]
  cases hc : codeT ts with
  | bad p => exact Nat.le_add_left _ _
  | ok S a =>
    obtain ⟨h1, -⟩ := codeT_ok hc
    show a.length + 1 + 1 ≤ _
    omega
end Go.Proofs.YtafgmbchdcfkcaaDoor
namespace Go.Proofs.YtafgmbchdcfkcaaDoor
open Go Go.RowKit Go.Walks

def goX : PR Unit → Bool
  | .ok _ ts => decide (headK ts ≠ 4)
  | .bad _ => false
theorem namesV_take {Vs : List SV} {k : Nat} {V : SV} (h : Vs[k]? = some V) : namesV (Vs.take (k + 1)) = namesV (Vs.take k) ++ [V.N.text] := by
  unfold namesV
  rw [List.take_add_one, h]; simp
theorem namesV_mem {Vs : List SV} {k : Nat} {s : Bytes} : s ∈ namesV (Vs.take k) ↔ ∃ i V, i < k ∧ Vs[i]? = some V ∧ V.N.text = s := by
  unfold namesV
  rw [List.mem_map]
  constructor
  · rintro ⟨V, hV, rfl⟩
    obtain ⟨i, hi⟩ := List.mem_iff_getElem?.1 hV
    rw [List.getElem?_take] at hi
    split at hi
    · exact ⟨i, V, by assumption, hi, rfl⟩
    · cases hi
  · rintro ⟨i, V, hi, hV, rfl⟩
    refine ⟨V, List.mem_iff_getElem?.2 ⟨i, ?_⟩, rfl⟩
    rw [List.getElem?_take, if_pos hi]; exact hV
theorem namesV_len {Vs : List SV} {k : Nat} (h : k ≤ Vs.length) : (namesV (Vs.take k)).length = k := by
  unfold namesV
  simp; omega
theorem rangeAt_cell {w : World} {b o : Nat} {cs : List Value} (h : w.rangeAt b o cs) (j : Nat) {v : Value} (hv : cs[j]? = some v) : w.cell? ⟨b, o + j, none⟩ = some v := h j v hv

set_option maxRecDepth 100000 in
set_option maxHeartbeats 16000000 in
theorem parseAllR_any (t : ByteArray) (w : World) : Calls Tryd.prog 21 #[.string t] w (AllRes (parseB false t.data.toList) w) := by
  by_cases hsz : 2000 < t.size
  · have hi : (2000 : Int) < (t.size : Int) := by omega
    have Hb : Hid (parseB false t.data.toList = .bad 0 2) := by show _ = _; unfold parseB; rw [if_pos (by rw [size_l]; exact hsz)]
    go_enter Tryd.func21, Tryd.ntmps21
    go_wp2_with fail
    refine bodyPost_ret (results_tmp3 rfl _ _ _) rfl ?_
    show AllRes (parseB false t.data.toList) w _ _
    rw [Hb.out]
    exact ⟨Below.refl _ _, rfl⟩
  · have ht : t.size ≤ 2000 := by omega
    have hi : ¬ (2000 : Int) < (t.size : Int) := by omega
    have hN := toks_len2 t ht
    have Hw := Lib.hid (wfl_toks t.data.toList)
    obtain ⟨l, hl⟩ : ∃ l, l = toks t.data.toList 0 := ⟨_, rfl⟩
    have Hpb : Hid (parseB false t.data.toList = srcsB (srcsT false (l.length + 1) [] l)) := by show _ = _; unfold parseB; rw [if_neg (by rw [size_l]; omega), hl]
    have htok := tokens_any t w ht
    rw [← hl] at hN Hw htok
    have Htok := Lib.hid htok
    have hlen : 0 < l.length := by
      rw [hl]
      obtain ⟨T, rest, h⟩ := toks_head (l := t.data.toList) (a := 0) (by omega)
      rw [h.eq]; simp
    clear htok hl
    go_enter Tryd.func21, Tryd.ntmps21
    go_wp2_with fail
    refine Htok.out.mono ?_
    rintro e w1 ⟨At, ct, rfl, hs, hb⟩
    have hx : RAt (w1.alloc (.cells #[.slice At l.length ct, .int .i64 0, .int .i64 (-1)] 74)) w1.heap.size l At ct (.ok () l) := ⟨0, ⟨heap_new _ _, hs.below ((Below.refl _ _).alloc (Nat.le_refl _) _) (by simp)⟩, hlen, rfl⟩
    have HB1 := Lib.hid (hb.alloc hb.size (.cells #[.slice At l.length ct, .int .i64 0, .int .i64 (-1)] 74))
    have hw1 := hb.size
    go_wp2_with fail
    generalize hW1 : w1.alloc (.cells #[.slice At l.length ct, .int .i64 0, .int .i64 (-1)] 74) = W1 at hx HB1
    have hgp : w.heap.size ≤ w1.heap.size := hb.size
    have HA0 : Hid (AS W1 w1.heap.size l At ct none 0 0 [] [] (.ok () l) W1) := ⟨hx, RB.refl _ _, ⟨_, hx⟩, own_nil _ _ _ _, rfl, rfl⟩
    have HX0 := Lib.hid hx
    generalize w1.heap.size = gp at hx HA0 hgp hw1
    clear hW1 hs hb hx hw1
    go_loopg [6] (l.length + 1) (fun g s6 wr => ∃ (A : Option Addr) (n c : Nat) (cs : List Value) (Vs : List SV) (x : PR Unit), s6 = .slice A n c ∧ g = leftU x ∧ n + leftU x ≤ 2010 ∧ Hid (AS W1 gp l At ct A n c cs Vs x wr) ∧ Hid (LoopA l Vs x))
    case atStart => exact ⟨none, 0, 0, [], [], .ok () l, rfl, rfl, (show 0 + (l.length + 1) ≤ 2010 by omega), HA0.out, LoopA.start l⟩
    case round =>
      obtain ⟨A, n, c, cs, Vs, x, rfl, hg, hnx, HA, HL⟩ := hrel
      have Hg := Lib.hid hg
      clear hg HA0
      go_upto_region 5 with fail
      go_cut [38] (fun s38 wx => s38 = .bool (goX x) ∧ ∃ q, wx = wr.drewN q)
      case first =>
        cases x with
        | bad p =>
          obtain ⟨i, hp, hi⟩ := HA.out.at_
          obtain ⟨-, -, c2, -, -, -⟩ := hp.cells
          have q1 : decide ((p : Int) < 0) = false := decide_eq_false (by omega)
          have q2 : ¬ (p : Int) < 0 := by omega
          clear hp
          go_quiet (fail)
          go_wp2_with fail
          go_meet
          exact ⟨rfl, _, rfl⟩
        | ok u ts =>
          obtain ⟨i, hp, hi, hts⟩ := HA.out.at_
          obtain ⟨c0, c1, c2, -, -, -⟩ := hp.cells
          obtain ⟨b, o, hA, hbl, -, -, t2, -⟩ := hp.tok (List.getElem?_eq_getElem hi)
          rw [hA] at c0
          have hI1 : (0 : Int) ≤ (i : Int) := by omega
          have hI2 : (i : Int) < (l.length : Int) := by omega
          have hhd : headK ts = l[i].kind := by rw [hts, drop_get hi]; rfl
          clear hp hts hA
          by_cases h4 : l[i].kind = 4
          · have q1 : ((l[i].kind : Int) != 4) = false := by rw [bne_eq_false_iff_eq]; omega
            have Hv : Hid (goX (.ok u ts) = false) := decide_eq_false (by rw [hhd]; simp [h4])
            clear h4 hhd
            go_quiet (fail)
            go_wp2_with fail
            go_meet
            exact ⟨by rw [Hv.out], _, rfl⟩
          · have q1 : ((l[i].kind : Int) != 4) = true := by rw [bne_iff_ne]; omega
            have Hv : Hid (goX (.ok u ts) = true) := decide_eq_true (by rw [hhd]; exact h4)
            clear h4 hhd
            go_quiet (fail)
            go_wp2_with fail
            go_meet
            exact ⟨by rw [Hv.out], _, rfl⟩
      case rest =>
      obtain ⟨rfl, q, hwc⟩ := hcut
      have hA1 := HA.out.drewN q
      rw [← hwc] at hA1
      have HA1 := Lib.hid hA1
      clear hwc hA1 HA
      cases hgo : goX x with
      | true =>
        cases x with
        | bad p => cases hgo
        | ok u ts =>
        have h4 : headK ts ≠ 4 := of_decide_eq_true hgo
        have hts : ts.length ≤ 2001 := by
          obtain ⟨i, -, -, h⟩ := HA1.out.at_
          rw [h, List.length_drop]; omega
        have H4 := Lib.hid h4
        have hn2 : n + (ts.length + 1) ≤ 2010 := hnx
        have hb1 : n + 1 ≤ maxLen := by unfold maxLen; omega
        have hb2 : (n + 1) * 64 ≤ 140737488355328 := by omega
        clear hgo h4 hnx
        go_wp2_with fail
        refine (code_R Hw.out hN gp At ct _ HA1.out.at_).mono ?_
        rintro e w2 ⟨N, Ls, A2, c2, lc, rfl, hs2, hl2, hlen2, hval, hr, hb2'⟩
        have HA2 := Lib.hid (HA1.out.call hb2' hr)
        have HS2 := Lib.hid hs2
        have HL2 := Lib.hid hl2
        have HLx : Hid (LoopA l (Vs ++ [⟨N, Ls⟩]) (codeU (.ok () ts))) := HL.out.next H4.out hts (fun S a h => hval u ts S a rfl h) hlen2
        have hlc := left_codeU (ts := ts)
        clear hs2 hl2 hval hr hb2'
        go_wp2_with (at_builtin; refine wpList_append_sl rfl _ _ 81 rfl rfl rfl so81 (HA2.out.o.alloc _) (m := 1) (news := srcC ⟨N, Ls⟩ A2 c2) rfl (Sl.new _ _ _) (by intro v hv; simp at hv; rcases hv with rfl | rfl | rfl | rfl | rfl <;> rfl) hb1 hb2 (Nat.le_trans HA2.out.rb.size (by simp)) ?_; intro A5 c5 w7 ho5 hg5; have HA7 := Lib.hid (HA2.out.step (V := ⟨N, Ls⟩) HS2.out HL2.out ho5 hg5); clear ho5 hg5)
        go_roundg (leftU (codeU (.ok () ts)))
        case measure => rw [Hg.out]; exact hlc
        case rel => exact ⟨A5, n + 1, c5, _, _, codeU (.ok () ts), rfl, rfl, by omega, HA7.out, HLx.out⟩
      | false =>
        cases x with
        | bad p =>
          obtain ⟨i, hp, hi⟩ := HA1.out.at_
          obtain ⟨-, -, c2, -, -, -⟩ := hp.cells
          have q1 : (0 : Int) ≤ (p : Int) := by omega
          have Hbad : Hid (parseB false t.data.toList = .bad p 3) := by show _ = _; rw [Hpb.out, HL.out.bad p rfl]; rfl
          clear hp hgo
          go_wp2_with fail
          go_quiet (fail)
          go_wp2_with fail
          refine bodyPost_ret (results_tmp3 rfl _ _ _) rfl ?_
          show AllRes (parseB false t.data.toList) w _ _
          rw [Hbad.out]
          exact ⟨below_drewN (HB1.out.trans (HA1.out.rb.below hgp HB1.out.size)) _, rfl⟩
        | ok u ts =>
          have h4 : headK ts = 4 := by simpa [goX] using hgo
          obtain ⟨Ss, hVS, hsr⟩ := HL.out.stop h4
          have Hpc : Hid (parseB false t.data.toList = codesB [] [] Ss) := by show _ = _; rw [Hpb.out, hsr]; rfl
          have HVS := Lib.hid hVS
          have hnV := HA1.out.nn
          have HnV := Lib.hid hnV
          obtain ⟨i, hp, hi, -⟩ := HA1.out.at_
          obtain ⟨-, -, c2, -, -, -⟩ := hp.cells
          have HBc := Lib.hid (HB1.out.trans (HA1.out.rb.below hgp HB1.out.size))
          have hn0 : n ≤ 2010 := by omega
          clear hp hgo h4 hVS hsr hnV Hg hnx HL
          go_wp2_with fail
          clear c2
          go_loopg [7, 8] n (fun g s7 s8 wr => ∃ (k : Nat) (A' : Option Addr) (c' : Nat) (cc : List Value) (Cs : List Code), s7 = .slice A' k c' ∧ s8 = .int .i64 (k : Int) ∧ g = n - k ∧ k ≤ n ∧ k ≤ 8 ∧ Hid (AQ wc A' k c' cc Cs wr) ∧ Hid (codesB [] [] Ss = codesB (namesV (Vs.take k)) Cs (Ss.drop k)))
          case atStart => exact ⟨0, none, 0, [], [], rfl, rfl, rfl, by omega, by omega, ⟨Below.refl _ _, own_nil _ _ _ _, rfl⟩, rfl⟩
          case round =>
            obtain ⟨k, A', c', cc, Cs, rfl, rfl, hgk, hk, hk8, HQ, HC⟩ := hrel
            have Hgk := Lib.hid hgk
            clear hgk
            by_cases hlt : k < n
            · obtain ⟨V, hV⟩ : ∃ V, Vs[k]? = some V := ⟨_, List.getElem?_eq_getElem (by rw [← HnV.out]; exact hlt)⟩
              obtain ⟨S, hS, hVM⟩ := HVS.out.at_ hV
              obtain ⟨b, o, A2, c2, lc, hA, hrg, hsl, hll⟩ := srcV_at HA1.out.slt HA1.out.ss HQ.out.below hV
              have r0 := rangeAt_cell hrg 0 rfl
              have r1 := rangeAt_cell hrg 1 rfl
              rw [Nat.add_zero] at r0
              have HAe := Lib.hid hA
              have Hrg := Lib.hid hrg
              have Hsl := Lib.hid hsl
              have Hll := Lib.hid hll
              have HV := Lib.hid hV
              have HVM := Lib.hid hVM
              have HS := Lib.hid hS
              subst hA
              clear hrg hsl hll hV hVM hS
              have hI1 : (0 : Int) ≤ (k : Int) := by omega
              have hI2 : (k : Int) < (n : Int) := by omega
              have Hcs : Hid (codesB [] [] Ss = if k < 8 then (if S.name.text ∈ namesV (Vs.take k) then .bad S.name.at_ 4 else (buildS S).next fun C => codesB (namesV (Vs.take k) ++ [S.name.text]) (Cs ++ [C]) (Ss.drop (k + 1))) else .bad S.name.at_ 2) := by
                show _ = _
                rw [HC.out, codesB_step HS.out, namesV_len (by rw [← HnV.out]; exact hk)]
              have hat : V.N.at_ = S.name.at_ := by rw [HVM.out.n]
              have Hat := Lib.hid hat
              clear hat
              by_cases hk7 : k = 8
              · have q1 : ((k : Int) == 8) = true := by rw [beq_iff_eq]; omega
                have Hbad : Hid (parseB false t.data.toList = .bad V.N.at_ 2) := by show _ = _; rw [Hpc.out, Hcs.out, if_neg (by omega), Hat.out]
                clear hk7
                go_wp2_with fail
                go_quiet (fail)
                go_wp2_with fail
                refine bodyPost_ret (results_tmp3 rfl _ _ _) rfl ?_
                show AllRes (parseB false t.data.toList) w _ _
                rw [Hbad.out]
                exact ⟨below_drewN (HBc.out.trans (HQ.out.below.mono HBc.out.size)) _, rfl⟩
              · have q1 : ((k : Int) == 8) = false := by rw [beq_eq_false_iff_ne]; omega
                have hk7' : k < 8 := by omega
                clear hk7
                go_wp2_with fail
                clear q1
                go_loopg [9] k (fun g s9 wr2 => ∃ i : Nat, s9 = .int .i64 (i : Int) ∧ g = k - i ∧ i ≤ k ∧ Hid (AQ wc A' k c' cc Cs wr2) ∧ Hid (∀ i' V', i' < i → Vs[i']? = some V' → V'.N.text ≠ V.N.text))
                case atStart => exact ⟨0, rfl, rfl, by omega, HQ.out, fun i' V' h => absurd h (by omega)⟩
                case round =>
                  obtain ⟨i, rfl, hgi, hi, HQ2, HNe⟩ := hrel
                  have Hgi := Lib.hid hgi
                  clear hgi r0 r1
                  obtain ⟨b', o', A2', c2', lc', hA', hrg', hsl', hll'⟩ := srcV_at HA1.out.slt HA1.out.ss HQ2.out.below HV.out
                  injection hA' with hA'
                  injection hA' with e1 e2
                  subst e1; subst e2
                  have r0 := rangeAt_cell hrg' 0 rfl
                  have r1 := rangeAt_cell hrg' 1 rfl
                  rw [Nat.add_zero] at r0
                  have Hrg' := Lib.hid hrg'
                  have Hsl' := Lib.hid hsl'
                  have Hll' := Lib.hid hll'
                  clear hrg' hsl' hll' Hrg Hsl Hll
                  by_cases hik : i < k
                  · obtain ⟨U, hU⟩ : ∃ U, Vs[i]? = some U := ⟨_, List.getElem?_eq_getElem (by rw [← HnV.out]; omega)⟩
                    obtain ⟨b'', o'', A3, c3, lc3, hA'', hrg'', -, -⟩ := srcV_at HA1.out.slt HA1.out.ss HQ2.out.below hU
                    injection hA'' with hA''
                    injection hA'' with e1 e2
                    subst e1; subst e2
                    have s0 := rangeAt_cell hrg'' 0 rfl
                    rw [Nat.add_zero] at s0
                    have HU := Lib.hid hU
                    clear hrg'' hU
                    have hJ1 : (0 : Int) ≤ (i : Int) := by omega
                    have hJ2 : (i : Int) < (n : Int) := by omega
                    have hJ3 : (i : Int) < (k : Int) := by omega
                    by_cases heq : U.N.text = V.N.text
                    · have q2 : (U.N.text == V.N.text) = true := by rw [heq]; simp
                      have Hbad : Hid (parseB false t.data.toList = .bad V.N.at_ 4) := by
                        show _ = _
                        rw [Hpc.out, Hcs.out, if_pos hk7', if_pos (by rw [namesV_mem]; exact ⟨i, U, hik, HU.out, by rw [heq, HVM.out.n]⟩), Hat.out]
                      clear heq
                      go_wp2_with fail
                      go_quiet (fail)
                      go_wp2_with fail
                      go_quiet (fail)
                      go_wp2_with fail
                      refine bodyPost_ret (results_tmp3 rfl _ _ _) rfl ?_
                      show AllRes (parseB false t.data.toList) w _ _
                      rw [Hbad.out]
                      exact ⟨below_drewN (HBc.out.trans ((HQ2.out.drewN _).below.mono HBc.out.size)) _, rfl⟩
                    · have q2 : (U.N.text == V.N.text) = false := by simpa using heq
                      have HNe2 : Hid (∀ i' V', i' < i + 1 → Vs[i']? = some V' → V'.N.text ≠ V.N.text) := by
                        intro i' V' h1 h2
                        rcases Nat.lt_or_ge i' i with h | h
                        · exact HNe.out i' V' h h2
                        · have : i' = i := by omega
                          subst this
                          have := HU.out
                          rw [this] at h2
                          injection h2 with h2
                          subst h2
                          exact heq
                      clear heq
                      go_wp2_with fail
                      go_quiet (fail)
                      go_wp2_with fail
                      go_roundg (k - (i + 1))
                      case measure => rw [Hgi.out]; omega
                      case rel => exact ⟨i + 1, by go_num, rfl, by omega, HQ2.out.drewN _, HNe2.out⟩
                  · have hie : i = k := by omega
                    subst hie
                    have hnm : ¬ S.name.text ∈ namesV (Vs.take i) := by
                      rw [namesV_mem]
                      rintro ⟨i', V', h1, h2, h3⟩
                      exact HNe.out i' V' h1 h2 (by rw [h3, HVM.out.n])
                    have Hcs2 : Hid (codesB [] [] Ss = (buildS S).next fun C => codesB (namesV (Vs.take (i + 1))) (Cs ++ [C]) (Ss.drop (i + 1))) := by
                      show _ = _
                      rw [Hcs.out, if_pos hk7', if_neg hnm, namesV_take HV.out, HVM.out.n]
                    have hcall := build_R V.N V.Ls (srcL S) A2' c2' lc' wr HVM.out.l Hsl'.out Hll'.out HVM.out.m HVM.out.g
                    rw [show buildN V.N (srcL S) = buildS S by rw [HVM.out.n]; exact buildN_eq HVM.out.r] at hcall
                    have Hcall := Lib.hid hcall
                    clear hnm hcall Hcs r0 r1 hik
                    go_wp2_with (refine wpList_load_mid rfl 77 _ rfl b (o + i * 5) rfl (srcC V A2' c2') _ Hrg'.out Tryd.underlying77 rfl (info77 (srcC V A2' c2').toArray rfl) ?_)
                    refine Hcall.out.mono ?_
                    rintro e w5 ⟨hb5, hcase⟩
                    have HQ5 := Lib.hid (HQ2.out.call hb5)
                    clear hb5 Hcall
                    cases hbs : buildS S with
                    | ok C =>
                      rw [hbs] at hcase
                      obtain ⟨cv, rfl, hC⟩ := hcase
                      obtain ⟨Ac, cx, mc, hcv, -, -⟩ := id hC
                      have hcv' : cv = #[strV C.name, .int .i64 C.field, .int .i64 C.data, .slice Ac C.par.length cx, .int .i64 C.dom] := by rw [← Array.toList_inj]; exact hcv
                      subst hcv'
                      have Hone : Hid (∀ u ∈ [strV C.name, .int .i64 C.field, .int .i64 C.data, .slice Ac C.par.length cx, .int .i64 C.dom], u.oneCell' = true) := hC.one
                      have HC6 := Lib.hid (hC.keep (KeepT.alloc w5 (.cells #[strV C.name, .int .i64 C.field, .int .i64 C.data, .slice Ac C.par.length cx, .int .i64 C.dom] 24)) (KeepT.alloc w5 (.cells #[strV C.name, .int .i64 C.field, .int .i64 C.data, .slice Ac C.par.length cx, .int .i64 C.dom] 24)))
                      have HQ6 := Lib.hid (HQ5.out.call ((Below.refl _ _).alloc (Nat.le_refl _) (.cells #[strV C.name, .int .i64 C.field, .int .i64 C.data, .slice Ac C.par.length cx, .int .i64 C.dom] 24)))
                      have h10 := Lib.hid (heap_new w5 (.cells #[strV C.name, .int .i64 C.field, .int .i64 C.data, .slice Ac C.par.length cx, .int .i64 C.dom] 24))
                      have Hnx : Hid (codesB [] [] Ss = codesB (namesV (Vs.take (i + 1))) (Cs ++ [C]) (Ss.drop (i + 1))) := by show _ = _; rw [Hcs2.out, hbs]; rfl
                      have hb1 : i + 1 ≤ maxLen := by unfold maxLen; omega
                      have hb2 : (i + 1) * 64 ≤ 140737488355328 := by omega
                      clear hC hcv hbs
                      go_wp2_with (first | (refine wpList_load_row rfl 24 _ rfl w5.heap.size rfl 24 #[strV C.name, .int .i64 C.field, .int .i64 C.data, .slice Ac C.par.length cx, .int .i64 C.dom] (0, 0) _ h10.out Tryd.underlying24 rfl (by exact info24) ?_) | (at_builtin; refine wpList_append_sl rfl _ _ 34 rfl rfl rfl so34 (HQ6.out.o.alloc _) (m := 1) (news := [strV C.name, .int .i64 C.field, .int .i64 C.data, .slice Ac C.par.length cx, .int .i64 C.dom]) rfl (sl_new2 _ _ _ _) Hone.out hb1 hb2 (Nat.le_trans HQ6.out.below.size (by simp)) ?_; intro A5 c5 w7 ho5 hg5; have HQ7 := Lib.hid (HQ6.out.step HC6.out ho5 hg5); clear ho5 hg5))
                      go_roundg (n - (i + 1))
                      case measure => rw [Hgk.out]; omega
                      case rel => exact ⟨i + 1, A5, c5, _, Cs ++ [C], rfl, by go_num, rfl, by omega, by omega, HQ7.out, Hnx.out⟩
                    | bad q en =>
                      rw [hbs] at hcase
                      change e = _ at hcase
                      subst hcase
                      have hen := buildS_bad hbs
                      have hen2 : ((en : Int) != 0) = true := by rw [bne_iff_ne]; omega
                      have Hbad : Hid (parseB false t.data.toList = .bad q en) := by show _ = _; rw [Hpc.out, Hcs2.out, hbs]; rfl
                      clear hbs hen
                      go_wp2_with fail
                      refine bodyPost_ret (results_tmp3 rfl _ _ _) rfl ?_
                      show AllRes (parseB false t.data.toList) w _ _
                      rw [Hbad.out]
                      exact ⟨(HBc.out.trans (HQ5.out.below.mono HBc.out.size)).alloc (HBc.out.trans (HQ5.out.below.mono HBc.out.size)).size _, rfl⟩
            · have hke : k = n := by omega
              subst hke
              have Hok : Hid (parseB false t.data.toList = .ok Cs) := by
                show _ = _
                rw [Hpc.out, HC.out, show Ss.drop k = [] by rw [HnV.out, HVS.out.len]; simp]
                rfl
              have hkl := HQ.out.len
              clear HC Hgk hlt
              go_wp2_with fail
              refine bodyPost_ret (results_tmp3 rfl _ _ _) rfl ?_
              show AllRes (parseB false t.data.toList) w _ _
              rw [Hok.out]
              exact ⟨HBc.out.trans (HQ.out.below.mono HBc.out.size), A', c', cc, (by rw [← hkl]; rfl), HQ.out.slt, HQ.out.cs⟩
end Go.Proofs.YtafgmbchdcfkcaaDoor
