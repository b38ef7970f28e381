/-
  The walks of the reference's numbers and one.
-/
import Derived.Test.YtafgmbchdcfkcaaDoorR4
import Derived.Deep.DeepCutAuto
namespace Go.Proofs.YtafgmbchdcfkcaaDoor
open Go Go.RowKit Go.Walks

def numsU (x : PR Unit) : PR Unit := x.next fun _ ts => (numsT ts).next fun _ a => .ok () a
def NumsU (gp : Nat) (l : List Tok) (At : Option Addr) (ct : Nat) (x : PR Unit) (w : World) (e : Ending) (w' : World) : Prop :=
  ∃ ns A c, e = .returned (.slice A ns.length c) ∧ ns ≠ [] ∧ SlT w' w'.heap.size 46 A (tokRs ns) ∧ (∀ u ts ns' a, x = .ok u ts → numsT ts = .ok ns' a → ns = ns') ∧ RAt w' gp l At ct (numsU x) ∧ RB gp w w'
/-- Where the loop stands. -/
def NumI (x y : PR Unit) (acc : List Tok) : Prop := (∃ p, y = .bad p ∧ numsU x = .bad p ∧ ∀ u ts, x = .ok u ts → ∃ q, numsT ts = .bad q) ∨ (∃ u ts u' ts' T a, x = .ok u ts ∧ y = .ok u' ts' ∧ kindT 2 ts = .ok T a ∧ acc ++ ts'.takeWhile isN = T :: a.takeWhile isN ∧ ts'.dropWhile isN = a.dropWhile isN)
def leftU : PR Unit → Nat
  | .ok _ ts => ts.length + 1
  | .bad _ => 0
structure NS (w : World) (gp : Nat) (l : List Tok) (At : Option Addr) (ct : Nat) (y : PR Unit) (A : Option Addr) (n c : Nat) (acc : List Tok) (W : World) : Prop where
  at_ : RAt W gp l At ct y
  rb : RB gp w W
  o : W.ownsRow w.heap.size 46 4 (.slice A n c) n (tokRs acc)
section
variable {w W W' : World} {gp : Nat} {l : List Tok} {At : Option Addr} {ct : Nat} {x y : PR Unit}
theorem RAt.row (h : RAt w gp l At ct x) : ∃ cs : Array Value, w.heap[gp]? = some (.cells cs 74) := by
  cases x with
  | ok u ts => obtain ⟨i, h1, h2⟩ := h; exact ⟨_, h1.row⟩
  | bad p => obtain ⟨i, h1, h2⟩ := h; exact ⟨_, h1.row⟩
theorem RAt.sl (h : RAt w gp l At ct x) : SlT w w.heap.size 46 At (tokRs l) := by
  cases x with
  | ok u ts => obtain ⟨i, h1, h2⟩ := h; exact h1.sl
  | bad p => obtain ⟨i, h1, h2⟩ := h; exact h1.sl
/-- The parser in a later world in which its own block is as it was in W. -/
theorem RAt.keep (h0 : RAt w gp l At ct x) (h : RAt W gp l At ct y) (hr : W'.heap[gp]? = W.heap[gp]?) (hb : RB gp w W') : RAt W' gp l At ct y := by
  obtain ⟨cs, hcs⟩ := h0.row
  have hs : SlT W' W'.heap.size 46 At (tokRs l) := h0.sl.keepT (KeepT.rb hb hcs (by decide)) hb.size
  cases y with
  | ok u ts => obtain ⟨i, h1, h2⟩ := h; exact ⟨i, ⟨hr.trans h1.row, hs⟩, h2⟩
  | bad p => obtain ⟨i, h1, h2⟩ := h; exact ⟨i, ⟨hr.trans h1.row, hs⟩, h2⟩
theorem RAt.drewN (h : RAt w gp l At ct x) (q : Nat) : RAt (w.drewN q) gp l At ct x := h.below (below_drewN (Below.refl _ _) q)
theorem RAt.lt (h : RAt w gp l At ct x) : gp < w.heap.size := by obtain ⟨cs, hcs⟩ := h.row; exact (Array.getElem?_eq_some_iff.1 hcs).1
end

theorem own_one (w : World) (T : Tok) (B : Nat) (hB : B ≤ w.heap.size) : (w.alloc (.cells (tokR T) 46)).ownsRow B 46 4 (.slice (some ⟨w.heap.size, 0, none⟩) 1 1) 1 (tokRs [T]) :=
  ⟨rfl, .inr ⟨w.heap.size, 1, tokR T, rfl, hB, heap_new _ _, Nat.le_refl _, by unfold maxLen; omega, rfl, rfl⟩⟩
theorem numI_start {x : PR Unit} {T : Tok} (hf : Front T x) : NumI x (kindU 2 x) [T] := by
  cases x with
  | bad p => exact .inl ⟨p, rfl, rfl, fun u ts e => by cases e⟩
  | ok u ts =>
    obtain ⟨r, rfl⟩ := hf u ts rfl
    cases hk : kindT 2 (T :: r) with
    | bad q =>
      refine .inl ⟨q, ?_, ?_, fun u' ts' e => ⟨q, ?_⟩⟩
      · show (kindT 2 (T :: r)).next _ = _; rw [hk]; rfl
      · show (numsT (T :: r)).next _ = _; unfold numsT; rw [hk]; rfl
      · injection e with _ e; rw [← e]; unfold numsT; rw [hk]; rfl
    | ok T' a =>
      obtain ⟨q, hq, hk2, rfl⟩ := kindT_mem hk
      injection hq with h1 h2
      subst h1; subst h2
      refine .inr ⟨u, _, (), _, T, _, rfl, ?_, hk, rfl, rfl⟩
      show (kindT 2 (T :: _)).next _ = _
      rw [hk]; rfl
theorem numI_step {x : PR Unit} {T : Tok} {r : List Tok} {u : Unit} {acc : List Tok} (h : NumI x (.ok u (T :: r)) acc) (hk : T.kind = 2) : NumI x (.ok () r) (acc ++ [T]) := by
  rcases h with ⟨p, h, _⟩ | ⟨u1, ts1, u', ts', T1, a, h1, h2, h3, h4, h5⟩
  · cases h
  · injection h2 with _ h2
    subst h2
    have hn : isN T = true := by unfold isN; simp [hk]
    rw [List.takeWhile_cons, if_pos hn] at h4
    rw [List.dropWhile_cons, if_pos hn] at h5
    exact .inr ⟨u1, ts1, (), r, T1, a, h1, rfl, h3, by rw [List.append_assoc]; exact h4, h5⟩
theorem numI_end {x : PR Unit} {T : Tok} {r : List Tok} {u : Unit} {acc : List Tok} (h : NumI x (.ok u (T :: r)) acc) (hk : T.kind ≠ 2) : numsU x = .ok () (T :: r) ∧ ∀ u ts ns' a, x = .ok u ts → numsT ts = .ok ns' a → acc = ns' := by
  rcases h with ⟨p, h, _⟩ | ⟨u1, ts1, u', ts', T1, a, h1, h2, h3, h4, h5⟩
  · cases h
  · injection h2 with _ h2
    subst h2
    have hn : ¬ isN T = true := by unfold isN; simp [hk]
    rw [List.takeWhile_cons, if_neg hn, List.append_nil] at h4
    rw [List.dropWhile_cons, if_neg hn] at h5
    have hnt : numsT ts1 = .ok (T1 :: a.takeWhile isN) (a.dropWhile isN) := by unfold numsT; rw [h3]; rfl
    refine ⟨?_, fun u ts ns' b hx hb => ?_⟩
    · rw [h1]
      show (numsT ts1).next _ = _
      rw [hnt, ← h5]; rfl
    · rw [h1] at hx
      injection hx with _ hx
      subst hx
      rw [hnt] at hb
      injection hb with hb _
      rw [h4, hb]
theorem numI_bad {x : PR Unit} {p : Nat} {acc : List Tok} (h : NumI x (.bad p) acc) : numsU x = .bad p ∧ ∀ u ts ns' a, x = .ok u ts → numsT ts = .ok ns' a → acc = ns' := by
  rcases h with ⟨q, h, h1, h2⟩ | ⟨u1, ts1, u', ts', T1, a, h1, h2, h3, h4, h5⟩
  · injection h with h
    subst h
    refine ⟨h1, fun u ts ns' a hx hb => ?_⟩
    obtain ⟨q, hq⟩ := h2 u ts hx
    rw [hq] at hb
    cases hb
  · cases h2
theorem NS.step {w W W' : World} {gp : Nat} {l : List Tok} {At A A' : Option Addr} {ct n c c' : Nat} {x y : PR Unit} {acc : List Tok} {T : Tok} {o : Obj} (h0 : RAt w gp l At ct x) (h : NS w gp l At ct y A n c acc W) (ho : W'.ownsRow w.heap.size 46 4 (.slice A' (n + 1) c') (n + 1) (tokRs acc ++ (tokR T).toList)) (hg : (W.alloc o).grownBy W' (Value.slice A n c).ownBlock) : NS w gp l At ct y A' (n + 1) c' (acc ++ [T]) W' := by
  obtain ⟨cs, hcs⟩ := h.at_.row
  have hrb := rb_grownOwn h.rb h.o hg
  exact ⟨h0.keep h.at_ (row_grownOwn h.o hg hcs (by decide)) hrb, hrb, by rw [tokRs_snoc]; exact ho⟩

set_option maxRecDepth 100000 in
set_option maxHeartbeats 4000000 in
theorem nums_R {l : List Tok} (hw : WFl l) (hl : l.length ≤ 2001) {x : PR Unit} (gp : Nat) (At : Option Addr) (ct : Nat) (w : World) (Hx : Hid (RAt w gp l At ct x)) :
    Calls Tryd.prog 65 #[.pointer (some ⟨gp, 0, none⟩)] w (NumsU gp l At ct x w) := by
  have hlt := Hx.out.lt
  go_enter Tryd.func65, Tryd.ntmps65
  go_wp2_with fail
  refine (kind_R hw hl 2 (by omega) Hx.out).mono ?_
  rintro e w1 ⟨T, rfl, hf, hr, hb⟩
  have hN : NS w gp l At ct (kindU 2 x) (some ⟨w1.heap.size, 0, none⟩) 1 1 [T] (w1.alloc (.cells (tokR T) 46)) := ⟨hr.below ((Below.refl _ _).alloc (Nat.le_refl _) _), hb.alloc _, own_one w1 T _ hb.size⟩
  have HN := Lib.hid hN
  have HI := Lib.hid (numI_start hf)
  have hleft : leftU (kindU 2 x) ≤ 2002 := by
    cases hk : kindU 2 x with
    | bad p => simp [leftU]
    | ok u ts =>
      rw [hk] at hr
      obtain ⟨i, -, -, rfl⟩ := hr
      simp only [leftU, List.length_drop]
      omega
  clear hf hr hb hN
  unfold tokR
  go_wp2_with fail
  go_loopg [3] (leftU (kindU 2 x)) (fun g s3 wr => ∃ (y : PR Unit) (A : Option Addr) (n c : Nat) (acc : List Tok), s3 = .slice A n c ∧ n = acc.length ∧ 0 < n ∧ g = leftU y ∧ n + leftU y ≤ 2010 ∧ Hid (NS w gp l At ct y A n c acc wr) ∧ Hid (NumI x y acc))
  case atStart => exact ⟨kindU 2 x, _, 1, 1, [T], rfl, rfl, by omega, rfl, by omega, HN.out, HI.out⟩
  case round =>
    obtain ⟨y, A, n, c, acc, rfl, hn, hn0, hg, hny, HS, HJ⟩ := hrel
    have Hn := Lib.hid hn
    have Hgg := Lib.hid hg
    clear hn hg
    cases y with
    | bad p =>
      obtain ⟨i, hp, hi⟩ := HS.out.at_
      obtain ⟨c0, c1, c2, -, -, -⟩ := hp.cells
      have q0 : ¬ (p : Int) < 0 := by omega
      have q1 : decide ((p : Int) < 0) = false := decide_eq_false q0
      have He := Lib.hid (numI_bad HJ.out)
      clear hp
      go_upto_region 2 with fail
      go_quiet (fail)
      go_wp2_with fail
      go_ret
      obtain ⟨A', c', e', hs', -, -⟩ := SlT.of_own HS.out.o
      injection e' with e1 _ _
      subst e1
      have hne : acc ≠ [] := fun e => by have := Hn.out; rw [e] at this; simp at this; omega
      have hlen := Hn.out; subst hlen; exact ⟨acc, A, c, rfl, hne, hs', He.out.2, by rw [He.out.1]; exact HS.out.at_.drewN _, HS.out.rb.drewN _⟩
    | ok u ts =>
      obtain ⟨i, hp, hi, hts⟩ := HS.out.at_
      obtain ⟨c0, c1, c2, -, -, -⟩ := hp.cells
      have hget := List.getElem?_eq_getElem hi
      obtain ⟨b, o, hA, hbl, t0, t1, t2, t3⟩ := hp.tok hget
      rw [hA] at c0
      have hI1 : (0 : Int) ≤ (i : Int) := by omega
      have hI2 : (i : Int) < (l.length : Int) := by omega
      have hts2 : ts = l[i] :: l.drop (i + 1) := by rw [hts]; exact drop_get hi
      have Hts := Lib.hid hts2
      have Hlen : Hid (leftU (.ok u ts) = l.length - i + 1) := by show _ = _; rw [hts]; simp [leftU]
      clear hp hts hts2 hget hA hbl t0 t1 t3
      by_cases hk : l[i].kind = 2
      · have q0 : ((l[i].kind : Int) == 2) = true := by rw [beq_iff_eq]; omega
        have HJ2 : Hid (NumI x (.ok () (l.drop (i + 1))) (acc ++ [l[i]])) := by
          have := HJ.out
          rw [Hts.out] at this
          exact numI_step this hk
        have HK := Lib.hid hk
        have hb1 : n + 1 ≤ maxLen := by have := Hlen.out; unfold maxLen; omega
        have hb2 : (n + 1) * 40 ≤ 140737488355328 := by omega
        clear hk
        go_upto_region 2 with fail
        go_quiet (fail)
        clear c0 c1 c2 t2 q0 hI1 hI2
        go_wp2_with fail
        refine (kind_R hw hl 2 (by omega) (HS.out.at_.drewN nq)).mono ?_
        rintro e w2 ⟨T', rfl, hf, hr, hb⟩
        have hT' : T' = l[i] := by
          obtain ⟨r, hr⟩ := hf u ts rfl
          rw [Hts.out] at hr
          injection hr with hr _
          exact hr.symm
        subst hT'
        have hst : kindU 2 (.ok u ts) = .ok () (l.drop (i + 1)) := by
          show (kindT 2 ts).next _ = _
          rw [Hts.out, kindT, if_pos HK.out]; rfl
        rw [hst] at hr
        obtain ⟨cs, hcs⟩ := HS.out.at_.row
        have hN2 : NS w gp l At ct (.ok () (l.drop (i + 1))) A n c acc w2 := ⟨hr, (HS.out.rb.drewN nq).trans hb, own_rb (w := wr.drewN nq) (show (wr.drewN nq).ownsRow _ _ _ _ _ _ from HS.out.o) hb (show (wr.drewN nq).heap[gp]? = _ from hcs) (by decide)⟩
        have HN2 := Lib.hid hN2
        clear hf hr hb hst hcs hN2
        unfold tokR
        go_wp2_with (at_builtin; refine wpList_append_sl rfl _ _ 43 rfl rfl rfl so43 (HN2.out.o.alloc _) (m := 1) (news := [strV l[i].text, .int .i64 (l[i].at_ : Int), .int .i64 (l[i].kind : Int), .int .i64 (l[i].n : Int)]) rfl (Sl.new _ _ _) ?_ hb1 hb2 (Nat.le_trans HN2.out.rb.size (by simp)) ?_; (intro u hu; simp at hu; rcases hu with rfl | rfl | rfl | rfl <;> rfl); intro A5 c5 w5 ho5 hg5; have HN5 := Lib.hid (NS.step (T := l[i]) Hx.out HN2.out ho5 hg5); clear ho5 hg5)
        go_roundg (leftU (.ok () (l.drop (i + 1))))
        case measure => rw [Hgg.out, Hlen.out]; simp only [leftU, List.length_drop]; omega
        case rel => exact ⟨.ok () (l.drop (i + 1)), A5, n + 1, c5, acc ++ [l[i]], rfl, by rw [Hn.out]; simp, by omega, rfl, by have := Hlen.out; simp only [leftU, List.length_drop]; omega, HN5.out, HJ2.out⟩
      · have q0 : ((l[i].kind : Int) == 2) = false := by rw [beq_eq_false_iff_ne]; omega
        have He : Hid (numsU x = .ok () ts ∧ ∀ u ts ns' a, x = .ok u ts → numsT ts = .ok ns' a → acc = ns') := by
          have := HJ.out
          rw [Hts.out] at this
          have h2 := numI_end this hk
          rw [← Hts.out] at h2
          exact h2
        clear hk
        go_upto_region 2 with fail
        go_quiet (fail)
        go_wp2_with fail
        go_ret
        obtain ⟨A', c', e', hs', -, -⟩ := SlT.of_own HS.out.o
        injection e' with e1 _ _
        subst e1
        have hne : acc ≠ [] := fun e => by have := Hn.out; rw [e] at this; simp at this; omega
        have hlen := Hn.out; subst hlen; exact ⟨acc, A, c, rfl, hne, hs', He.out.2, by rw [He.out.1]; exact HS.out.at_.drewN _, HS.out.rb.drewN _⟩
end Go.Proofs.YtafgmbchdcfkcaaDoor
