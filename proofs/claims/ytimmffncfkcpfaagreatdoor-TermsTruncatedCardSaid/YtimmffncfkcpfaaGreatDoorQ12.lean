/-
  The reference's items against the plain ones. No program is run here.
  The walk of the reference's Items (printed by gen_items.py).
-/
import Derived.Test.YtimmffncfkcpfaaGreatDoorQ9
import Derived.Test.YtimmffncfkcpfaaGreatDoorW13
import Derived.Test.YtimmffncfkcpfaaGreatDoorV7
import Derived.OwnWalk
namespace Go.Proofs.YtimmffncfkcpfaaGreatDoor
open Go

theorem lex_num (s : Bytes) : numHead (lexS s) = numB (lexS s) := by
  cases s with
  | nil => rfl
  | cons c s =>
    rw [lexS_cons]
    cases hS : isS c with
    | true =>
      have hd : isD c = false := by
        unfold isS at hS
        have : c = 123 ∨ c = 125 ∨ c = 59 := by simpa [or_assoc] using hS
        rcases this with rfl | rfl | rfl <;> rfl
      show isD c = numB [c]
      rw [hd]
      cases hb : numB [c] with
      | false => rfl
      | true =>
        have := (numB_cons.1 hb).1 c (by simp)
        rw [hd] at this; cases this
    | false =>
      simp only [Bool.false_eq_true, if_false]
      split
      · rename_i h
        cases hr : runT (c :: s) with
        | nil => rfl
        | cons a r =>
          rw [hr] at h
          cases hw : wordB (a :: r) with
          | true =>
            rw [word_not_num hw]
            unfold wordB at hw
            rw [Bool.and_eq_true] at hw
            exact isL_not_D hw.1
          | false =>
            rw [hw, Bool.false_or] at h
            rw [h]
            exact (numB_cons.1 h).1 a (by simp)
      · rfl
/-- What is known of the tokens ahead of the end. -/
def TokOk (N : Nat) (T : Tok) : Prop := T.text ≠ [] ∧ numHead T.text = numB T.text ∧ T.at_ < N
theorem toksF_init : ∀ (f : Nat) (s : Bytes) (a : Nat) (acc : List Tok) (x : Tok), toksF f s a = acc ++ [x] → ∀ T ∈ acc, TokOk (a + s.length) T
  | 0, s, a, acc, x, h, T, hT => by simp [toksF] at h
  | f + 1, s, a, acc, x, h, T, hT => by
    rw [toksF] at h
    split at h
    · have := congrArg List.length h
      simp at this
      have : acc = [] := this
      rw [this] at hT; cases hT
    · rename_i hne
      cases acc with
      | nil => cases hT
      | cons b r =>
        rw [List.cons_append] at h
        injection h with h1 h2
        have hk := skipS_le false s
        have hle := lexS_le (s.drop (skipS false s))
        have hp := List.length_pos_iff.2 hne
        rw [List.length_drop] at hle
        rcases List.mem_cons.1 hT with rfl | hT
        · rw [← h1]
          exact ⟨hne, lex_num _, by show a + skipS false s < _; omega⟩
        · have := toksF_init f _ _ r x h2 T hT
          refine ⟨this.1, this.2.1, ?_⟩
          have h3 := this.2.2
          rw [List.length_drop] at h3
          omega
theorem toks_init {l : Bytes} {acc : List Tok} {x : Tok} (h : toks l 0 = acc ++ [x]) : ∀ T ∈ acc, TokOk l.length T := fun T hT => by
  have := toksF_init _ _ _ acc x h T hT
  simpa using this
/-- Where the reference's loop stands. -/
structure IInv (N F : Nat) (ts0 : List Tok) (S : RSt) (xs : List RItem) : Prop where
  good : S.bad = none → Sfx S.ts ∧ (∃ f, S.ts.length ≤ f ∧ itemsT N F [] ts0 = itemsT N f (xs.map itOf) S.ts) ∧ ∀ x ∈ xs, RGood x
  bad : ∀ p, S.bad = some p → itemsT N F [] ts0 = .bad p
def muS (S : RSt) : Nat := if S.bad = none then S.ts.length else 0
def itemR (S : RSt) : RItem × RSt := if ((headR S).text == kClass) = true then classR (takeR true S).2 else tenantR (takeR ((headR S).text == kTenant) S).2
theorem itOf_eq {x : RItem} {b : Bool} (h : x.tenant = b) : itOf x = ⟨b, fieldsOf x⟩ := by rw [← h]; rfl
theorem ten_bad (ts : List Tok) (p : Nat) : ∃ x, tenantR ⟨ts, some p⟩ = (x, ⟨ts, some p⟩) := ⟨_, by simp only [tenantR, step_bad, must_badR, snap_bad, burst_bad]; rfl⟩
theorem IInv.next {N F : Nat} {ts0 ts : List Tok} {xs : List RItem} (h : IInv N F ts0 ⟨ts, none⟩ xs) (h2 : 2 ≤ ts.length) (hT : TokOk N (headR ⟨ts, none⟩)) :
    IInv N F ts0 (itemR ⟨ts, none⟩).2 (xs ++ [(itemR ⟨ts, none⟩).1]) ∧ muS (itemR ⟨ts, none⟩).2 < ts.length := by
  obtain ⟨hs, ⟨f, hf, hE⟩, hgd⟩ := h.good rfl
  obtain ⟨T, us, rfl⟩ := hs.ne
  have hhd : headR ⟨T :: us, none⟩ = T := rfl
  rw [hhd] at hT
  have hus := hs.cons hT.1
  obtain ⟨g, rfl⟩ : ∃ g, f = g + 1 := ⟨f - 1, by simp at hf; omega⟩
  have hstep : itemsT N (g + 1) (xs.map itOf) (T :: us) = (itemT (T :: us)).next fun x a => itemsT N g (xs.map itOf ++ [x]) a := by
    rw [itemsT, if_pos (show headAt (T :: us) < N from hT.2.2)]
  have htk : (takeR true ⟨T :: us, none⟩).2 = ⟨us, none⟩ := by
    unfold takeR
    dsimp only
    rw [if_pos ⟨rfl, h2⟩]; rfl
  have hgu : us.length ≤ g := by simp at hf; omega
  cases hc : (T.text == kClass) with
  | true =>
    have hce : T.text = kClass := by simpa using hc
    have hit : itemR ⟨T :: us, none⟩ = classR ⟨us, none⟩ := by
      unfold itemR
      rw [hhd, hc, if_pos rfl, htk]
    have hitem : itemT (T :: us) = (classT us).next fun fs b => .ok ⟨false, fs⟩ b := by
      unfold itemT
      rw [if_neg (by show ¬ (T.text == kTenant) = true; rw [hce]; decide)]
      unfold mustT
      rw [show takeT (· == kClass) (T :: us) = .ok T us from if_pos hc]; rfl
    rw [hit]
    rcases class_rel hus with ⟨x, vs, e1, e2, s1, l1, g1, t1⟩ | ⟨p, x, ts', e1, e2⟩
    · rw [e2]
      refine ⟨⟨fun _ => ⟨s1, ⟨g, by simp; omega, ?_⟩, fun y hy => ?_⟩, (fun p hp => by cases hp)⟩, by show (if (none : Option Nat) = none then vs.length else 0) < _; rw [if_pos rfl]; simp; omega⟩
      · rw [hE, hstep, hitem, e1, List.map_append, List.map_cons, List.map_nil, itOf_eq t1]; rfl
      · rcases List.mem_append.1 hy with hy | hy
        · exact hgd y hy
        · rw [List.mem_singleton] at hy; rw [hy]; exact g1
    · rw [e2]
      refine ⟨⟨(fun hb => by cases hb), fun q hq => ?_⟩, by show (if (some p : Option Nat) = none then _ else 0) < _; rw [if_neg (by simp)]; simp⟩
      obtain rfl : p = q := by injection hq
      rw [hE, hstep, hitem, e1]; rfl
  | false =>
    cases hk : (T.text == kTenant) with
    | true =>
      have hit : itemR ⟨T :: us, none⟩ = tenantR ⟨us, none⟩ := by
        unfold itemR
        rw [hhd, hc, hk, if_neg (by decide), htk]
      have hitem : itemT (T :: us) = (tenantT us).next fun fs b => .ok ⟨true, fs⟩ b := by
        unfold itemT
        have hh : headIs kTenant (T :: us) = true := hk
        rw [if_pos hh]
        unfold mustT
        rw [show takeT (· == kTenant) (T :: us) = .ok T us from if_pos hk]; rfl
      rw [hit]
      rcases tenant_rel hus with ⟨x, vs, e1, e2, s1, l1, g1, t1⟩ | ⟨p, x, ts', e1, e2⟩
      · rw [e2]
        refine ⟨⟨fun _ => ⟨s1, ⟨g, by simp; omega, ?_⟩, fun y hy => ?_⟩, (fun p hp => by cases hp)⟩, by show (if (none : Option Nat) = none then vs.length else 0) < _; rw [if_pos rfl]; simp; omega⟩
        · rw [hE, hstep, hitem, e1, List.map_append, List.map_cons, List.map_nil, itOf_eq t1]; rfl
        · rcases List.mem_append.1 hy with hy | hy
          · exact hgd y hy
          · rw [List.mem_singleton] at hy; rw [hy]; exact g1
      · rw [e2]
        refine ⟨⟨(fun hb => by cases hb), fun q hq => ?_⟩, by show (if (some p : Option Nat) = none then _ else 0) < _; rw [if_neg (by simp)]; simp⟩
        obtain rfl : p = q := by injection hq
        rw [hE, hstep, hitem, e1]; rfl
    | false =>
      have htb : (takeR false ⟨T :: us, none⟩).2 = ⟨T :: us, some T.at_⟩ := rfl
      obtain ⟨x, hx⟩ := ten_bad (T :: us) T.at_
      have hit : itemR ⟨T :: us, none⟩ = (x, ⟨T :: us, some T.at_⟩) := by
        unfold itemR
        rw [hhd, hc, hk, if_neg (by decide), htb, hx]
      have hitem : itemT (T :: us) = .bad T.at_ := by
        unfold itemT
        rw [if_neg (by show ¬ (T.text == kTenant) = true; rw [hk]; decide)]
        unfold mustT
        rw [show takeT (· == kClass) (T :: us) = .bad T.at_ from if_neg (by show ¬ (T.text == kClass) = true; rw [hc]; decide)]; rfl
      rw [hit]
      refine ⟨⟨(fun hb => by cases hb), fun q hq => ?_⟩, by show (if (some _ : Option Nat) = none then _ else 0) < _; rw [if_neg (by simp)]; simp⟩
      obtain rfl : T.at_ = q := by injection hq
      rw [hE, hstep, hitem]; rfl
/-- Behind the last item. -/
theorem IInv.fin {N F stop : Nat} {ts0 : List Tok} {xs : List RItem} (h : IInv N F ts0 ⟨[⟨[], stop⟩], none⟩ xs) (hs : stop ≤ N) :
    (stop = N ∧ (∃ us, itemsT N F [] ts0 = .ok (xs.map itOf) us) ∧ ∀ x ∈ xs, RGood x) ∨ (stop ≠ N ∧ itemsT N F [] ts0 = .bad stop) := by
  obtain ⟨-, ⟨f, hf, hE⟩, hgd⟩ := h.good rfl
  obtain ⟨g, rfl⟩ : ∃ g, f = g + 1 := ⟨f - 1, by simp at hf; omega⟩
  by_cases he : stop = N
  · refine .inl ⟨he, ⟨_, by rw [hE, itemsT, if_neg (by show ¬ stop < N; omega)]⟩, hgd⟩
  · refine .inr ⟨he, ?_⟩
    rw [hE, itemsT, if_pos (by show stop < N; omega)]
    rfl
end Go.Proofs.YtimmffncfkcpfaaGreatDoor
namespace Go.Proofs.YtimmffncfkcpfaaGreatDoor
open Go Go.RowKit Go.Walks

def itemL (x : RItem) : List Value := [.bool x.tenant, .string ⟨x.name.text.toArray⟩, .int .i64 (x.name.at_ : Int), .string ⟨x.other.text.toArray⟩, .int .i64 (x.other.at_ : Int), .string ⟨x.losses.text.toArray⟩, .int .i64 (x.losses.at_ : Int), .string ⟨x.whole.text.toArray⟩, .int .i64 (x.whole.at_ : Int), .string ⟨x.guar.text.toArray⟩, .int .i64 (x.guar.at_ : Int), .string ⟨x.snap.text.toArray⟩, .int .i64 (x.snap.at_ : Int), .string ⟨x.burst.text.toArray⟩, .int .i64 (x.burst.at_ : Int), .string ⟨x.rank.text.toArray⟩, .int .i64 (x.rank.at_ : Int)]
theorem itemL_len (x : RItem) : (itemL x).length = 17 := rfl
theorem itemL_one (x : RItem) : ∀ u, u ∈ itemL x → u.oneCell' = true := by
  intro u hu
  simp [itemL] at hu
  rcases hu with rfl | rfl | rfl | rfl | rfl | rfl | rfl | rfl | rfl | rfl | rfl | rfl | rfl | rfl | rfl | rfl | rfl <;> rfl
set_option maxRecDepth 100000 in
theorem so68 : SliceOf Tryz.prog 68 75 17 200 := SliceOf.mk (z := .agg #[.bool false, .string ⟨#[]⟩, .int .i64 0, .string ⟨#[]⟩, .int .i64 0, .string ⟨#[]⟩, .int .i64 0, .string ⟨#[]⟩, .int .i64 0, .string ⟨#[]⟩, .int .i64 0, .string ⟨#[]⟩, .int .i64 0, .string ⟨#[]⟩, .int .i64 0, .string ⟨#[]⟩, .int .i64 0]) Tryz.underlying68 (by omega) (by kernel_rfl) rfl
/-- While the items are read. -/
structure ITS (w : World) (r : Nat) (A : Option Addr) (c : Nat) (acc : List Tok) (stop : Nat) (S : RSt) (A2 : Option Addr) (n c2 : Nat) (xs : List RItem) (W : World) : Prop where
  below : Below w.heap.size w W
  lt : w.heap.size ≤ r
  rp : RP W r A c acc stop S
  own : W.ownsRow w.heap.size 75 17 (.slice A2 n c2) n (xs.flatMap itemL)
section
variable {w W W' : World} {r c stop n c2 A5n c5 : Nat} {A A2 A5 : Option Addr} {acc : List Tok} {S S' : RSt} {xs : List RItem}
theorem ITS.step (h : ITS w r A c acc stop S A2 n c2 xs W) (hrb : RB r W W') (hp : RP W' r A c acc stop S') : ITS w r A c acc stop S' A2 n c2 xs W' := by
  obtain ⟨_, _, _, hrow⟩ := h.rp.row
  exact ⟨h.below.trans (hrb.below h.lt h.below.size), h.lt, hp, own_rb h.own hrb hrow (by decide)⟩
theorem ITS.call (h : ITS w r A c acc stop S A2 n c2 xs W) (hb : Below W.heap.size W W') : ITS w r A c acc stop S A2 n c2 xs W' := h.step (RB.of_below hb) (h.rp.below hb)
theorem ITS.grown (h : ITS w r A c acc stop S A2 n c2 xs W) {x : RItem} {o : Obj} (ho : W'.ownsRow w.heap.size 75 17 (.slice A5 (n + 1) c5) (n + 1) (xs.flatMap itemL ++ itemL x)) (hg : (W.alloc o).grownBy W' (Value.slice A2 n c2).ownBlock) : ITS w r A c acc stop S A5 (n + 1) c5 (xs ++ [x]) W' := by
  obtain ⟨i, h1, h2, h3⟩ := h.rp.row
  have hk := keep_append (ty := 73) (by decide) h.own hg
  exact ⟨below_append h.below h.own hg, h.lt, ⟨⟨i, h1, h2, (row_grownOwn h.own hg h3 (by decide)).trans h3⟩, h.rp.sl.keepT hk hk.size⟩, by rw [List.flatMap_append, List.flatMap_cons, List.flatMap_nil, List.append_nil]; exact ho⟩
end
def itsF (t : ByteArray) : PR (List Item) := itemsT t.data.toList.length ((toks t.data.toList 0).length + 1) [] (toks t.data.toList 0)
/-- What the reference's Items hands back. -/
def ItemsP (t : ByteArray) (w : World) (e : Ending) (w' : World) : Prop := Below w.heap.size w w' ∧
  ((∃ (xs : List RItem) (us : List Tok) (A : Option Addr) (c p : Nat), itsF t = .ok (xs.map itOf) us ∧ (∀ x ∈ xs, RGood x) ∧ xs.length ≤ 2001 ∧ e = .returned (.tuple #[.slice A xs.length c, .int .i64 (p : Int), .bool true]) ∧ SlT w' w'.heap.size 75 A (xs.flatMap itemL) ∧ xs.length ≤ c ∧ c ≤ maxLen) ∨
   (∃ (p : Nat) (A : Option Addr) (n c : Nat), itsF t = .bad p ∧ p ≤ t.size ∧ e = .returned (.tuple #[.slice A n c, .int .i64 (p : Int), .bool false])))

theorem items_bad (n : Nat) : ∀ (f : Nat) (acc : List Item) (ts : List Tok), BadIn ts (itemsT n f acc ts)
  | 0, acc, ts => fun p h => by cases h
  | f + 1, acc, ts => by
    rw [itemsT]
    split
    · exact BadIn.next (item_bad ts) fun x us h => ⟨(item_in h).1, items_bad n f _ us⟩
    · exact fun p h => by cases h
theorem toksF_at : ∀ (f : Nat) (s : Bytes) (a : Nat) (T : Tok), T ∈ toksF f s a → T.at_ ≤ a + s.length
  | 0, _, _, T, h => by cases h
  | f + 1, s, a, T, h => by
    have hk := skipS_le false s
    have h1 := lexS_le (s.drop (skipS false s))
    rw [List.length_drop] at h1
    simp only [toksF] at h
    split at h
    · rw [List.mem_singleton] at h; rw [h]; show a + _ ≤ _; omega
    · rcases List.mem_cons.1 h with h | h
      · rw [h]; show a + _ ≤ _; omega
      · have := toksF_at f _ _ T h
        rw [List.length_drop] at this
        omega
theorem its_pos {t : ByteArray} {p : Nat} (h : itsF t = .bad p) : p ≤ t.size := by
  rcases items_bad _ _ _ _ p h with h | ⟨T, hT, rfl⟩
  · omega
  · have := toksF_at _ _ _ T hT
    rw [Lib.size_eq]
    simpa using this

set_option maxRecDepth 100000 in
set_option maxHeartbeats 8000000 in
theorem ritems_any (t : ByteArray) (w : World) (ht : t.size ≤ 2000) : Calls Tryz.prog 19 #[.string t] w (ItemsP t w) := by
  have HL : Hid (t.data.toList.length = t.size) := (Lib.size_eq t).symm
  go_enter Tryz.func19, Tryz.ntmps19
  go_wp2_with fail
  refine (rtokens_any t w ht).mono ?_
  rintro e w1 ⟨acc, stop, A, c, rfl, hE, hs, ha, hsl, hcap, hcm, hb1⟩
  obtain ⟨W2, hW2⟩ : ∃ W, W = w1.alloc (.cells #[.slice A acc.length c, .int .i64 (stop : Int), .int .i64 0, .bool false, .int .i64 0] 117) := ⟨_, rfl⟩
  obtain ⟨r, hr⟩ : ∃ r, r = w1.heap.size := ⟨_, rfl⟩
  have hb2 : Below w1.heap.size w1 W2 := by rw [hW2]; exact (Below.refl _ _).alloc (Nat.le_refl _) _
  have hrow : W2.heap[r]? = some (.cells (parCs A c acc stop 0 none) 117) := by rw [hW2, hr]; exact heap_new _ _
  have HK : Hid (RK c acc) := ⟨by omega, hcap, fun T hT => by
    have := toks_tl (l := t.data.toList) (a := 0) (T := T) (by rw [hE]; simp [hT])
    rw [HL.out] at this; omega⟩
  have HI0 : Hid (ITS w r A c acc stop ⟨acc ++ [⟨[], stop⟩], none⟩ none 0 0 [] W2) := ⟨hb1.trans (hb2.mono hb1.size), by rw [hr]; exact hb1.size, ⟨⟨0, Nat.zero_le _, rfl, hrow⟩, hsl.below hb2 hb2.size⟩, own_nil _ _ _ _⟩
  have HTok := Lib.hid (toks_init hE)
  have HV0 : Hid (IInv t.data.toList.length ((toks t.data.toList 0).length + 1) (toks t.data.toList 0) ⟨acc ++ [⟨[], stop⟩], none⟩ []) := by
    refine ⟨fun _ => ⟨⟨acc, stop, rfl, fun T hT => (HTok.out T hT).2.1⟩, ⟨(toks t.data.toList 0).length + 1, by rw [hE]; show (acc ++ _).length ≤ _; omega, by show _ = itemsT _ _ [] (acc ++ _); rw [← hE]⟩, fun x hx => by cases hx⟩, fun p hp => by cases hp⟩
  have hcap2 : acc.length ≤ c := hcap
  have Hcm := Lib.hid hcm
  have hn2000 : acc.length ≤ 2000 := by omega
  clear hb1 hb2 hrow hE hsl hcap hcm
  go_wp2_with fail
  rw [← hr, ← hW2]
  clear hW2 hr
  go_loopg [8] (acc.length + 1) (fun g s8 wr => ∃ (A2 : Option Addr) (n c2 : Nat) (xs : List RItem) (S : RSt), s8 = .slice A2 n c2 ∧ g = muS S ∧ n = xs.length ∧ n + muS S ≤ acc.length + 1 ∧ Hid (ITS w r A c acc stop S A2 n c2 xs wr) ∧ Hid (IInv t.data.toList.length ((toks t.data.toList 0).length + 1) (toks t.data.toList 0) S xs))
  case atStart => exact ⟨none, 0, 0, [], ⟨acc ++ [⟨[], stop⟩], none⟩, rfl, by show _ = (acc ++ _).length; simp, rfl, by show 0 + (acc ++ _).length ≤ _; simp, HI0, HV0⟩
  case round =>
    obtain ⟨A2, n, c2, xs, S, rfl, hg, hn, hnm, HI, HV⟩ := hrel
    have Hg := Lib.hid hg
    have Hn := Lib.hid hn
    have Hnm := Lib.hid hnm
    clear hg hn hnm HI0 HV0
    obtain ⟨i, hi, hts, hrow⟩ := HI.out.rp.row
    obtain ⟨ts, bad⟩ := S
    dsimp only at hts hrow
    have hlen := rts_len hts rfl
    cases bad with
    | some p =>
      have hBad := HV.out.bad p rfl
      have HBad := Lib.hid hBad
      unfold parCs at hrow
      dsimp only [Option.isSome, Option.getD] at hrow
      obtain ⟨x0, x1, x2, x3, x4, -⟩ := five_cells hrow
      have hp : p ≤ t.size := its_pos hBad
      clear hrow hBad
      by_cases hlt : i < acc.length
      · have hI1 : (i : Int) < (acc.length : Int) := by omega
        go_wp2_with fail
        go_quiet (fail)
        go_wp2_with fail
        go_ret3
        exact ⟨below_drewN HI.out.below _, .inr ⟨p, none, 0, 0, HBad.out, hp, rfl⟩⟩
      · have hI1 : ¬ (i : Int) < (acc.length : Int) := by omega
        go_wp2_with fail
        go_quiet (fail)
        go_wp2_with fail
        go_ret3
        exact ⟨below_drewN HI.out.below _, .inr ⟨p, none, 0, 0, HBad.out, hp, rfl⟩⟩
    | none =>
      unfold parCs at hrow
      dsimp only [Option.isSome, Option.getD] at hrow
      have hrow2 : wr.heap[r]? = some (.cells #[.slice A acc.length c, .int .i64 (stop : Int), .int .i64 (i : Int), .bool false, .int .i64 0] 117) := hrow
      obtain ⟨x0, x1, x2, x3, x4, -⟩ := five_cells hrow2
      clear hrow hrow2
      by_cases hlt : i < acc.length
      · have hI1 : (i : Int) < (acc.length : Int) := by omega
        have hbn : n + 1 ≤ maxLen := by unfold maxLen; have := Hnm.out; omega
        have hby : (n + 1) * 200 ≤ 140737488355328 := by have := Hnm.out; omega
        obtain ⟨T, hT⟩ : ∃ T, T = headR ⟨ts, none⟩ := ⟨_, rfl⟩
        have hTo : TokOk t.data.toList.length (headR ⟨ts, none⟩) := by
          unfold headR
          dsimp only
          rw [hts, List.head?_drop, List.getElem?_append_left hlt, List.getElem?_eq_getElem hlt]
          exact HTok.out _ (List.getElem_mem hlt)
        have HTo := Lib.hid hTo
        have hn := next_any wr HI.out.rp hn2000 hcap2
        rw [← hT] at hn
        have Hnext := Lib.hid hn
        have HTe := Lib.hid hT
        have hf := fld73
        clear hn hT hTo hts
        go_wp2_with fail
        refine Hnext.out.mono ?_
        unfold TokV strV
        rintro e v1 ⟨rfl, hb⟩
        have HI1 := Lib.hid (HI.out.call hb)
        clear hb x0 x1 x2 x3 x4
        cases hq1 : (T.text == [99, 108, 97, 115, 115]) with
        | true =>
          have hk1 : ((headR ⟨ts, none⟩).text == kClass) = true := by rw [← HTe.out]; exact hq1
          have HK1 := Lib.hid hk1
          clear hk1
          go_wp2_with fail
          refine (rtake_any true v1 HI1.out.rp hn2000 hcap2).mono ?_
          rintro e v2 ⟨rfl, hrb, hp⟩
          have HI2 := Lib.hid (HI1.out.step hrb hp)
          clear hrb hp
          unfold TokV strV
          go_wp2_with fail
          have hcl := rclass_any v2 HI2.out.rp HK
          obtain ⟨z, hz⟩ : ∃ z, z = classR (takeR true ⟨ts, none⟩).2 := ⟨_, rfl⟩
          rw [← hz] at hcl
          have hzi : itemR ⟨ts, none⟩ = z := by
            unfold itemR
            rw [if_pos HK1.out, hz]
          obtain ⟨hV2, hmu⟩ := HV.out.next (by omega) HTo.out
          rw [hzi] at hV2 hmu
          have HV2 := Lib.hid hV2
          have hmu2 : muS z.2 < gk := by rw [Hg.out]; show _ < ts.length; exact hmu
          have hnb : n + 1 + muS z.2 ≤ acc.length + 1 := by have := Hnm.out; have : muS ⟨ts, none⟩ = ts.length := rfl; omega
          have Hnb := Lib.hid hnb
          have Hmu := Lib.hid hmu2
          refine hcl.mono ?_
          rintro e v3 ⟨rfl, hrb, hp⟩
          have HI3 := Lib.hid (HI2.out.step hrb hp)
          clear hrb hp hcl hz hzi hV2 hmu hmu2 hnb hlen
          obtain ⟨x, S2⟩ := z
          unfold itemA
          dsimp only
          dsimp only at HI3 HV2 Hnb Hmu
          go_wp2_with (at_builtin; refine wpList_append_sl rfl _ _ 68 rfl rfl rfl so68 (HI3.out.own.alloc _) (m := 1) (news := itemL x) rfl (Sl.new _ _ _) (itemL_one x) hbn hby (Nat.le_trans HI3.out.below.size (by simp)) ?_; intro A5 c5 w5 ho5 hg5; have HI5 := Lib.hid (HI3.out.grown ho5 hg5); clear ho5 hg5)
          go_roundg (muS S2)
          case measure => exact Hmu.out
          case rel => exact ⟨A5, n + 1, c5, xs ++ [x], S2, rfl, rfl, by rw [List.length_append, ← Hn.out]; rfl, Hnb.out, HI5, HV2⟩
        | false =>
          have hk1 : ((headR ⟨ts, none⟩).text == kClass) = false := by rw [← HTe.out]; exact hq1
          have HK1 := Lib.hid hk1
          clear hk1
          cases hq2 : (T.text == [116, 101, 110, 97, 110, 116]) with
          | true =>
            have hk2 : ((headR ⟨ts, none⟩).text == kTenant) = true := by rw [← HTe.out]; exact hq2
            have HK2 := Lib.hid hk2
            clear hk2
            go_wp2_with fail
            refine (rtake_any true v1 HI1.out.rp hn2000 hcap2).mono ?_
            rintro e v2 ⟨rfl, hrb, hp⟩
            have HI2 := Lib.hid (HI1.out.step hrb hp)
            clear hrb hp
            unfold TokV strV
            go_wp2_with fail
            have hcl := rtenant_any v2 HI2.out.rp HK
            obtain ⟨z, hz⟩ : ∃ z, z = tenantR (takeR true ⟨ts, none⟩).2 := ⟨_, rfl⟩
            rw [← hz] at hcl
            have hzi : itemR ⟨ts, none⟩ = z := by
              unfold itemR
              rw [if_neg (by rw [HK1.out]; decide), HK2.out, hz]
            obtain ⟨hV2, hmu⟩ := HV.out.next (by omega) HTo.out
            rw [hzi] at hV2 hmu
            have HV2 := Lib.hid hV2
            have hmu2 : muS z.2 < gk := by rw [Hg.out]; show _ < ts.length; exact hmu
            have hnb : n + 1 + muS z.2 ≤ acc.length + 1 := by have := Hnm.out; have : muS ⟨ts, none⟩ = ts.length := rfl; omega
            have Hnb := Lib.hid hnb
            have Hmu := Lib.hid hmu2
            refine hcl.mono ?_
            rintro e v3 ⟨rfl, hrb, hp⟩
            have HI3 := Lib.hid (HI2.out.step hrb hp)
            clear hrb hp hcl hz hzi hV2 hmu hmu2 hnb hlen
            obtain ⟨x, S2⟩ := z
            unfold itemA
            dsimp only
            dsimp only at HI3 HV2 Hnb Hmu
            go_wp2_with (at_builtin; refine wpList_append_sl rfl _ _ 68 rfl rfl rfl so68 (HI3.out.own.alloc _) (m := 1) (news := itemL x) rfl (Sl.new _ _ _) (itemL_one x) hbn hby (Nat.le_trans HI3.out.below.size (by simp)) ?_; intro A5 c5 w5 ho5 hg5; have HI5 := Lib.hid (HI3.out.grown ho5 hg5); clear ho5 hg5)
            go_roundg (muS S2)
            case measure => exact Hmu.out
            case rel => exact ⟨A5, n + 1, c5, xs ++ [x], S2, rfl, rfl, by rw [List.length_append, ← Hn.out]; rfl, Hnb.out, HI5, HV2⟩
          | false =>
            have hk2 : ((headR ⟨ts, none⟩).text == kTenant) = false := by rw [← HTe.out]; exact hq2
            have HK2 := Lib.hid hk2
            clear hk2
            go_wp2_with fail
            refine (rtake_any false v1 HI1.out.rp hn2000 hcap2).mono ?_
            rintro e v2 ⟨rfl, hrb, hp⟩
            have HI2 := Lib.hid (HI1.out.step hrb hp)
            clear hrb hp
            unfold TokV strV
            go_wp2_with fail
            have hcl := rtenant_any v2 HI2.out.rp HK
            obtain ⟨z, hz⟩ : ∃ z, z = tenantR (takeR false ⟨ts, none⟩).2 := ⟨_, rfl⟩
            rw [← hz] at hcl
            have hzi : itemR ⟨ts, none⟩ = z := by
              unfold itemR
              rw [if_neg (by rw [HK1.out]; decide), HK2.out, hz]
            obtain ⟨hV2, hmu⟩ := HV.out.next (by omega) HTo.out
            rw [hzi] at hV2 hmu
            have HV2 := Lib.hid hV2
            have hmu2 : muS z.2 < gk := by rw [Hg.out]; show _ < ts.length; exact hmu
            have hnb : n + 1 + muS z.2 ≤ acc.length + 1 := by have := Hnm.out; have : muS ⟨ts, none⟩ = ts.length := rfl; omega
            have Hnb := Lib.hid hnb
            have Hmu := Lib.hid hmu2
            refine hcl.mono ?_
            rintro e v3 ⟨rfl, hrb, hp⟩
            have HI3 := Lib.hid (HI2.out.step hrb hp)
            clear hrb hp hcl hz hzi hV2 hmu hmu2 hnb hlen
            obtain ⟨x, S2⟩ := z
            unfold itemA
            dsimp only
            dsimp only at HI3 HV2 Hnb Hmu
            go_wp2_with (at_builtin; refine wpList_append_sl rfl _ _ 68 rfl rfl rfl so68 (HI3.out.own.alloc _) (m := 1) (news := itemL x) rfl (Sl.new _ _ _) (itemL_one x) hbn hby (Nat.le_trans HI3.out.below.size (by simp)) ?_; intro A5 c5 w5 ho5 hg5; have HI5 := Lib.hid (HI3.out.grown ho5 hg5); clear ho5 hg5)
            go_roundg (muS S2)
            case measure => exact Hmu.out
            case rel => exact ⟨A5, n + 1, c5, xs ++ [x], S2, rfl, rfl, by rw [List.length_append, ← Hn.out]; rfl, Hnb.out, HI5, HV2⟩
      · have hI1 : ¬ (i : Int) < (acc.length : Int) := by omega
        have hie : i = acc.length := by omega
        have hte : ts = [⟨[], stop⟩] := by rw [hts, hie, List.drop_left]
        rw [hte] at HV
        have hsN : stop ≤ t.data.toList.length := by rw [HL.out]; exact hs
        clear hts
        rcases HV.out.fin hsN with ⟨he, ⟨us, hok⟩, hgd⟩ | ⟨hne, hbad⟩
        · have hq : ((stop : Int) == (t.size : Int)) = true := by rw [beq_iff_eq]; have := HL.out; omega
          have Hok : Hid (itsF t = .ok (xs.map itOf) us) := hok
          have Hgd := Lib.hid hgd
          clear hok hgd he
          go_wp2_with fail
          go_ret3
          obtain ⟨A', c', e', hs', h1, h2⟩ := SlT.of_own HI.out.own
          injection e' with e1 _ e3
          subst e1 e3
          have hnx := Hn.out
          subst hnx
          exact ⟨HI.out.below, .inl ⟨xs, us, A2, c2, stop, Hok.out, Hgd.out, by have := Hnm.out; omega, rfl, hs', h1, h2⟩⟩
        · have hq : ((stop : Int) == (t.size : Int)) = false := by rw [beq_eq_false_iff_ne]; have := HL.out; omega
          have Hbad : Hid (itsF t = .bad stop) := hbad
          clear hbad hne
          go_wp2_with fail
          go_ret3
          exact ⟨HI.out.below, .inr ⟨stop, A2, n, c2, Hbad.out, hs, rfl⟩⟩
end Go.Proofs.YtimmffncfkcpfaaGreatDoor
