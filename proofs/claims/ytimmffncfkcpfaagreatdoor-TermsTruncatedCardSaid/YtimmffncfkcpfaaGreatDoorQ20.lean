/-
  The walk of the reference's Parse (printed by gen_parse.py).
-/
import Derived.Test.YtimmffncfkcpfaaGreatDoorQ17
import Derived.Deep.MidRow
namespace Go.Proofs.YtimmffncfkcpfaaGreatDoor
open Go Go.RowKit Go.Walks

set_option maxRecDepth 100000 in
theorem info33 : (Tryz.prog.info? 33).map (·.size) = some 5 := by kernel_rfl
set_option maxRecDepth 100000 in
theorem res7 (tmps : Array Value) (w : World) (g : Nat) (a b c d e : Value) (hp : tmps.getD 2 undef = .pointer (some ⟨g, 0, none⟩)) (hg : w.heap[g]? = some (.cells #[a, b, c, d, e] 33)) :
    (results Tryz.f7 tmps).run Tryz.prog w = .ok (.agg #[a, b, c, d, e]) w :=
  results_cell_row (p := 2) (ty := 33) rfl tmps w g 33 #[a, b, c, d, e] (0, 0) _ hp hg Tryz.underlying33 rfl info33
/-- What the reference's Parse hands back. -/
def RParseP (t : ByteArray) (w : World) (e : Ending) (w' : World) : Prop := Below w.heap.size w w' ∧ match parseB t.data.toList with
  | .ok T => ∃ A n c A' m d, e = .returned (.agg #[.slice A n c, .slice A' m d, .int .i64 0, .int .i64 0, .int .i64 0]) ∧ TermsV w' T (.agg #[.slice A n c, .slice A' m d])
  | .bad p en => ∃ s1 s2, spotR t p = #[s1, s2] ∧ e = .returned (.agg #[.slice none 0 0, .slice none 0 0, s1, s2, .int .i64 (en : Int)])
theorem parse_its {t : ByteArray} (h : t.size ≤ 2000) : parseB t.data.toList = itemsB (itsF t) := if_neg (by rw [← Lib.size_eq]; omega)
theorem spot_its {t : ByteArray} {p : Nat} (h : t.size ≤ 2000) : spotR t p = spotV t p := if_neg (by omega)
def termsOf (xs : List RItem) : TermsD := xs.foldl pushT ⟨[], []⟩
theorem termsOf_snoc {xs : List RItem} {k : Nat} {x : RItem} (h : xs[k]? = some x) : termsOf (xs.take (k + 1)) = pushT (termsOf (xs.take k)) x := by
  unfold termsOf
  rw [List.take_add_one, h]
  simp
theorem fold_push : ∀ (xs : List RItem) (T : TermsD), xs.foldl pushT T = ⟨T.classes ++ (xs.filter fun x => !x.tenant).map clsOf, T.contracts ++ (xs.filter fun x => x.tenant).map ctrOf⟩
  | [], T => by simp
  | x :: xs, T => by
    rw [List.foldl_cons, fold_push xs]
    unfold pushT
    cases h : x.tenant <;> simp [h]
theorem termsOf_eq (xs : List RItem) : termsOf xs = ⟨(xs.filter fun x => !x.tenant).map clsOf, (xs.filter fun x => x.tenant).map ctrOf⟩ := by
  unfold termsOf
  rw [fold_push]; simp
theorem names_eq (xs : List RItem) : classNames (xs.map itOf) = (termsOf xs).classes.map ClassD.name := by
  rw [termsOf_eq]
  unfold classNames
  rw [List.filter_map, List.map_map, List.map_map]
  have hp : ((fun x => !x.tenant) ∘ itOf) = fun x : RItem => !x.tenant := rfl
  rw [hp]
  refine List.map_congr_left fun x hx => ?_
  have : x.tenant = false := by simpa using (List.mem_filter.1 hx).2
  show (firstF (itOf x)).text = x.name.text
  unfold firstF itOf fieldsOf
  rw [this]; rfl
theorem pre_c (xs : List RItem) (i : Nat) : (termsOf xs).classes.take (termsOf (xs.take i)).classes.length = (termsOf (xs.take i)).classes := by
  rw [termsOf_eq, termsOf_eq]
  dsimp only
  conv => lhs; rw [← List.take_append_drop i xs]
  rw [List.filter_append, List.map_append]
  rw [List.take_append_drop i xs]
  exact List.take_left
theorem pre_d (xs : List RItem) (i : Nat) : (termsOf xs).contracts.take (termsOf (xs.take i)).contracts.length = (termsOf (xs.take i)).contracts := by
  rw [termsOf_eq, termsOf_eq]
  dsimp only
  conv => lhs; rw [← List.take_append_drop i xs]
  rw [List.filter_append, List.map_append]
  rw [List.take_append_drop i xs]
  exact List.take_left
theorem pre_le (xs : List RItem) (i : Nat) : (termsOf (xs.take i)).classes.length ≤ (termsOf xs).classes.length ∧ (termsOf (xs.take i)).contracts.length ≤ (termsOf xs).contracts.length := by
  have h1 := congrArg List.length (pre_c xs i)
  have h2 := congrArg List.length (pre_d xs i)
  rw [List.length_take] at h1 h2
  omega
theorem adds_step {names : List Bytes} {xs : List RItem} {i : Nat} {x : RItem} (h : xs[i]? = some x) : addsB names (termsOf (xs.take i)) ((xs.drop i).map itOf) = (addB names (termsOf (xs.take i)) (itOf x)).next fun T => addsB names T ((xs.drop (i + 1)).map itOf) := by
  obtain ⟨hi, rfl⟩ := List.getElem?_eq_some_iff.1 h
  rw [List.drop_eq_getElem_cons hi, List.map_cons]
  rfl
theorem PA.terms {w W : World} {Ax A A' : Option Addr} {xs : List RItem} {gt n c m d : Nat} {T : TermsD} (h : PA w Ax xs gt T A n c A' m d W) : TermsV W T (.agg #[.slice A n c, .slice A' m d]) := by
  have h1 := own_cap h.ts.own1
  have h2 := own_cap h.ts.own2
  rw [h.ts.len1] at h1
  rw [h.ts.len2] at h2
  exact ⟨A, c, A', d, by rw [h.ts.len1, h.ts.len2], own_sl h.ts.own1, own_sl h.ts.own2, h1.1, h2.1, h1.2, h2.2⟩
theorem items_in (n : Nat) (ts0 : List Tok) : ∀ (f : Nat) (acc : List Item) (ts : List Tok) (l : List Item) (us : List Tok), itemsT n f acc ts = .ok l us → (∀ T ∈ ts, T ∈ ts0) → (∀ y ∈ acc, ∀ fd ∈ y.fields, fd.2 ∈ ts0) → ∀ y ∈ l, ∀ fd ∈ y.fields, fd.2 ∈ ts0
  | 0, acc, ts, l, us, h, _, ha => by
    rw [itemsT] at h
    injection h with h _
    rw [← h]; exact ha
  | f + 1, acc, ts, l, us, h, ht, ha => by
    rw [itemsT] at h
    split at h
    · obtain ⟨x, a, h1, h2⟩ := next_inv h
      have hin := item_in h1
      refine items_in n ts0 f _ a l us h2 (fun T hT => ht T (hin.1 T hT)) (fun y hy => ?_)
      rcases List.mem_append.1 hy with hy | hy
      · exact ha y hy
      · rw [List.mem_singleton] at hy
        rw [hy]
        exact fun fd hfd => ht _ (hin.2 fd hfd)
    · injection h with h _
      rw [← h]; exact ha
theorem add_pos {t : ByteArray} {xs : List RItem} {us : List Tok} {names : List Bytes} {T : TermsD} {x : RItem} {p e : Nat} (h : itsF t = .ok (xs.map itOf) us) (hx : x ∈ xs) (hb : addB names T (itOf x) = .bad p e) : p ≤ t.size := by
  rcases add_bad hb with h0 | ⟨fd, hfd, rfl⟩
  · omega
  · have h1 := items_in _ (toks t.data.toList 0) _ _ _ _ _ h (fun T hT => hT) (fun y hy => by cases hy) (itOf x) (List.mem_map.2 ⟨x, hx, rfl⟩) fd hfd
    have := toksF_at _ _ _ fd.2 h1
    rw [Lib.size_eq]
    simpa using this
theorem PA.rb {w W W' : World} {Ax A A' : Option Addr} {xs : List RItem} {gt n c m d f : Nat} {T : TermsD} {cs : Array Value} (h : PA w Ax xs gt T A n c A' m d W) (hb : RB f W W') (hr : W.heap[f]? = some (.cells cs 79)) (hf : w.heap.size ≤ f) : PA w Ax xs gt T A n c A' m d W' := by
  have n1 : w.heap.size ≠ f := by
    rintro rfl
    have := h.res
    rw [hr] at this
    injection this with this
    injection this with _ this
    exact absurd this (by decide)
  have n2 : gt ≠ f := by
    rintro rfl
    have := h.ts.row
    rw [hr] at this
    injection this with this
    injection this with _ this
    exact absurd this (by decide)
  exact ⟨h.below.trans (hb.below hf h.below.size), hb.row n1 h.res, h.items.rb hb hr (by decide) hb.size, ⟨hb.row n2 h.ts.row, own_rb h.ts.own1 hb hr (by decide), own_rb h.ts.own2 hb hr (by decide), h.ts.len1, h.ts.len2, h.ts.le⟩⟩
theorem five_set {w : World} {g : Nat} {a b c d e : Value} {t : TypeId} (h : w.heap[g]? = some (.cells #[a, b, c, d, e] t)) (p q r s u : Value) : (((((w.setCell ⟨g, 0, none⟩ p).setCell ⟨g, 1, none⟩ q).setCell ⟨g, 2, none⟩ r).setCell ⟨g, 3, none⟩ s).setCell ⟨g, 4, none⟩ u).heap[g]? = some (.cells #[p, q, r, s, u] t) := set_at (set_at (set_at (set_at (set_at h 0 _) 1 _) 2 _) 3 _) 4 _
theorem below_five {w W : World} {g : Nat} (h : Below g w W) (p q r s u : Value) : Below g w (((((W.setCell ⟨g, 0, none⟩ p).setCell ⟨g, 1, none⟩ q).setCell ⟨g, 2, none⟩ r).setCell ⟨g, 3, none⟩ s).setCell ⟨g, 4, none⟩ u) :=
  ((((h.setCell (p := ⟨g, 0, none⟩) (Nat.le_refl _) p).setCell (p := ⟨g, 1, none⟩) (Nat.le_refl _) q).setCell (p := ⟨g, 2, none⟩) (Nat.le_refl _) r).setCell (p := ⟨g, 3, none⟩) (Nat.le_refl _) s).setCell (p := ⟨g, 4, none⟩) (Nat.le_refl _) u
theorem five_frozen {w : World} {g : Nat} {t : TypeId} {a b c d e : Value} (h : w.heap[g]? = some (.cells #[a, b, c, d, e] t)) :
    w.frozen? ⟨g, 0, none⟩ = false ∧ w.frozen? ⟨g, 1, none⟩ = false ∧ w.frozen? ⟨g, 2, none⟩ = false ∧ w.frozen? ⟨g, 3, none⟩ = false ∧ w.frozen? ⟨g, 4, none⟩ = false := ⟨(cell_at h 0 rfl).2, (cell_at h 1 rfl).2, (cell_at h 2 rfl).2, (cell_at h 3 rfl).2, (cell_at h 4 rfl).2⟩

theorem five_other {w : World} {g k : Nat} (h : k ≠ g) (p q r s u : Value) : (((((w.setCell ⟨g, 0, none⟩ p).setCell ⟨g, 1, none⟩ q).setCell ⟨g, 2, none⟩ r).setCell ⟨g, 3, none⟩ s).setCell ⟨g, 4, none⟩ u).heap[k]? = w.heap[k]? := (Below.heap_setCell _ _ _ _ h).trans ((Below.heap_setCell _ _ _ _ h).trans ((Below.heap_setCell _ _ _ _ h).trans ((Below.heap_setCell _ _ _ _ h).trans (Below.heap_setCell _ _ _ _ h))))
theorem five_keep {w : World} {g : Nat} {a b c d e : Value} {t ty : TypeId} (h : w.heap[g]? = some (.cells #[a, b, c, d, e] t)) (ht : t ≠ ty) (p q r s u : Value) : KeepT ty w (((((w.setCell ⟨g, 0, none⟩ p).setCell ⟨g, 1, none⟩ q).setCell ⟨g, 2, none⟩ r).setCell ⟨g, 3, none⟩ s).setCell ⟨g, 4, none⟩ u) :=
  ((((KeepT.setCell h ht 0 p).trans (KeepT.setCell (set_at h 0 p) ht 1 q)).trans (KeepT.setCell (set_at (set_at h 0 p) 1 q) ht 2 r)).trans (KeepT.setCell (set_at (set_at (set_at h 0 p) 1 q) 2 r) ht 3 s)).trans (KeepT.setCell (set_at (set_at (set_at (set_at h 0 p) 1 q) 2 r) 3 s) ht 4 u)
theorem TS.terms {W : World} {A A' : Option Addr} {B n c m d : Nat} {T : TermsD} (h1 : W.ownsRow B 38 4 (.slice A n c) n (T.classes.flatMap clsCs)) (h2 : W.ownsRow B 46 6 (.slice A' m d) m (T.contracts.flatMap ctrCs)) (e1 : n = T.classes.length) (e2 : m = T.contracts.length) : TermsV W T (.agg #[.slice A n c, .slice A' m d]) := by
  have k1 := own_cap h1
  have k2 := own_cap h2
  rw [e1] at k1
  rw [e2] at k2
  exact ⟨A, c, A', d, by rw [e1, e2], own_sl h1, own_sl h2, k1.1, k2.1, k1.2, k2.2⟩

set_option maxRecDepth 100000 in
set_option maxHeartbeats 16000000 in
theorem rparse_any (t : ByteArray) (w : World) (ht0 : t.size ≤ 2100) : Calls Tryz.prog 7 #[.string t] w (RParseP t w) := by
  obtain ⟨W0, hW0⟩ : ∃ W, W = w.alloc (.cells #[.slice none 0 0, .slice none 0 0, .int .i64 0, .int .i64 0, .int .i64 0] 33) := ⟨_, rfl⟩
  have hB0 : Below w.heap.size w W0 := by rw [hW0]; exact (Below.refl _ _).alloc (Nat.le_refl _) _
  have hR0 : W0.heap[w.heap.size]? = some (.cells #[.slice none 0 0, .slice none 0 0, .int .i64 0, .int .i64 0, .int .i64 0] 33) := by rw [hW0]; exact heap_new _ _
  have HB0 := Lib.hid hB0
  have HR0 := Lib.hid hR0
  clear hB0
  by_cases hbig : 2000 < t.size
  · have hi : (2000 : Int) < (t.size : Int) := by omega
    have Hp : Hid (parseB t.data.toList = .bad 0 2) := if_pos (by rw [← Lib.size_eq]; exact hbig)
    have Hs : Hid (spotR t 0 = #[.int .i64 1, .int .i64 1]) := if_pos hbig
    obtain ⟨x0, x1, x2, x3, x4, -⟩ := five_cells hR0
    obtain ⟨f0, f1, f2, f3, f4⟩ := five_frozen hR0
    clear hR0
    go_enter Tryz.func7, Tryz.ntmps7
    go_upto_region 1 with fail
    rw [← hW0]
    clear hW0
    go_wp2_with fail
    refine bodyPost_ret (res7 _ _ w.heap.size _ _ _ _ _ rfl (five_set HR0.out _ _ _ _ _)) rfl ?_
    unfold RParseP
    rw [Hp.out]
    exact ⟨below_five HB0.out _ _ _ _ _, _, _, Hs.out, rfl⟩
  have hi : ¬ (2000 : Int) < (t.size : Int) := by omega
  have ht : t.size ≤ 2000 := by omega
  clear hbig hR0
  go_enter Tryz.func7, Tryz.ntmps7
  go_upto_region 1 with fail
  rw [← hW0]
  clear hW0
  go_wp2_with fail
  refine (ritems_any t W0 ht).mono ?_
  rintro e w1 ⟨hb1, hor⟩
  have HB1 := Lib.hid (HB0.out.trans (hb1.mono HB0.out.size))
  have HR1 := Lib.hid (below_cells HR0.out hb1)
  clear hb1
  rcases hor with ⟨xs, us, Ax, cx, pp, hok, hgd, hxl, rfl, hsl, hcx, hcm⟩ | ⟨p, Ax, nx, cx, hbad, hp, rfl⟩
  case inr =>
    have Hp : Hid (parseB t.data.toList = .bad p 3) := by show _ = _; rw [parse_its ht, hbad]; rfl
    have hat := at_any t p w1 ht hp
    obtain ⟨s1, s2, hs⟩ : ∃ s1 s2 : Int, spotV t p = #[.int .i64 s1, .int .i64 s2] := ⟨_, _, rfl⟩
    rw [hs] at hat
    have Hs : Hid (spotR t p = #[.int .i64 s1, .int .i64 s2]) := (spot_its ht).trans hs
    have Hat := Lib.hid hat
    clear hbad hat hs
    go_wp2_with fail
    refine Hat.out.mono ?_
    rintro e w2 ⟨rfl, hb2⟩
    have HB2 := Lib.hid (HB1.out.trans (hb2.mono HB1.out.size))
    have HR2 := Lib.hid (below_cells HR1.out hb2)
    clear hb2
    obtain ⟨x0, x1, x2, x3, x4, -⟩ := five_cells HR2.out
    obtain ⟨f0, f1, f2, f3, f4⟩ := five_frozen HR2.out
    go_wp2_with fail
    refine bodyPost_ret (res7 _ _ w.heap.size _ _ _ _ _ rfl (five_set HR2.out _ _ _ _ _)) rfl ?_
    unfold RParseP
    rw [Hp.out]
    exact ⟨below_five HB2.out _ _ _ _ _, _, _, Hs.out, rfl⟩
  have Hits := Lib.hid hok
  have Hgd := Lib.hid hgd
  obtain ⟨gt, hgt⟩ : ∃ g, g = w1.heap.size := ⟨_, rfl⟩
  obtain ⟨W2, hW2⟩ : ∃ W, W = w1.alloc (.cells #[.slice none 0 0, .slice none 0 0] 26) := ⟨_, rfl⟩
  have hb2 : Below w1.heap.size w1 W2 := by rw [hW2]; exact (Below.refl _ _).alloc (Nat.le_refl _) _
  have hrow : W2.heap[gt]? = some (.cells #[.slice none 0 0, .slice none 0 0] 26) := by rw [hW2, hgt]; exact heap_new _ _
  have HP0 : Hid (PA w Ax xs gt ⟨[], []⟩ none 0 0 none 0 0 W2) := ⟨HB1.out.trans (hb2.mono HB1.out.size), below_cells HR1.out hb2, hsl.below hb2 hb2.size, ⟨hrow, own_nil _ _ _ _, own_nil _ _ _ _, rfl, rfl, by rw [hgt]; exact HB1.out.size⟩⟩
  clear hok hgd hsl hb2 hrow
  go_wp2_with fail
  rw [← hgt, ← hW2]
  clear hW2 hgt HR1 HB1
  unfold maxLen at hcm
  go_loopg [7] xs.length (fun g s7 wr => ∃ (k : Nat) (A : Option Addr) (n c : Nat) (A' : Option Addr) (m d : Nat), s7 = .int .i64 (k : Int) ∧ g = xs.length - k ∧ k ≤ xs.length ∧ n + m ≤ k ∧ Hid (PA w Ax xs gt (termsOf (xs.take k)) A n c A' m d wr))
  case atStart => exact ⟨0, none, 0, 0, none, 0, 0, rfl, rfl, Nat.zero_le _, Nat.le_refl _, HP0⟩
  case round =>
    obtain ⟨k, A, n, c, A', m, d, rfl, hg, hk, hnm, HP⟩ := hrel
    have Hg := Lib.hid hg
    clear hg HP0
    by_cases hlt : k < xs.length
    · have hI0 : (0 : Int) ≤ (k : Int) := by omega
      have hI1 : (k : Int) < (xs.length : Int) := by omega
      obtain ⟨x, hx⟩ : ∃ x, xs[k]? = some x := ⟨_, List.getElem?_eq_getElem hlt⟩
      obtain ⟨ib, io, hA, hib, hcells⟩ := sl_at itemL_len HP.out.items.sl hx (by omega)
      have hx2 : RGood x := Hgd.out x (List.mem_of_getElem? hx)
      have Hx := Lib.hid hx
      have HxG := Lib.hid hx2
      subst hA
      have hrange : wr.rangeAt ib (io + k * 17) (itemL x) := fun j v hv => by rw [Nat.add_assoc]; exact hcells j v hv
      have hinfL : (Tryz.prog.info? 75).map (·.size) = some (itemL x).length := info75
      have hinfA : (Tryz.prog.info? 75).map (·.size) = some (itemL x).toArray.size := info75
      have hone : (itemL x).toArray.all (·.oneCell') = true := all_oneCell_toArray (itemL_one x)
      have hnew := heap_new wr (.cells #[.bool false, .string ⟨#[]⟩, .int .i64 0, .string ⟨#[]⟩, .int .i64 0, .string ⟨#[]⟩, .int .i64 0, .string ⟨#[]⟩, .int .i64 0, .string ⟨#[]⟩, .int .i64 0, .string ⟨#[]⟩, .int .i64 0, .string ⟨#[]⟩, .int .i64 0, .string ⟨#[]⟩, .int .i64 0] 75)
      clear hcells hx hx2
      go_upto_region 11 with (first | (refine wpList_load_mid rfl 75 _ rfl ib (io + k * 17) rfl (itemL x) _ hrange Tryz.underlying75 rfl hinfL ?_) | (refine wpList_store_row rfl 75 _ _ rfl wr.heap.size (itemL x).toArray rfl rfl 75 _ hnew hinfA rfl hone ?_))
      obtain ⟨W3, hW3⟩ : ∃ W, W = (wr.alloc (.cells #[.bool false, .string ⟨#[]⟩, .int .i64 0, .string ⟨#[]⟩, .int .i64 0, .string ⟨#[]⟩, .int .i64 0, .string ⟨#[]⟩, .int .i64 0, .string ⟨#[]⟩, .int .i64 0, .string ⟨#[]⟩, .int .i64 0, .string ⟨#[]⟩, .int .i64 0, .string ⟨#[]⟩, .int .i64 0] 75)).setRow wr.heap.size (itemL x).toArray := ⟨_, rfl⟩
      rw [← hW3]
      have hb3 : Below wr.heap.size wr W3 := by rw [hW3]; exact below_setRow2 ((Below.refl _ _).alloc (Nat.le_refl _) _) (Nat.le_refl _) _
      have hr3 : W3.heap[wr.heap.size]? = some (.cells (itemL x).toArray 75) := by rw [hW3]; exact setRow_heap _ _ _ _ _ _ (heap_new _ _)
      have HP3 := Lib.hid (HP.out.call hb3)
      have HR3 := Lib.hid hr3
      have hgtl : gt < wr.heap.size := (Array.getElem?_eq_some_iff.1 HP.out.ts.row).1
      obtain ⟨b, hb⟩ : ∃ b, b = wr.heap.size := ⟨_, rfl⟩
      rw [← hb] at HR3 ⊢
      have nbg : b ≠ gt := by omega
      have c0 := (cell_at HR3.out 0 (u := .bool x.tenant) rfl).1
      have hbn : n + 1 ≤ maxLen := by unfold maxLen; omega
      have hbm : m + 1 ≤ maxLen := by unfold maxLen; omega
      have hyn : (n + 1) * 48 ≤ 140737488355328 := by omega
      have hym : (m + 1) * 64 ≤ 140737488355328 := by omega
      clear hW3 hb3 hr3 hrange hinfL hinfA hone hnew hb HP
      cases hten : x.tenant with
      | true =>
        have HT : Hid (termsOf (xs.take (k + 1)) = ⟨(termsOf (xs.take k)).classes, (termsOf (xs.take k)).contracts ++ [ctrOf x]⟩) := by show _ = _; rw [termsOf_snoc Hx.out]; unfold pushT; rw [hten]; rfl
        obtain ⟨hvg, hvs, hvb, -⟩ := HxG.out.ten hten
        have HVguar : Hid (NumTx x.guar) := numTx_of hvg
        have HVsnap : Hid (NumTx x.snap) := by rcases hvs with h | h; · rw [h]; exact numTx_0
                                               · exact numTx_of h
        have HVburst : Hid (NumTx x.burst) := by rcases hvb with ⟨h, -⟩ | ⟨h, -⟩; · rw [h]; exact numTx_0
                                                 · exact numTx_of h
        have HVrank : Hid (NumTx x.rank) := by rcases hvb with ⟨-, h⟩ | ⟨-, h⟩; · rw [h]; exact numTx_0
                                               · exact numTx_of h
        rw [hten] at c0
        clear hten hvg hvs hvb
        go_upto_region 12 with fail
        have HPd := Lib.hid (HP3.out.call (Below.refl _ _).drew)
        have HRd : Hid (W3.drew.heap[b]? = some (.cells (itemL x).toArray 75)) := HR3.out
        clear c0
        refine wp_region_held_drew (S := fun W => ((((((((W.cell? ⟨b, 1, none⟩ = some (.string ⟨x.name.text.toArray⟩) ∧ W.cell? ⟨b, 3, none⟩ = some (.string ⟨x.other.text.toArray⟩)) ∧ W.cell? ⟨b, 9, none⟩ = some (.string ⟨x.guar.text.toArray⟩)) ∧ W.cell? ⟨b, 10, none⟩ = some (.int .i64 (x.guar.at_ : Int))) ∧ W.cell? ⟨b, 11, none⟩ = some (.string ⟨x.snap.text.toArray⟩)) ∧ W.cell? ⟨b, 12, none⟩ = some (.int .i64 (x.snap.at_ : Int))) ∧ W.cell? ⟨b, 13, none⟩ = some (.string ⟨x.burst.text.toArray⟩)) ∧ W.cell? ⟨b, 14, none⟩ = some (.int .i64 (x.burst.at_ : Int))) ∧ W.cell? ⟨b, 15, none⟩ = some (.string ⟨x.rank.text.toArray⟩)) ∧ W.cell? ⟨b, 16, none⟩ = some (.int .i64 (x.rank.at_ : Int))) (by kernel_rfl) ⟨⟨⟨⟨⟨⟨⟨⟨⟨(cell_at HRd.out 1 rfl).1, (cell_at HRd.out 3 rfl).1⟩, (cell_at HRd.out 9 rfl).1⟩, (cell_at HRd.out 10 rfl).1⟩, (cell_at HRd.out 11 rfl).1⟩, (cell_at HRd.out 12 rfl).1⟩, (cell_at HRd.out 13 rfl).1⟩, (cell_at HRd.out 14 rfl).1⟩, (cell_at HRd.out 15 rfl).1⟩, (cell_at HRd.out 16 rfl).1⟩ (fun hHeld => ?_)
        refine wpAnyH_take (i := 0) (v := ?_) (by simp only [List.getElem?_toArray, List.getElem?_cons_zero] <;> rfl) (by kernel_rfl) (by kernel_rfl) (by kernel_rfl) (by intro _ _ _ h; exact h) (Or.inl ⟨by rfl, ?_⟩) hHeld ?_
        rotate_left
        · intro w hSw; (try dsimp only at hSw); go_simp
          with_reducible rfl
        try simp only [Act.put, List.setIfInBounds_toArray, List.set_cons_zero, List.set_cons_succ]
        refine wpAnyH_take (i := 2) (v := ?_) (by simp only [List.getElem?_toArray, List.getElem?_cons_zero, List.getElem?_cons_succ] <;> rfl) (by kernel_rfl) (by kernel_rfl) (by kernel_rfl) (by intro _ _ _ h; exact h) (Or.inl ⟨by rfl, ?_⟩) hHeld ?_
        rotate_left
        · intro w hSw; (try dsimp only at hSw); go_simp
          with_reducible rfl
        try simp only [Act.put, List.setIfInBounds_toArray, List.set_cons_zero, List.set_cons_succ]
        refine wpAnyH_take (i := 3) (v := ?_) (by simp only [List.getElem?_toArray, List.getElem?_cons_zero, List.getElem?_cons_succ] <;> rfl) (by kernel_rfl) (by kernel_rfl) (by kernel_rfl) (by intro _ _ _ h; exact h) (Or.inl ⟨by rfl, ?_⟩) hHeld ?_
        rotate_left
        · intro w hSw; (try dsimp only at hSw); go_simp
          with_reducible rfl
        try simp only [Act.put, List.setIfInBounds_toArray, List.set_cons_zero, List.set_cons_succ]
        refine wpAnyH_take (i := 4) (v := ?_) (by simp only [List.getElem?_toArray, List.getElem?_cons_zero, List.getElem?_cons_succ] <;> rfl) (by kernel_rfl) (by kernel_rfl) (by kernel_rfl) (by intro _ _ _ h; exact h) (Or.inl ⟨by rfl, ?_⟩) hHeld ?_
        rotate_left
        · intro w hSw; (try dsimp only at hSw); go_simp
          with_reducible rfl
        try simp only [Act.put, List.setIfInBounds_toArray, List.set_cons_zero, List.set_cons_succ]
        refine wpAnyH_take (i := 5) (v := ?_) (by simp only [List.getElem?_toArray, List.getElem?_cons_zero, List.getElem?_cons_succ] <;> rfl) (by kernel_rfl) (by kernel_rfl) (by kernel_rfl) (by intro _ _ _ h; exact h) (Or.inl ⟨by rfl, ?_⟩) hHeld ?_
        rotate_left
        · intro w hSw; (try dsimp only at hSw); go_simp
          with_reducible rfl
        try simp only [Act.put, List.setIfInBounds_toArray, List.set_cons_zero, List.set_cons_succ]
        refine wpAnyH_take (i := 6) (v := ?_) (by simp only [List.getElem?_toArray, List.getElem?_cons_zero, List.getElem?_cons_succ] <;> rfl) (by kernel_rfl) (by kernel_rfl) (by kernel_rfl) (by intro _ _ _ h; exact h) (Or.inl ⟨by rfl, ?_⟩) hHeld ?_
        rotate_left
        · intro w hSw; (try dsimp only at hSw); go_simp
          with_reducible rfl
        try simp only [Act.put, List.setIfInBounds_toArray, List.set_cons_zero, List.set_cons_succ]
        refine wpAnyH_take (i := 8) (v := ?_) (by simp only [List.getElem?_toArray, List.getElem?_cons_zero, List.getElem?_cons_succ] <;> rfl) (by kernel_rfl) (by kernel_rfl) (by kernel_rfl) (by intro _ _ _ h; exact h) (Or.inl ⟨by rfl, ?_⟩) hHeld ?_
        rotate_left
        · intro w hSw; (try dsimp only at hSw); go_simp
          with_reducible rfl
        try simp only [Act.put, List.setIfInBounds_toArray, List.set_cons_zero, List.set_cons_succ]
        refine wpAnyH_take (i := 9) (v := ?_) (by simp only [List.getElem?_toArray, List.getElem?_cons_zero, List.getElem?_cons_succ] <;> rfl) (by kernel_rfl) (by kernel_rfl) (by kernel_rfl) (by intro _ _ _ h; exact h) (Or.inl ⟨by rfl, ?_⟩) hHeld ?_
        rotate_left
        · intro w hSw; (try dsimp only at hSw); go_simp
          with_reducible rfl
        try simp only [Act.put, List.setIfInBounds_toArray, List.set_cons_zero, List.set_cons_succ]
        refine wpAnyH_take (i := 11) (v := ?_) (by simp only [List.getElem?_toArray, List.getElem?_cons_zero, List.getElem?_cons_succ] <;> rfl) (by kernel_rfl) (by kernel_rfl) (by kernel_rfl) (by intro _ _ _ h; exact h) (Or.inl ⟨by rfl, ?_⟩) hHeld ?_
        rotate_left
        · intro w hSw; (try dsimp only at hSw); go_simp
          with_reducible rfl
        try simp only [Act.put, List.setIfInBounds_toArray, List.set_cons_zero, List.set_cons_succ]
        refine wpAnyH_take (i := 12) (v := ?_) (by simp only [List.getElem?_toArray, List.getElem?_cons_zero, List.getElem?_cons_succ] <;> rfl) (by kernel_rfl) (by kernel_rfl) (by kernel_rfl) (by intro _ _ _ h; exact h) (Or.inl ⟨by rfl, ?_⟩) hHeld ?_
        rotate_left
        · intro w hSw; (try dsimp only at hSw); go_simp
          with_reducible rfl
        try simp only [Act.put, List.setIfInBounds_toArray, List.set_cons_zero, List.set_cons_succ]
        refine wpAnyH_take (i := 14) (v := ?_) (by simp only [List.getElem?_toArray, List.getElem?_cons_zero, List.getElem?_cons_succ] <;> rfl) (by kernel_rfl) (by kernel_rfl) (by kernel_rfl) (by intro _ _ _ h; exact h) (Or.inl ⟨by rfl, ?_⟩) hHeld ?_
        rotate_left
        · intro w hSw; (try dsimp only at hSw); go_simp
          with_reducible rfl
        try simp only [Act.put, List.setIfInBounds_toArray, List.set_cons_zero, List.set_cons_succ]
        refine wpAnyH_take (i := 15) (v := ?_) (by simp only [List.getElem?_toArray, List.getElem?_cons_zero, List.getElem?_cons_succ] <;> rfl) (by kernel_rfl) (by kernel_rfl) (by kernel_rfl) (by intro _ _ _ h; exact h) (Or.inl ⟨by rfl, ?_⟩) hHeld ?_
        rotate_left
        · intro w hSw; (try dsimp only at hSw); go_simp
          with_reducible rfl
        try simp only [Act.put, List.setIfInBounds_toArray, List.set_cons_zero, List.set_cons_succ]
        refine wpAnyH_take (i := 17) (v := ?_) (by simp only [List.getElem?_toArray, List.getElem?_cons_zero, List.getElem?_cons_succ] <;> rfl) (by kernel_rfl) (by kernel_rfl) (by kernel_rfl) (by intro _ _ _ h; exact h) (Or.inl ⟨by rfl, ?_⟩) hHeld ?_
        rotate_left
        · intro w hSw; (try dsimp only at hSw); go_simp
          with_reducible rfl
        try simp only [Act.put, List.setIfInBounds_toArray, List.set_cons_zero, List.set_cons_succ]
        refine wpAnyH_take (i := 18) (v := ?_) (by simp only [List.getElem?_toArray, List.getElem?_cons_zero, List.getElem?_cons_succ] <;> rfl) (by kernel_rfl) (by kernel_rfl) (by kernel_rfl) (by intro _ _ _ h; exact h) (Or.inl ⟨by rfl, ?_⟩) hHeld ?_
        rotate_left
        · intro w hSw; (try dsimp only at hSw); go_simp
          with_reducible rfl
        try simp only [Act.put, List.setIfInBounds_toArray, List.set_cons_zero, List.set_cons_succ]
        refine wpAnyH_take (i := 19) (v := ?_) (by simp only [List.getElem?_toArray, List.getElem?_cons_zero, List.getElem?_cons_succ] <;> rfl) (by kernel_rfl) (by kernel_rfl) (by kernel_rfl) (by intro _ _ _ h; exact h) (Or.inl ⟨by rfl, ?_⟩) hHeld ?_
        rotate_left
        · intro w hSw; (try dsimp only at hSw); go_simp
          with_reducible rfl
        try simp only [Act.put, List.setIfInBounds_toArray, List.set_cons_zero, List.set_cons_succ]
        refine wpAnyH_ready (rs := [1, 7]) (by kernel_rfl) (by simp) ?_
        refine AllReadyH.cons (by simp only [List.getElem?_toArray, List.getElem?_cons_zero, List.getElem?_cons_succ] <;> rfl) (fun K hK => ?_) (AllReadyH.cons (by simp only [List.getElem?_toArray, List.getElem?_cons_zero, List.getElem?_cons_succ] <;> rfl) (fun K hK => ?_) AllReadyH.nil)
        · skip
          obtain ⟨y0, y1, -⟩ := two_cells HPd.out.ts.row
          go_simp
          refine hK.out _ _ ⟨⟨⟨⟨⟨⟨⟨⟨⟨(cell_at HRd.out 1 rfl).1, (cell_at HRd.out 3 rfl).1⟩, (cell_at HRd.out 9 rfl).1⟩, (cell_at HRd.out 10 rfl).1⟩, (cell_at HRd.out 11 rfl).1⟩, (cell_at HRd.out 12 rfl).1⟩, (cell_at HRd.out 13 rfl).1⟩, (cell_at HRd.out 14 rfl).1⟩, (cell_at HRd.out 15 rfl).1⟩, (cell_at HRd.out 16 rfl).1⟩ (fun hHeld => ?_)
          clear hK K
          try simp only [Act.put, List.setIfInBounds_toArray, List.set_cons_zero, List.set_cons_succ]
          clear y0 y1
          refine wpAnyH_ready (rs := [7]) (by kernel_rfl) (by simp) ?_
          refine AllReadyH.cons (by simp only [List.getElem?_toArray, List.getElem?_cons_zero, List.getElem?_cons_succ] <;> rfl) (fun K hK => ?_) AllReadyH.nil
          · skip
            go_simp
            go_at_call 21
            refine (value_any x.guar _ HVguar).mono ?_
            rintro e u7 ⟨rfl, hbu⟩
            have HPv7 := Lib.hid (HPd.out.call hbu)
            have HRv7 := Lib.hid (below_cells HRd.out hbu)
            clear hbu
            refine hK.out _ _ ⟨⟨⟨⟨⟨⟨⟨⟨⟨(cell_at HRv7.out 1 rfl).1, (cell_at HRv7.out 3 rfl).1⟩, (cell_at HRv7.out 9 rfl).1⟩, (cell_at HRv7.out 10 rfl).1⟩, (cell_at HRv7.out 11 rfl).1⟩, (cell_at HRv7.out 12 rfl).1⟩, (cell_at HRv7.out 13 rfl).1⟩, (cell_at HRv7.out 14 rfl).1⟩, (cell_at HRv7.out 15 rfl).1⟩, (cell_at HRv7.out 16 rfl).1⟩ (fun hHeld => ?_)
            clear hK K
            try simp only [Act.put, List.setIfInBounds_toArray, List.set_cons_zero, List.set_cons_succ]
            refine wpAnyH_ready (rs := [10]) (by kernel_rfl) (by simp) ?_
            refine AllReadyH.cons (by simp only [List.getElem?_toArray, List.getElem?_cons_zero, List.getElem?_cons_succ] <;> rfl) (fun K hK => ?_) AllReadyH.nil
            · skip
              go_simp
              go_at_call 21
              refine (value_any x.snap _ HVsnap).mono ?_
              rintro e u10 ⟨rfl, hbu⟩
              have HPv10 := Lib.hid (HPv7.out.call hbu)
              have HRv10 := Lib.hid (below_cells HRv7.out hbu)
              clear hbu
              refine hK.out _ _ ⟨⟨⟨⟨⟨⟨⟨⟨⟨(cell_at HRv10.out 1 rfl).1, (cell_at HRv10.out 3 rfl).1⟩, (cell_at HRv10.out 9 rfl).1⟩, (cell_at HRv10.out 10 rfl).1⟩, (cell_at HRv10.out 11 rfl).1⟩, (cell_at HRv10.out 12 rfl).1⟩, (cell_at HRv10.out 13 rfl).1⟩, (cell_at HRv10.out 14 rfl).1⟩, (cell_at HRv10.out 15 rfl).1⟩, (cell_at HRv10.out 16 rfl).1⟩ (fun hHeld => ?_)
              clear hK K
              try simp only [Act.put, List.setIfInBounds_toArray, List.set_cons_zero, List.set_cons_succ]
              refine wpAnyH_ready (rs := [13]) (by kernel_rfl) (by simp) ?_
              refine AllReadyH.cons (by simp only [List.getElem?_toArray, List.getElem?_cons_zero, List.getElem?_cons_succ] <;> rfl) (fun K hK => ?_) AllReadyH.nil
              · skip
                go_simp
                go_at_call 21
                refine (value_any x.burst _ HVburst).mono ?_
                rintro e u13 ⟨rfl, hbu⟩
                have HPv13 := Lib.hid (HPv10.out.call hbu)
                have HRv13 := Lib.hid (below_cells HRv10.out hbu)
                clear hbu
                refine hK.out _ _ ⟨⟨⟨⟨⟨⟨⟨⟨⟨(cell_at HRv13.out 1 rfl).1, (cell_at HRv13.out 3 rfl).1⟩, (cell_at HRv13.out 9 rfl).1⟩, (cell_at HRv13.out 10 rfl).1⟩, (cell_at HRv13.out 11 rfl).1⟩, (cell_at HRv13.out 12 rfl).1⟩, (cell_at HRv13.out 13 rfl).1⟩, (cell_at HRv13.out 14 rfl).1⟩, (cell_at HRv13.out 15 rfl).1⟩, (cell_at HRv13.out 16 rfl).1⟩ (fun hHeld => ?_)
                clear hK K
                try simp only [Act.put, List.setIfInBounds_toArray, List.set_cons_zero, List.set_cons_succ]
                refine wpAnyH_ready (rs := [16]) (by kernel_rfl) (by simp) ?_
                refine AllReadyH.cons (by simp only [List.getElem?_toArray, List.getElem?_cons_zero, List.getElem?_cons_succ] <;> rfl) (fun K hK => ?_) AllReadyH.nil
                · skip
                  go_simp
                  go_at_call 21
                  refine (value_any x.rank _ HVrank).mono ?_
                  rintro e u16 ⟨rfl, hbu⟩
                  have HPv16 := Lib.hid (HPv13.out.call hbu)
                  have HRv16 := Lib.hid (below_cells HRv13.out hbu)
                  clear hbu
                  refine hK.out _ _ ⟨⟨⟨⟨⟨⟨⟨⟨⟨(cell_at HRv16.out 1 rfl).1, (cell_at HRv16.out 3 rfl).1⟩, (cell_at HRv16.out 9 rfl).1⟩, (cell_at HRv16.out 10 rfl).1⟩, (cell_at HRv16.out 11 rfl).1⟩, (cell_at HRv16.out 12 rfl).1⟩, (cell_at HRv16.out 13 rfl).1⟩, (cell_at HRv16.out 14 rfl).1⟩, (cell_at HRv16.out 15 rfl).1⟩, (cell_at HRv16.out 16 rfl).1⟩ (fun hHeld => ?_)
                  clear hK K
                  try simp only [Act.put, List.setIfInBounds_toArray, List.set_cons_zero, List.set_cons_succ]
                  refine wpAnyH_take (i := 20) (v := ?_) (by simp only [List.getElem?_toArray, List.getElem?_cons_zero, List.getElem?_cons_succ] <;> rfl) (by kernel_rfl) (by kernel_rfl) (by kernel_rfl) (by intro _ _ _ h; exact h) (Or.inl ⟨by rfl, ?_⟩) hHeld ?_
                  rotate_left
                  · intro w hSw; (try dsimp only at hSw); go_simp
                    with_reducible rfl
                  try simp only [Act.put, List.setIfInBounds_toArray, List.set_cons_zero, List.set_cons_succ]
                  refine wpAnyH_ready (rs := [21]) (by kernel_rfl) (by simp) ?_
                  refine AllReadyH.cons (by simp only [List.getElem?_toArray, List.getElem?_cons_zero, List.getElem?_cons_succ] <;> rfl) (fun K hK => ?_) AllReadyH.nil
                  · skip
                    go_simp
                    refine hK.out _ _ ⟨⟨⟨⟨⟨⟨⟨⟨⟨(cell_at (below_cells HRv16.out ((Below.refl _ _).alloc (Nat.le_refl _) _)) 1 rfl).1, (cell_at (below_cells HRv16.out ((Below.refl _ _).alloc (Nat.le_refl _) _)) 3 rfl).1⟩, (cell_at (below_cells HRv16.out ((Below.refl _ _).alloc (Nat.le_refl _) _)) 9 rfl).1⟩, (cell_at (below_cells HRv16.out ((Below.refl _ _).alloc (Nat.le_refl _) _)) 10 rfl).1⟩, (cell_at (below_cells HRv16.out ((Below.refl _ _).alloc (Nat.le_refl _) _)) 11 rfl).1⟩, (cell_at (below_cells HRv16.out ((Below.refl _ _).alloc (Nat.le_refl _) _)) 12 rfl).1⟩, (cell_at (below_cells HRv16.out ((Below.refl _ _).alloc (Nat.le_refl _) _)) 13 rfl).1⟩, (cell_at (below_cells HRv16.out ((Below.refl _ _).alloc (Nat.le_refl _) _)) 14 rfl).1⟩, (cell_at (below_cells HRv16.out ((Below.refl _ _).alloc (Nat.le_refl _) _)) 15 rfl).1⟩, (cell_at (below_cells HRv16.out ((Below.refl _ _).alloc (Nat.le_refl _) _)) 16 rfl).1⟩ (fun hHeld => ?_)
                    clear hK K
                    try simp only [Act.put, List.setIfInBounds_toArray, List.set_cons_zero, List.set_cons_succ]
                    refine wpAnyH_ready (rs := [22]) (by kernel_rfl) (by simp) ?_
                    refine AllReadyH.cons (by simp only [List.getElem?_toArray, List.getElem?_cons_zero, List.getElem?_cons_succ] <;> rfl) (fun K hK => ?_) AllReadyH.nil
                    · skip
                      refine step_append_sl rfl _ _ 24 rfl rfl rfl so23 (HPv16.out.ts.own2.alloc _) (m := 1) (news := [.string ⟨x.name.text.toArray⟩, .int .i64 ((valD x.guar.text : Nat) : Int), .int .i64 ((valD x.snap.text : Nat) : Int), .int .i64 ((valD x.burst.text : Nat) : Int), .int .i64 ((valD x.rank.text : Nat) : Int), .string ⟨x.other.text.toArray⟩]) rfl (Sl.new _ _ _) ?_ hbm hym (Nat.le_trans HPv16.out.below.size (by simp)) ?_
                      · intro u hu; simp at hu; rcases hu with rfl | rfl | rfl | rfl | rfl | rfl <;> rfl
                      intro A5 c5 w5 ho5 hg5
                      have HP5 := Lib.hid (HPv16.out.pushD (D := ctrOf x) ho5 hg5)
                      have HR5 : Hid (w5.heap[b]? = some (.cells (itemL x).toArray 75)) := (keep_append (ty := 75) (by decide) HPv16.out.ts.own2 hg5).keep _ _ _ HRv16.out
                      have hrow5 := (row_grownOwn HPv16.out.ts.own2 hg5 HPv16.out.ts.row (by decide)).trans HPv16.out.ts.row
                      clear ho5 hg5
                      refine hK.out _ _ ⟨⟨⟨⟨⟨⟨⟨⟨⟨(cell_at HR5.out 1 rfl).1, (cell_at HR5.out 3 rfl).1⟩, (cell_at HR5.out 9 rfl).1⟩, (cell_at HR5.out 10 rfl).1⟩, (cell_at HR5.out 11 rfl).1⟩, (cell_at HR5.out 12 rfl).1⟩, (cell_at HR5.out 13 rfl).1⟩, (cell_at HR5.out 14 rfl).1⟩, (cell_at HR5.out 15 rfl).1⟩, (cell_at HR5.out 16 rfl).1⟩ (fun hHeld => ?_)
                      clear hK K
                      try simp only [Act.put, List.setIfInBounds_toArray, List.set_cons_zero, List.set_cons_succ]
                      refine wpAnyH_take (i := 23) (v := ?_) (by simp only [List.getElem?_toArray, List.getElem?_cons_zero, List.getElem?_cons_succ] <;> rfl) (by kernel_rfl) (by kernel_rfl) (by kernel_rfl) (by intro _ _ _ h; exact h) (Or.inl ⟨by rfl, ?_⟩) hHeld ?_
                      rotate_left
                      · intro w hSw; (try dsimp only at hSw); go_simp
                        with_reducible rfl
                      try simp only [Act.put, List.setIfInBounds_toArray, List.set_cons_zero, List.set_cons_succ]
                      refine wpAnyH_ready (rs := [24]) (by kernel_rfl) (by simp) ?_
                      refine AllReadyH.cons (by simp only [List.getElem?_toArray, List.getElem?_cons_zero, List.getElem?_cons_succ] <;> rfl) (fun K hK => ?_) AllReadyH.nil
                      · skip
                        obtain ⟨z0, z1, z2⟩ := two_cells hrow5
                        have z3 := (cell_at hrow5 1 rfl).2
                        go_simp
                        refine hK.out _ _ ⟨⟨⟨⟨⟨⟨⟨⟨⟨(cell_at ((Below.heap_setCell _ _ _ _ nbg).trans HR5.out) 1 rfl).1, (cell_at ((Below.heap_setCell _ _ _ _ nbg).trans HR5.out) 3 rfl).1⟩, (cell_at ((Below.heap_setCell _ _ _ _ nbg).trans HR5.out) 9 rfl).1⟩, (cell_at ((Below.heap_setCell _ _ _ _ nbg).trans HR5.out) 10 rfl).1⟩, (cell_at ((Below.heap_setCell _ _ _ _ nbg).trans HR5.out) 11 rfl).1⟩, (cell_at ((Below.heap_setCell _ _ _ _ nbg).trans HR5.out) 12 rfl).1⟩, (cell_at ((Below.heap_setCell _ _ _ _ nbg).trans HR5.out) 13 rfl).1⟩, (cell_at ((Below.heap_setCell _ _ _ _ nbg).trans HR5.out) 14 rfl).1⟩, (cell_at ((Below.heap_setCell _ _ _ _ nbg).trans HR5.out) 15 rfl).1⟩, (cell_at ((Below.heap_setCell _ _ _ _ nbg).trans HR5.out) 16 rfl).1⟩ (fun hHeld => ?_)
                        clear hK K
                        try simp only [Act.put, List.setIfInBounds_toArray, List.set_cons_zero, List.set_cons_succ]
                        refine wpAnyH_done (by kernel_rfl) ?_ _
                        clear hHeld z0 z1 z2 z3 hrow5
                        go_wp2_with fail
                        go_roundg (xs.length - (k + 1))
                        case measure => rw [Hg.out]; omega
                        case rel => exact ⟨k + 1, A, n, c, A5, m + 1, c5, by go_num, rfl, by omega, by omega, by rw [HT.out]; exact HP5.out⟩
        · skip
          go_simp
          go_at_call 21
          refine (value_any x.guar _ HVguar).mono ?_
          rintro e u7 ⟨rfl, hbu⟩
          have HPv7 := Lib.hid (HPd.out.call hbu)
          have HRv7 := Lib.hid (below_cells HRd.out hbu)
          clear hbu
          refine hK.out _ _ ⟨⟨⟨⟨⟨⟨⟨⟨⟨(cell_at HRv7.out 1 rfl).1, (cell_at HRv7.out 3 rfl).1⟩, (cell_at HRv7.out 9 rfl).1⟩, (cell_at HRv7.out 10 rfl).1⟩, (cell_at HRv7.out 11 rfl).1⟩, (cell_at HRv7.out 12 rfl).1⟩, (cell_at HRv7.out 13 rfl).1⟩, (cell_at HRv7.out 14 rfl).1⟩, (cell_at HRv7.out 15 rfl).1⟩, (cell_at HRv7.out 16 rfl).1⟩ (fun hHeld => ?_)
          clear hK K
          try simp only [Act.put, List.setIfInBounds_toArray, List.set_cons_zero, List.set_cons_succ]
          refine wpAnyH_ready (rs := [1, 10]) (by kernel_rfl) (by simp) ?_
          refine AllReadyH.cons (by simp only [List.getElem?_toArray, List.getElem?_cons_zero, List.getElem?_cons_succ] <;> rfl) (fun K hK => ?_) (AllReadyH.cons (by simp only [List.getElem?_toArray, List.getElem?_cons_zero, List.getElem?_cons_succ] <;> rfl) (fun K hK => ?_) AllReadyH.nil)
          · skip
            obtain ⟨y0, y1, -⟩ := two_cells HPv7.out.ts.row
            go_simp
            refine hK.out _ _ ⟨⟨⟨⟨⟨⟨⟨⟨⟨(cell_at HRv7.out 1 rfl).1, (cell_at HRv7.out 3 rfl).1⟩, (cell_at HRv7.out 9 rfl).1⟩, (cell_at HRv7.out 10 rfl).1⟩, (cell_at HRv7.out 11 rfl).1⟩, (cell_at HRv7.out 12 rfl).1⟩, (cell_at HRv7.out 13 rfl).1⟩, (cell_at HRv7.out 14 rfl).1⟩, (cell_at HRv7.out 15 rfl).1⟩, (cell_at HRv7.out 16 rfl).1⟩ (fun hHeld => ?_)
            clear hK K
            try simp only [Act.put, List.setIfInBounds_toArray, List.set_cons_zero, List.set_cons_succ]
            clear y0 y1
            refine wpAnyH_ready (rs := [10]) (by kernel_rfl) (by simp) ?_
            refine AllReadyH.cons (by simp only [List.getElem?_toArray, List.getElem?_cons_zero, List.getElem?_cons_succ] <;> rfl) (fun K hK => ?_) AllReadyH.nil
            · skip
              go_simp
              go_at_call 21
              refine (value_any x.snap _ HVsnap).mono ?_
              rintro e u10 ⟨rfl, hbu⟩
              have HPv10 := Lib.hid (HPv7.out.call hbu)
              have HRv10 := Lib.hid (below_cells HRv7.out hbu)
              clear hbu
              refine hK.out _ _ ⟨⟨⟨⟨⟨⟨⟨⟨⟨(cell_at HRv10.out 1 rfl).1, (cell_at HRv10.out 3 rfl).1⟩, (cell_at HRv10.out 9 rfl).1⟩, (cell_at HRv10.out 10 rfl).1⟩, (cell_at HRv10.out 11 rfl).1⟩, (cell_at HRv10.out 12 rfl).1⟩, (cell_at HRv10.out 13 rfl).1⟩, (cell_at HRv10.out 14 rfl).1⟩, (cell_at HRv10.out 15 rfl).1⟩, (cell_at HRv10.out 16 rfl).1⟩ (fun hHeld => ?_)
              clear hK K
              try simp only [Act.put, List.setIfInBounds_toArray, List.set_cons_zero, List.set_cons_succ]
              refine wpAnyH_ready (rs := [13]) (by kernel_rfl) (by simp) ?_
              refine AllReadyH.cons (by simp only [List.getElem?_toArray, List.getElem?_cons_zero, List.getElem?_cons_succ] <;> rfl) (fun K hK => ?_) AllReadyH.nil
              · skip
                go_simp
                go_at_call 21
                refine (value_any x.burst _ HVburst).mono ?_
                rintro e u13 ⟨rfl, hbu⟩
                have HPv13 := Lib.hid (HPv10.out.call hbu)
                have HRv13 := Lib.hid (below_cells HRv10.out hbu)
                clear hbu
                refine hK.out _ _ ⟨⟨⟨⟨⟨⟨⟨⟨⟨(cell_at HRv13.out 1 rfl).1, (cell_at HRv13.out 3 rfl).1⟩, (cell_at HRv13.out 9 rfl).1⟩, (cell_at HRv13.out 10 rfl).1⟩, (cell_at HRv13.out 11 rfl).1⟩, (cell_at HRv13.out 12 rfl).1⟩, (cell_at HRv13.out 13 rfl).1⟩, (cell_at HRv13.out 14 rfl).1⟩, (cell_at HRv13.out 15 rfl).1⟩, (cell_at HRv13.out 16 rfl).1⟩ (fun hHeld => ?_)
                clear hK K
                try simp only [Act.put, List.setIfInBounds_toArray, List.set_cons_zero, List.set_cons_succ]
                refine wpAnyH_ready (rs := [16]) (by kernel_rfl) (by simp) ?_
                refine AllReadyH.cons (by simp only [List.getElem?_toArray, List.getElem?_cons_zero, List.getElem?_cons_succ] <;> rfl) (fun K hK => ?_) AllReadyH.nil
                · skip
                  go_simp
                  go_at_call 21
                  refine (value_any x.rank _ HVrank).mono ?_
                  rintro e u16 ⟨rfl, hbu⟩
                  have HPv16 := Lib.hid (HPv13.out.call hbu)
                  have HRv16 := Lib.hid (below_cells HRv13.out hbu)
                  clear hbu
                  refine hK.out _ _ ⟨⟨⟨⟨⟨⟨⟨⟨⟨(cell_at HRv16.out 1 rfl).1, (cell_at HRv16.out 3 rfl).1⟩, (cell_at HRv16.out 9 rfl).1⟩, (cell_at HRv16.out 10 rfl).1⟩, (cell_at HRv16.out 11 rfl).1⟩, (cell_at HRv16.out 12 rfl).1⟩, (cell_at HRv16.out 13 rfl).1⟩, (cell_at HRv16.out 14 rfl).1⟩, (cell_at HRv16.out 15 rfl).1⟩, (cell_at HRv16.out 16 rfl).1⟩ (fun hHeld => ?_)
                  clear hK K
                  try simp only [Act.put, List.setIfInBounds_toArray, List.set_cons_zero, List.set_cons_succ]
                  refine wpAnyH_take (i := 20) (v := ?_) (by simp only [List.getElem?_toArray, List.getElem?_cons_zero, List.getElem?_cons_succ] <;> rfl) (by kernel_rfl) (by kernel_rfl) (by kernel_rfl) (by intro _ _ _ h; exact h) (Or.inl ⟨by rfl, ?_⟩) hHeld ?_
                  rotate_left
                  · intro w hSw; (try dsimp only at hSw); go_simp
                    with_reducible rfl
                  try simp only [Act.put, List.setIfInBounds_toArray, List.set_cons_zero, List.set_cons_succ]
                  refine wpAnyH_ready (rs := [21]) (by kernel_rfl) (by simp) ?_
                  refine AllReadyH.cons (by simp only [List.getElem?_toArray, List.getElem?_cons_zero, List.getElem?_cons_succ] <;> rfl) (fun K hK => ?_) AllReadyH.nil
                  · skip
                    go_simp
                    refine hK.out _ _ ⟨⟨⟨⟨⟨⟨⟨⟨⟨(cell_at (below_cells HRv16.out ((Below.refl _ _).alloc (Nat.le_refl _) _)) 1 rfl).1, (cell_at (below_cells HRv16.out ((Below.refl _ _).alloc (Nat.le_refl _) _)) 3 rfl).1⟩, (cell_at (below_cells HRv16.out ((Below.refl _ _).alloc (Nat.le_refl _) _)) 9 rfl).1⟩, (cell_at (below_cells HRv16.out ((Below.refl _ _).alloc (Nat.le_refl _) _)) 10 rfl).1⟩, (cell_at (below_cells HRv16.out ((Below.refl _ _).alloc (Nat.le_refl _) _)) 11 rfl).1⟩, (cell_at (below_cells HRv16.out ((Below.refl _ _).alloc (Nat.le_refl _) _)) 12 rfl).1⟩, (cell_at (below_cells HRv16.out ((Below.refl _ _).alloc (Nat.le_refl _) _)) 13 rfl).1⟩, (cell_at (below_cells HRv16.out ((Below.refl _ _).alloc (Nat.le_refl _) _)) 14 rfl).1⟩, (cell_at (below_cells HRv16.out ((Below.refl _ _).alloc (Nat.le_refl _) _)) 15 rfl).1⟩, (cell_at (below_cells HRv16.out ((Below.refl _ _).alloc (Nat.le_refl _) _)) 16 rfl).1⟩ (fun hHeld => ?_)
                    clear hK K
                    try simp only [Act.put, List.setIfInBounds_toArray, List.set_cons_zero, List.set_cons_succ]
                    refine wpAnyH_ready (rs := [22]) (by kernel_rfl) (by simp) ?_
                    refine AllReadyH.cons (by simp only [List.getElem?_toArray, List.getElem?_cons_zero, List.getElem?_cons_succ] <;> rfl) (fun K hK => ?_) AllReadyH.nil
                    · skip
                      refine step_append_sl rfl _ _ 24 rfl rfl rfl so23 (HPv16.out.ts.own2.alloc _) (m := 1) (news := [.string ⟨x.name.text.toArray⟩, .int .i64 ((valD x.guar.text : Nat) : Int), .int .i64 ((valD x.snap.text : Nat) : Int), .int .i64 ((valD x.burst.text : Nat) : Int), .int .i64 ((valD x.rank.text : Nat) : Int), .string ⟨x.other.text.toArray⟩]) rfl (Sl.new _ _ _) ?_ hbm hym (Nat.le_trans HPv16.out.below.size (by simp)) ?_
                      · intro u hu; simp at hu; rcases hu with rfl | rfl | rfl | rfl | rfl | rfl <;> rfl
                      intro A5 c5 w5 ho5 hg5
                      have HP5 := Lib.hid (HPv16.out.pushD (D := ctrOf x) ho5 hg5)
                      have HR5 : Hid (w5.heap[b]? = some (.cells (itemL x).toArray 75)) := (keep_append (ty := 75) (by decide) HPv16.out.ts.own2 hg5).keep _ _ _ HRv16.out
                      have hrow5 := (row_grownOwn HPv16.out.ts.own2 hg5 HPv16.out.ts.row (by decide)).trans HPv16.out.ts.row
                      clear ho5 hg5
                      refine hK.out _ _ ⟨⟨⟨⟨⟨⟨⟨⟨⟨(cell_at HR5.out 1 rfl).1, (cell_at HR5.out 3 rfl).1⟩, (cell_at HR5.out 9 rfl).1⟩, (cell_at HR5.out 10 rfl).1⟩, (cell_at HR5.out 11 rfl).1⟩, (cell_at HR5.out 12 rfl).1⟩, (cell_at HR5.out 13 rfl).1⟩, (cell_at HR5.out 14 rfl).1⟩, (cell_at HR5.out 15 rfl).1⟩, (cell_at HR5.out 16 rfl).1⟩ (fun hHeld => ?_)
                      clear hK K
                      try simp only [Act.put, List.setIfInBounds_toArray, List.set_cons_zero, List.set_cons_succ]
                      refine wpAnyH_take (i := 23) (v := ?_) (by simp only [List.getElem?_toArray, List.getElem?_cons_zero, List.getElem?_cons_succ] <;> rfl) (by kernel_rfl) (by kernel_rfl) (by kernel_rfl) (by intro _ _ _ h; exact h) (Or.inl ⟨by rfl, ?_⟩) hHeld ?_
                      rotate_left
                      · intro w hSw; (try dsimp only at hSw); go_simp
                        with_reducible rfl
                      try simp only [Act.put, List.setIfInBounds_toArray, List.set_cons_zero, List.set_cons_succ]
                      refine wpAnyH_ready (rs := [24]) (by kernel_rfl) (by simp) ?_
                      refine AllReadyH.cons (by simp only [List.getElem?_toArray, List.getElem?_cons_zero, List.getElem?_cons_succ] <;> rfl) (fun K hK => ?_) AllReadyH.nil
                      · skip
                        obtain ⟨z0, z1, z2⟩ := two_cells hrow5
                        have z3 := (cell_at hrow5 1 rfl).2
                        go_simp
                        refine hK.out _ _ ⟨⟨⟨⟨⟨⟨⟨⟨⟨(cell_at ((Below.heap_setCell _ _ _ _ nbg).trans HR5.out) 1 rfl).1, (cell_at ((Below.heap_setCell _ _ _ _ nbg).trans HR5.out) 3 rfl).1⟩, (cell_at ((Below.heap_setCell _ _ _ _ nbg).trans HR5.out) 9 rfl).1⟩, (cell_at ((Below.heap_setCell _ _ _ _ nbg).trans HR5.out) 10 rfl).1⟩, (cell_at ((Below.heap_setCell _ _ _ _ nbg).trans HR5.out) 11 rfl).1⟩, (cell_at ((Below.heap_setCell _ _ _ _ nbg).trans HR5.out) 12 rfl).1⟩, (cell_at ((Below.heap_setCell _ _ _ _ nbg).trans HR5.out) 13 rfl).1⟩, (cell_at ((Below.heap_setCell _ _ _ _ nbg).trans HR5.out) 14 rfl).1⟩, (cell_at ((Below.heap_setCell _ _ _ _ nbg).trans HR5.out) 15 rfl).1⟩, (cell_at ((Below.heap_setCell _ _ _ _ nbg).trans HR5.out) 16 rfl).1⟩ (fun hHeld => ?_)
                        clear hK K
                        try simp only [Act.put, List.setIfInBounds_toArray, List.set_cons_zero, List.set_cons_succ]
                        refine wpAnyH_done (by kernel_rfl) ?_ _
                        clear hHeld z0 z1 z2 z3 hrow5
                        go_wp2_with fail
                        go_roundg (xs.length - (k + 1))
                        case measure => rw [Hg.out]; omega
                        case rel => exact ⟨k + 1, A, n, c, A5, m + 1, c5, by go_num, rfl, by omega, by omega, by rw [HT.out]; exact HP5.out⟩
          · skip
            go_simp
            go_at_call 21
            refine (value_any x.snap _ HVsnap).mono ?_
            rintro e u10 ⟨rfl, hbu⟩
            have HPv10 := Lib.hid (HPv7.out.call hbu)
            have HRv10 := Lib.hid (below_cells HRv7.out hbu)
            clear hbu
            refine hK.out _ _ ⟨⟨⟨⟨⟨⟨⟨⟨⟨(cell_at HRv10.out 1 rfl).1, (cell_at HRv10.out 3 rfl).1⟩, (cell_at HRv10.out 9 rfl).1⟩, (cell_at HRv10.out 10 rfl).1⟩, (cell_at HRv10.out 11 rfl).1⟩, (cell_at HRv10.out 12 rfl).1⟩, (cell_at HRv10.out 13 rfl).1⟩, (cell_at HRv10.out 14 rfl).1⟩, (cell_at HRv10.out 15 rfl).1⟩, (cell_at HRv10.out 16 rfl).1⟩ (fun hHeld => ?_)
            clear hK K
            try simp only [Act.put, List.setIfInBounds_toArray, List.set_cons_zero, List.set_cons_succ]
            refine wpAnyH_ready (rs := [1, 13]) (by kernel_rfl) (by simp) ?_
            refine AllReadyH.cons (by simp only [List.getElem?_toArray, List.getElem?_cons_zero, List.getElem?_cons_succ] <;> rfl) (fun K hK => ?_) (AllReadyH.cons (by simp only [List.getElem?_toArray, List.getElem?_cons_zero, List.getElem?_cons_succ] <;> rfl) (fun K hK => ?_) AllReadyH.nil)
            · skip
              obtain ⟨y0, y1, -⟩ := two_cells HPv10.out.ts.row
              go_simp
              refine hK.out _ _ ⟨⟨⟨⟨⟨⟨⟨⟨⟨(cell_at HRv10.out 1 rfl).1, (cell_at HRv10.out 3 rfl).1⟩, (cell_at HRv10.out 9 rfl).1⟩, (cell_at HRv10.out 10 rfl).1⟩, (cell_at HRv10.out 11 rfl).1⟩, (cell_at HRv10.out 12 rfl).1⟩, (cell_at HRv10.out 13 rfl).1⟩, (cell_at HRv10.out 14 rfl).1⟩, (cell_at HRv10.out 15 rfl).1⟩, (cell_at HRv10.out 16 rfl).1⟩ (fun hHeld => ?_)
              clear hK K
              try simp only [Act.put, List.setIfInBounds_toArray, List.set_cons_zero, List.set_cons_succ]
              clear y0 y1
              refine wpAnyH_ready (rs := [13]) (by kernel_rfl) (by simp) ?_
              refine AllReadyH.cons (by simp only [List.getElem?_toArray, List.getElem?_cons_zero, List.getElem?_cons_succ] <;> rfl) (fun K hK => ?_) AllReadyH.nil
              · skip
                go_simp
                go_at_call 21
                refine (value_any x.burst _ HVburst).mono ?_
                rintro e u13 ⟨rfl, hbu⟩
                have HPv13 := Lib.hid (HPv10.out.call hbu)
                have HRv13 := Lib.hid (below_cells HRv10.out hbu)
                clear hbu
                refine hK.out _ _ ⟨⟨⟨⟨⟨⟨⟨⟨⟨(cell_at HRv13.out 1 rfl).1, (cell_at HRv13.out 3 rfl).1⟩, (cell_at HRv13.out 9 rfl).1⟩, (cell_at HRv13.out 10 rfl).1⟩, (cell_at HRv13.out 11 rfl).1⟩, (cell_at HRv13.out 12 rfl).1⟩, (cell_at HRv13.out 13 rfl).1⟩, (cell_at HRv13.out 14 rfl).1⟩, (cell_at HRv13.out 15 rfl).1⟩, (cell_at HRv13.out 16 rfl).1⟩ (fun hHeld => ?_)
                clear hK K
                try simp only [Act.put, List.setIfInBounds_toArray, List.set_cons_zero, List.set_cons_succ]
                refine wpAnyH_ready (rs := [16]) (by kernel_rfl) (by simp) ?_
                refine AllReadyH.cons (by simp only [List.getElem?_toArray, List.getElem?_cons_zero, List.getElem?_cons_succ] <;> rfl) (fun K hK => ?_) AllReadyH.nil
                · skip
                  go_simp
                  go_at_call 21
                  refine (value_any x.rank _ HVrank).mono ?_
                  rintro e u16 ⟨rfl, hbu⟩
                  have HPv16 := Lib.hid (HPv13.out.call hbu)
                  have HRv16 := Lib.hid (below_cells HRv13.out hbu)
                  clear hbu
                  refine hK.out _ _ ⟨⟨⟨⟨⟨⟨⟨⟨⟨(cell_at HRv16.out 1 rfl).1, (cell_at HRv16.out 3 rfl).1⟩, (cell_at HRv16.out 9 rfl).1⟩, (cell_at HRv16.out 10 rfl).1⟩, (cell_at HRv16.out 11 rfl).1⟩, (cell_at HRv16.out 12 rfl).1⟩, (cell_at HRv16.out 13 rfl).1⟩, (cell_at HRv16.out 14 rfl).1⟩, (cell_at HRv16.out 15 rfl).1⟩, (cell_at HRv16.out 16 rfl).1⟩ (fun hHeld => ?_)
                  clear hK K
                  try simp only [Act.put, List.setIfInBounds_toArray, List.set_cons_zero, List.set_cons_succ]
                  refine wpAnyH_take (i := 20) (v := ?_) (by simp only [List.getElem?_toArray, List.getElem?_cons_zero, List.getElem?_cons_succ] <;> rfl) (by kernel_rfl) (by kernel_rfl) (by kernel_rfl) (by intro _ _ _ h; exact h) (Or.inl ⟨by rfl, ?_⟩) hHeld ?_
                  rotate_left
                  · intro w hSw; (try dsimp only at hSw); go_simp
                    with_reducible rfl
                  try simp only [Act.put, List.setIfInBounds_toArray, List.set_cons_zero, List.set_cons_succ]
                  refine wpAnyH_ready (rs := [21]) (by kernel_rfl) (by simp) ?_
                  refine AllReadyH.cons (by simp only [List.getElem?_toArray, List.getElem?_cons_zero, List.getElem?_cons_succ] <;> rfl) (fun K hK => ?_) AllReadyH.nil
                  · skip
                    go_simp
                    refine hK.out _ _ ⟨⟨⟨⟨⟨⟨⟨⟨⟨(cell_at (below_cells HRv16.out ((Below.refl _ _).alloc (Nat.le_refl _) _)) 1 rfl).1, (cell_at (below_cells HRv16.out ((Below.refl _ _).alloc (Nat.le_refl _) _)) 3 rfl).1⟩, (cell_at (below_cells HRv16.out ((Below.refl _ _).alloc (Nat.le_refl _) _)) 9 rfl).1⟩, (cell_at (below_cells HRv16.out ((Below.refl _ _).alloc (Nat.le_refl _) _)) 10 rfl).1⟩, (cell_at (below_cells HRv16.out ((Below.refl _ _).alloc (Nat.le_refl _) _)) 11 rfl).1⟩, (cell_at (below_cells HRv16.out ((Below.refl _ _).alloc (Nat.le_refl _) _)) 12 rfl).1⟩, (cell_at (below_cells HRv16.out ((Below.refl _ _).alloc (Nat.le_refl _) _)) 13 rfl).1⟩, (cell_at (below_cells HRv16.out ((Below.refl _ _).alloc (Nat.le_refl _) _)) 14 rfl).1⟩, (cell_at (below_cells HRv16.out ((Below.refl _ _).alloc (Nat.le_refl _) _)) 15 rfl).1⟩, (cell_at (below_cells HRv16.out ((Below.refl _ _).alloc (Nat.le_refl _) _)) 16 rfl).1⟩ (fun hHeld => ?_)
                    clear hK K
                    try simp only [Act.put, List.setIfInBounds_toArray, List.set_cons_zero, List.set_cons_succ]
                    refine wpAnyH_ready (rs := [22]) (by kernel_rfl) (by simp) ?_
                    refine AllReadyH.cons (by simp only [List.getElem?_toArray, List.getElem?_cons_zero, List.getElem?_cons_succ] <;> rfl) (fun K hK => ?_) AllReadyH.nil
                    · skip
                      refine step_append_sl rfl _ _ 24 rfl rfl rfl so23 (HPv16.out.ts.own2.alloc _) (m := 1) (news := [.string ⟨x.name.text.toArray⟩, .int .i64 ((valD x.guar.text : Nat) : Int), .int .i64 ((valD x.snap.text : Nat) : Int), .int .i64 ((valD x.burst.text : Nat) : Int), .int .i64 ((valD x.rank.text : Nat) : Int), .string ⟨x.other.text.toArray⟩]) rfl (Sl.new _ _ _) ?_ hbm hym (Nat.le_trans HPv16.out.below.size (by simp)) ?_
                      · intro u hu; simp at hu; rcases hu with rfl | rfl | rfl | rfl | rfl | rfl <;> rfl
                      intro A5 c5 w5 ho5 hg5
                      have HP5 := Lib.hid (HPv16.out.pushD (D := ctrOf x) ho5 hg5)
                      have HR5 : Hid (w5.heap[b]? = some (.cells (itemL x).toArray 75)) := (keep_append (ty := 75) (by decide) HPv16.out.ts.own2 hg5).keep _ _ _ HRv16.out
                      have hrow5 := (row_grownOwn HPv16.out.ts.own2 hg5 HPv16.out.ts.row (by decide)).trans HPv16.out.ts.row
                      clear ho5 hg5
                      refine hK.out _ _ ⟨⟨⟨⟨⟨⟨⟨⟨⟨(cell_at HR5.out 1 rfl).1, (cell_at HR5.out 3 rfl).1⟩, (cell_at HR5.out 9 rfl).1⟩, (cell_at HR5.out 10 rfl).1⟩, (cell_at HR5.out 11 rfl).1⟩, (cell_at HR5.out 12 rfl).1⟩, (cell_at HR5.out 13 rfl).1⟩, (cell_at HR5.out 14 rfl).1⟩, (cell_at HR5.out 15 rfl).1⟩, (cell_at HR5.out 16 rfl).1⟩ (fun hHeld => ?_)
                      clear hK K
                      try simp only [Act.put, List.setIfInBounds_toArray, List.set_cons_zero, List.set_cons_succ]
                      refine wpAnyH_take (i := 23) (v := ?_) (by simp only [List.getElem?_toArray, List.getElem?_cons_zero, List.getElem?_cons_succ] <;> rfl) (by kernel_rfl) (by kernel_rfl) (by kernel_rfl) (by intro _ _ _ h; exact h) (Or.inl ⟨by rfl, ?_⟩) hHeld ?_
                      rotate_left
                      · intro w hSw; (try dsimp only at hSw); go_simp
                        with_reducible rfl
                      try simp only [Act.put, List.setIfInBounds_toArray, List.set_cons_zero, List.set_cons_succ]
                      refine wpAnyH_ready (rs := [24]) (by kernel_rfl) (by simp) ?_
                      refine AllReadyH.cons (by simp only [List.getElem?_toArray, List.getElem?_cons_zero, List.getElem?_cons_succ] <;> rfl) (fun K hK => ?_) AllReadyH.nil
                      · skip
                        obtain ⟨z0, z1, z2⟩ := two_cells hrow5
                        have z3 := (cell_at hrow5 1 rfl).2
                        go_simp
                        refine hK.out _ _ ⟨⟨⟨⟨⟨⟨⟨⟨⟨(cell_at ((Below.heap_setCell _ _ _ _ nbg).trans HR5.out) 1 rfl).1, (cell_at ((Below.heap_setCell _ _ _ _ nbg).trans HR5.out) 3 rfl).1⟩, (cell_at ((Below.heap_setCell _ _ _ _ nbg).trans HR5.out) 9 rfl).1⟩, (cell_at ((Below.heap_setCell _ _ _ _ nbg).trans HR5.out) 10 rfl).1⟩, (cell_at ((Below.heap_setCell _ _ _ _ nbg).trans HR5.out) 11 rfl).1⟩, (cell_at ((Below.heap_setCell _ _ _ _ nbg).trans HR5.out) 12 rfl).1⟩, (cell_at ((Below.heap_setCell _ _ _ _ nbg).trans HR5.out) 13 rfl).1⟩, (cell_at ((Below.heap_setCell _ _ _ _ nbg).trans HR5.out) 14 rfl).1⟩, (cell_at ((Below.heap_setCell _ _ _ _ nbg).trans HR5.out) 15 rfl).1⟩, (cell_at ((Below.heap_setCell _ _ _ _ nbg).trans HR5.out) 16 rfl).1⟩ (fun hHeld => ?_)
                        clear hK K
                        try simp only [Act.put, List.setIfInBounds_toArray, List.set_cons_zero, List.set_cons_succ]
                        refine wpAnyH_done (by kernel_rfl) ?_ _
                        clear hHeld z0 z1 z2 z3 hrow5
                        go_wp2_with fail
                        go_roundg (xs.length - (k + 1))
                        case measure => rw [Hg.out]; omega
                        case rel => exact ⟨k + 1, A, n, c, A5, m + 1, c5, by go_num, rfl, by omega, by omega, by rw [HT.out]; exact HP5.out⟩
            · skip
              go_simp
              go_at_call 21
              refine (value_any x.burst _ HVburst).mono ?_
              rintro e u13 ⟨rfl, hbu⟩
              have HPv13 := Lib.hid (HPv10.out.call hbu)
              have HRv13 := Lib.hid (below_cells HRv10.out hbu)
              clear hbu
              refine hK.out _ _ ⟨⟨⟨⟨⟨⟨⟨⟨⟨(cell_at HRv13.out 1 rfl).1, (cell_at HRv13.out 3 rfl).1⟩, (cell_at HRv13.out 9 rfl).1⟩, (cell_at HRv13.out 10 rfl).1⟩, (cell_at HRv13.out 11 rfl).1⟩, (cell_at HRv13.out 12 rfl).1⟩, (cell_at HRv13.out 13 rfl).1⟩, (cell_at HRv13.out 14 rfl).1⟩, (cell_at HRv13.out 15 rfl).1⟩, (cell_at HRv13.out 16 rfl).1⟩ (fun hHeld => ?_)
              clear hK K
              try simp only [Act.put, List.setIfInBounds_toArray, List.set_cons_zero, List.set_cons_succ]
              refine wpAnyH_ready (rs := [1, 16]) (by kernel_rfl) (by simp) ?_
              refine AllReadyH.cons (by simp only [List.getElem?_toArray, List.getElem?_cons_zero, List.getElem?_cons_succ] <;> rfl) (fun K hK => ?_) (AllReadyH.cons (by simp only [List.getElem?_toArray, List.getElem?_cons_zero, List.getElem?_cons_succ] <;> rfl) (fun K hK => ?_) AllReadyH.nil)
              · skip
                obtain ⟨y0, y1, -⟩ := two_cells HPv13.out.ts.row
                go_simp
                refine hK.out _ _ ⟨⟨⟨⟨⟨⟨⟨⟨⟨(cell_at HRv13.out 1 rfl).1, (cell_at HRv13.out 3 rfl).1⟩, (cell_at HRv13.out 9 rfl).1⟩, (cell_at HRv13.out 10 rfl).1⟩, (cell_at HRv13.out 11 rfl).1⟩, (cell_at HRv13.out 12 rfl).1⟩, (cell_at HRv13.out 13 rfl).1⟩, (cell_at HRv13.out 14 rfl).1⟩, (cell_at HRv13.out 15 rfl).1⟩, (cell_at HRv13.out 16 rfl).1⟩ (fun hHeld => ?_)
                clear hK K
                try simp only [Act.put, List.setIfInBounds_toArray, List.set_cons_zero, List.set_cons_succ]
                clear y0 y1
                refine wpAnyH_ready (rs := [16]) (by kernel_rfl) (by simp) ?_
                refine AllReadyH.cons (by simp only [List.getElem?_toArray, List.getElem?_cons_zero, List.getElem?_cons_succ] <;> rfl) (fun K hK => ?_) AllReadyH.nil
                · skip
                  go_simp
                  go_at_call 21
                  refine (value_any x.rank _ HVrank).mono ?_
                  rintro e u16 ⟨rfl, hbu⟩
                  have HPv16 := Lib.hid (HPv13.out.call hbu)
                  have HRv16 := Lib.hid (below_cells HRv13.out hbu)
                  clear hbu
                  refine hK.out _ _ ⟨⟨⟨⟨⟨⟨⟨⟨⟨(cell_at HRv16.out 1 rfl).1, (cell_at HRv16.out 3 rfl).1⟩, (cell_at HRv16.out 9 rfl).1⟩, (cell_at HRv16.out 10 rfl).1⟩, (cell_at HRv16.out 11 rfl).1⟩, (cell_at HRv16.out 12 rfl).1⟩, (cell_at HRv16.out 13 rfl).1⟩, (cell_at HRv16.out 14 rfl).1⟩, (cell_at HRv16.out 15 rfl).1⟩, (cell_at HRv16.out 16 rfl).1⟩ (fun hHeld => ?_)
                  clear hK K
                  try simp only [Act.put, List.setIfInBounds_toArray, List.set_cons_zero, List.set_cons_succ]
                  refine wpAnyH_take (i := 20) (v := ?_) (by simp only [List.getElem?_toArray, List.getElem?_cons_zero, List.getElem?_cons_succ] <;> rfl) (by kernel_rfl) (by kernel_rfl) (by kernel_rfl) (by intro _ _ _ h; exact h) (Or.inl ⟨by rfl, ?_⟩) hHeld ?_
                  rotate_left
                  · intro w hSw; (try dsimp only at hSw); go_simp
                    with_reducible rfl
                  try simp only [Act.put, List.setIfInBounds_toArray, List.set_cons_zero, List.set_cons_succ]
                  refine wpAnyH_ready (rs := [21]) (by kernel_rfl) (by simp) ?_
                  refine AllReadyH.cons (by simp only [List.getElem?_toArray, List.getElem?_cons_zero, List.getElem?_cons_succ] <;> rfl) (fun K hK => ?_) AllReadyH.nil
                  · skip
                    go_simp
                    refine hK.out _ _ ⟨⟨⟨⟨⟨⟨⟨⟨⟨(cell_at (below_cells HRv16.out ((Below.refl _ _).alloc (Nat.le_refl _) _)) 1 rfl).1, (cell_at (below_cells HRv16.out ((Below.refl _ _).alloc (Nat.le_refl _) _)) 3 rfl).1⟩, (cell_at (below_cells HRv16.out ((Below.refl _ _).alloc (Nat.le_refl _) _)) 9 rfl).1⟩, (cell_at (below_cells HRv16.out ((Below.refl _ _).alloc (Nat.le_refl _) _)) 10 rfl).1⟩, (cell_at (below_cells HRv16.out ((Below.refl _ _).alloc (Nat.le_refl _) _)) 11 rfl).1⟩, (cell_at (below_cells HRv16.out ((Below.refl _ _).alloc (Nat.le_refl _) _)) 12 rfl).1⟩, (cell_at (below_cells HRv16.out ((Below.refl _ _).alloc (Nat.le_refl _) _)) 13 rfl).1⟩, (cell_at (below_cells HRv16.out ((Below.refl _ _).alloc (Nat.le_refl _) _)) 14 rfl).1⟩, (cell_at (below_cells HRv16.out ((Below.refl _ _).alloc (Nat.le_refl _) _)) 15 rfl).1⟩, (cell_at (below_cells HRv16.out ((Below.refl _ _).alloc (Nat.le_refl _) _)) 16 rfl).1⟩ (fun hHeld => ?_)
                    clear hK K
                    try simp only [Act.put, List.setIfInBounds_toArray, List.set_cons_zero, List.set_cons_succ]
                    refine wpAnyH_ready (rs := [22]) (by kernel_rfl) (by simp) ?_
                    refine AllReadyH.cons (by simp only [List.getElem?_toArray, List.getElem?_cons_zero, List.getElem?_cons_succ] <;> rfl) (fun K hK => ?_) AllReadyH.nil
                    · skip
                      refine step_append_sl rfl _ _ 24 rfl rfl rfl so23 (HPv16.out.ts.own2.alloc _) (m := 1) (news := [.string ⟨x.name.text.toArray⟩, .int .i64 ((valD x.guar.text : Nat) : Int), .int .i64 ((valD x.snap.text : Nat) : Int), .int .i64 ((valD x.burst.text : Nat) : Int), .int .i64 ((valD x.rank.text : Nat) : Int), .string ⟨x.other.text.toArray⟩]) rfl (Sl.new _ _ _) ?_ hbm hym (Nat.le_trans HPv16.out.below.size (by simp)) ?_
                      · intro u hu; simp at hu; rcases hu with rfl | rfl | rfl | rfl | rfl | rfl <;> rfl
                      intro A5 c5 w5 ho5 hg5
                      have HP5 := Lib.hid (HPv16.out.pushD (D := ctrOf x) ho5 hg5)
                      have HR5 : Hid (w5.heap[b]? = some (.cells (itemL x).toArray 75)) := (keep_append (ty := 75) (by decide) HPv16.out.ts.own2 hg5).keep _ _ _ HRv16.out
                      have hrow5 := (row_grownOwn HPv16.out.ts.own2 hg5 HPv16.out.ts.row (by decide)).trans HPv16.out.ts.row
                      clear ho5 hg5
                      refine hK.out _ _ ⟨⟨⟨⟨⟨⟨⟨⟨⟨(cell_at HR5.out 1 rfl).1, (cell_at HR5.out 3 rfl).1⟩, (cell_at HR5.out 9 rfl).1⟩, (cell_at HR5.out 10 rfl).1⟩, (cell_at HR5.out 11 rfl).1⟩, (cell_at HR5.out 12 rfl).1⟩, (cell_at HR5.out 13 rfl).1⟩, (cell_at HR5.out 14 rfl).1⟩, (cell_at HR5.out 15 rfl).1⟩, (cell_at HR5.out 16 rfl).1⟩ (fun hHeld => ?_)
                      clear hK K
                      try simp only [Act.put, List.setIfInBounds_toArray, List.set_cons_zero, List.set_cons_succ]
                      refine wpAnyH_take (i := 23) (v := ?_) (by simp only [List.getElem?_toArray, List.getElem?_cons_zero, List.getElem?_cons_succ] <;> rfl) (by kernel_rfl) (by kernel_rfl) (by kernel_rfl) (by intro _ _ _ h; exact h) (Or.inl ⟨by rfl, ?_⟩) hHeld ?_
                      rotate_left
                      · intro w hSw; (try dsimp only at hSw); go_simp
                        with_reducible rfl
                      try simp only [Act.put, List.setIfInBounds_toArray, List.set_cons_zero, List.set_cons_succ]
                      refine wpAnyH_ready (rs := [24]) (by kernel_rfl) (by simp) ?_
                      refine AllReadyH.cons (by simp only [List.getElem?_toArray, List.getElem?_cons_zero, List.getElem?_cons_succ] <;> rfl) (fun K hK => ?_) AllReadyH.nil
                      · skip
                        obtain ⟨z0, z1, z2⟩ := two_cells hrow5
                        have z3 := (cell_at hrow5 1 rfl).2
                        go_simp
                        refine hK.out _ _ ⟨⟨⟨⟨⟨⟨⟨⟨⟨(cell_at ((Below.heap_setCell _ _ _ _ nbg).trans HR5.out) 1 rfl).1, (cell_at ((Below.heap_setCell _ _ _ _ nbg).trans HR5.out) 3 rfl).1⟩, (cell_at ((Below.heap_setCell _ _ _ _ nbg).trans HR5.out) 9 rfl).1⟩, (cell_at ((Below.heap_setCell _ _ _ _ nbg).trans HR5.out) 10 rfl).1⟩, (cell_at ((Below.heap_setCell _ _ _ _ nbg).trans HR5.out) 11 rfl).1⟩, (cell_at ((Below.heap_setCell _ _ _ _ nbg).trans HR5.out) 12 rfl).1⟩, (cell_at ((Below.heap_setCell _ _ _ _ nbg).trans HR5.out) 13 rfl).1⟩, (cell_at ((Below.heap_setCell _ _ _ _ nbg).trans HR5.out) 14 rfl).1⟩, (cell_at ((Below.heap_setCell _ _ _ _ nbg).trans HR5.out) 15 rfl).1⟩, (cell_at ((Below.heap_setCell _ _ _ _ nbg).trans HR5.out) 16 rfl).1⟩ (fun hHeld => ?_)
                        clear hK K
                        try simp only [Act.put, List.setIfInBounds_toArray, List.set_cons_zero, List.set_cons_succ]
                        refine wpAnyH_done (by kernel_rfl) ?_ _
                        clear hHeld z0 z1 z2 z3 hrow5
                        go_wp2_with fail
                        go_roundg (xs.length - (k + 1))
                        case measure => rw [Hg.out]; omega
                        case rel => exact ⟨k + 1, A, n, c, A5, m + 1, c5, by go_num, rfl, by omega, by omega, by rw [HT.out]; exact HP5.out⟩
              · skip
                go_simp
                go_at_call 21
                refine (value_any x.rank _ HVrank).mono ?_
                rintro e u16 ⟨rfl, hbu⟩
                have HPv16 := Lib.hid (HPv13.out.call hbu)
                have HRv16 := Lib.hid (below_cells HRv13.out hbu)
                clear hbu
                refine hK.out _ _ ⟨⟨⟨⟨⟨⟨⟨⟨⟨(cell_at HRv16.out 1 rfl).1, (cell_at HRv16.out 3 rfl).1⟩, (cell_at HRv16.out 9 rfl).1⟩, (cell_at HRv16.out 10 rfl).1⟩, (cell_at HRv16.out 11 rfl).1⟩, (cell_at HRv16.out 12 rfl).1⟩, (cell_at HRv16.out 13 rfl).1⟩, (cell_at HRv16.out 14 rfl).1⟩, (cell_at HRv16.out 15 rfl).1⟩, (cell_at HRv16.out 16 rfl).1⟩ (fun hHeld => ?_)
                clear hK K
                try simp only [Act.put, List.setIfInBounds_toArray, List.set_cons_zero, List.set_cons_succ]
                refine wpAnyH_take (i := 20) (v := ?_) (by simp only [List.getElem?_toArray, List.getElem?_cons_zero, List.getElem?_cons_succ] <;> rfl) (by kernel_rfl) (by kernel_rfl) (by kernel_rfl) (by intro _ _ _ h; exact h) (Or.inl ⟨by rfl, ?_⟩) hHeld ?_
                rotate_left
                · intro w hSw; (try dsimp only at hSw); go_simp
                  with_reducible rfl
                try simp only [Act.put, List.setIfInBounds_toArray, List.set_cons_zero, List.set_cons_succ]
                refine wpAnyH_ready (rs := [1, 21]) (by kernel_rfl) (by simp) ?_
                refine AllReadyH.cons (by simp only [List.getElem?_toArray, List.getElem?_cons_zero, List.getElem?_cons_succ] <;> rfl) (fun K hK => ?_) (AllReadyH.cons (by simp only [List.getElem?_toArray, List.getElem?_cons_zero, List.getElem?_cons_succ] <;> rfl) (fun K hK => ?_) AllReadyH.nil)
                · skip
                  obtain ⟨y0, y1, -⟩ := two_cells HPv16.out.ts.row
                  go_simp
                  refine hK.out _ _ ⟨⟨⟨⟨⟨⟨⟨⟨⟨(cell_at HRv16.out 1 rfl).1, (cell_at HRv16.out 3 rfl).1⟩, (cell_at HRv16.out 9 rfl).1⟩, (cell_at HRv16.out 10 rfl).1⟩, (cell_at HRv16.out 11 rfl).1⟩, (cell_at HRv16.out 12 rfl).1⟩, (cell_at HRv16.out 13 rfl).1⟩, (cell_at HRv16.out 14 rfl).1⟩, (cell_at HRv16.out 15 rfl).1⟩, (cell_at HRv16.out 16 rfl).1⟩ (fun hHeld => ?_)
                  clear hK K
                  try simp only [Act.put, List.setIfInBounds_toArray, List.set_cons_zero, List.set_cons_succ]
                  clear y0 y1
                  refine wpAnyH_ready (rs := [21]) (by kernel_rfl) (by simp) ?_
                  refine AllReadyH.cons (by simp only [List.getElem?_toArray, List.getElem?_cons_zero, List.getElem?_cons_succ] <;> rfl) (fun K hK => ?_) AllReadyH.nil
                  · skip
                    go_simp
                    refine hK.out _ _ ⟨⟨⟨⟨⟨⟨⟨⟨⟨(cell_at (below_cells HRv16.out ((Below.refl _ _).alloc (Nat.le_refl _) _)) 1 rfl).1, (cell_at (below_cells HRv16.out ((Below.refl _ _).alloc (Nat.le_refl _) _)) 3 rfl).1⟩, (cell_at (below_cells HRv16.out ((Below.refl _ _).alloc (Nat.le_refl _) _)) 9 rfl).1⟩, (cell_at (below_cells HRv16.out ((Below.refl _ _).alloc (Nat.le_refl _) _)) 10 rfl).1⟩, (cell_at (below_cells HRv16.out ((Below.refl _ _).alloc (Nat.le_refl _) _)) 11 rfl).1⟩, (cell_at (below_cells HRv16.out ((Below.refl _ _).alloc (Nat.le_refl _) _)) 12 rfl).1⟩, (cell_at (below_cells HRv16.out ((Below.refl _ _).alloc (Nat.le_refl _) _)) 13 rfl).1⟩, (cell_at (below_cells HRv16.out ((Below.refl _ _).alloc (Nat.le_refl _) _)) 14 rfl).1⟩, (cell_at (below_cells HRv16.out ((Below.refl _ _).alloc (Nat.le_refl _) _)) 15 rfl).1⟩, (cell_at (below_cells HRv16.out ((Below.refl _ _).alloc (Nat.le_refl _) _)) 16 rfl).1⟩ (fun hHeld => ?_)
                    clear hK K
                    try simp only [Act.put, List.setIfInBounds_toArray, List.set_cons_zero, List.set_cons_succ]
                    refine wpAnyH_ready (rs := [22]) (by kernel_rfl) (by simp) ?_
                    refine AllReadyH.cons (by simp only [List.getElem?_toArray, List.getElem?_cons_zero, List.getElem?_cons_succ] <;> rfl) (fun K hK => ?_) AllReadyH.nil
                    · skip
                      refine step_append_sl rfl _ _ 24 rfl rfl rfl so23 (HPv16.out.ts.own2.alloc _) (m := 1) (news := [.string ⟨x.name.text.toArray⟩, .int .i64 ((valD x.guar.text : Nat) : Int), .int .i64 ((valD x.snap.text : Nat) : Int), .int .i64 ((valD x.burst.text : Nat) : Int), .int .i64 ((valD x.rank.text : Nat) : Int), .string ⟨x.other.text.toArray⟩]) rfl (Sl.new _ _ _) ?_ hbm hym (Nat.le_trans HPv16.out.below.size (by simp)) ?_
                      · intro u hu; simp at hu; rcases hu with rfl | rfl | rfl | rfl | rfl | rfl <;> rfl
                      intro A5 c5 w5 ho5 hg5
                      have HP5 := Lib.hid (HPv16.out.pushD (D := ctrOf x) ho5 hg5)
                      have HR5 : Hid (w5.heap[b]? = some (.cells (itemL x).toArray 75)) := (keep_append (ty := 75) (by decide) HPv16.out.ts.own2 hg5).keep _ _ _ HRv16.out
                      have hrow5 := (row_grownOwn HPv16.out.ts.own2 hg5 HPv16.out.ts.row (by decide)).trans HPv16.out.ts.row
                      clear ho5 hg5
                      refine hK.out _ _ ⟨⟨⟨⟨⟨⟨⟨⟨⟨(cell_at HR5.out 1 rfl).1, (cell_at HR5.out 3 rfl).1⟩, (cell_at HR5.out 9 rfl).1⟩, (cell_at HR5.out 10 rfl).1⟩, (cell_at HR5.out 11 rfl).1⟩, (cell_at HR5.out 12 rfl).1⟩, (cell_at HR5.out 13 rfl).1⟩, (cell_at HR5.out 14 rfl).1⟩, (cell_at HR5.out 15 rfl).1⟩, (cell_at HR5.out 16 rfl).1⟩ (fun hHeld => ?_)
                      clear hK K
                      try simp only [Act.put, List.setIfInBounds_toArray, List.set_cons_zero, List.set_cons_succ]
                      refine wpAnyH_take (i := 23) (v := ?_) (by simp only [List.getElem?_toArray, List.getElem?_cons_zero, List.getElem?_cons_succ] <;> rfl) (by kernel_rfl) (by kernel_rfl) (by kernel_rfl) (by intro _ _ _ h; exact h) (Or.inl ⟨by rfl, ?_⟩) hHeld ?_
                      rotate_left
                      · intro w hSw; (try dsimp only at hSw); go_simp
                        with_reducible rfl
                      try simp only [Act.put, List.setIfInBounds_toArray, List.set_cons_zero, List.set_cons_succ]
                      refine wpAnyH_ready (rs := [24]) (by kernel_rfl) (by simp) ?_
                      refine AllReadyH.cons (by simp only [List.getElem?_toArray, List.getElem?_cons_zero, List.getElem?_cons_succ] <;> rfl) (fun K hK => ?_) AllReadyH.nil
                      · skip
                        obtain ⟨z0, z1, z2⟩ := two_cells hrow5
                        have z3 := (cell_at hrow5 1 rfl).2
                        go_simp
                        refine hK.out _ _ ⟨⟨⟨⟨⟨⟨⟨⟨⟨(cell_at ((Below.heap_setCell _ _ _ _ nbg).trans HR5.out) 1 rfl).1, (cell_at ((Below.heap_setCell _ _ _ _ nbg).trans HR5.out) 3 rfl).1⟩, (cell_at ((Below.heap_setCell _ _ _ _ nbg).trans HR5.out) 9 rfl).1⟩, (cell_at ((Below.heap_setCell _ _ _ _ nbg).trans HR5.out) 10 rfl).1⟩, (cell_at ((Below.heap_setCell _ _ _ _ nbg).trans HR5.out) 11 rfl).1⟩, (cell_at ((Below.heap_setCell _ _ _ _ nbg).trans HR5.out) 12 rfl).1⟩, (cell_at ((Below.heap_setCell _ _ _ _ nbg).trans HR5.out) 13 rfl).1⟩, (cell_at ((Below.heap_setCell _ _ _ _ nbg).trans HR5.out) 14 rfl).1⟩, (cell_at ((Below.heap_setCell _ _ _ _ nbg).trans HR5.out) 15 rfl).1⟩, (cell_at ((Below.heap_setCell _ _ _ _ nbg).trans HR5.out) 16 rfl).1⟩ (fun hHeld => ?_)
                        clear hK K
                        try simp only [Act.put, List.setIfInBounds_toArray, List.set_cons_zero, List.set_cons_succ]
                        refine wpAnyH_done (by kernel_rfl) ?_ _
                        clear hHeld z0 z1 z2 z3 hrow5
                        go_wp2_with fail
                        go_roundg (xs.length - (k + 1))
                        case measure => rw [Hg.out]; omega
                        case rel => exact ⟨k + 1, A, n, c, A5, m + 1, c5, by go_num, rfl, by omega, by omega, by rw [HT.out]; exact HP5.out⟩
                · skip
                  go_simp
                  refine hK.out _ _ ⟨⟨⟨⟨⟨⟨⟨⟨⟨(cell_at (below_cells HRv16.out ((Below.refl _ _).alloc (Nat.le_refl _) _)) 1 rfl).1, (cell_at (below_cells HRv16.out ((Below.refl _ _).alloc (Nat.le_refl _) _)) 3 rfl).1⟩, (cell_at (below_cells HRv16.out ((Below.refl _ _).alloc (Nat.le_refl _) _)) 9 rfl).1⟩, (cell_at (below_cells HRv16.out ((Below.refl _ _).alloc (Nat.le_refl _) _)) 10 rfl).1⟩, (cell_at (below_cells HRv16.out ((Below.refl _ _).alloc (Nat.le_refl _) _)) 11 rfl).1⟩, (cell_at (below_cells HRv16.out ((Below.refl _ _).alloc (Nat.le_refl _) _)) 12 rfl).1⟩, (cell_at (below_cells HRv16.out ((Below.refl _ _).alloc (Nat.le_refl _) _)) 13 rfl).1⟩, (cell_at (below_cells HRv16.out ((Below.refl _ _).alloc (Nat.le_refl _) _)) 14 rfl).1⟩, (cell_at (below_cells HRv16.out ((Below.refl _ _).alloc (Nat.le_refl _) _)) 15 rfl).1⟩, (cell_at (below_cells HRv16.out ((Below.refl _ _).alloc (Nat.le_refl _) _)) 16 rfl).1⟩ (fun hHeld => ?_)
                  clear hK K
                  try simp only [Act.put, List.setIfInBounds_toArray, List.set_cons_zero, List.set_cons_succ]
                  refine wpAnyH_ready (rs := [1]) (by kernel_rfl) (by simp) ?_
                  refine AllReadyH.cons (by simp only [List.getElem?_toArray, List.getElem?_cons_zero, List.getElem?_cons_succ] <;> rfl) (fun K hK => ?_) AllReadyH.nil
                  · skip
                    obtain ⟨y0, y1, -⟩ := two_cells (HPv16.out.call ((Below.refl _ _).alloc (Nat.le_refl _) (.cells [.string ⟨x.name.text.toArray⟩, .int .i64 ((valD x.guar.text : Nat) : Int), .int .i64 ((valD x.snap.text : Nat) : Int), .int .i64 ((valD x.burst.text : Nat) : Int), .int .i64 ((valD x.rank.text : Nat) : Int), .string ⟨x.other.text.toArray⟩].toArray 46))).ts.row
                    go_simp
                    refine hK.out _ _ ⟨⟨⟨⟨⟨⟨⟨⟨⟨(cell_at (below_cells HRv16.out ((Below.refl _ _).alloc (Nat.le_refl _) _)) 1 rfl).1, (cell_at (below_cells HRv16.out ((Below.refl _ _).alloc (Nat.le_refl _) _)) 3 rfl).1⟩, (cell_at (below_cells HRv16.out ((Below.refl _ _).alloc (Nat.le_refl _) _)) 9 rfl).1⟩, (cell_at (below_cells HRv16.out ((Below.refl _ _).alloc (Nat.le_refl _) _)) 10 rfl).1⟩, (cell_at (below_cells HRv16.out ((Below.refl _ _).alloc (Nat.le_refl _) _)) 11 rfl).1⟩, (cell_at (below_cells HRv16.out ((Below.refl _ _).alloc (Nat.le_refl _) _)) 12 rfl).1⟩, (cell_at (below_cells HRv16.out ((Below.refl _ _).alloc (Nat.le_refl _) _)) 13 rfl).1⟩, (cell_at (below_cells HRv16.out ((Below.refl _ _).alloc (Nat.le_refl _) _)) 14 rfl).1⟩, (cell_at (below_cells HRv16.out ((Below.refl _ _).alloc (Nat.le_refl _) _)) 15 rfl).1⟩, (cell_at (below_cells HRv16.out ((Below.refl _ _).alloc (Nat.le_refl _) _)) 16 rfl).1⟩ (fun hHeld => ?_)
                    clear hK K
                    try simp only [Act.put, List.setIfInBounds_toArray, List.set_cons_zero, List.set_cons_succ]
                    clear y0 y1
                    refine wpAnyH_ready (rs := [22]) (by kernel_rfl) (by simp) ?_
                    refine AllReadyH.cons (by simp only [List.getElem?_toArray, List.getElem?_cons_zero, List.getElem?_cons_succ] <;> rfl) (fun K hK => ?_) AllReadyH.nil
                    · skip
                      refine step_append_sl rfl _ _ 24 rfl rfl rfl so23 (HPv16.out.ts.own2.alloc _) (m := 1) (news := [.string ⟨x.name.text.toArray⟩, .int .i64 ((valD x.guar.text : Nat) : Int), .int .i64 ((valD x.snap.text : Nat) : Int), .int .i64 ((valD x.burst.text : Nat) : Int), .int .i64 ((valD x.rank.text : Nat) : Int), .string ⟨x.other.text.toArray⟩]) rfl (Sl.new _ _ _) ?_ hbm hym (Nat.le_trans HPv16.out.below.size (by simp)) ?_
                      · intro u hu; simp at hu; rcases hu with rfl | rfl | rfl | rfl | rfl | rfl <;> rfl
                      intro A5 c5 w5 ho5 hg5
                      have HP5 := Lib.hid (HPv16.out.pushD (D := ctrOf x) ho5 hg5)
                      have HR5 : Hid (w5.heap[b]? = some (.cells (itemL x).toArray 75)) := (keep_append (ty := 75) (by decide) HPv16.out.ts.own2 hg5).keep _ _ _ HRv16.out
                      have hrow5 := (row_grownOwn HPv16.out.ts.own2 hg5 HPv16.out.ts.row (by decide)).trans HPv16.out.ts.row
                      clear ho5 hg5
                      refine hK.out _ _ ⟨⟨⟨⟨⟨⟨⟨⟨⟨(cell_at HR5.out 1 rfl).1, (cell_at HR5.out 3 rfl).1⟩, (cell_at HR5.out 9 rfl).1⟩, (cell_at HR5.out 10 rfl).1⟩, (cell_at HR5.out 11 rfl).1⟩, (cell_at HR5.out 12 rfl).1⟩, (cell_at HR5.out 13 rfl).1⟩, (cell_at HR5.out 14 rfl).1⟩, (cell_at HR5.out 15 rfl).1⟩, (cell_at HR5.out 16 rfl).1⟩ (fun hHeld => ?_)
                      clear hK K
                      try simp only [Act.put, List.setIfInBounds_toArray, List.set_cons_zero, List.set_cons_succ]
                      refine wpAnyH_take (i := 23) (v := ?_) (by simp only [List.getElem?_toArray, List.getElem?_cons_zero, List.getElem?_cons_succ] <;> rfl) (by kernel_rfl) (by kernel_rfl) (by kernel_rfl) (by intro _ _ _ h; exact h) (Or.inl ⟨by rfl, ?_⟩) hHeld ?_
                      rotate_left
                      · intro w hSw; (try dsimp only at hSw); go_simp
                        with_reducible rfl
                      try simp only [Act.put, List.setIfInBounds_toArray, List.set_cons_zero, List.set_cons_succ]
                      refine wpAnyH_ready (rs := [24]) (by kernel_rfl) (by simp) ?_
                      refine AllReadyH.cons (by simp only [List.getElem?_toArray, List.getElem?_cons_zero, List.getElem?_cons_succ] <;> rfl) (fun K hK => ?_) AllReadyH.nil
                      · skip
                        obtain ⟨z0, z1, z2⟩ := two_cells hrow5
                        have z3 := (cell_at hrow5 1 rfl).2
                        go_simp
                        refine hK.out _ _ ⟨⟨⟨⟨⟨⟨⟨⟨⟨(cell_at ((Below.heap_setCell _ _ _ _ nbg).trans HR5.out) 1 rfl).1, (cell_at ((Below.heap_setCell _ _ _ _ nbg).trans HR5.out) 3 rfl).1⟩, (cell_at ((Below.heap_setCell _ _ _ _ nbg).trans HR5.out) 9 rfl).1⟩, (cell_at ((Below.heap_setCell _ _ _ _ nbg).trans HR5.out) 10 rfl).1⟩, (cell_at ((Below.heap_setCell _ _ _ _ nbg).trans HR5.out) 11 rfl).1⟩, (cell_at ((Below.heap_setCell _ _ _ _ nbg).trans HR5.out) 12 rfl).1⟩, (cell_at ((Below.heap_setCell _ _ _ _ nbg).trans HR5.out) 13 rfl).1⟩, (cell_at ((Below.heap_setCell _ _ _ _ nbg).trans HR5.out) 14 rfl).1⟩, (cell_at ((Below.heap_setCell _ _ _ _ nbg).trans HR5.out) 15 rfl).1⟩, (cell_at ((Below.heap_setCell _ _ _ _ nbg).trans HR5.out) 16 rfl).1⟩ (fun hHeld => ?_)
                        clear hK K
                        try simp only [Act.put, List.setIfInBounds_toArray, List.set_cons_zero, List.set_cons_succ]
                        refine wpAnyH_done (by kernel_rfl) ?_ _
                        clear hHeld z0 z1 z2 z3 hrow5
                        go_wp2_with fail
                        go_roundg (xs.length - (k + 1))
                        case measure => rw [Hg.out]; omega
                        case rel => exact ⟨k + 1, A, n, c, A5, m + 1, c5, by go_num, rfl, by omega, by omega, by rw [HT.out]; exact HP5.out⟩
      | false =>
        have HT : Hid (termsOf (xs.take (k + 1)) = ⟨(termsOf (xs.take k)).classes ++ [clsOf x], (termsOf (xs.take k)).contracts⟩) := by show _ = _; rw [termsOf_snoc Hx.out]; unfold pushT; rw [hten]; rfl
        obtain ⟨hvl, hvw, -⟩ := HxG.out.cls hten
        have HVlosses : Hid (NumTx x.losses) := numTx_of hvl
        have HVwhole : Hid (NumTx x.whole) := numTx_of hvw
        rw [hten] at c0
        clear hten hvl hvw
        go_upto_region 13 with fail
        have HPd := Lib.hid (HP3.out.call (Below.refl _ _).drew)
        have HRd : Hid (W3.drew.heap[b]? = some (.cells (itemL x).toArray 75)) := HR3.out
        clear c0
        refine wp_region_held_drew (S := fun W => ((((W.cell? ⟨b, 1, none⟩ = some (.string ⟨x.name.text.toArray⟩) ∧ W.cell? ⟨b, 3, none⟩ = some (.string ⟨x.other.text.toArray⟩)) ∧ W.cell? ⟨b, 5, none⟩ = some (.string ⟨x.losses.text.toArray⟩)) ∧ W.cell? ⟨b, 6, none⟩ = some (.int .i64 (x.losses.at_ : Int))) ∧ W.cell? ⟨b, 7, none⟩ = some (.string ⟨x.whole.text.toArray⟩)) ∧ W.cell? ⟨b, 8, none⟩ = some (.int .i64 (x.whole.at_ : Int))) (by kernel_rfl) ⟨⟨⟨⟨⟨(cell_at HRd.out 1 rfl).1, (cell_at HRd.out 3 rfl).1⟩, (cell_at HRd.out 5 rfl).1⟩, (cell_at HRd.out 6 rfl).1⟩, (cell_at HRd.out 7 rfl).1⟩, (cell_at HRd.out 8 rfl).1⟩ (fun hHeld => ?_)
        refine wpAnyH_take (i := 0) (v := ?_) (by simp only [List.getElem?_toArray, List.getElem?_cons_zero] <;> rfl) (by kernel_rfl) (by kernel_rfl) (by kernel_rfl) (by intro _ _ _ h; exact h) (Or.inl ⟨by rfl, ?_⟩) hHeld ?_
        rotate_left
        · intro w hSw; (try dsimp only at hSw); go_simp
          with_reducible rfl
        try simp only [Act.put, List.setIfInBounds_toArray, List.set_cons_zero, List.set_cons_succ]
        refine wpAnyH_take (i := 2) (v := ?_) (by simp only [List.getElem?_toArray, List.getElem?_cons_zero, List.getElem?_cons_succ] <;> rfl) (by kernel_rfl) (by kernel_rfl) (by kernel_rfl) (by intro _ _ _ h; exact h) (Or.inl ⟨by rfl, ?_⟩) hHeld ?_
        rotate_left
        · intro w hSw; (try dsimp only at hSw); go_simp
          with_reducible rfl
        try simp only [Act.put, List.setIfInBounds_toArray, List.set_cons_zero, List.set_cons_succ]
        refine wpAnyH_take (i := 3) (v := ?_) (by simp only [List.getElem?_toArray, List.getElem?_cons_zero, List.getElem?_cons_succ] <;> rfl) (by kernel_rfl) (by kernel_rfl) (by kernel_rfl) (by intro _ _ _ h; exact h) (Or.inl ⟨by rfl, ?_⟩) hHeld ?_
        rotate_left
        · intro w hSw; (try dsimp only at hSw); go_simp
          with_reducible rfl
        try simp only [Act.put, List.setIfInBounds_toArray, List.set_cons_zero, List.set_cons_succ]
        refine wpAnyH_take (i := 4) (v := ?_) (by simp only [List.getElem?_toArray, List.getElem?_cons_zero, List.getElem?_cons_succ] <;> rfl) (by kernel_rfl) (by kernel_rfl) (by kernel_rfl) (by intro _ _ _ h; exact h) (Or.inl ⟨by rfl, ?_⟩) hHeld ?_
        rotate_left
        · intro w hSw; (try dsimp only at hSw); go_simp
          with_reducible rfl
        try simp only [Act.put, List.setIfInBounds_toArray, List.set_cons_zero, List.set_cons_succ]
        refine wpAnyH_take (i := 5) (v := ?_) (by simp only [List.getElem?_toArray, List.getElem?_cons_zero, List.getElem?_cons_succ] <;> rfl) (by kernel_rfl) (by kernel_rfl) (by kernel_rfl) (by intro _ _ _ h; exact h) (Or.inl ⟨by rfl, ?_⟩) hHeld ?_
        rotate_left
        · intro w hSw; (try dsimp only at hSw); go_simp
          with_reducible rfl
        try simp only [Act.put, List.setIfInBounds_toArray, List.set_cons_zero, List.set_cons_succ]
        refine wpAnyH_take (i := 6) (v := ?_) (by simp only [List.getElem?_toArray, List.getElem?_cons_zero, List.getElem?_cons_succ] <;> rfl) (by kernel_rfl) (by kernel_rfl) (by kernel_rfl) (by intro _ _ _ h; exact h) (Or.inl ⟨by rfl, ?_⟩) hHeld ?_
        rotate_left
        · intro w hSw; (try dsimp only at hSw); go_simp
          with_reducible rfl
        try simp only [Act.put, List.setIfInBounds_toArray, List.set_cons_zero, List.set_cons_succ]
        refine wpAnyH_take (i := 7) (v := ?_) (by simp only [List.getElem?_toArray, List.getElem?_cons_zero, List.getElem?_cons_succ] <;> rfl) (by kernel_rfl) (by kernel_rfl) (by kernel_rfl) (by intro _ _ _ h; exact h) (Or.inl ⟨by rfl, ?_⟩) hHeld ?_
        rotate_left
        · intro w hSw; (try dsimp only at hSw); go_simp
          with_reducible rfl
        try simp only [Act.put, List.setIfInBounds_toArray, List.set_cons_zero, List.set_cons_succ]
        refine wpAnyH_take (i := 8) (v := ?_) (by simp only [List.getElem?_toArray, List.getElem?_cons_zero, List.getElem?_cons_succ] <;> rfl) (by kernel_rfl) (by kernel_rfl) (by kernel_rfl) (by intro _ _ _ h; exact h) (Or.inl ⟨by rfl, ?_⟩) hHeld ?_
        rotate_left
        · intro w hSw; (try dsimp only at hSw); go_simp
          with_reducible rfl
        try simp only [Act.put, List.setIfInBounds_toArray, List.set_cons_zero, List.set_cons_succ]
        refine wpAnyH_take (i := 9) (v := ?_) (by simp only [List.getElem?_toArray, List.getElem?_cons_zero, List.getElem?_cons_succ] <;> rfl) (by kernel_rfl) (by kernel_rfl) (by kernel_rfl) (by intro _ _ _ h; exact h) (Or.inl ⟨by rfl, ?_⟩) hHeld ?_
        rotate_left
        · intro w hSw; (try dsimp only at hSw); go_simp
          with_reducible rfl
        try simp only [Act.put, List.setIfInBounds_toArray, List.set_cons_zero, List.set_cons_succ]
        refine wpAnyH_take (i := 11) (v := ?_) (by simp only [List.getElem?_toArray, List.getElem?_cons_zero, List.getElem?_cons_succ] <;> rfl) (by kernel_rfl) (by kernel_rfl) (by kernel_rfl) (by intro _ _ _ h; exact h) (Or.inl ⟨by rfl, ?_⟩) hHeld ?_
        rotate_left
        · intro w hSw; (try dsimp only at hSw); go_simp
          with_reducible rfl
        try simp only [Act.put, List.setIfInBounds_toArray, List.set_cons_zero, List.set_cons_succ]
        refine wpAnyH_take (i := 12) (v := ?_) (by simp only [List.getElem?_toArray, List.getElem?_cons_zero, List.getElem?_cons_succ] <;> rfl) (by kernel_rfl) (by kernel_rfl) (by kernel_rfl) (by intro _ _ _ h; exact h) (Or.inl ⟨by rfl, ?_⟩) hHeld ?_
        rotate_left
        · intro w hSw; (try dsimp only at hSw); go_simp
          with_reducible rfl
        try simp only [Act.put, List.setIfInBounds_toArray, List.set_cons_zero, List.set_cons_succ]
        refine wpAnyH_ready (rs := [1, 10]) (by kernel_rfl) (by simp) ?_
        refine AllReadyH.cons (by simp only [List.getElem?_toArray, List.getElem?_cons_zero, List.getElem?_cons_succ] <;> rfl) (fun K hK => ?_) (AllReadyH.cons (by simp only [List.getElem?_toArray, List.getElem?_cons_zero, List.getElem?_cons_succ] <;> rfl) (fun K hK => ?_) AllReadyH.nil)
        · skip
          obtain ⟨y0, y1, -⟩ := two_cells HPd.out.ts.row
          go_simp
          refine hK.out _ _ ⟨⟨⟨⟨⟨(cell_at HRd.out 1 rfl).1, (cell_at HRd.out 3 rfl).1⟩, (cell_at HRd.out 5 rfl).1⟩, (cell_at HRd.out 6 rfl).1⟩, (cell_at HRd.out 7 rfl).1⟩, (cell_at HRd.out 8 rfl).1⟩ (fun hHeld => ?_)
          clear hK K
          try simp only [Act.put, List.setIfInBounds_toArray, List.set_cons_zero, List.set_cons_succ]
          clear y0 y1
          refine wpAnyH_ready (rs := [10]) (by kernel_rfl) (by simp) ?_
          refine AllReadyH.cons (by simp only [List.getElem?_toArray, List.getElem?_cons_zero, List.getElem?_cons_succ] <;> rfl) (fun K hK => ?_) AllReadyH.nil
          · skip
            go_simp
            go_at_call 21
            refine (value_any x.losses _ HVlosses).mono ?_
            rintro e u10 ⟨rfl, hbu⟩
            have HPv10 := Lib.hid (HPd.out.call hbu)
            have HRv10 := Lib.hid (below_cells HRd.out hbu)
            clear hbu
            refine hK.out _ _ ⟨⟨⟨⟨⟨(cell_at HRv10.out 1 rfl).1, (cell_at HRv10.out 3 rfl).1⟩, (cell_at HRv10.out 5 rfl).1⟩, (cell_at HRv10.out 6 rfl).1⟩, (cell_at HRv10.out 7 rfl).1⟩, (cell_at HRv10.out 8 rfl).1⟩ (fun hHeld => ?_)
            clear hK K
            try simp only [Act.put, List.setIfInBounds_toArray, List.set_cons_zero, List.set_cons_succ]
            refine wpAnyH_ready (rs := [13]) (by kernel_rfl) (by simp) ?_
            refine AllReadyH.cons (by simp only [List.getElem?_toArray, List.getElem?_cons_zero, List.getElem?_cons_succ] <;> rfl) (fun K hK => ?_) AllReadyH.nil
            · skip
              go_simp
              go_at_call 21
              refine (value_any x.whole _ HVwhole).mono ?_
              rintro e u13 ⟨rfl, hbu⟩
              have HPv13 := Lib.hid (HPv10.out.call hbu)
              have HRv13 := Lib.hid (below_cells HRv10.out hbu)
              clear hbu
              refine hK.out _ _ ⟨⟨⟨⟨⟨(cell_at HRv13.out 1 rfl).1, (cell_at HRv13.out 3 rfl).1⟩, (cell_at HRv13.out 5 rfl).1⟩, (cell_at HRv13.out 6 rfl).1⟩, (cell_at HRv13.out 7 rfl).1⟩, (cell_at HRv13.out 8 rfl).1⟩ (fun hHeld => ?_)
              clear hK K
              try simp only [Act.put, List.setIfInBounds_toArray, List.set_cons_zero, List.set_cons_succ]
              refine wpAnyH_take (i := 14) (v := ?_) (by simp only [List.getElem?_toArray, List.getElem?_cons_zero, List.getElem?_cons_succ] <;> rfl) (by kernel_rfl) (by kernel_rfl) (by kernel_rfl) (by intro _ _ _ h; exact h) (Or.inl ⟨by rfl, ?_⟩) hHeld ?_
              rotate_left
              · intro w hSw; (try dsimp only at hSw); go_simp
                with_reducible rfl
              try simp only [Act.put, List.setIfInBounds_toArray, List.set_cons_zero, List.set_cons_succ]
              refine wpAnyH_ready (rs := [15]) (by kernel_rfl) (by simp) ?_
              refine AllReadyH.cons (by simp only [List.getElem?_toArray, List.getElem?_cons_zero, List.getElem?_cons_succ] <;> rfl) (fun K hK => ?_) AllReadyH.nil
              · skip
                go_simp
                refine hK.out _ _ ⟨⟨⟨⟨⟨(cell_at (below_cells HRv13.out ((Below.refl _ _).alloc (Nat.le_refl _) _)) 1 rfl).1, (cell_at (below_cells HRv13.out ((Below.refl _ _).alloc (Nat.le_refl _) _)) 3 rfl).1⟩, (cell_at (below_cells HRv13.out ((Below.refl _ _).alloc (Nat.le_refl _) _)) 5 rfl).1⟩, (cell_at (below_cells HRv13.out ((Below.refl _ _).alloc (Nat.le_refl _) _)) 6 rfl).1⟩, (cell_at (below_cells HRv13.out ((Below.refl _ _).alloc (Nat.le_refl _) _)) 7 rfl).1⟩, (cell_at (below_cells HRv13.out ((Below.refl _ _).alloc (Nat.le_refl _) _)) 8 rfl).1⟩ (fun hHeld => ?_)
                clear hK K
                try simp only [Act.put, List.setIfInBounds_toArray, List.set_cons_zero, List.set_cons_succ]
                refine wpAnyH_ready (rs := [16]) (by kernel_rfl) (by simp) ?_
                refine AllReadyH.cons (by simp only [List.getElem?_toArray, List.getElem?_cons_zero, List.getElem?_cons_succ] <;> rfl) (fun K hK => ?_) AllReadyH.nil
                · skip
                  refine step_append_sl rfl _ _ 23 rfl rfl rfl so22 (HPv13.out.ts.own1.alloc _) (m := 1) (news := [.string ⟨x.name.text.toArray⟩, .string ⟨x.other.text.toArray⟩, .int .i64 ((valD x.losses.text : Nat) : Int), .int .i64 ((valD x.whole.text : Nat) : Int)]) rfl (Sl.new _ _ _) ?_ hbn hyn (Nat.le_trans HPv13.out.below.size (by simp)) ?_
                  · intro u hu; simp at hu; rcases hu with rfl | rfl | rfl | rfl <;> rfl
                  intro A5 c5 w5 ho5 hg5
                  have HP5 := Lib.hid (HPv13.out.pushC (C := clsOf x) ho5 hg5)
                  have HR5 : Hid (w5.heap[b]? = some (.cells (itemL x).toArray 75)) := (keep_append (ty := 75) (by decide) HPv13.out.ts.own1 hg5).keep _ _ _ HRv13.out
                  have hrow5 := (row_grownOwn HPv13.out.ts.own1 hg5 HPv13.out.ts.row (by decide)).trans HPv13.out.ts.row
                  clear ho5 hg5
                  refine hK.out _ _ ⟨⟨⟨⟨⟨(cell_at HR5.out 1 rfl).1, (cell_at HR5.out 3 rfl).1⟩, (cell_at HR5.out 5 rfl).1⟩, (cell_at HR5.out 6 rfl).1⟩, (cell_at HR5.out 7 rfl).1⟩, (cell_at HR5.out 8 rfl).1⟩ (fun hHeld => ?_)
                  clear hK K
                  try simp only [Act.put, List.setIfInBounds_toArray, List.set_cons_zero, List.set_cons_succ]
                  refine wpAnyH_take (i := 17) (v := ?_) (by simp only [List.getElem?_toArray, List.getElem?_cons_zero, List.getElem?_cons_succ] <;> rfl) (by kernel_rfl) (by kernel_rfl) (by kernel_rfl) (by intro _ _ _ h; exact h) (Or.inl ⟨by rfl, ?_⟩) hHeld ?_
                  rotate_left
                  · intro w hSw; (try dsimp only at hSw); go_simp
                    with_reducible rfl
                  try simp only [Act.put, List.setIfInBounds_toArray, List.set_cons_zero, List.set_cons_succ]
                  refine wpAnyH_ready (rs := [18]) (by kernel_rfl) (by simp) ?_
                  refine AllReadyH.cons (by simp only [List.getElem?_toArray, List.getElem?_cons_zero, List.getElem?_cons_succ] <;> rfl) (fun K hK => ?_) AllReadyH.nil
                  · skip
                    obtain ⟨z0, z1, z2⟩ := two_cells hrow5
                    have z3 := (cell_at hrow5 1 rfl).2
                    go_simp
                    refine hK.out _ _ ⟨⟨⟨⟨⟨(cell_at ((Below.heap_setCell _ _ _ _ nbg).trans HR5.out) 1 rfl).1, (cell_at ((Below.heap_setCell _ _ _ _ nbg).trans HR5.out) 3 rfl).1⟩, (cell_at ((Below.heap_setCell _ _ _ _ nbg).trans HR5.out) 5 rfl).1⟩, (cell_at ((Below.heap_setCell _ _ _ _ nbg).trans HR5.out) 6 rfl).1⟩, (cell_at ((Below.heap_setCell _ _ _ _ nbg).trans HR5.out) 7 rfl).1⟩, (cell_at ((Below.heap_setCell _ _ _ _ nbg).trans HR5.out) 8 rfl).1⟩ (fun hHeld => ?_)
                    clear hK K
                    try simp only [Act.put, List.setIfInBounds_toArray, List.set_cons_zero, List.set_cons_succ]
                    refine wpAnyH_done (by kernel_rfl) ?_ _
                    clear hHeld z0 z1 z2 z3 hrow5
                    go_wp2_with fail
                    go_roundg (xs.length - (k + 1))
                    case measure => rw [Hg.out]; omega
                    case rel => exact ⟨k + 1, A5, n + 1, c5, A', m, d, by go_num, rfl, by omega, by omega, by rw [HT.out]; exact HP5.out⟩
        · skip
          go_simp
          go_at_call 21
          refine (value_any x.losses _ HVlosses).mono ?_
          rintro e u10 ⟨rfl, hbu⟩
          have HPv10 := Lib.hid (HPd.out.call hbu)
          have HRv10 := Lib.hid (below_cells HRd.out hbu)
          clear hbu
          refine hK.out _ _ ⟨⟨⟨⟨⟨(cell_at HRv10.out 1 rfl).1, (cell_at HRv10.out 3 rfl).1⟩, (cell_at HRv10.out 5 rfl).1⟩, (cell_at HRv10.out 6 rfl).1⟩, (cell_at HRv10.out 7 rfl).1⟩, (cell_at HRv10.out 8 rfl).1⟩ (fun hHeld => ?_)
          clear hK K
          try simp only [Act.put, List.setIfInBounds_toArray, List.set_cons_zero, List.set_cons_succ]
          refine wpAnyH_ready (rs := [1, 13]) (by kernel_rfl) (by simp) ?_
          refine AllReadyH.cons (by simp only [List.getElem?_toArray, List.getElem?_cons_zero, List.getElem?_cons_succ] <;> rfl) (fun K hK => ?_) (AllReadyH.cons (by simp only [List.getElem?_toArray, List.getElem?_cons_zero, List.getElem?_cons_succ] <;> rfl) (fun K hK => ?_) AllReadyH.nil)
          · skip
            obtain ⟨y0, y1, -⟩ := two_cells HPv10.out.ts.row
            go_simp
            refine hK.out _ _ ⟨⟨⟨⟨⟨(cell_at HRv10.out 1 rfl).1, (cell_at HRv10.out 3 rfl).1⟩, (cell_at HRv10.out 5 rfl).1⟩, (cell_at HRv10.out 6 rfl).1⟩, (cell_at HRv10.out 7 rfl).1⟩, (cell_at HRv10.out 8 rfl).1⟩ (fun hHeld => ?_)
            clear hK K
            try simp only [Act.put, List.setIfInBounds_toArray, List.set_cons_zero, List.set_cons_succ]
            clear y0 y1
            refine wpAnyH_ready (rs := [13]) (by kernel_rfl) (by simp) ?_
            refine AllReadyH.cons (by simp only [List.getElem?_toArray, List.getElem?_cons_zero, List.getElem?_cons_succ] <;> rfl) (fun K hK => ?_) AllReadyH.nil
            · skip
              go_simp
              go_at_call 21
              refine (value_any x.whole _ HVwhole).mono ?_
              rintro e u13 ⟨rfl, hbu⟩
              have HPv13 := Lib.hid (HPv10.out.call hbu)
              have HRv13 := Lib.hid (below_cells HRv10.out hbu)
              clear hbu
              refine hK.out _ _ ⟨⟨⟨⟨⟨(cell_at HRv13.out 1 rfl).1, (cell_at HRv13.out 3 rfl).1⟩, (cell_at HRv13.out 5 rfl).1⟩, (cell_at HRv13.out 6 rfl).1⟩, (cell_at HRv13.out 7 rfl).1⟩, (cell_at HRv13.out 8 rfl).1⟩ (fun hHeld => ?_)
              clear hK K
              try simp only [Act.put, List.setIfInBounds_toArray, List.set_cons_zero, List.set_cons_succ]
              refine wpAnyH_take (i := 14) (v := ?_) (by simp only [List.getElem?_toArray, List.getElem?_cons_zero, List.getElem?_cons_succ] <;> rfl) (by kernel_rfl) (by kernel_rfl) (by kernel_rfl) (by intro _ _ _ h; exact h) (Or.inl ⟨by rfl, ?_⟩) hHeld ?_
              rotate_left
              · intro w hSw; (try dsimp only at hSw); go_simp
                with_reducible rfl
              try simp only [Act.put, List.setIfInBounds_toArray, List.set_cons_zero, List.set_cons_succ]
              refine wpAnyH_ready (rs := [15]) (by kernel_rfl) (by simp) ?_
              refine AllReadyH.cons (by simp only [List.getElem?_toArray, List.getElem?_cons_zero, List.getElem?_cons_succ] <;> rfl) (fun K hK => ?_) AllReadyH.nil
              · skip
                go_simp
                refine hK.out _ _ ⟨⟨⟨⟨⟨(cell_at (below_cells HRv13.out ((Below.refl _ _).alloc (Nat.le_refl _) _)) 1 rfl).1, (cell_at (below_cells HRv13.out ((Below.refl _ _).alloc (Nat.le_refl _) _)) 3 rfl).1⟩, (cell_at (below_cells HRv13.out ((Below.refl _ _).alloc (Nat.le_refl _) _)) 5 rfl).1⟩, (cell_at (below_cells HRv13.out ((Below.refl _ _).alloc (Nat.le_refl _) _)) 6 rfl).1⟩, (cell_at (below_cells HRv13.out ((Below.refl _ _).alloc (Nat.le_refl _) _)) 7 rfl).1⟩, (cell_at (below_cells HRv13.out ((Below.refl _ _).alloc (Nat.le_refl _) _)) 8 rfl).1⟩ (fun hHeld => ?_)
                clear hK K
                try simp only [Act.put, List.setIfInBounds_toArray, List.set_cons_zero, List.set_cons_succ]
                refine wpAnyH_ready (rs := [16]) (by kernel_rfl) (by simp) ?_
                refine AllReadyH.cons (by simp only [List.getElem?_toArray, List.getElem?_cons_zero, List.getElem?_cons_succ] <;> rfl) (fun K hK => ?_) AllReadyH.nil
                · skip
                  refine step_append_sl rfl _ _ 23 rfl rfl rfl so22 (HPv13.out.ts.own1.alloc _) (m := 1) (news := [.string ⟨x.name.text.toArray⟩, .string ⟨x.other.text.toArray⟩, .int .i64 ((valD x.losses.text : Nat) : Int), .int .i64 ((valD x.whole.text : Nat) : Int)]) rfl (Sl.new _ _ _) ?_ hbn hyn (Nat.le_trans HPv13.out.below.size (by simp)) ?_
                  · intro u hu; simp at hu; rcases hu with rfl | rfl | rfl | rfl <;> rfl
                  intro A5 c5 w5 ho5 hg5
                  have HP5 := Lib.hid (HPv13.out.pushC (C := clsOf x) ho5 hg5)
                  have HR5 : Hid (w5.heap[b]? = some (.cells (itemL x).toArray 75)) := (keep_append (ty := 75) (by decide) HPv13.out.ts.own1 hg5).keep _ _ _ HRv13.out
                  have hrow5 := (row_grownOwn HPv13.out.ts.own1 hg5 HPv13.out.ts.row (by decide)).trans HPv13.out.ts.row
                  clear ho5 hg5
                  refine hK.out _ _ ⟨⟨⟨⟨⟨(cell_at HR5.out 1 rfl).1, (cell_at HR5.out 3 rfl).1⟩, (cell_at HR5.out 5 rfl).1⟩, (cell_at HR5.out 6 rfl).1⟩, (cell_at HR5.out 7 rfl).1⟩, (cell_at HR5.out 8 rfl).1⟩ (fun hHeld => ?_)
                  clear hK K
                  try simp only [Act.put, List.setIfInBounds_toArray, List.set_cons_zero, List.set_cons_succ]
                  refine wpAnyH_take (i := 17) (v := ?_) (by simp only [List.getElem?_toArray, List.getElem?_cons_zero, List.getElem?_cons_succ] <;> rfl) (by kernel_rfl) (by kernel_rfl) (by kernel_rfl) (by intro _ _ _ h; exact h) (Or.inl ⟨by rfl, ?_⟩) hHeld ?_
                  rotate_left
                  · intro w hSw; (try dsimp only at hSw); go_simp
                    with_reducible rfl
                  try simp only [Act.put, List.setIfInBounds_toArray, List.set_cons_zero, List.set_cons_succ]
                  refine wpAnyH_ready (rs := [18]) (by kernel_rfl) (by simp) ?_
                  refine AllReadyH.cons (by simp only [List.getElem?_toArray, List.getElem?_cons_zero, List.getElem?_cons_succ] <;> rfl) (fun K hK => ?_) AllReadyH.nil
                  · skip
                    obtain ⟨z0, z1, z2⟩ := two_cells hrow5
                    have z3 := (cell_at hrow5 1 rfl).2
                    go_simp
                    refine hK.out _ _ ⟨⟨⟨⟨⟨(cell_at ((Below.heap_setCell _ _ _ _ nbg).trans HR5.out) 1 rfl).1, (cell_at ((Below.heap_setCell _ _ _ _ nbg).trans HR5.out) 3 rfl).1⟩, (cell_at ((Below.heap_setCell _ _ _ _ nbg).trans HR5.out) 5 rfl).1⟩, (cell_at ((Below.heap_setCell _ _ _ _ nbg).trans HR5.out) 6 rfl).1⟩, (cell_at ((Below.heap_setCell _ _ _ _ nbg).trans HR5.out) 7 rfl).1⟩, (cell_at ((Below.heap_setCell _ _ _ _ nbg).trans HR5.out) 8 rfl).1⟩ (fun hHeld => ?_)
                    clear hK K
                    try simp only [Act.put, List.setIfInBounds_toArray, List.set_cons_zero, List.set_cons_succ]
                    refine wpAnyH_done (by kernel_rfl) ?_ _
                    clear hHeld z0 z1 z2 z3 hrow5
                    go_wp2_with fail
                    go_roundg (xs.length - (k + 1))
                    case measure => rw [Hg.out]; omega
                    case rel => exact ⟨k + 1, A5, n + 1, c5, A', m, d, by go_num, rfl, by omega, by omega, by rw [HT.out]; exact HP5.out⟩
          · skip
            go_simp
            go_at_call 21
            refine (value_any x.whole _ HVwhole).mono ?_
            rintro e u13 ⟨rfl, hbu⟩
            have HPv13 := Lib.hid (HPv10.out.call hbu)
            have HRv13 := Lib.hid (below_cells HRv10.out hbu)
            clear hbu
            refine hK.out _ _ ⟨⟨⟨⟨⟨(cell_at HRv13.out 1 rfl).1, (cell_at HRv13.out 3 rfl).1⟩, (cell_at HRv13.out 5 rfl).1⟩, (cell_at HRv13.out 6 rfl).1⟩, (cell_at HRv13.out 7 rfl).1⟩, (cell_at HRv13.out 8 rfl).1⟩ (fun hHeld => ?_)
            clear hK K
            try simp only [Act.put, List.setIfInBounds_toArray, List.set_cons_zero, List.set_cons_succ]
            refine wpAnyH_take (i := 14) (v := ?_) (by simp only [List.getElem?_toArray, List.getElem?_cons_zero, List.getElem?_cons_succ] <;> rfl) (by kernel_rfl) (by kernel_rfl) (by kernel_rfl) (by intro _ _ _ h; exact h) (Or.inl ⟨by rfl, ?_⟩) hHeld ?_
            rotate_left
            · intro w hSw; (try dsimp only at hSw); go_simp
              with_reducible rfl
            try simp only [Act.put, List.setIfInBounds_toArray, List.set_cons_zero, List.set_cons_succ]
            refine wpAnyH_ready (rs := [1, 15]) (by kernel_rfl) (by simp) ?_
            refine AllReadyH.cons (by simp only [List.getElem?_toArray, List.getElem?_cons_zero, List.getElem?_cons_succ] <;> rfl) (fun K hK => ?_) (AllReadyH.cons (by simp only [List.getElem?_toArray, List.getElem?_cons_zero, List.getElem?_cons_succ] <;> rfl) (fun K hK => ?_) AllReadyH.nil)
            · skip
              obtain ⟨y0, y1, -⟩ := two_cells HPv13.out.ts.row
              go_simp
              refine hK.out _ _ ⟨⟨⟨⟨⟨(cell_at HRv13.out 1 rfl).1, (cell_at HRv13.out 3 rfl).1⟩, (cell_at HRv13.out 5 rfl).1⟩, (cell_at HRv13.out 6 rfl).1⟩, (cell_at HRv13.out 7 rfl).1⟩, (cell_at HRv13.out 8 rfl).1⟩ (fun hHeld => ?_)
              clear hK K
              try simp only [Act.put, List.setIfInBounds_toArray, List.set_cons_zero, List.set_cons_succ]
              clear y0 y1
              refine wpAnyH_ready (rs := [15]) (by kernel_rfl) (by simp) ?_
              refine AllReadyH.cons (by simp only [List.getElem?_toArray, List.getElem?_cons_zero, List.getElem?_cons_succ] <;> rfl) (fun K hK => ?_) AllReadyH.nil
              · skip
                go_simp
                refine hK.out _ _ ⟨⟨⟨⟨⟨(cell_at (below_cells HRv13.out ((Below.refl _ _).alloc (Nat.le_refl _) _)) 1 rfl).1, (cell_at (below_cells HRv13.out ((Below.refl _ _).alloc (Nat.le_refl _) _)) 3 rfl).1⟩, (cell_at (below_cells HRv13.out ((Below.refl _ _).alloc (Nat.le_refl _) _)) 5 rfl).1⟩, (cell_at (below_cells HRv13.out ((Below.refl _ _).alloc (Nat.le_refl _) _)) 6 rfl).1⟩, (cell_at (below_cells HRv13.out ((Below.refl _ _).alloc (Nat.le_refl _) _)) 7 rfl).1⟩, (cell_at (below_cells HRv13.out ((Below.refl _ _).alloc (Nat.le_refl _) _)) 8 rfl).1⟩ (fun hHeld => ?_)
                clear hK K
                try simp only [Act.put, List.setIfInBounds_toArray, List.set_cons_zero, List.set_cons_succ]
                refine wpAnyH_ready (rs := [16]) (by kernel_rfl) (by simp) ?_
                refine AllReadyH.cons (by simp only [List.getElem?_toArray, List.getElem?_cons_zero, List.getElem?_cons_succ] <;> rfl) (fun K hK => ?_) AllReadyH.nil
                · skip
                  refine step_append_sl rfl _ _ 23 rfl rfl rfl so22 (HPv13.out.ts.own1.alloc _) (m := 1) (news := [.string ⟨x.name.text.toArray⟩, .string ⟨x.other.text.toArray⟩, .int .i64 ((valD x.losses.text : Nat) : Int), .int .i64 ((valD x.whole.text : Nat) : Int)]) rfl (Sl.new _ _ _) ?_ hbn hyn (Nat.le_trans HPv13.out.below.size (by simp)) ?_
                  · intro u hu; simp at hu; rcases hu with rfl | rfl | rfl | rfl <;> rfl
                  intro A5 c5 w5 ho5 hg5
                  have HP5 := Lib.hid (HPv13.out.pushC (C := clsOf x) ho5 hg5)
                  have HR5 : Hid (w5.heap[b]? = some (.cells (itemL x).toArray 75)) := (keep_append (ty := 75) (by decide) HPv13.out.ts.own1 hg5).keep _ _ _ HRv13.out
                  have hrow5 := (row_grownOwn HPv13.out.ts.own1 hg5 HPv13.out.ts.row (by decide)).trans HPv13.out.ts.row
                  clear ho5 hg5
                  refine hK.out _ _ ⟨⟨⟨⟨⟨(cell_at HR5.out 1 rfl).1, (cell_at HR5.out 3 rfl).1⟩, (cell_at HR5.out 5 rfl).1⟩, (cell_at HR5.out 6 rfl).1⟩, (cell_at HR5.out 7 rfl).1⟩, (cell_at HR5.out 8 rfl).1⟩ (fun hHeld => ?_)
                  clear hK K
                  try simp only [Act.put, List.setIfInBounds_toArray, List.set_cons_zero, List.set_cons_succ]
                  refine wpAnyH_take (i := 17) (v := ?_) (by simp only [List.getElem?_toArray, List.getElem?_cons_zero, List.getElem?_cons_succ] <;> rfl) (by kernel_rfl) (by kernel_rfl) (by kernel_rfl) (by intro _ _ _ h; exact h) (Or.inl ⟨by rfl, ?_⟩) hHeld ?_
                  rotate_left
                  · intro w hSw; (try dsimp only at hSw); go_simp
                    with_reducible rfl
                  try simp only [Act.put, List.setIfInBounds_toArray, List.set_cons_zero, List.set_cons_succ]
                  refine wpAnyH_ready (rs := [18]) (by kernel_rfl) (by simp) ?_
                  refine AllReadyH.cons (by simp only [List.getElem?_toArray, List.getElem?_cons_zero, List.getElem?_cons_succ] <;> rfl) (fun K hK => ?_) AllReadyH.nil
                  · skip
                    obtain ⟨z0, z1, z2⟩ := two_cells hrow5
                    have z3 := (cell_at hrow5 1 rfl).2
                    go_simp
                    refine hK.out _ _ ⟨⟨⟨⟨⟨(cell_at ((Below.heap_setCell _ _ _ _ nbg).trans HR5.out) 1 rfl).1, (cell_at ((Below.heap_setCell _ _ _ _ nbg).trans HR5.out) 3 rfl).1⟩, (cell_at ((Below.heap_setCell _ _ _ _ nbg).trans HR5.out) 5 rfl).1⟩, (cell_at ((Below.heap_setCell _ _ _ _ nbg).trans HR5.out) 6 rfl).1⟩, (cell_at ((Below.heap_setCell _ _ _ _ nbg).trans HR5.out) 7 rfl).1⟩, (cell_at ((Below.heap_setCell _ _ _ _ nbg).trans HR5.out) 8 rfl).1⟩ (fun hHeld => ?_)
                    clear hK K
                    try simp only [Act.put, List.setIfInBounds_toArray, List.set_cons_zero, List.set_cons_succ]
                    refine wpAnyH_done (by kernel_rfl) ?_ _
                    clear hHeld z0 z1 z2 z3 hrow5
                    go_wp2_with fail
                    go_roundg (xs.length - (k + 1))
                    case measure => rw [Hg.out]; omega
                    case rel => exact ⟨k + 1, A5, n + 1, c5, A', m, d, by go_num, rfl, by omega, by omega, by rw [HT.out]; exact HP5.out⟩
            · skip
              go_simp
              refine hK.out _ _ ⟨⟨⟨⟨⟨(cell_at (below_cells HRv13.out ((Below.refl _ _).alloc (Nat.le_refl _) _)) 1 rfl).1, (cell_at (below_cells HRv13.out ((Below.refl _ _).alloc (Nat.le_refl _) _)) 3 rfl).1⟩, (cell_at (below_cells HRv13.out ((Below.refl _ _).alloc (Nat.le_refl _) _)) 5 rfl).1⟩, (cell_at (below_cells HRv13.out ((Below.refl _ _).alloc (Nat.le_refl _) _)) 6 rfl).1⟩, (cell_at (below_cells HRv13.out ((Below.refl _ _).alloc (Nat.le_refl _) _)) 7 rfl).1⟩, (cell_at (below_cells HRv13.out ((Below.refl _ _).alloc (Nat.le_refl _) _)) 8 rfl).1⟩ (fun hHeld => ?_)
              clear hK K
              try simp only [Act.put, List.setIfInBounds_toArray, List.set_cons_zero, List.set_cons_succ]
              refine wpAnyH_ready (rs := [1]) (by kernel_rfl) (by simp) ?_
              refine AllReadyH.cons (by simp only [List.getElem?_toArray, List.getElem?_cons_zero, List.getElem?_cons_succ] <;> rfl) (fun K hK => ?_) AllReadyH.nil
              · skip
                obtain ⟨y0, y1, -⟩ := two_cells (HPv13.out.call ((Below.refl _ _).alloc (Nat.le_refl _) (.cells [.string ⟨x.name.text.toArray⟩, .string ⟨x.other.text.toArray⟩, .int .i64 ((valD x.losses.text : Nat) : Int), .int .i64 ((valD x.whole.text : Nat) : Int)].toArray 38))).ts.row
                go_simp
                refine hK.out _ _ ⟨⟨⟨⟨⟨(cell_at (below_cells HRv13.out ((Below.refl _ _).alloc (Nat.le_refl _) _)) 1 rfl).1, (cell_at (below_cells HRv13.out ((Below.refl _ _).alloc (Nat.le_refl _) _)) 3 rfl).1⟩, (cell_at (below_cells HRv13.out ((Below.refl _ _).alloc (Nat.le_refl _) _)) 5 rfl).1⟩, (cell_at (below_cells HRv13.out ((Below.refl _ _).alloc (Nat.le_refl _) _)) 6 rfl).1⟩, (cell_at (below_cells HRv13.out ((Below.refl _ _).alloc (Nat.le_refl _) _)) 7 rfl).1⟩, (cell_at (below_cells HRv13.out ((Below.refl _ _).alloc (Nat.le_refl _) _)) 8 rfl).1⟩ (fun hHeld => ?_)
                clear hK K
                try simp only [Act.put, List.setIfInBounds_toArray, List.set_cons_zero, List.set_cons_succ]
                clear y0 y1
                refine wpAnyH_ready (rs := [16]) (by kernel_rfl) (by simp) ?_
                refine AllReadyH.cons (by simp only [List.getElem?_toArray, List.getElem?_cons_zero, List.getElem?_cons_succ] <;> rfl) (fun K hK => ?_) AllReadyH.nil
                · skip
                  refine step_append_sl rfl _ _ 23 rfl rfl rfl so22 (HPv13.out.ts.own1.alloc _) (m := 1) (news := [.string ⟨x.name.text.toArray⟩, .string ⟨x.other.text.toArray⟩, .int .i64 ((valD x.losses.text : Nat) : Int), .int .i64 ((valD x.whole.text : Nat) : Int)]) rfl (Sl.new _ _ _) ?_ hbn hyn (Nat.le_trans HPv13.out.below.size (by simp)) ?_
                  · intro u hu; simp at hu; rcases hu with rfl | rfl | rfl | rfl <;> rfl
                  intro A5 c5 w5 ho5 hg5
                  have HP5 := Lib.hid (HPv13.out.pushC (C := clsOf x) ho5 hg5)
                  have HR5 : Hid (w5.heap[b]? = some (.cells (itemL x).toArray 75)) := (keep_append (ty := 75) (by decide) HPv13.out.ts.own1 hg5).keep _ _ _ HRv13.out
                  have hrow5 := (row_grownOwn HPv13.out.ts.own1 hg5 HPv13.out.ts.row (by decide)).trans HPv13.out.ts.row
                  clear ho5 hg5
                  refine hK.out _ _ ⟨⟨⟨⟨⟨(cell_at HR5.out 1 rfl).1, (cell_at HR5.out 3 rfl).1⟩, (cell_at HR5.out 5 rfl).1⟩, (cell_at HR5.out 6 rfl).1⟩, (cell_at HR5.out 7 rfl).1⟩, (cell_at HR5.out 8 rfl).1⟩ (fun hHeld => ?_)
                  clear hK K
                  try simp only [Act.put, List.setIfInBounds_toArray, List.set_cons_zero, List.set_cons_succ]
                  refine wpAnyH_take (i := 17) (v := ?_) (by simp only [List.getElem?_toArray, List.getElem?_cons_zero, List.getElem?_cons_succ] <;> rfl) (by kernel_rfl) (by kernel_rfl) (by kernel_rfl) (by intro _ _ _ h; exact h) (Or.inl ⟨by rfl, ?_⟩) hHeld ?_
                  rotate_left
                  · intro w hSw; (try dsimp only at hSw); go_simp
                    with_reducible rfl
                  try simp only [Act.put, List.setIfInBounds_toArray, List.set_cons_zero, List.set_cons_succ]
                  refine wpAnyH_ready (rs := [18]) (by kernel_rfl) (by simp) ?_
                  refine AllReadyH.cons (by simp only [List.getElem?_toArray, List.getElem?_cons_zero, List.getElem?_cons_succ] <;> rfl) (fun K hK => ?_) AllReadyH.nil
                  · skip
                    obtain ⟨z0, z1, z2⟩ := two_cells hrow5
                    have z3 := (cell_at hrow5 1 rfl).2
                    go_simp
                    refine hK.out _ _ ⟨⟨⟨⟨⟨(cell_at ((Below.heap_setCell _ _ _ _ nbg).trans HR5.out) 1 rfl).1, (cell_at ((Below.heap_setCell _ _ _ _ nbg).trans HR5.out) 3 rfl).1⟩, (cell_at ((Below.heap_setCell _ _ _ _ nbg).trans HR5.out) 5 rfl).1⟩, (cell_at ((Below.heap_setCell _ _ _ _ nbg).trans HR5.out) 6 rfl).1⟩, (cell_at ((Below.heap_setCell _ _ _ _ nbg).trans HR5.out) 7 rfl).1⟩, (cell_at ((Below.heap_setCell _ _ _ _ nbg).trans HR5.out) 8 rfl).1⟩ (fun hHeld => ?_)
                    clear hK K
                    try simp only [Act.put, List.setIfInBounds_toArray, List.set_cons_zero, List.set_cons_succ]
                    refine wpAnyH_done (by kernel_rfl) ?_ _
                    clear hHeld z0 z1 z2 z3 hrow5
                    go_wp2_with fail
                    go_roundg (xs.length - (k + 1))
                    case measure => rw [Hg.out]; omega
                    case rel => exact ⟨k + 1, A5, n + 1, c5, A', m, d, by go_num, rfl, by omega, by omega, by rw [HT.out]; exact HP5.out⟩
    · have hI1 : ¬ (k : Int) < (xs.length : Int) := by omega
      have hke : k = xs.length := by omega
      rw [hke, List.take_length] at HP
      have HPt := HP
      have hn1 : n ≤ 2001 := by omega
      obtain ⟨NM, hNM⟩ : ∃ l, l = (termsOf xs).classes.map ClassD.name := ⟨_, rfl⟩
      have HNM := Lib.hid hNM
      have HPB : Hid (parseB t.data.toList = addsB NM ⟨[], []⟩ (xs.map itOf)) := by
        show _ = _
        rw [parse_its ht, Hits.out]
        show addsB (classNames (xs.map itOf)) _ _ = _
        rw [names_eq, ← hNM]
      clear hNM hke HP hlt
      go_wp2_with fail
      go_loopg [9, 10, 11] xs.length (fun g s9 s10 s11 wr => ∃ i nc nt : Nat, s9 = .int .i64 (nc : Int) ∧ s10 = .int .i64 (nt : Int) ∧ s11 = .int .i64 (i : Int) ∧ g = xs.length - i ∧ i ≤ xs.length ∧ nc + nt ≤ i ∧ Hid (nc = (termsOf (xs.take i)).classes.length) ∧ Hid (nt = (termsOf (xs.take i)).contracts.length) ∧ Hid (PA w Ax xs gt (termsOf xs) A n c A' m d wr) ∧ Hid (addsB NM ⟨[], []⟩ (xs.map itOf) = addsB NM (termsOf (xs.take i)) ((xs.drop i).map itOf)))
      case atStart => exact ⟨0, 0, 0, rfl, rfl, rfl, rfl, Nat.zero_le _, Nat.le_refl _, rfl, rfl, HPt, rfl⟩
      case round =>
        obtain ⟨i, nc, nt, rfl, rfl, rfl, hg, hi2, hnn, HNC, HNT, HPa, HAdd⟩ := hrel
        have Hg2 := Lib.hid hg
        clear hg HPt
        by_cases hlt2 : i < xs.length
        · have hJ0 : (0 : Int) ≤ (i : Int) := by omega
          have hJ1 : (i : Int) < (xs.length : Int) := by omega
          obtain ⟨x, hx⟩ : ∃ x, xs[i]? = some x := ⟨_, List.getElem?_eq_getElem hlt2⟩
          obtain ⟨ib, io, hA, hib, hcells⟩ := sl_at itemL_len HPa.out.items.sl hx (by omega)
          have hx2 : RGood x := Hgd.out x (List.mem_of_getElem? hx)
          have Hx := Lib.hid hx
          have HxG := Lib.hid hx2
          subst hA
          obtain ⟨W1, hW1⟩ : ∃ W, W = wr.alloc (.cells #[.int .i64 0, .int .i64 0] 79) := ⟨_, rfl⟩
          obtain ⟨f, hf⟩ : ∃ f, f = wr.heap.size := ⟨_, rfl⟩
          have hb1 : Below wr.heap.size wr W1 := by rw [hW1]; exact (Below.refl _ _).alloc (Nat.le_refl _) _
          have hrf : W1.heap[f]? = some (.cells (fltCs (0, 0)) 79) := by rw [hW1, hf]; exact heap_new _ _
          have HPf := Lib.hid (HPa.out.call hb1)
          have HRf := Lib.hid hrf
          have hgl : gt < f := by rw [hf]; exact (Array.getElem?_eq_some_iff.1 HPa.out.ts.row).1
          have hibf : ib < f := by omega
          have hW1s : f < W1.heap.size := (Array.getElem?_eq_some_iff.1 hrf).1
          have hcW : ∀ (j : Nat) (v : Value), (itemL x)[j]? = some v → W1.cell? ⟨ib, io + i * 17 + j, none⟩ = some v := fun j v hv => (hb1.cell (p := ⟨ib, io + i * 17 + j, none⟩) hib).trans (by rw [Nat.add_assoc]; exact hcells j v hv)
          have HCW := Lib.hid hcW
          have c0 := hcW 0 (.bool x.tenant) rfl
          rw [Nat.add_zero] at c0
          have hu75 := Tryz.underlying75
          have hinfL : (Tryz.prog.info? 75).map (·.size) = some (itemL x).length := info75
          clear hcells hx hx2 hrf hcW hb1
          go_upto_region 20 with fail
          rw [← hW1, ← hf]
          have hfle : w.heap.size ≤ f := by rw [hf]; exact HPa.out.below.size
          clear hW1 hf
          have HSK : Hid (∀ W', RB f W1 W' → ((W'.rangeAt ib (io + i * 17) (itemL x) ∧ (W'.cell? ⟨gt, 0, none⟩ = some (.slice A n c) ∧ W'.cell? ⟨gt, 1, none⟩ = some (.slice A' m d))) ∧ (W'.cell? ⟨ib, io + i * 17 + 1, none⟩ = some (.string ⟨x.name.text.toArray⟩) ∧ W'.cell? ⟨ib, io + i * 17 + 3, none⟩ = some (.string ⟨x.other.text.toArray⟩)))) := by
            intro W' hb
            have hbb := hb.below (B := f) (Nat.le_refl _) (by omega)
            obtain ⟨y0, y1, -⟩ := two_cells HPf.out.ts.row
            exact ⟨⟨fun j v hv => (hbb.cell (p := ⟨ib, io + i * 17 + j, none⟩) hibf).trans (HCW.out j v hv), (hbb.cell (p := ⟨gt, 0, none⟩) hgl).trans y0, (hbb.cell (p := ⟨gt, 1, none⟩) hgl).trans y1⟩, (hbb.cell (p := ⟨ib, io + i * 17 + 1, none⟩) hibf).trans (HCW.out 1 _ rfl), (hbb.cell (p := ⟨ib, io + i * 17 + 3, none⟩) hibf).trans (HCW.out 3 _ rfl)⟩
          have HPA : Hid (∀ W', RB f W1 W' → PA w (some ⟨ib, io, none⟩) xs gt (termsOf xs) A n c A' m d W') := fun W' hb => HPf.out.rb hb HRf.out hfle
          have HTV : Hid (∀ W', RB f W1 W' → TermsV W' (termsOf xs) (.agg #[.slice A n c, .slice A' m d])) := fun W' hb => (HPA.out W' hb).terms
          cases hten : x.tenant with
          | true =>
            have HNC2 : Hid (nc = (termsOf (xs.take (i + 1))).classes.length) := by show _ = _; rw [termsOf_snoc Hx.out]; unfold pushT; rw [hten]; exact HNC.out
            have HNT2 : Hid (nt + 1 = (termsOf (xs.take (i + 1))).contracts.length) := by show _ = _; rw [termsOf_snoc Hx.out]; unfold pushT; rw [hten]; show _ = (_ ++ [_]).length; rw [List.length_append, ← HNT.out]; rfl
            obtain ⟨hvg, hvs, hvb, -⟩ := HxG.out.ten hten
            have HVguar : Hid (NumTx x.guar) := numTx_of hvg
            have HVsnap : Hid (NumTx x.snap) := hvs.elim (fun h => by rw [h]; exact numTx_0) numTx_of
            have HVburst : Hid (NumTx x.burst) := hvb.elim (fun h => by rw [h.1]; exact numTx_0) (fun h => numTx_of h.1)
            have HVrank : Hid (NumTx x.rank) := hvb.elim (fun h => by rw [h.2]; exact numTx_0) (fun h => numTx_of h.2)
            obtain ⟨twice, htw⟩ : ∃ b, b = decide (x.name.text ∈ (termsOf (xs.take i)).contracts.map ContrD.tenant) := ⟨_, rfl⟩
            obtain ⟨known, hkn⟩ : ∃ b, b = decide (x.other.text ∈ NM) := ⟨_, rfl⟩
            obtain ⟨F1, hF1⟩ : ∃ F, F = headF x nt 16 twice (0, 0) := ⟨_, rfl⟩
            obtain ⟨F2, hF2⟩ : ∃ F, F = tenF x known F1 := ⟨_, rfl⟩
            have HF : Hid (addB NM (termsOf (xs.take i)) (itOf x) = resF F2 (pushT (termsOf (xs.take i)) x)) := by show _ = _; rw [add_ref_t NM _ x HxG.out hten, ← HNT.out, ← htw, ← hkn, ← hF1, ← hF2]
            have Hhas : Hid (∀ W', RB f W1 W' → Calls Tryz.prog 23 #[.agg #[.slice A n c, .slice A' m d], .int .i64 (nt : Int), .string ⟨x.name.text.toArray⟩] W' (BoolR twice W')) := fun W' hb => by
              have := has27_any (termsOf xs) _ x.name.text nt W' (HTV.out W' hb) (by rw [HNT.out]; exact (pre_le xs i).2)
              rw [show (termsOf xs).contracts.take nt = (termsOf (xs.take i)).contracts by rw [HNT.out]; exact pre_d xs i, ← htw] at this
              exact this
            have Hhas2 : Hid (∀ W', RB f W1 W' → Calls Tryz.prog 25 #[.agg #[.slice A n c, .slice A' m d], .int .i64 (n : Int), .string ⟨x.other.text.toArray⟩] W' (BoolR known W')) := fun W' hb => by
              have hln := HPf.out.ts.len1
              have := has25_any (termsOf xs) _ x.other.text n W' (HTV.out W' hb) (by omega)
              rw [show (termsOf xs).classes.take n = (termsOf xs).classes by rw [hln]; exact List.take_length, ← HNM.out, ← hkn] at this
              exact this
            have HhF1 : Hid (∀ W', W'.heap[f]? = some (.cells (fltCs (0, 0)) 79) → Calls Tryz.prog 22 #[.pointer (some ⟨f, 0, none⟩), .agg (itemL x).toArray, .int .i64 (nt : Int), .int .i64 16, .bool twice] W' (NoteP f F1 W')) := fun W' h => by rw [hF1]; exact rhead_any f (0, 0) x nt 16 twice W' h
            have HhF2 : Hid (∀ W', W'.heap[f]? = some (.cells (fltCs F1) 79) → Calls Tryz.prog 24 #[.pointer (some ⟨f, 0, none⟩), .agg (itemL x).toArray, .bool known] W' (NoteP f F2 W')) := fun W' h => by rw [hF2]; exact rtenF_any f F1 x known W' h HVguar HVsnap HVburst HVrank
            rw [hten] at c0
            clear hten hvg hvs hvb htw hkn hF1 hF2
            go_upto_region 21 with fail
            clear c0
            refine wp_region_held_drew (S := fun W' => (W'.rangeAt ib (io + i * 17) (itemL x) ∧ (W'.cell? ⟨gt, 0, none⟩ = some (.slice A n c) ∧ W'.cell? ⟨gt, 1, none⟩ = some (.slice A' m d))) ∧ (W'.cell? ⟨ib, io + i * 17 + 1, none⟩ = some (.string ⟨x.name.text.toArray⟩) ∧ W'.cell? ⟨ib, io + i * 17 + 3, none⟩ = some (.string ⟨x.other.text.toArray⟩))) (by kernel_rfl) (HSK.out _ (RB.refl _ _).drew) (fun hHeld => ?_)
            refine wpAnyH_take (i := 0) (v := ?_) (by simp only [List.getElem?_toArray, List.getElem?_cons_zero] <;> rfl) (by kernel_rfl) (by kernel_rfl) (by kernel_rfl) (by intro _ _ _ h; exact h) (Or.inl ⟨by rfl, ?_⟩) hHeld ?_
            rotate_left
            · intro w hSw; (try dsimp only at hSw); go_simp
              with_reducible rfl
            try simp only [Act.put, List.setIfInBounds_toArray, List.set_cons_zero, List.set_cons_succ]
            refine wpAnyH_take (i := 1) (v := ?_) (by simp only [List.getElem?_toArray, List.getElem?_cons_zero, List.getElem?_cons_succ] <;> rfl) (by kernel_rfl) (by kernel_rfl) (by kernel_rfl) (by intro _ _ _ h; exact h) (Or.inl ⟨by rfl, ?_⟩) hHeld ?_
            rotate_left
            · intro w hSw; (try dsimp only at hSw); go_simp
              with_reducible rfl
            try simp only [Act.put, List.setIfInBounds_toArray, List.set_cons_zero, List.set_cons_succ]
            refine wpAnyH_take (i := 2) (v := ?_) (by simp only [List.getElem?_toArray, List.getElem?_cons_zero, List.getElem?_cons_succ] <;> rfl) (by kernel_rfl) (by kernel_rfl) (by kernel_rfl) (by intro _ _ _ h; exact h) (Or.inl ⟨by rfl, ?_⟩) hHeld ?_
            rotate_left
            · intro w hSw; (try dsimp only at hSw); go_simp
              with_reducible rfl
            try simp only [Act.put, List.setIfInBounds_toArray, List.set_cons_zero, List.set_cons_succ]
            refine wpAnyH_take (i := 3) (v := ?_) (by simp only [List.getElem?_toArray, List.getElem?_cons_zero, List.getElem?_cons_succ] <;> rfl) (by kernel_rfl) (by kernel_rfl) (by kernel_rfl) (by intro _ _ _ h; exact h) (Or.inl ⟨by rfl, ?_⟩) hHeld ?_
            rotate_left
            · intro w hSw; (try dsimp only at hSw); go_simp
              with_reducible rfl
            try simp only [Act.put, List.setIfInBounds_toArray, List.set_cons_zero, List.set_cons_succ]
            refine wpAnyH_take (i := 4) (v := .agg (itemL x).toArray) (by simp only [List.getElem?_toArray, List.getElem?_cons_zero, List.getElem?_cons_succ] <;> rfl) (by kernel_rfl) (by kernel_rfl) (by kernel_rfl) (by intro _ _ _ h; exact h) (yieldsIf_load_mid (by rfl) 75 _ rfl ib (io + i * 17) rfl (itemL x) _ (fun W h => h.1.1) Tryz.underlying75 rfl hinfL) hHeld ?_
            try simp only [Act.put, List.setIfInBounds_toArray, List.set_cons_zero, List.set_cons_succ]
            refine wpAnyH_take (i := 5) (v := ?_) (by simp only [List.getElem?_toArray, List.getElem?_cons_zero, List.getElem?_cons_succ] <;> rfl) (by kernel_rfl) (by kernel_rfl) (by kernel_rfl) (by intro _ _ _ h; exact h) (Or.inl ⟨by rfl, ?_⟩) hHeld ?_
            rotate_left
            · intro w hSw; (try dsimp only at hSw); go_simp
              with_reducible rfl
            try simp only [Act.put, List.setIfInBounds_toArray, List.set_cons_zero, List.set_cons_succ]
            refine wpAnyH_take (i := 6) (v := ?_) (by simp only [List.getElem?_toArray, List.getElem?_cons_zero, List.getElem?_cons_succ] <;> rfl) (by kernel_rfl) (by kernel_rfl) (by kernel_rfl) (by intro _ _ _ h; exact h) (Or.inl ⟨by rfl, ?_⟩) hHeld ?_
            rotate_left
            · intro w hSw; (try dsimp only at hSw); go_simp
              with_reducible rfl
            try simp only [Act.put, List.setIfInBounds_toArray, List.set_cons_zero, List.set_cons_succ]
            refine wpAnyH_take (i := 7) (v := ?_) (by simp only [List.getElem?_toArray, List.getElem?_cons_zero, List.getElem?_cons_succ] <;> rfl) (by kernel_rfl) (by kernel_rfl) (by kernel_rfl) (by intro _ _ _ h; exact h) (Or.inl ⟨by rfl, ?_⟩) hHeld ?_
            rotate_left
            · intro w hSw; (try dsimp only at hSw); go_simp
              with_reducible rfl
            try simp only [Act.put, List.setIfInBounds_toArray, List.set_cons_zero, List.set_cons_succ]
            refine wpAnyH_take (i := 8) (v := ?_) (by simp only [List.getElem?_toArray, List.getElem?_cons_zero, List.getElem?_cons_succ] <;> rfl) (by kernel_rfl) (by kernel_rfl) (by kernel_rfl) (by intro _ _ _ h; exact h) (Or.inl ⟨by rfl, ?_⟩) hHeld ?_
            rotate_left
            · intro w hSw; (try dsimp only at hSw); go_simp
              with_reducible rfl
            try simp only [Act.put, List.setIfInBounds_toArray, List.set_cons_zero, List.set_cons_succ]
            refine wpAnyH_take (i := 9) (v := ?_) (by simp only [List.getElem?_toArray, List.getElem?_cons_zero, List.getElem?_cons_succ] <;> rfl) (by kernel_rfl) (by kernel_rfl) (by kernel_rfl) (by intro _ _ _ h; exact h) (Or.inl ⟨by rfl, ?_⟩) hHeld ?_
            rotate_left
            · intro w hSw; (try dsimp only at hSw); go_simp
              with_reducible rfl
            try simp only [Act.put, List.setIfInBounds_toArray, List.set_cons_zero, List.set_cons_succ]
            refine wpAnyH_take (i := 10) (v := ?_) (by simp only [List.getElem?_toArray, List.getElem?_cons_zero, List.getElem?_cons_succ] <;> rfl) (by kernel_rfl) (by kernel_rfl) (by kernel_rfl) (by intro _ _ _ h; exact h) (Or.inl ⟨by rfl, ?_⟩) hHeld ?_
            rotate_left
            · intro w hSw; (try dsimp only at hSw); go_simp
              with_reducible rfl
            try simp only [Act.put, List.setIfInBounds_toArray, List.set_cons_zero, List.set_cons_succ]
            refine wpAnyH_take (i := 11) (v := ?_) (by simp only [List.getElem?_toArray, List.getElem?_cons_zero, List.getElem?_cons_succ] <;> rfl) (by kernel_rfl) (by kernel_rfl) (by kernel_rfl) (by intro _ _ _ h; exact h) (Or.inl ⟨by rfl, ?_⟩) hHeld ?_
            rotate_left
            · intro w hSw; (try dsimp only at hSw); go_simp
              with_reducible rfl
            try simp only [Act.put, List.setIfInBounds_toArray, List.set_cons_zero, List.set_cons_succ]
            refine wpAnyH_take (i := 12) (v := ?_) (by simp only [List.getElem?_toArray, List.getElem?_cons_zero, List.getElem?_cons_succ] <;> rfl) (by kernel_rfl) (by kernel_rfl) (by kernel_rfl) (by intro _ _ _ h; exact h) (Or.inl ⟨by rfl, ?_⟩) hHeld ?_
            rotate_left
            · intro w hSw; (try dsimp only at hSw); go_simp
              with_reducible rfl
            try simp only [Act.put, List.setIfInBounds_toArray, List.set_cons_zero, List.set_cons_succ]
            refine wpAnyH_take (i := 13) (v := ?_) (by simp only [List.getElem?_toArray, List.getElem?_cons_zero, List.getElem?_cons_succ] <;> rfl) (by kernel_rfl) (by kernel_rfl) (by kernel_rfl) (by intro _ _ _ h; exact h) (Or.inl ⟨by rfl, ?_⟩) hHeld ?_
            rotate_left
            · intro w hSw; (try dsimp only at hSw); go_simp
              with_reducible rfl
            try simp only [Act.put, List.setIfInBounds_toArray, List.set_cons_zero, List.set_cons_succ]
            refine wpAnyH_ready (rs := [14]) (by kernel_rfl) (by simp) ?_
            refine AllReadyH.cons (by simp only [List.getElem?_toArray, List.getElem?_cons_zero, List.getElem?_cons_succ] <;> rfl) (fun K hK => ?_) AllReadyH.nil
            go_simp
            go_at_call 23
            refine (Hhas.out _ (RB.refl _ _).drew).mono ?_
            rintro e u1 ⟨rfl, hb⟩
            have HB2 := Lib.hid ((RB.refl f W1).drew.trans (RB.of_below hb))
            have HR2 := Lib.hid (below_cells (w := W1.drew) HRf.out hb)
            clear hb
            refine hK.out _ _ (HSK.out _ HB2.out) (fun hHeld => ?_)
            clear hK K
            try simp only [Act.put, List.setIfInBounds_toArray, List.set_cons_zero, List.set_cons_succ]
            refine wpAnyH_ready (rs := [15]) (by kernel_rfl) (by simp) ?_
            refine AllReadyH.cons (by simp only [List.getElem?_toArray, List.getElem?_cons_zero, List.getElem?_cons_succ] <;> rfl) (fun K hK => ?_) AllReadyH.nil
            go_simp
            go_at_call 22
            refine (HhF1.out _ HR2.out).mono ?_
            rintro e u2 ⟨rfl, hrb, hrow⟩
            have HB3 := Lib.hid (HB2.out.trans hrb)
            have HR3 := Lib.hid hrow
            clear hrb hrow
            refine hK.out _ _ (HSK.out _ HB3.out) (fun hHeld => ?_)
            clear hK K
            try simp only [Act.put, List.setIfInBounds_toArray, List.set_cons_zero, List.set_cons_succ]
            refine wpAnyH_done (by kernel_rfl) ?_ _
            clear hHeld
            go_upto_region 22 with fail
            refine wp_region_held_drew (S := fun W' => (W'.rangeAt ib (io + i * 17) (itemL x) ∧ (W'.cell? ⟨gt, 0, none⟩ = some (.slice A n c) ∧ W'.cell? ⟨gt, 1, none⟩ = some (.slice A' m d))) ∧ (W'.cell? ⟨ib, io + i * 17 + 1, none⟩ = some (.string ⟨x.name.text.toArray⟩) ∧ W'.cell? ⟨ib, io + i * 17 + 3, none⟩ = some (.string ⟨x.other.text.toArray⟩))) (by kernel_rfl) (HSK.out _ HB3.out.drew) (fun hHeld => ?_)
            refine wpAnyH_take (i := 0) (v := ?_) (by simp only [List.getElem?_toArray, List.getElem?_cons_zero] <;> rfl) (by kernel_rfl) (by kernel_rfl) (by kernel_rfl) (by intro _ _ _ h; exact h) (Or.inl ⟨by rfl, ?_⟩) hHeld ?_
            rotate_left
            · intro w hSw; (try dsimp only at hSw); go_simp
              with_reducible rfl
            try simp only [Act.put, List.setIfInBounds_toArray, List.set_cons_zero, List.set_cons_succ]
            refine wpAnyH_take (i := 1) (v := ?_) (by simp only [List.getElem?_toArray, List.getElem?_cons_zero, List.getElem?_cons_succ] <;> rfl) (by kernel_rfl) (by kernel_rfl) (by kernel_rfl) (by intro _ _ _ h; exact h) (Or.inl ⟨by rfl, ?_⟩) hHeld ?_
            rotate_left
            · intro w hSw; (try dsimp only at hSw); go_simp
              with_reducible rfl
            try simp only [Act.put, List.setIfInBounds_toArray, List.set_cons_zero, List.set_cons_succ]
            refine wpAnyH_take (i := 2) (v := ?_) (by simp only [List.getElem?_toArray, List.getElem?_cons_zero, List.getElem?_cons_succ] <;> rfl) (by kernel_rfl) (by kernel_rfl) (by kernel_rfl) (by intro _ _ _ h; exact h) (Or.inl ⟨by rfl, ?_⟩) hHeld ?_
            rotate_left
            · intro w hSw; (try dsimp only at hSw); go_simp
              with_reducible rfl
            try simp only [Act.put, List.setIfInBounds_toArray, List.set_cons_zero, List.set_cons_succ]
            refine wpAnyH_take (i := 3) (v := ?_) (by simp only [List.getElem?_toArray, List.getElem?_cons_zero, List.getElem?_cons_succ] <;> rfl) (by kernel_rfl) (by kernel_rfl) (by kernel_rfl) (by intro _ _ _ h; exact h) (Or.inl ⟨by rfl, ?_⟩) hHeld ?_
            rotate_left
            · intro w hSw; (try dsimp only at hSw); go_simp
              with_reducible rfl
            try simp only [Act.put, List.setIfInBounds_toArray, List.set_cons_zero, List.set_cons_succ]
            refine wpAnyH_take (i := 4) (v := .agg (itemL x).toArray) (by simp only [List.getElem?_toArray, List.getElem?_cons_zero, List.getElem?_cons_succ] <;> rfl) (by kernel_rfl) (by kernel_rfl) (by kernel_rfl) (by intro _ _ _ h; exact h) (yieldsIf_load_mid (by rfl) 75 _ rfl ib (io + i * 17) rfl (itemL x) _ (fun W h => h.1.1) Tryz.underlying75 rfl hinfL) hHeld ?_
            try simp only [Act.put, List.setIfInBounds_toArray, List.set_cons_zero, List.set_cons_succ]
            refine wpAnyH_take (i := 5) (v := ?_) (by simp only [List.getElem?_toArray, List.getElem?_cons_zero, List.getElem?_cons_succ] <;> rfl) (by kernel_rfl) (by kernel_rfl) (by kernel_rfl) (by intro _ _ _ h; exact h) (Or.inl ⟨by rfl, ?_⟩) hHeld ?_
            rotate_left
            · intro w hSw; (try dsimp only at hSw); go_simp
              with_reducible rfl
            try simp only [Act.put, List.setIfInBounds_toArray, List.set_cons_zero, List.set_cons_succ]
            refine wpAnyH_take (i := 6) (v := ?_) (by simp only [List.getElem?_toArray, List.getElem?_cons_zero, List.getElem?_cons_succ] <;> rfl) (by kernel_rfl) (by kernel_rfl) (by kernel_rfl) (by intro _ _ _ h; exact h) (Or.inl ⟨by rfl, ?_⟩) hHeld ?_
            rotate_left
            · intro w hSw; (try dsimp only at hSw); go_simp
              with_reducible rfl
            try simp only [Act.put, List.setIfInBounds_toArray, List.set_cons_zero, List.set_cons_succ]
            refine wpAnyH_take (i := 7) (v := ?_) (by simp only [List.getElem?_toArray, List.getElem?_cons_zero, List.getElem?_cons_succ] <;> rfl) (by kernel_rfl) (by kernel_rfl) (by kernel_rfl) (by intro _ _ _ h; exact h) (Or.inl ⟨by rfl, ?_⟩) hHeld ?_
            rotate_left
            · intro w hSw; (try dsimp only at hSw); go_simp
              with_reducible rfl
            try simp only [Act.put, List.setIfInBounds_toArray, List.set_cons_zero, List.set_cons_succ]
            refine wpAnyH_take (i := 8) (v := ?_) (by simp only [List.getElem?_toArray, List.getElem?_cons_zero, List.getElem?_cons_succ] <;> rfl) (by kernel_rfl) (by kernel_rfl) (by kernel_rfl) (by intro _ _ _ h; exact h) (Or.inl ⟨by rfl, ?_⟩) hHeld ?_
            rotate_left
            · intro w hSw; (try dsimp only at hSw); go_simp
              with_reducible rfl
            try simp only [Act.put, List.setIfInBounds_toArray, List.set_cons_zero, List.set_cons_succ]
            refine wpAnyH_take (i := 9) (v := ?_) (by simp only [List.getElem?_toArray, List.getElem?_cons_zero, List.getElem?_cons_succ] <;> rfl) (by kernel_rfl) (by kernel_rfl) (by kernel_rfl) (by intro _ _ _ h; exact h) (Or.inl ⟨by rfl, ?_⟩) hHeld ?_
            rotate_left
            · intro w hSw; (try dsimp only at hSw); go_simp
              with_reducible rfl
            try simp only [Act.put, List.setIfInBounds_toArray, List.set_cons_zero, List.set_cons_succ]
            refine wpAnyH_take (i := 10) (v := ?_) (by simp only [List.getElem?_toArray, List.getElem?_cons_zero, List.getElem?_cons_succ] <;> rfl) (by kernel_rfl) (by kernel_rfl) (by kernel_rfl) (by intro _ _ _ h; exact h) (Or.inl ⟨by rfl, ?_⟩) hHeld ?_
            rotate_left
            · intro w hSw; (try dsimp only at hSw); go_simp
              with_reducible rfl
            try simp only [Act.put, List.setIfInBounds_toArray, List.set_cons_zero, List.set_cons_succ]
            refine wpAnyH_take (i := 11) (v := ?_) (by simp only [List.getElem?_toArray, List.getElem?_cons_zero, List.getElem?_cons_succ] <;> rfl) (by kernel_rfl) (by kernel_rfl) (by kernel_rfl) (by intro _ _ _ h; exact h) (Or.inl ⟨by rfl, ?_⟩) hHeld ?_
            rotate_left
            · intro w hSw; (try dsimp only at hSw); go_simp
              with_reducible rfl
            try simp only [Act.put, List.setIfInBounds_toArray, List.set_cons_zero, List.set_cons_succ]
            refine wpAnyH_take (i := 12) (v := ?_) (by simp only [List.getElem?_toArray, List.getElem?_cons_zero, List.getElem?_cons_succ] <;> rfl) (by kernel_rfl) (by kernel_rfl) (by kernel_rfl) (by intro _ _ _ h; exact h) (Or.inl ⟨by rfl, ?_⟩) hHeld ?_
            rotate_left
            · intro w hSw; (try dsimp only at hSw); go_simp
              with_reducible rfl
            try simp only [Act.put, List.setIfInBounds_toArray, List.set_cons_zero, List.set_cons_succ]
            refine wpAnyH_take (i := 13) (v := ?_) (by simp only [List.getElem?_toArray, List.getElem?_cons_zero, List.getElem?_cons_succ] <;> rfl) (by kernel_rfl) (by kernel_rfl) (by kernel_rfl) (by intro _ _ _ h; exact h) (Or.inl ⟨by rfl, ?_⟩) hHeld ?_
            rotate_left
            · intro w hSw; (try dsimp only at hSw); go_simp
              with_reducible rfl
            try simp only [Act.put, List.setIfInBounds_toArray, List.set_cons_zero, List.set_cons_succ]
            refine wpAnyH_take (i := 14) (v := ?_) (by simp only [List.getElem?_toArray, List.getElem?_cons_zero, List.getElem?_cons_succ] <;> rfl) (by kernel_rfl) (by kernel_rfl) (by kernel_rfl) (by intro _ _ _ h; exact h) (Or.inl ⟨by rfl, ?_⟩) hHeld ?_
            rotate_left
            · intro w hSw; (try dsimp only at hSw); go_simp
              with_reducible rfl
            try simp only [Act.put, List.setIfInBounds_toArray, List.set_cons_zero, List.set_cons_succ]
            refine wpAnyH_ready (rs := [15]) (by kernel_rfl) (by simp) ?_
            refine AllReadyH.cons (by simp only [List.getElem?_toArray, List.getElem?_cons_zero, List.getElem?_cons_succ] <;> rfl) (fun K hK => ?_) AllReadyH.nil
            go_simp
            go_at_call 25
            refine (Hhas2.out _ HB3.out.drew).mono ?_
            rintro e u3 ⟨rfl, hb⟩
            have HB4 := Lib.hid (HB3.out.drew.trans (RB.of_below hb))
            have HR4 := Lib.hid (below_cells (w := u2.drew) HR3.out hb)
            clear hb
            refine hK.out _ _ (HSK.out _ HB4.out) (fun hHeld => ?_)
            clear hK K
            try simp only [Act.put, List.setIfInBounds_toArray, List.set_cons_zero, List.set_cons_succ]
            refine wpAnyH_ready (rs := [16]) (by kernel_rfl) (by simp) ?_
            refine AllReadyH.cons (by simp only [List.getElem?_toArray, List.getElem?_cons_zero, List.getElem?_cons_succ] <;> rfl) (fun K hK => ?_) AllReadyH.nil
            go_simp
            go_at_call 24
            refine (HhF2.out _ HR4.out).mono ?_
            rintro e u4 ⟨rfl, hrb, hrow⟩
            have HB5 := Lib.hid (HB4.out.trans hrb)
            have HR5 := Lib.hid hrow
            clear hrb hrow
            refine hK.out _ _ (HSK.out _ HB5.out) (fun hHeld => ?_)
            clear hK K
            try simp only [Act.put, List.setIfInBounds_toArray, List.set_cons_zero, List.set_cons_succ]
            refine wpAnyH_done (by kernel_rfl) ?_ _
            clear hHeld
            have HBE := HB5
            have HRE := HR5
            have hadd : addB NM (termsOf (xs.take i)) (itOf x) = resF F2 (pushT (termsOf (xs.take i)) x) := HF.out
            have hstep : addsB NM ⟨[], []⟩ (xs.map itOf) = (resF F2 (pushT (termsOf (xs.take i)) x)).next fun T => addsB NM T ((xs.drop (i + 1)).map itOf) := by rw [HAdd.out, adds_step Hx.out, hadd]
            by_cases h0 : F2.2 = 0
            · have hq : ((F2.2 : Int) != 0) = false := by rw [show (F2.2 : Int) = 0 by omega]; rfl
              have HAdd2 : Hid (addsB NM ⟨[], []⟩ (xs.map itOf) = addsB NM (termsOf (xs.take (i + 1))) ((xs.drop (i + 1)).map itOf)) := by
                show _ = _
                rw [hstep, termsOf_snoc Hx.out]
                unfold resF
                rw [if_pos h0]; rfl
              have HPn := Lib.hid (HPA.out _ HBE.out)
              clear hstep hadd h0
              obtain ⟨z0, z1, -⟩ := two_cells HRE.out
              go_wp2_with fail
              go_roundg (xs.length - (i + 1))
              case measure => rw [Hg2.out]; omega
              case rel => exact ⟨i + 1, nc, nt + 1, rfl, by go_num, by go_num, rfl, by omega, by omega, HNC2.out, HNT2.out, HPn.out, HAdd2.out⟩
            · have hq : ((F2.2 : Int) != 0) = true := by rw [bne_iff_ne]; omega
              have hbad : addB NM (termsOf (xs.take i)) (itOf x) = .bad F2.1 F2.2 := by
                rw [hadd]
                unfold resF
                rw [if_neg h0]
              have hpos := add_pos Hits.out (List.mem_of_getElem? Hx.out) hbad
              have HPb : Hid (parseB t.data.toList = .bad F2.1 F2.2) := by
                show _ = _
                rw [HPB.out, hstep]
                unfold resF
                rw [if_neg h0]; rfl
              have HPn := Lib.hid (HPA.out _ HBE.out)
              clear hstep hadd h0 hbad
              obtain ⟨z0, z1, -⟩ := two_cells HRE.out
              go_upto_region 28 with fail
              clear z0 z1 hq
              have hat0 := fun W' => at_any t F2.1 W' ht hpos
              obtain ⟨s1, s2, hs⟩ : ∃ s1 s2 : Int, spotV t F2.1 = #[.int .i64 s1, .int .i64 s2] := ⟨_, _, rfl⟩
              rw [hs] at hat0
              have Hs : Hid (spotR t F2.1 = #[.int .i64 s1, .int .i64 s2]) := (spot_its ht).trans hs
              have Hat := Lib.hid hat0
              clear hat0 hs hpos
              have HPd := Lib.hid (HPn.out.call (Below.refl _ _).drew)
              have HRd : Hid (u4.drew.heap[f]? = some (.cells (fltCs F2) 79)) := HRE.out
              have nfr : f ≠ w.heap.size := by
                intro e
                have := HPn.out.res
                rw [← e, HRE.out] at this
                injection this with this
                injection this with _ this
                exact absurd this (by decide)
              refine wp_region_held_drew (S := fun W' => W'.cell? ⟨f, 0, none⟩ = some (.int .i64 (F2.1 : Int)) ∧ W'.cell? ⟨f, 1, none⟩ = some (.int .i64 (F2.2 : Int))) (by kernel_rfl) ⟨(two_cells HRd.out).1, (two_cells HRd.out).2.1⟩ (fun hHeld => ?_)
              refine wpAnyH_take (i := 0) (v := ?_) (by simp only [List.getElem?_toArray, List.getElem?_cons_zero] <;> rfl) (by kernel_rfl) (by kernel_rfl) (by kernel_rfl) (by intro _ _ _ h; exact h) (Or.inl ⟨by rfl, ?_⟩) hHeld ?_
              rotate_left
              · intro w hSw; (try dsimp only at hSw); go_simp
                with_reducible rfl
              try simp only [Act.put, List.setIfInBounds_toArray, List.set_cons_zero, List.set_cons_succ]
              refine wpAnyH_take (i := 1) (v := ?_) (by simp only [List.getElem?_toArray, List.getElem?_cons_zero, List.getElem?_cons_succ] <;> rfl) (by kernel_rfl) (by kernel_rfl) (by kernel_rfl) (by intro _ _ _ h; exact h) (Or.inl ⟨by rfl, ?_⟩) hHeld ?_
              rotate_left
              · intro w hSw; (try dsimp only at hSw); go_simp
                with_reducible rfl
              try simp only [Act.put, List.setIfInBounds_toArray, List.set_cons_zero, List.set_cons_succ]
              refine wpAnyH_take (i := 2) (v := ?_) (by simp only [List.getElem?_toArray, List.getElem?_cons_zero, List.getElem?_cons_succ] <;> rfl) (by kernel_rfl) (by kernel_rfl) (by kernel_rfl) (by intro _ _ _ h; exact h) (Or.inl ⟨by rfl, ?_⟩) hHeld ?_
              rotate_left
              · intro w hSw; (try dsimp only at hSw); go_simp
                with_reducible rfl
              try simp only [Act.put, List.setIfInBounds_toArray, List.set_cons_zero, List.set_cons_succ]
              refine wpAnyH_take (i := 3) (v := ?_) (by simp only [List.getElem?_toArray, List.getElem?_cons_zero, List.getElem?_cons_succ] <;> rfl) (by kernel_rfl) (by kernel_rfl) (by kernel_rfl) (by intro _ _ _ h; exact h) (Or.inl ⟨by rfl, ?_⟩) hHeld ?_
              rotate_left
              · intro w hSw; (try dsimp only at hSw); go_simp
                with_reducible rfl
              try simp only [Act.put, List.setIfInBounds_toArray, List.set_cons_zero, List.set_cons_succ]
              refine wpAnyH_take (i := 4) (v := ?_) (by simp only [List.getElem?_toArray, List.getElem?_cons_zero, List.getElem?_cons_succ] <;> rfl) (by kernel_rfl) (by kernel_rfl) (by kernel_rfl) (by intro _ _ _ h; exact h) (Or.inl ⟨by rfl, ?_⟩) hHeld ?_
              rotate_left
              · intro w hSw; (try dsimp only at hSw); go_simp
                with_reducible rfl
              try simp only [Act.put, List.setIfInBounds_toArray, List.set_cons_zero, List.set_cons_succ]
              refine wpAnyH_take (i := 6) (v := ?_) (by simp only [List.getElem?_toArray, List.getElem?_cons_zero, List.getElem?_cons_succ] <;> rfl) (by kernel_rfl) (by kernel_rfl) (by kernel_rfl) (by intro _ _ _ h; exact h) (Or.inl ⟨by rfl, ?_⟩) hHeld ?_
              rotate_left
              · intro w hSw; (try dsimp only at hSw); go_simp
                with_reducible rfl
              try simp only [Act.put, List.setIfInBounds_toArray, List.set_cons_zero, List.set_cons_succ]
              refine wpAnyH_take (i := 7) (v := ?_) (by simp only [List.getElem?_toArray, List.getElem?_cons_zero, List.getElem?_cons_succ] <;> rfl) (by kernel_rfl) (by kernel_rfl) (by kernel_rfl) (by intro _ _ _ h; exact h) (Or.inl ⟨by rfl, ?_⟩) hHeld ?_
              rotate_left
              · intro w hSw; (try dsimp only at hSw); go_simp
                with_reducible rfl
              try simp only [Act.put, List.setIfInBounds_toArray, List.set_cons_zero, List.set_cons_succ]
              refine wpAnyH_take (i := 8) (v := ?_) (by simp only [List.getElem?_toArray, List.getElem?_cons_zero, List.getElem?_cons_succ] <;> rfl) (by kernel_rfl) (by kernel_rfl) (by kernel_rfl) (by intro _ _ _ h; exact h) (Or.inl ⟨by rfl, ?_⟩) hHeld ?_
              rotate_left
              · intro w hSw; (try dsimp only at hSw); go_simp
                with_reducible rfl
              try simp only [Act.put, List.setIfInBounds_toArray, List.set_cons_zero, List.set_cons_succ]
              refine wpAnyH_take (i := 9) (v := ?_) (by simp only [List.getElem?_toArray, List.getElem?_cons_zero, List.getElem?_cons_succ] <;> rfl) (by kernel_rfl) (by kernel_rfl) (by kernel_rfl) (by intro _ _ _ h; exact h) (Or.inl ⟨by rfl, ?_⟩) hHeld ?_
              rotate_left
              · intro w hSw; (try dsimp only at hSw); go_simp
                with_reducible rfl
              try simp only [Act.put, List.setIfInBounds_toArray, List.set_cons_zero, List.set_cons_succ]
              refine wpAnyH_ready (rs := [5]) (by kernel_rfl) (by simp) ?_
              refine AllReadyH.cons (by simp only [List.getElem?_toArray, List.getElem?_cons_zero, List.getElem?_cons_succ] <;> rfl) (fun K hK => ?_) AllReadyH.nil
              go_simp
              go_at_call 20
              refine (Hat.out _).mono ?_
              rintro e u9 ⟨rfl, hb9⟩
              have HP9 := Lib.hid (HPd.out.call hb9)
              have HR9 := Lib.hid (below_cells HRd.out hb9)
              clear hb9
              refine hK.out _ _ ⟨(two_cells HR9.out).1, (two_cells HR9.out).2.1⟩ (fun hHeld => ?_)
              clear hK K
              try simp only [Act.put, List.setIfInBounds_toArray, List.set_cons_zero, List.set_cons_succ]
              refine wpAnyH_take (i := 10) (v := ?_) (by simp only [List.getElem?_toArray, List.getElem?_cons_zero, List.getElem?_cons_succ] <;> rfl) (by kernel_rfl) (by kernel_rfl) (by kernel_rfl) (by intro _ _ _ h; exact h) (Or.inl ⟨by rfl, ?_⟩) hHeld ?_
              rotate_left
              · intro w hSw; (try dsimp only at hSw); go_simp
                with_reducible rfl
              try simp only [Act.put, List.setIfInBounds_toArray, List.set_cons_zero, List.set_cons_succ]
              refine wpAnyH_ready (rs := [11]) (by kernel_rfl) (by simp) ?_
              refine AllReadyH.cons (by simp only [List.getElem?_toArray, List.getElem?_cons_zero, List.getElem?_cons_succ] <;> rfl) (fun K hK => ?_) AllReadyH.nil
              obtain ⟨x0, x1, x2, x3, x4, -⟩ := five_cells HP9.out.res
              obtain ⟨f0, f1, f2, f3, f4⟩ := five_frozen HP9.out.res
              go_simp
              refine hK.out _ _ ⟨(two_cells ((five_other nfr _ _ _ _ _).trans HR9.out)).1, (two_cells ((five_other nfr _ _ _ _ _).trans HR9.out)).2.1⟩ (fun hHeld => ?_)
              refine wpAnyH_done (by kernel_rfl) ?_ _
              clear hHeld x0 x1 x2 x3 x4 f0 f1 f2 f3 f4
              go_wp2_with fail
              refine bodyPost_ret (res7 _ _ w.heap.size _ _ _ _ _ rfl (five_set HP9.out.res _ _ _ _ _)) rfl ?_
              unfold RParseP
              rw [HPb.out]
              exact ⟨below_five HP9.out.below _ _ _ _ _, _, _, Hs.out, rfl⟩
          | false =>
            have HNC2 : Hid (nc + 1 = (termsOf (xs.take (i + 1))).classes.length) := by show _ = _; rw [termsOf_snoc Hx.out]; unfold pushT; rw [hten]; show _ = (_ ++ [_]).length; rw [List.length_append, ← HNC.out]; rfl
            have HNT2 : Hid (nt = (termsOf (xs.take (i + 1))).contracts.length) := by show _ = _; rw [termsOf_snoc Hx.out]; unfold pushT; rw [hten]; exact HNT.out
            obtain ⟨hvl, hvw, -⟩ := HxG.out.cls hten
            have HVlosses : Hid (NumTx x.losses) := numTx_of hvl
            have HVwhole : Hid (NumTx x.whole) := numTx_of hvw
            obtain ⟨twice, htw⟩ : ∃ b, b = decide (x.name.text ∈ (termsOf (xs.take i)).classes.map ClassD.name) := ⟨_, rfl⟩
            obtain ⟨F1, hF1⟩ : ∃ F, F = headF x nc 8 twice (0, 0) := ⟨_, rfl⟩
            obtain ⟨F2, hF2⟩ : ∃ F, F = classF x F1 := ⟨_, rfl⟩
            have HF : Hid (addB NM (termsOf (xs.take i)) (itOf x) = resF F2 (pushT (termsOf (xs.take i)) x)) := by show _ = _; rw [add_ref_c NM _ x HxG.out hten, ← HNC.out, ← htw, ← hF1, ← hF2]
            have Hhas : Hid (∀ W', RB f W1 W' → Calls Tryz.prog 25 #[.agg #[.slice A n c, .slice A' m d], .int .i64 (nc : Int), .string ⟨x.name.text.toArray⟩] W' (BoolR twice W')) := fun W' hb => by
              have := has25_any (termsOf xs) _ x.name.text nc W' (HTV.out W' hb) (by rw [HNC.out]; exact (pre_le xs i).1)
              rw [show (termsOf xs).classes.take nc = (termsOf (xs.take i)).classes by rw [HNC.out]; exact pre_c xs i, ← htw] at this
              exact this
            have HhF1 : Hid (∀ W', W'.heap[f]? = some (.cells (fltCs (0, 0)) 79) → Calls Tryz.prog 22 #[.pointer (some ⟨f, 0, none⟩), .agg (itemL x).toArray, .int .i64 (nc : Int), .int .i64 8, .bool twice] W' (NoteP f F1 W')) := fun W' h => by rw [hF1]; exact rhead_any f (0, 0) x nc 8 twice W' h
            have HhF2 : Hid (∀ W', W'.heap[f]? = some (.cells (fltCs F1) 79) → Calls Tryz.prog 26 #[.pointer (some ⟨f, 0, none⟩), .agg (itemL x).toArray] W' (NoteP f F2 W')) := fun W' h => by rw [hF2]; exact rclassF_any f F1 x W' h HVlosses HVwhole
            rw [hten] at c0
            clear hten hvl hvw htw hF1 hF2
            go_upto_region 24 with fail
            clear c0
            refine wp_region_held_drew (S := fun W' => (W'.rangeAt ib (io + i * 17) (itemL x) ∧ (W'.cell? ⟨gt, 0, none⟩ = some (.slice A n c) ∧ W'.cell? ⟨gt, 1, none⟩ = some (.slice A' m d))) ∧ (W'.cell? ⟨ib, io + i * 17 + 1, none⟩ = some (.string ⟨x.name.text.toArray⟩) ∧ W'.cell? ⟨ib, io + i * 17 + 3, none⟩ = some (.string ⟨x.other.text.toArray⟩))) (by kernel_rfl) (HSK.out _ (RB.refl _ _).drew) (fun hHeld => ?_)
            refine wpAnyH_take (i := 0) (v := ?_) (by simp only [List.getElem?_toArray, List.getElem?_cons_zero] <;> rfl) (by kernel_rfl) (by kernel_rfl) (by kernel_rfl) (by intro _ _ _ h; exact h) (Or.inl ⟨by rfl, ?_⟩) hHeld ?_
            rotate_left
            · intro w hSw; (try dsimp only at hSw); go_simp
              with_reducible rfl
            try simp only [Act.put, List.setIfInBounds_toArray, List.set_cons_zero, List.set_cons_succ]
            refine wpAnyH_take (i := 1) (v := ?_) (by simp only [List.getElem?_toArray, List.getElem?_cons_zero, List.getElem?_cons_succ] <;> rfl) (by kernel_rfl) (by kernel_rfl) (by kernel_rfl) (by intro _ _ _ h; exact h) (Or.inl ⟨by rfl, ?_⟩) hHeld ?_
            rotate_left
            · intro w hSw; (try dsimp only at hSw); go_simp
              with_reducible rfl
            try simp only [Act.put, List.setIfInBounds_toArray, List.set_cons_zero, List.set_cons_succ]
            refine wpAnyH_take (i := 2) (v := ?_) (by simp only [List.getElem?_toArray, List.getElem?_cons_zero, List.getElem?_cons_succ] <;> rfl) (by kernel_rfl) (by kernel_rfl) (by kernel_rfl) (by intro _ _ _ h; exact h) (Or.inl ⟨by rfl, ?_⟩) hHeld ?_
            rotate_left
            · intro w hSw; (try dsimp only at hSw); go_simp
              with_reducible rfl
            try simp only [Act.put, List.setIfInBounds_toArray, List.set_cons_zero, List.set_cons_succ]
            refine wpAnyH_take (i := 3) (v := ?_) (by simp only [List.getElem?_toArray, List.getElem?_cons_zero, List.getElem?_cons_succ] <;> rfl) (by kernel_rfl) (by kernel_rfl) (by kernel_rfl) (by intro _ _ _ h; exact h) (Or.inl ⟨by rfl, ?_⟩) hHeld ?_
            rotate_left
            · intro w hSw; (try dsimp only at hSw); go_simp
              with_reducible rfl
            try simp only [Act.put, List.setIfInBounds_toArray, List.set_cons_zero, List.set_cons_succ]
            refine wpAnyH_take (i := 4) (v := .agg (itemL x).toArray) (by simp only [List.getElem?_toArray, List.getElem?_cons_zero, List.getElem?_cons_succ] <;> rfl) (by kernel_rfl) (by kernel_rfl) (by kernel_rfl) (by intro _ _ _ h; exact h) (yieldsIf_load_mid (by rfl) 75 _ rfl ib (io + i * 17) rfl (itemL x) _ (fun W h => h.1.1) Tryz.underlying75 rfl hinfL) hHeld ?_
            try simp only [Act.put, List.setIfInBounds_toArray, List.set_cons_zero, List.set_cons_succ]
            refine wpAnyH_take (i := 5) (v := ?_) (by simp only [List.getElem?_toArray, List.getElem?_cons_zero, List.getElem?_cons_succ] <;> rfl) (by kernel_rfl) (by kernel_rfl) (by kernel_rfl) (by intro _ _ _ h; exact h) (Or.inl ⟨by rfl, ?_⟩) hHeld ?_
            rotate_left
            · intro w hSw; (try dsimp only at hSw); go_simp
              with_reducible rfl
            try simp only [Act.put, List.setIfInBounds_toArray, List.set_cons_zero, List.set_cons_succ]
            refine wpAnyH_take (i := 6) (v := ?_) (by simp only [List.getElem?_toArray, List.getElem?_cons_zero, List.getElem?_cons_succ] <;> rfl) (by kernel_rfl) (by kernel_rfl) (by kernel_rfl) (by intro _ _ _ h; exact h) (Or.inl ⟨by rfl, ?_⟩) hHeld ?_
            rotate_left
            · intro w hSw; (try dsimp only at hSw); go_simp
              with_reducible rfl
            try simp only [Act.put, List.setIfInBounds_toArray, List.set_cons_zero, List.set_cons_succ]
            refine wpAnyH_take (i := 7) (v := ?_) (by simp only [List.getElem?_toArray, List.getElem?_cons_zero, List.getElem?_cons_succ] <;> rfl) (by kernel_rfl) (by kernel_rfl) (by kernel_rfl) (by intro _ _ _ h; exact h) (Or.inl ⟨by rfl, ?_⟩) hHeld ?_
            rotate_left
            · intro w hSw; (try dsimp only at hSw); go_simp
              with_reducible rfl
            try simp only [Act.put, List.setIfInBounds_toArray, List.set_cons_zero, List.set_cons_succ]
            refine wpAnyH_take (i := 8) (v := ?_) (by simp only [List.getElem?_toArray, List.getElem?_cons_zero, List.getElem?_cons_succ] <;> rfl) (by kernel_rfl) (by kernel_rfl) (by kernel_rfl) (by intro _ _ _ h; exact h) (Or.inl ⟨by rfl, ?_⟩) hHeld ?_
            rotate_left
            · intro w hSw; (try dsimp only at hSw); go_simp
              with_reducible rfl
            try simp only [Act.put, List.setIfInBounds_toArray, List.set_cons_zero, List.set_cons_succ]
            refine wpAnyH_take (i := 9) (v := ?_) (by simp only [List.getElem?_toArray, List.getElem?_cons_zero, List.getElem?_cons_succ] <;> rfl) (by kernel_rfl) (by kernel_rfl) (by kernel_rfl) (by intro _ _ _ h; exact h) (Or.inl ⟨by rfl, ?_⟩) hHeld ?_
            rotate_left
            · intro w hSw; (try dsimp only at hSw); go_simp
              with_reducible rfl
            try simp only [Act.put, List.setIfInBounds_toArray, List.set_cons_zero, List.set_cons_succ]
            refine wpAnyH_take (i := 10) (v := ?_) (by simp only [List.getElem?_toArray, List.getElem?_cons_zero, List.getElem?_cons_succ] <;> rfl) (by kernel_rfl) (by kernel_rfl) (by kernel_rfl) (by intro _ _ _ h; exact h) (Or.inl ⟨by rfl, ?_⟩) hHeld ?_
            rotate_left
            · intro w hSw; (try dsimp only at hSw); go_simp
              with_reducible rfl
            try simp only [Act.put, List.setIfInBounds_toArray, List.set_cons_zero, List.set_cons_succ]
            refine wpAnyH_take (i := 11) (v := ?_) (by simp only [List.getElem?_toArray, List.getElem?_cons_zero, List.getElem?_cons_succ] <;> rfl) (by kernel_rfl) (by kernel_rfl) (by kernel_rfl) (by intro _ _ _ h; exact h) (Or.inl ⟨by rfl, ?_⟩) hHeld ?_
            rotate_left
            · intro w hSw; (try dsimp only at hSw); go_simp
              with_reducible rfl
            try simp only [Act.put, List.setIfInBounds_toArray, List.set_cons_zero, List.set_cons_succ]
            refine wpAnyH_take (i := 12) (v := ?_) (by simp only [List.getElem?_toArray, List.getElem?_cons_zero, List.getElem?_cons_succ] <;> rfl) (by kernel_rfl) (by kernel_rfl) (by kernel_rfl) (by intro _ _ _ h; exact h) (Or.inl ⟨by rfl, ?_⟩) hHeld ?_
            rotate_left
            · intro w hSw; (try dsimp only at hSw); go_simp
              with_reducible rfl
            try simp only [Act.put, List.setIfInBounds_toArray, List.set_cons_zero, List.set_cons_succ]
            refine wpAnyH_take (i := 13) (v := ?_) (by simp only [List.getElem?_toArray, List.getElem?_cons_zero, List.getElem?_cons_succ] <;> rfl) (by kernel_rfl) (by kernel_rfl) (by kernel_rfl) (by intro _ _ _ h; exact h) (Or.inl ⟨by rfl, ?_⟩) hHeld ?_
            rotate_left
            · intro w hSw; (try dsimp only at hSw); go_simp
              with_reducible rfl
            try simp only [Act.put, List.setIfInBounds_toArray, List.set_cons_zero, List.set_cons_succ]
            refine wpAnyH_ready (rs := [14]) (by kernel_rfl) (by simp) ?_
            refine AllReadyH.cons (by simp only [List.getElem?_toArray, List.getElem?_cons_zero, List.getElem?_cons_succ] <;> rfl) (fun K hK => ?_) AllReadyH.nil
            go_simp
            go_at_call 25
            refine (Hhas.out _ (RB.refl _ _).drew).mono ?_
            rintro e u1 ⟨rfl, hb⟩
            have HB2 := Lib.hid ((RB.refl f W1).drew.trans (RB.of_below hb))
            have HR2 := Lib.hid (below_cells (w := W1.drew) HRf.out hb)
            clear hb
            refine hK.out _ _ (HSK.out _ HB2.out) (fun hHeld => ?_)
            clear hK K
            try simp only [Act.put, List.setIfInBounds_toArray, List.set_cons_zero, List.set_cons_succ]
            refine wpAnyH_ready (rs := [15]) (by kernel_rfl) (by simp) ?_
            refine AllReadyH.cons (by simp only [List.getElem?_toArray, List.getElem?_cons_zero, List.getElem?_cons_succ] <;> rfl) (fun K hK => ?_) AllReadyH.nil
            go_simp
            go_at_call 22
            refine (HhF1.out _ HR2.out).mono ?_
            rintro e u2 ⟨rfl, hrb, hrow⟩
            have HB3 := Lib.hid (HB2.out.trans hrb)
            have HR3 := Lib.hid hrow
            clear hrb hrow
            refine hK.out _ _ (HSK.out _ HB3.out) (fun hHeld => ?_)
            clear hK K
            try simp only [Act.put, List.setIfInBounds_toArray, List.set_cons_zero, List.set_cons_succ]
            refine wpAnyH_done (by kernel_rfl) ?_ _
            clear hHeld
            have hrange : u2.rangeAt ib (io + i * 17) (itemL x) := (HSK.out _ HB3.out).1.1
            go_wp2_with (refine wpList_load_mid rfl 75 _ rfl ib (io + i * 17) rfl (itemL x) _ hrange Tryz.underlying75 rfl hinfL ?_)
            clear hrange
            refine (HhF2.out _ HR3.out).mono ?_
            rintro e u4 ⟨rfl, hrb, hrow⟩
            have HB5 := Lib.hid (HB3.out.trans hrb)
            have HR5 := Lib.hid hrow
            clear hrb hrow
            have HBE := HB5
            have HRE := HR5
            have hadd : addB NM (termsOf (xs.take i)) (itOf x) = resF F2 (pushT (termsOf (xs.take i)) x) := HF.out
            have hstep : addsB NM ⟨[], []⟩ (xs.map itOf) = (resF F2 (pushT (termsOf (xs.take i)) x)).next fun T => addsB NM T ((xs.drop (i + 1)).map itOf) := by rw [HAdd.out, adds_step Hx.out, hadd]
            by_cases h0 : F2.2 = 0
            · have hq : ((F2.2 : Int) != 0) = false := by rw [show (F2.2 : Int) = 0 by omega]; rfl
              have HAdd2 : Hid (addsB NM ⟨[], []⟩ (xs.map itOf) = addsB NM (termsOf (xs.take (i + 1))) ((xs.drop (i + 1)).map itOf)) := by
                show _ = _
                rw [hstep, termsOf_snoc Hx.out]
                unfold resF
                rw [if_pos h0]; rfl
              have HPn := Lib.hid (HPA.out _ HBE.out)
              clear hstep hadd h0
              obtain ⟨z0, z1, -⟩ := two_cells HRE.out
              go_wp2_with fail
              go_roundg (xs.length - (i + 1))
              case measure => rw [Hg2.out]; omega
              case rel => exact ⟨i + 1, nc + 1, nt, by go_num, rfl, by go_num, rfl, by omega, by omega, HNC2.out, HNT2.out, HPn.out, HAdd2.out⟩
            · have hq : ((F2.2 : Int) != 0) = true := by rw [bne_iff_ne]; omega
              have hbad : addB NM (termsOf (xs.take i)) (itOf x) = .bad F2.1 F2.2 := by
                rw [hadd]
                unfold resF
                rw [if_neg h0]
              have hpos := add_pos Hits.out (List.mem_of_getElem? Hx.out) hbad
              have HPb : Hid (parseB t.data.toList = .bad F2.1 F2.2) := by
                show _ = _
                rw [HPB.out, hstep]
                unfold resF
                rw [if_neg h0]; rfl
              have HPn := Lib.hid (HPA.out _ HBE.out)
              clear hstep hadd h0 hbad
              obtain ⟨z0, z1, -⟩ := two_cells HRE.out
              go_upto_region 28 with fail
              clear z0 z1 hq
              have hat0 := fun W' => at_any t F2.1 W' ht hpos
              obtain ⟨s1, s2, hs⟩ : ∃ s1 s2 : Int, spotV t F2.1 = #[.int .i64 s1, .int .i64 s2] := ⟨_, _, rfl⟩
              rw [hs] at hat0
              have Hs : Hid (spotR t F2.1 = #[.int .i64 s1, .int .i64 s2]) := (spot_its ht).trans hs
              have Hat := Lib.hid hat0
              clear hat0 hs hpos
              have HPd := Lib.hid (HPn.out.call (Below.refl _ _).drew)
              have HRd : Hid (u4.drew.heap[f]? = some (.cells (fltCs F2) 79)) := HRE.out
              have nfr : f ≠ w.heap.size := by
                intro e
                have := HPn.out.res
                rw [← e, HRE.out] at this
                injection this with this
                injection this with _ this
                exact absurd this (by decide)
              refine wp_region_held_drew (S := fun W' => W'.cell? ⟨f, 0, none⟩ = some (.int .i64 (F2.1 : Int)) ∧ W'.cell? ⟨f, 1, none⟩ = some (.int .i64 (F2.2 : Int))) (by kernel_rfl) ⟨(two_cells HRd.out).1, (two_cells HRd.out).2.1⟩ (fun hHeld => ?_)
              refine wpAnyH_take (i := 0) (v := ?_) (by simp only [List.getElem?_toArray, List.getElem?_cons_zero] <;> rfl) (by kernel_rfl) (by kernel_rfl) (by kernel_rfl) (by intro _ _ _ h; exact h) (Or.inl ⟨by rfl, ?_⟩) hHeld ?_
              rotate_left
              · intro w hSw; (try dsimp only at hSw); go_simp
                with_reducible rfl
              try simp only [Act.put, List.setIfInBounds_toArray, List.set_cons_zero, List.set_cons_succ]
              refine wpAnyH_take (i := 1) (v := ?_) (by simp only [List.getElem?_toArray, List.getElem?_cons_zero, List.getElem?_cons_succ] <;> rfl) (by kernel_rfl) (by kernel_rfl) (by kernel_rfl) (by intro _ _ _ h; exact h) (Or.inl ⟨by rfl, ?_⟩) hHeld ?_
              rotate_left
              · intro w hSw; (try dsimp only at hSw); go_simp
                with_reducible rfl
              try simp only [Act.put, List.setIfInBounds_toArray, List.set_cons_zero, List.set_cons_succ]
              refine wpAnyH_take (i := 2) (v := ?_) (by simp only [List.getElem?_toArray, List.getElem?_cons_zero, List.getElem?_cons_succ] <;> rfl) (by kernel_rfl) (by kernel_rfl) (by kernel_rfl) (by intro _ _ _ h; exact h) (Or.inl ⟨by rfl, ?_⟩) hHeld ?_
              rotate_left
              · intro w hSw; (try dsimp only at hSw); go_simp
                with_reducible rfl
              try simp only [Act.put, List.setIfInBounds_toArray, List.set_cons_zero, List.set_cons_succ]
              refine wpAnyH_take (i := 3) (v := ?_) (by simp only [List.getElem?_toArray, List.getElem?_cons_zero, List.getElem?_cons_succ] <;> rfl) (by kernel_rfl) (by kernel_rfl) (by kernel_rfl) (by intro _ _ _ h; exact h) (Or.inl ⟨by rfl, ?_⟩) hHeld ?_
              rotate_left
              · intro w hSw; (try dsimp only at hSw); go_simp
                with_reducible rfl
              try simp only [Act.put, List.setIfInBounds_toArray, List.set_cons_zero, List.set_cons_succ]
              refine wpAnyH_take (i := 4) (v := ?_) (by simp only [List.getElem?_toArray, List.getElem?_cons_zero, List.getElem?_cons_succ] <;> rfl) (by kernel_rfl) (by kernel_rfl) (by kernel_rfl) (by intro _ _ _ h; exact h) (Or.inl ⟨by rfl, ?_⟩) hHeld ?_
              rotate_left
              · intro w hSw; (try dsimp only at hSw); go_simp
                with_reducible rfl
              try simp only [Act.put, List.setIfInBounds_toArray, List.set_cons_zero, List.set_cons_succ]
              refine wpAnyH_take (i := 6) (v := ?_) (by simp only [List.getElem?_toArray, List.getElem?_cons_zero, List.getElem?_cons_succ] <;> rfl) (by kernel_rfl) (by kernel_rfl) (by kernel_rfl) (by intro _ _ _ h; exact h) (Or.inl ⟨by rfl, ?_⟩) hHeld ?_
              rotate_left
              · intro w hSw; (try dsimp only at hSw); go_simp
                with_reducible rfl
              try simp only [Act.put, List.setIfInBounds_toArray, List.set_cons_zero, List.set_cons_succ]
              refine wpAnyH_take (i := 7) (v := ?_) (by simp only [List.getElem?_toArray, List.getElem?_cons_zero, List.getElem?_cons_succ] <;> rfl) (by kernel_rfl) (by kernel_rfl) (by kernel_rfl) (by intro _ _ _ h; exact h) (Or.inl ⟨by rfl, ?_⟩) hHeld ?_
              rotate_left
              · intro w hSw; (try dsimp only at hSw); go_simp
                with_reducible rfl
              try simp only [Act.put, List.setIfInBounds_toArray, List.set_cons_zero, List.set_cons_succ]
              refine wpAnyH_take (i := 8) (v := ?_) (by simp only [List.getElem?_toArray, List.getElem?_cons_zero, List.getElem?_cons_succ] <;> rfl) (by kernel_rfl) (by kernel_rfl) (by kernel_rfl) (by intro _ _ _ h; exact h) (Or.inl ⟨by rfl, ?_⟩) hHeld ?_
              rotate_left
              · intro w hSw; (try dsimp only at hSw); go_simp
                with_reducible rfl
              try simp only [Act.put, List.setIfInBounds_toArray, List.set_cons_zero, List.set_cons_succ]
              refine wpAnyH_take (i := 9) (v := ?_) (by simp only [List.getElem?_toArray, List.getElem?_cons_zero, List.getElem?_cons_succ] <;> rfl) (by kernel_rfl) (by kernel_rfl) (by kernel_rfl) (by intro _ _ _ h; exact h) (Or.inl ⟨by rfl, ?_⟩) hHeld ?_
              rotate_left
              · intro w hSw; (try dsimp only at hSw); go_simp
                with_reducible rfl
              try simp only [Act.put, List.setIfInBounds_toArray, List.set_cons_zero, List.set_cons_succ]
              refine wpAnyH_ready (rs := [5]) (by kernel_rfl) (by simp) ?_
              refine AllReadyH.cons (by simp only [List.getElem?_toArray, List.getElem?_cons_zero, List.getElem?_cons_succ] <;> rfl) (fun K hK => ?_) AllReadyH.nil
              go_simp
              go_at_call 20
              refine (Hat.out _).mono ?_
              rintro e u9 ⟨rfl, hb9⟩
              have HP9 := Lib.hid (HPd.out.call hb9)
              have HR9 := Lib.hid (below_cells HRd.out hb9)
              clear hb9
              refine hK.out _ _ ⟨(two_cells HR9.out).1, (two_cells HR9.out).2.1⟩ (fun hHeld => ?_)
              clear hK K
              try simp only [Act.put, List.setIfInBounds_toArray, List.set_cons_zero, List.set_cons_succ]
              refine wpAnyH_take (i := 10) (v := ?_) (by simp only [List.getElem?_toArray, List.getElem?_cons_zero, List.getElem?_cons_succ] <;> rfl) (by kernel_rfl) (by kernel_rfl) (by kernel_rfl) (by intro _ _ _ h; exact h) (Or.inl ⟨by rfl, ?_⟩) hHeld ?_
              rotate_left
              · intro w hSw; (try dsimp only at hSw); go_simp
                with_reducible rfl
              try simp only [Act.put, List.setIfInBounds_toArray, List.set_cons_zero, List.set_cons_succ]
              refine wpAnyH_ready (rs := [11]) (by kernel_rfl) (by simp) ?_
              refine AllReadyH.cons (by simp only [List.getElem?_toArray, List.getElem?_cons_zero, List.getElem?_cons_succ] <;> rfl) (fun K hK => ?_) AllReadyH.nil
              obtain ⟨x0, x1, x2, x3, x4, -⟩ := five_cells HP9.out.res
              obtain ⟨f0, f1, f2, f3, f4⟩ := five_frozen HP9.out.res
              go_simp
              refine hK.out _ _ ⟨(two_cells ((five_other nfr _ _ _ _ _).trans HR9.out)).1, (two_cells ((five_other nfr _ _ _ _ _).trans HR9.out)).2.1⟩ (fun hHeld => ?_)
              refine wpAnyH_done (by kernel_rfl) ?_ _
              clear hHeld x0 x1 x2 x3 x4 f0 f1 f2 f3 f4
              go_wp2_with fail
              refine bodyPost_ret (res7 _ _ w.heap.size _ _ _ _ _ rfl (five_set HP9.out.res _ _ _ _ _)) rfl ?_
              unfold RParseP
              rw [HPb.out]
              exact ⟨below_five HP9.out.below _ _ _ _ _, _, _, Hs.out, rfl⟩
        · have hJ1 : ¬ (i : Int) < (xs.length : Int) := by omega
          have hie : i = xs.length := by omega
          have HPk : Hid (parseB t.data.toList = .ok (termsOf xs)) := by
            show _ = _
            rw [HPB.out, HAdd.out, hie, List.drop_length, List.take_length]; rfl
          clear hie hlt2 HNC HNT HAdd
          obtain ⟨y0, y1, -⟩ := two_cells HPa.out.ts.row
          obtain ⟨x0, x1, x2, x3, x4, -⟩ := five_cells HPa.out.res
          obtain ⟨f0, f1, f2, f3, f4⟩ := five_frozen HPa.out.res
          go_wp2_with fail
          refine bodyPost_ret (res7 _ _ w.heap.size _ _ _ _ _ rfl (five_set HPa.out.res _ _ _ _ _)) rfl ?_
          unfold RParseP
          rw [HPk.out]
          have hts := HPa.out.ts
          exact ⟨below_five HPa.out.below _ _ _ _ _, A, n, c, A', m, d, rfl, TS.terms (own_keepT hts.own1 (five_keep HPa.out.res (by decide) _ _ _ _ _)) (own_keepT hts.own2 (five_keep HPa.out.res (by decide) _ _ _ _ _)) hts.len1 hts.len2⟩
end Go.Proofs.YtimmffncfkcpfaaGreatDoor
