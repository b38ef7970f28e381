/-
  The walks of the reader's numbers and one, by tokens.
-/
import Derived.Test.YtafgmbchdcfkcaaDoorW4
import Derived.Test.YtafgmbchdcfkcaaDoorSl
import Derived.Deep.LoopGhost
namespace Go.Proofs.YtafgmbchdcfkcaaDoor
open Go Go.RowKit Go.Walks

def tokCells (T : Tok) : List Value := [.int .i64 (T.at_ : Int), .int .i64 (T.n : Int), strV T.text]
def markCells (ts : List Tok) : List Value := ts.flatMap tokCells
theorem markCells_snoc (ts : List Tok) (T : Tok) : markCells (ts ++ [T]) = markCells ts ++ tokCells T := by simp [markCells]
theorem markCells_len (ts : List Tok) : (markCells ts).length = ts.length * 3 := by
  induction ts with
  | nil => rfl
  | cons T ts ih =>
    have : markCells (T :: ts) = tokCells T ++ markCells ts := rfl
    rw [this, List.length_append, ih]
    simp [tokCells]; omega

theorem so115 : SliceOf Tryd.prog 115 92 3 32 := SliceOf.mk (z := .agg #[.int .i64 0, .int .i64 0, .string ⟨#[]⟩]) Tryd.underlying115 (by omega) (by kernel_rfl) rfl

theorem own_less {w : World} {B B' n size : Nat} {e : TypeId} {v : Value} {xs : List Value} (h : w.ownsRow B e size v n xs) (hB : B' ≤ B) : w.ownsRow B' e size v n xs := by
  refine ⟨h.1, ?_⟩
  rcases h.2 with h | ⟨g, cap, cur, e1, hg, h⟩
  · exact .inl h
  · exact .inr ⟨g, cap, cur, e1, by omega, h⟩
theorem own_fresh3 (w : World) (T : Tok) : (w.alloc (.cells #[.int .i64 (T.at_ : Int), .int .i64 (T.n : Int), strV T.text] 92)).ownsRow w.heap.size 92 3 (.slice (some ⟨w.heap.size, 0, none⟩) 1 1) 1 (tokCells T) :=
  ⟨rfl, .inr ⟨w.heap.size, 1, #[.int .i64 (T.at_ : Int), .int .i64 (T.n : Int), strV T.text], rfl, Nat.le_refl _, heap_new _ _, Nat.le_refl _, by unfold maxLen; omega, rfl, rfl⟩⟩
/-- What a slice owns stays while block r, of another type, is written. -/
theorem own_rb {w w' : World} {r B n size : Nat} {e t' : TypeId} {v : Value} {xs : List Value} {cs : Array Value} {fz : Nat × Nat} (h : w.ownsRow B e size v n xs) (hb : RB r w w') (hr : w.heap[r]? = some (.cells cs t' fz)) (ht : t' ≠ e) : w'.ownsRow B e size v n xs := by
  refine ⟨h.1, ?_⟩
  rcases h.2 with h | ⟨g, cap, cur, e1, hg, hh, h⟩
  · exact .inl h
  · refine .inr ⟨g, cap, cur, e1, hg, hb.row (fun e => ?_) hh, h⟩
    subst e
    rw [hr] at hh; injection hh with hh; injection hh with _ hh
    exact ht hh
theorem PAt.cells {w : World} {r : Nat} {t : ByteArray} {ts : List Tok} (h : PAt w r t ts) : ∃ cs : Array Value, w.heap[r]? = some (.cells cs 88) := by obtain ⟨n, _, h2, _⟩ := h; exact ⟨_, h2⟩

/-- Behind an append to a slice of the call's own. -/
theorem rb_grownOwn {w w4 w5 : World} {r n size : Nat} {e : TypeId} {v : Value} {xs : List Value} {o : Obj} (h : RB r w w4) (ho : w4.ownsRow w.heap.size e size v n xs) (hg : (w4.alloc o).grownBy w5 v.ownBlock) : RB r w w5 := by
  refine (h.alloc o).grown hg (fun k ek => ?_)
  rcases ho.2 with ⟨rfl, _⟩ | ⟨g', cap, cur, rfl, hle, _⟩
  · simp [Value.ownBlock] at ek
  · have : g' = k := by simpa [Value.ownBlock] using ek
    subst this; exact hle
theorem row_grownOwn {w4 w5 : World} {B r n size : Nat} {e t' : TypeId} {v : Value} {xs : List Value} {o : Obj} {cs : Array Value} (ho : w4.ownsRow B e size v n xs) (hg : (w4.alloc o).grownBy w5 v.ownBlock) (hr : w4.heap[r]? = some (.cells cs t')) (ht : t' ≠ e) : w5.heap[r]? = w4.heap[r]? := by
  have hlt := (Array.getElem?_eq_some_iff.1 hr).1
  refine (hg.block r (by simp; omega) (fun ek => ?_)).trans (Below.heap_alloc _ _ _ hlt)
  rcases ho.2 with ⟨rfl, _⟩ | ⟨g', cap, cur, rfl, hle, hh, _⟩
  · simp [Value.ownBlock] at ek
  · have : r = g' := by simpa [Value.ownBlock] using ek
    subst this
    rw [hr] at hh; injection hh with hh; injection hh with _ hh
    exact ht hh

/-- A token's text tells whether it is a number. -/
theorem PAt.num {w : World} {r : Nat} {t : ByteArray} {ts : List Tok} (h : PAt w r t ts) : ∃ T rest, ts = T :: rest ∧ ((isN T = true ∧ ∃ c s, T.text = c :: s ∧ isD c = true) ∨ (isN T = false ∧ T.text = []) ∨ (isN T = false ∧ ∃ c s, T.text = c :: s ∧ isD c = false)) := by
  obtain ⟨n, h1, h2, h3⟩ := h
  obtain ⟨T, rest, rfl, hd, hx, htx⟩ := PAt.head h1 h3
  refine ⟨T, rest, rfl, ?_⟩
  cases hcs : T.text with
  | nil =>
    refine .inr (.inl ⟨?_, rfl⟩)
    unfold isN
    rw [beq_eq_false_iff_ne]
    intro hk
    obtain ⟨c, s, hc, _⟩ := lex2 (s := t.data.toList.drop T.at_) (by rw [← hd.kind]; exact hk)
    rw [← hd.text, hcs] at hc; cases hc
  | cons c s =>
    have hh := lex_head (s := t.data.toList.drop T.at_) (c := c) (r := s) (by rw [← hd.text]; exact hcs)
    rw [← hd.kind] at hh
    cases hD : isD c with
    | true => exact .inl ⟨by unfold isN; rw [beq_iff_eq]; exact hh.2.1.2 hD, c, s, rfl, hD⟩
    | false =>
      refine .inr (.inr ⟨?_, c, s, rfl, hD⟩)
      unfold isN
      rw [beq_eq_false_iff_ne]
      intro hk
      rw [hh.2.1.1 hk] at hD; cases hD

def NumsIs (ns : List Tok) (w : World) (e : Ending) (w' : World) : Prop := ∃ v, e = .returned v ∧ w'.ownsRow w.heap.size 92 3 v ns.length (markCells ns)

set_option maxRecDepth 100000 in
set_option maxHeartbeats 1000000 in
theorem nums_T (t : ByteArray) (r : Nat) (w : World) (ts : List Tok) (ht : t.size ≤ 2000) (hl : ts.length ≤ 2001) (hr7 : 7 ≤ r) (Hg : Hid (Gl w)) (Hp : Hid (PAt w r t ts)) :
    Calls Tryd.prog 87 #[.pointer (some ⟨r, 0, none⟩)] w (PRes t r (numsT ts) NumsIs w) := by
  have hread := read2_T ht hr7 Hg.out Hp.out
  cases hk : kindT 2 ts with
  | bad p =>
    have hnt : numsT ts = .bad p := by unfold numsT; rw [hk]; rfl
    rw [hk] at hread
    rw [hnt]
    have Hread := Lib.hid hread
    clear hk hnt hread
    go_enter Tryd.func87, Tryd.ntmps87
    go_wp2_with fail
    refine Hread.out.mono ?_
    rintro e w1 ⟨rfl, hb1⟩
    unfold wrongE
    have HB1 := Lib.hid hb1
    clear hb1
    go_wp2_with fail
    exact ⟨rfl, rfl, HB1.out⟩
  | ok T a =>
    have hnt : numsT ts = .ok (T :: a.takeWhile isN) (a.dropWhile isN) := by unfold numsT; rw [hk]; rfl
    have hal : a.length ≤ 2000 := by
      cases ts with
      | nil => cases hk
      | cons T' ts' =>
        simp only [kindT] at hk
        split at hk
        · injection hk with _ h2; subst h2; simp at hl; omega
        · cases hk
    rw [hk] at hread
    rw [hnt]
    have Hread := Lib.hid hread
    clear hk hnt hread
    go_enter Tryd.func87, Tryd.ntmps87
    go_wp2_with fail
    refine Hread.out.mono ?_
    rintro e w1 ⟨he, hp1, hb1⟩
    unfold MarkIs at he
    subst he
    have HP1 := Lib.hid hp1
    have HB1 := Lib.hid hb1
    clear hp1 hb1
    go_wp2_with fail
    have hrs : r < w.heap.size := Hp.out.lt
    have hw1 : w.heap.size ≤ w1.heap.size := HB1.out.size
    go_loopg [3] a.length (fun g v wr => ∃ (pre rest : List Tok), g = rest.length ∧ Hid (pre.length + rest.length ≤ 2001) ∧ Hid (PAt wr r t rest) ∧ Hid (RB r w wr) ∧ Hid (Gl wr) ∧ Hid (wr.ownsRow w.heap.size 92 3 v pre.length (markCells pre)) ∧ Hid (pre ++ rest.takeWhile isN = T :: a.takeWhile isN) ∧ Hid (rest.dropWhile isN = a.dropWhile isN))
    case atStart => exact ⟨[T], a, rfl, (show _ ≤ _ by simp; omega), HP1.out.alloc _, HB1.out.alloc _, (Hg.out.rb HB1.out hr7).below ((Below.refl _ _).alloc (Nat.le_refl _) _), own_less (own_fresh3 w1 T) hw1, rfl, rfl⟩
    case round =>
      obtain ⟨pre, rest, hgk, HL, HP, HB, HG, HO, HE, HD⟩ := hrel
      obtain ⟨T', rest', hr', hc⟩ := HP.out.num
      subst hr'
      have Hgk := Lib.hid hgk
      clear hgk
      go_wp2_with fail
      refine (token_T ht HP.out).mono ?_
      rintro e w2 ⟨rfl, hp2, hb2⟩
      have HP2 := Lib.hid hp2
      have HB2 := Lib.hid hb2
      clear hp2 hb2
      have HG2 := Lib.hid (HG.out.rb HB2.out hr7)
      obtain ⟨cs2, hcs2⟩ := HP.out.cells
      have HO2 := Lib.hid (own_rb HO.out HB2.out hcs2 (by decide))
      clear hcs2
      rcases hc with ⟨hn, c, s, htx, hd⟩ | ⟨hn, htx⟩ | ⟨hn, c, s, htx, hd⟩
      · have H1 := Lib.hid hd
        have Hn := Lib.hid hn
        have hk2 : T'.kind = 2 := by unfold isN at hn; simpa using hn
        have hkT : kindT 2 (T' :: rest') = .ok T' rest' := by simp only [kindT, if_pos hk2]
        have hread := read2_T ht hr7 HG2.out HP2.out.at
        rw [hkT] at hread
        have Hread := Lib.hid hread
        have Htx := Lib.hid htx
        rw [show headTx (T' :: rest') = c :: s from htx]
        clear hn hk2 hkT hread htx hd
        have HC0 : Hid ((⟨(c :: s).toArray⟩ : ByteArray)[0]'(by show 0 < (c :: s).length; simp) = c) := rfl
        go_wp2_with fail
        rw [HC0.out]
        refine (digit_any c _).mono ?_
        rintro e w3 ⟨rfl, rfl⟩
        rw [H1.out]
        go_wp2_with fail
        refine Hread.out.mono ?_
        rintro e w4 ⟨he, hp4, hb4⟩
        unfold MarkIs at he
        subst he
        have HP4 := Lib.hid hp4
        have HB4 := Lib.hid hb4
        have HG4 := Lib.hid (HG2.out.rb hb4 hr7)
        obtain ⟨cs4, hcs4⟩ := HP2.out.at.cells
        have HO4 := Lib.hid (own_rb HO2.out hb4 hcs4 (by decide))
        clear hcs4 hp4 hb4
        have hpl := HL.out
        simp only [List.length_cons] at hpl
        have hb := (HB.out.trans HB2.out).trans HB4.out
        have hbs := hb.size
        have HBB := Lib.hid hb
        clear hb
        go_wp2_with (at_builtin; refine wpList_append_sl rfl _ _ 115 rfl rfl rfl so115 (HO4.out.alloc _) (m := 1) (news := tokCells T') rfl (Sl.new _ _ _) (fun u hu => by simp [tokCells] at hu; rcases hu with rfl | rfl | rfl <;> rfl) (by unfold maxLen; omega) (by omega) (by simp; omega) ?_; intro A3 c3 w5 ho5 hg5; have HO5 := Lib.hid ho5; have HG5 := Lib.hid hg5; clear ho5 hg5)
        go_roundg rest'.length
        case measure => rw [Hgk.out]; simp
        case rel =>
          have hB5 := rb_grownOwn HBB.out HO4.out HG5.out
          obtain ⟨cs4, hcs4⟩ := HP4.out.cells
          refine ⟨pre ++ [T'], rest', rfl, (show _ ≤ _ by simp; omega), HP4.out.row (row_grownOwn HO4.out HG5.out hcs4 (by decide)), hB5, Hg.out.rb hB5 hr7, ?_, ?_, ?_⟩
          · show World.ownsRow _ _ _ _ _ _ _
            rw [markCells_snoc, List.length_append]
            exact HO5.out
          · show _ = _
            rw [← HE.out, List.takeWhile_cons, if_pos Hn.out, List.append_assoc]; rfl
          · show _ = _
            rw [← HD.out, List.dropWhile_cons, if_pos Hn.out]
      · have hE : pre = T :: a.takeWhile isN := by have := HE.out; rw [List.takeWhile_cons, if_neg (by rw [hn]; simp), List.append_nil] at this; exact this
        have hD : T' :: rest' = a.dropWhile isN := by have := HD.out; rw [List.dropWhile_cons, if_neg (by rw [hn]; simp)] at this; exact this
        have HE' := Lib.hid hE
        have HD' := Lib.hid hD
        clear hE hD hn
        rw [show headTx (T' :: rest') = [] from htx]
        clear htx
        go_wp2_with fail
        go_ret
        exact ⟨⟨_, rfl, by rw [← HE'.out]; exact HO2.out⟩, by rw [← HD'.out]; exact HP2.out.at, HB.out.trans HB2.out⟩
      · have hE : pre = T :: a.takeWhile isN := by have := HE.out; rw [List.takeWhile_cons, if_neg (by rw [hn]; simp), List.append_nil] at this; exact this
        have hD : T' :: rest' = a.dropWhile isN := by have := HD.out; rw [List.dropWhile_cons, if_neg (by rw [hn]; simp)] at this; exact this
        have HE' := Lib.hid hE
        have HD' := Lib.hid hD
        have H1 := Lib.hid hd
        clear hE hD hn hd
        rw [show headTx (T' :: rest') = c :: s from htx]
        clear htx
        have HC0 : Hid ((⟨(c :: s).toArray⟩ : ByteArray)[0]'(by show 0 < (c :: s).length; simp) = c) := rfl
        go_wp2_with fail
        rw [HC0.out]
        refine (digit_any c _).mono ?_
        rintro e w3 ⟨rfl, rfl⟩
        rw [H1.out]
        go_wp2_with fail
        go_ret
        exact ⟨⟨_, rfl, by rw [← HE'.out]; exact HO2.out⟩, by rw [← HD'.out]; exact HP2.out.at, HB.out.trans HB2.out⟩
end Go.Proofs.YtafgmbchdcfkcaaDoor
