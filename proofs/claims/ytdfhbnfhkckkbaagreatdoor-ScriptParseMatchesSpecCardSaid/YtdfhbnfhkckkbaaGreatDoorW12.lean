/-
  The walk of Encode (printed by genW12.py).
-/
import Derived.Test.YtdfhbnfhkckkbaaGreatDoorW10
import Derived.Test.YtdfhbnfhkckkbaaGreatDoorW2
import Derived.Deep.RegionHeld
namespace Go.Proofs.YtdfhbnfhkckkbaaGreatDoor
open Go Go.RowKit Go.Walks

theorem own_grown {W W' : World} {B n size : Nat} {e : TypeId} {v : Value} {xs : List Value} {j : Option Nat} (h : W.ownsRow B e size v n xs) (hg : W.grownBy W' j) (hj : ∀ k, j = some k → k < B) : W'.ownsRow B e size v n xs := by
  refine ⟨h.1, ?_⟩
  rcases h.2 with h | ⟨g, cap, cur, e1, hb, hh, h⟩
  · exact .inl h
  · exact .inr ⟨g, cap, cur, e1, hb, (hg.block g (Array.getElem?_eq_some_iff.1 hh).1 (fun e => by have := hj g e.symm; omega)).trans hh, h⟩
theorem own_lt {W : World} {B n size j : Nat} {e : TypeId} {v : Value} {xs : List Value} (h : W.ownsRow B e size v n xs) (hj : v.ownBlock = some j) : j < W.heap.size := by
  rcases h.2 with ⟨rfl, _⟩ | ⟨g, cap, cur, rfl, hg, hh, _⟩
  · simp [Value.ownBlock] at hj
  · have : g = j := by simpa [Value.ownBlock] using hj
    subst this; exact (Array.getElem?_eq_some_iff.1 hh).1
theorem row_grown0 {W W' : World} {B r n size : Nat} {e t' : TypeId} {v : Value} {xs : List Value} {cs : Array Value} (ho : W.ownsRow B e size v n xs) (hg : W.grownBy W' v.ownBlock) (hr : W.heap[r]? = some (.cells cs t')) (ht : t' ≠ e) : W'.heap[r]? = some (.cells cs t') := by
  refine (hg.block r (Array.getElem?_eq_some_iff.1 hr).1 (fun ek => ?_)).trans hr
  rcases ho.2 with ⟨rfl, _⟩ | ⟨g', cap, cur, rfl, hle, hh, _⟩
  · simp [Value.ownBlock] at ek
  · have : r = g' := by simpa [Value.ownBlock] using ek
    subst this
    rw [hr] at hh; injection hh with hh; injection hh with _ hh
    exact ht hh
/-- In Encode: the script's block and the bytes so far. -/
structure ES (w : World) (g : Nat) (cs : Array Value) (A : Option Addr) (n c : Nat) (out : Bytes) (W : World) : Prop where
  ck : CK w g cs W
  o : W.ownsRow w.heap.size 5 1 (.slice A n c) n (Lib.byteCells out)
theorem ES.call {w W W' : World} {g n c : Nat} {cs : Array Value} {A : Option Addr} {out : Bytes} (h : ES w g cs A n c out W) (hb : Below W.heap.size W W') : ES w g cs A n c out W' := ⟨h.ck.call hb, own_below h.o hb⟩
theorem ES.first {w W W' : World} {g n c n' c' : Nat} {cs : Array Value} {A A' : Option Addr} {xs : List Value} {out' : Bytes} (h : CK w g cs W) (ho : W.ownsRow w.heap.size 5 1 (.slice A n c) n xs) (ho' : W'.ownsRow w.heap.size 5 1 (.slice A' n' c') n' (Lib.byteCells out')) (hg : W.grownBy W' (Value.slice A n c).ownBlock) : ES w g cs A' n' c' out' W' :=
  ⟨⟨below_append0 h.below ho hg, row_grown0 ho hg h.row (by decide)⟩, ho'⟩
theorem ES.grow {w W W' : World} {g n c n' c' : Nat} {cs : Array Value} {A A' : Option Addr} {out out' : Bytes} (h : ES w g cs A n c out W) (ho' : W'.ownsRow w.heap.size 5 1 (.slice A' n' c') n' (Lib.byteCells out')) (hg : W.grownBy W' (Value.slice A n c).ownBlock) : ES w g cs A' n' c' out' W' := ES.first h.ck h.o ho' hg
/-- The same, with a step's block. -/
structure RS (w : World) (g : Nat) (cs : Array Value) (g7 : Nat) (kd : Int) (A : Option Addr) (q cc : Nat) (A' : Option Addr) (n c : Nat) (out : Bytes) (W : World) : Prop where
  es : ES w g cs A' n c out W
  row7 : W.heap[g7]? = some (.cells #[.int .i64 kd, .slice A q cc] 69)
theorem RS.call {w W W' : World} {g g7 q cc n c : Nat} {cs : Array Value} {kd : Int} {A A' : Option Addr} {out : Bytes} (h : RS w g cs g7 kd A q cc A' n c out W) (hb : Below W.heap.size W W') : RS w g cs g7 kd A q cc A' n c out W' :=
  ⟨h.es.call hb, (hb.block _ (Array.getElem?_eq_some_iff.1 h.row7).1).trans h.row7⟩
theorem RS.grow {w W W' : World} {g g7 q cc n c n' c' : Nat} {cs : Array Value} {kd : Int} {A A' A2 : Option Addr} {out out' : Bytes} (h : RS w g cs g7 kd A q cc A' n c out W) (ho' : W'.ownsRow w.heap.size 5 1 (.slice A2 n' c') n' (Lib.byteCells out')) (hg : W.grownBy W' (Value.slice A' n c).ownBlock) : RS w g cs g7 kd A q cc A2 n' c' out' W' :=
  ⟨h.es.grow ho' hg, row_grown0 h.es.o hg h.row7 (by decide)⟩
theorem check_okL {S : ScriptD} (h : OkS S) : ScriptL S := by
  have hm : ∀ n : Nat, n ≤ 100000 → n ≤ maxLen := fun n h => by unfold maxLen; omega
  exact ⟨hm _ (by have := h.nt; omega), hm _ (by have := h.ns; omega), fun t ht => hm _ (by have := h.txt t ht; omega), fun x hx => hm _ (by have := (step_bounds h.nt (h.stp x hx)).2.2.1; omega)⟩
/-- What Encode hands back: bytes in a block of its own. -/
def EncOk (l : Bytes) (w : World) (e : Ending) (w' : World) : Prop := ∃ A c, e = .returned (.tuple #[.slice A l.length c, .int .i64 0]) ∧ OS w 5 1 A l.length c (Lib.byteCells l) w'

set_option maxRecDepth 100000 in
set_option maxHeartbeats 4000000 in
theorem encode_ok (S : ScriptD) (v : Value) (w : World) (Hg : Hid (Gl w)) (Hv : Hid (ScriptS w S v)) (HO : Hid (OkS S)) : Calls Tryz.prog 15 #[v] w (EncOk (encT S) w) := by
  obtain ⟨a, b, c, d, e, f, T, tc, U, uc, rfl, hp⟩ := Hv.out
  have h6 : S.cfg.length = 6 := by rw [hp.cfg]; rfl
  have HLL := Lib.hid (check_okL HO.out)
  have Hchk : Hid (∀ W, Below w.heap.size w W → Calls Tryz.prog 12 #[.agg (scrCs a b c d e f T S.texts.length tc U S.steps.length uc)] W (CheckR (0, 0) W)) := fun W hb => by
    have := check_any S _ W (Hg.out.below hb) (Hv.out.below hb) HLL
    rw [check_zero (check_ok.2 HO.out)] at this
    exact this
  obtain ⟨nt, hnt⟩ : ∃ n, n = S.texts.length := ⟨_, rfl⟩
  obtain ⟨ns, hns⟩ : ∃ n, n = S.steps.length := ⟨_, rfl⟩
  obtain ⟨ms, hms, hst⟩ := hp.stp
  have Hms := Lib.hid hms
  have Hst := Lib.hid hst
  have Hp := Lib.hid hp
  have hnt16 : nt ≤ 16 := by rw [hnt]; exact HO.out.nt
  have hns1000 : ns ≤ 1000 := by rw [hns]; exact HO.out.ns
  rw [← hnt, ← hns] at Hchk ⊢
  have Hnt := Lib.hid hnt
  have Hns := Lib.hid hns
  have Hint : Hid (∀ W, Calls Tryz.prog 47 #[.int .i64 (nt : Int)] W (BytesR (intB (nt : Int)) W)) := fun W => int_any _ _ (Lib.hid (nat_I64 (show nt < 9223372036854775808 by omega)))
  have Hints : Hid (∀ A W, Sl W W.heap.size A ([a, b, c, d, e, f].map intC) → Calls Tryz.prog 46 #[.slice A 6 6] W (BytesR (intsB S.cfg) W)) := fun A W h => by
    rw [hp.cfg]
    exact ints_any [a, b, c, d, e, f] A 6 W (by simp) (Lib.hid fun n hn => by have := HO.out.cfg n (by rw [hp.cfg]; exact hn); exact ⟨by omega, by omega⟩) h
  have hl1 : (intsB S.cfg).length ≤ 63 := by
    unfold intsB
    rw [List.length_append, h6]
    have h1 := intB_le ((6 : Nat) : Int) ⟨by omega, by omega⟩
    have h2 := flat_intB_le S.cfg fun n hn => by have := HO.out.cfg n hn; exact ⟨by omega, by omega⟩
    omega
  have hl2 : (intB (nt : Int)).length ≤ 9 := intB_le _ (nat_I64 (show nt < 9223372036854775808 by omega))
  have hb1 : (intsB S.cfg).length + (intB (nt : Int)).length ≤ maxLen := by unfold maxLen; omega
  have hb2 : ((intsB S.cfg).length + (intB (nt : Int)).length) * 1 ≤ 140737488355328 := by omega
  clear hnt hns hp hms hst Hv h6
  obtain ⟨g, hgg⟩ : ∃ g, g = w.heap.size := ⟨_, rfl⟩
  obtain ⟨W0, hW0⟩ : ∃ W, W = w.alloc (.cells (scrCs a b c d e f T nt tc U ns uc) 35) := ⟨_, rfl⟩
  have HC0 : Hid (CK w g (scrCs a b c d e f T nt tc U ns uc) W0) := by rw [hW0, hgg]; exact CK.start w _
  obtain ⟨⟨z0, z1, z2, z3, z4, z5⟩, z6, z7⟩ := HC0.out.cells
  go_enter Tryz.func15, Tryz.ntmps15
  go_upto_region 1 with fail
  rw [← hW0, ← hgg]
  clear hW0 hgg
  go_wp2_with fail
  refine (Hchk.out _ HC0.out.below).mono ?_
  rintro en w1 ⟨rfl, hb⟩
  have HC1 := Lib.hid (HC0.out.call hb)
  have HC2 := Lib.hid (HC1.out.call (Below.refl _ _).drew)
  clear hb z0 z1 z2 z3 z4 z5 z6 z7 Hchk
  obtain ⟨⟨z0, z1, z2, z3, z4, z5⟩, z6, z7⟩ := HC1.out.cells
  go_upto_region 4 with fail
  refine wp_region_held_drew (S := fun W => (W.cell? ⟨g, 0, none⟩ = some (.int .i64 a) ∧ W.cell? ⟨g, 1, none⟩ = some (.int .i64 b) ∧ W.cell? ⟨g, 2, none⟩ = some (.int .i64 c) ∧ W.cell? ⟨g, 3, none⟩ = some (.int .i64 d) ∧ W.cell? ⟨g, 4, none⟩ = some (.int .i64 e) ∧ W.cell? ⟨g, 5, none⟩ = some (.int .i64 f)) ∧ W.cell? ⟨g, 6, none⟩ = some (.slice T nt tc) ∧ W.cell? ⟨g, 7, none⟩ = some (.slice U ns uc)) (by kernel_rfl) HC2.out.cells (fun hHeld => ?_)
  clear z0 z1 z2 z3 z4 z5 z6 z7
  refine wpAnyH_take (i := 0) (v := ?_) (by simp only [List.getElem?_toArray, List.getElem?_cons_zero] <;> rfl) (by kernel_rfl) (by kernel_rfl) (by kernel_rfl) (by intro _ _ _ h; exact h) (Or.inl ⟨by rfl, ?_⟩) hHeld ?_
  rotate_left
  · intro w hSw; (try dsimp only at hSw); go_simp
    with_reducible rfl
  try simp only [Act.put, List.setIfInBounds_toArray, List.set_cons_zero, List.set_cons_succ]
  refine wpAnyH_take (i := 1) (v := ?_) (by simp only [List.getElem?_toArray, List.getElem?_cons_zero, List.getElem?_cons_succ] <;> rfl) (by kernel_rfl) (by kernel_rfl) (by kernel_rfl) (by intro _ _ _ h; exact h) (Or.inl ⟨by rfl, ?_⟩) hHeld ?_
  rotate_left
  · intro w hSw; (try dsimp only at hSw); go_simp
    with_reducible rfl
  try simp only [Act.put, List.setIfInBounds_toArray, List.set_cons_zero, List.set_cons_succ]
  refine wpAnyH_take (i := 4) (v := ?_) (by simp only [List.getElem?_toArray, List.getElem?_cons_zero, List.getElem?_cons_succ] <;> rfl) (by kernel_rfl) (by kernel_rfl) (by kernel_rfl) (by intro _ _ _ h; exact h) (Or.inl ⟨by rfl, ?_⟩) hHeld ?_
  rotate_left
  · intro w hSw; (try dsimp only at hSw); go_simp
    with_reducible rfl
  try simp only [Act.put, List.setIfInBounds_toArray, List.set_cons_zero, List.set_cons_succ]
  refine wpAnyH_take (i := 5) (v := ?_) (by simp only [List.getElem?_toArray, List.getElem?_cons_zero, List.getElem?_cons_succ] <;> rfl) (by kernel_rfl) (by kernel_rfl) (by kernel_rfl) (by intro _ _ _ h; exact h) (Or.inl ⟨by rfl, ?_⟩) hHeld ?_
  rotate_left
  · intro w hSw; (try dsimp only at hSw); go_simp
    with_reducible rfl
  try simp only [Act.put, List.setIfInBounds_toArray, List.set_cons_zero, List.set_cons_succ]
  refine wpAnyH_take (i := 6) (v := ?_) (by simp only [List.getElem?_toArray, List.getElem?_cons_zero, List.getElem?_cons_succ] <;> rfl) (by kernel_rfl) (by kernel_rfl) (by kernel_rfl) (by intro _ _ _ h; exact h) (Or.inl ⟨by rfl, ?_⟩) hHeld ?_
  rotate_left
  · intro w hSw; (try dsimp only at hSw); go_simp
    with_reducible rfl
  try simp only [Act.put, List.setIfInBounds_toArray, List.set_cons_zero, List.set_cons_succ]
  refine wpAnyH_ready (rs := [2]) (by kernel_rfl) (by simp) ?_
  refine (AllReadyH.cons (by simp only [List.getElem?_toArray, List.getElem?_cons_zero, List.getElem?_cons_succ] <;> rfl) (fun K hK => ?_) AllReadyH.nil)
  · go_simp
    go_at_call 36
    refine (numbers_any a b c d e f _).mono ?_
    rintro en w12 ⟨A2, rfl, hO⟩
    have HC12 := Lib.hid (HC2.out.call hO.below)
    have HF122 := Lib.hid hO.o
    clear hO
    refine hK.out _ _ HC12.out.cells (fun hHeld => ?_)
    clear hK K
    try simp only [Act.put, List.setIfInBounds_toArray, List.set_cons_zero, List.set_cons_succ]
    refine wpAnyH_ready (rs := [3]) (by kernel_rfl) (by simp) ?_
    refine (AllReadyH.cons (by simp only [List.getElem?_toArray, List.getElem?_cons_zero, List.getElem?_cons_succ] <;> rfl) (fun K hK => ?_) AllReadyH.nil)
    · go_simp
      go_at_call 46
      refine (Hints.out _ _ (own_sl HF122.out)).mono ?_
      rintro en w23 ⟨A3, c3, rfl, hO⟩
      have HC23 := Lib.hid (HC12.out.call hO.below)
      have HF232 := Lib.hid (own_below HF122.out hO.below)
      have HF233 := Lib.hid hO.o
      have HF2330 := HC12.out.below.size
      clear hO
      refine hK.out _ _ HC23.out.cells (fun hHeld => ?_)
      clear hK K
      try simp only [Act.put, List.setIfInBounds_toArray, List.set_cons_zero, List.set_cons_succ]
      refine wpAnyH_ready (rs := [7]) (by kernel_rfl) (by simp) ?_
      refine (AllReadyH.cons (by simp only [List.getElem?_toArray, List.getElem?_cons_zero, List.getElem?_cons_succ] <;> rfl) (fun K hK => ?_) AllReadyH.nil)
      · go_simp
        go_at_call 47
        refine (Hint.out _).mono ?_
        rintro en w37 ⟨A7, c7, rfl, hO⟩
        have HC37 := Lib.hid (HC23.out.call hO.below)
        have HF372 := Lib.hid (own_below HF232.out hO.below)
        have HF373 := Lib.hid (own_below HF233.out hO.below)
        have HF3730 := HF2330
        have HF377 := Lib.hid hO.o
        clear hO
        refine hK.out _ _ HC37.out.cells (fun hHeld => ?_)
        clear hK K
        try simp only [Act.put, List.setIfInBounds_toArray, List.set_cons_zero, List.set_cons_succ]
        refine wpAnyH_ready (rs := [8]) (by kernel_rfl) (by simp) ?_
        refine (AllReadyH.cons (by simp only [List.getElem?_toArray, List.getElem?_cons_zero, List.getElem?_cons_succ] <;> rfl) (fun K hK => ?_) AllReadyH.nil)
        · refine step_append_sl rfl _ _ 38 rfl rfl rfl so38 (own_less HF373.out HF3730) (m := (intB (nt : Int)).length) (news := Lib.byteCells (intB (nt : Int))) (by rw [byteCells_length, Nat.mul_one]) (own_sl HF377.out) (byteCells_one _) hb1 hb2 HC37.out.below.size ?_
          intro A9 c9 w9 ho9 hg9
          have HE9 : Hid (ES w g (scrCs a b c d e f T nt tc U ns uc) A9 ((intsB S.cfg).length + (intB (nt : Int)).length) c9 (intsB S.cfg ++ intB (nt : Int)) w9) := ES.first HC37.out (own_less HF373.out HF3730) (by rw [byteCells_append]; exact ho9) hg9
          clear ho9 hg9
          refine hK.out _ _ HE9.out.ck.cells (fun hHeld => ?_)
          clear hK K
          try simp only [Act.put, List.setIfInBounds_toArray, List.set_cons_zero, List.set_cons_succ]
          refine wpAnyH_take (i := 9) (v := ?_) (by simp only [List.getElem?_toArray, List.getElem?_cons_zero, List.getElem?_cons_succ] <;> rfl) (by kernel_rfl) (by kernel_rfl) (by kernel_rfl) (by intro _ _ _ h; exact h) (Or.inl ⟨by rfl, ?_⟩) hHeld ?_
          rotate_left
          · intro w hSw; (try dsimp only at hSw); go_simp
            with_reducible rfl
          try simp only [Act.put, List.setIfInBounds_toArray, List.set_cons_zero, List.set_cons_succ]
          refine wpAnyH_done (by kernel_rfl) ?_ _
          clear hHeld
          obtain ⟨N1, hN1⟩ : ∃ n, n = (intsB S.cfg).length + (intB (nt : Int)).length := ⟨_, rfl⟩
          obtain ⟨out1, ho1⟩ : ∃ o, o = intsB S.cfg ++ intB (nt : Int) := ⟨_, rfl⟩
          have hN1b : N1 ≤ 72 := by omega
          have HO1 := Lib.hid ho1
          rw [← hN1, ← ho1] at HE9
          rw [← hN1]
          clear hN1 ho1 hb1 hb2 hl1 hl2
          obtain ⟨⟨z0, z1, z2, z3, z4, z5⟩, z6, z7⟩ := HE9.out.ck.cells
          go_wp2_with fail
          go_loopg [31, 6] nt (fun gh s31 s6 wr => ∃ (k nn : Nat) (A' : Option Addr) (c' : Nat), s31 = .int .i64 (k : Int) ∧ s6 = .slice A' nn c' ∧ gh = nt - k ∧ k ≤ nt ∧ nn ≤ 72 + 2010 * k ∧ Hid (ES w g (scrCs a b c d e f T nt tc U ns uc) A' nn c' (out1 ++ (S.texts.take k).flatMap bytesB) wr))
          case atStart => exact ⟨0, N1, A9, c9, rfl, rfl, rfl, Nat.zero_le _, by omega, by rw [List.take_zero, List.flatMap_nil, List.append_nil]; exact HE9.out⟩
          case round =>
            obtain ⟨k, nn, A', c', rfl, rfl, hgh, hk, hnn, HE⟩ := hrel
            clear z0 z1 z2 z3 z4 z5 z6 z7
            obtain ⟨⟨z0, z1, z2, z3, z4, z5⟩, z6, z7⟩ := HE.out.ck.cells
            by_cases hlt : k < nt
            · have hI1 : (0 : Int) ≤ (k : Int) := by omega
              have hI2 : (k : Int) < (nt : Int) := by omega
              obtain ⟨t, ht⟩ : ∃ t, S.texts[k]? = some t := ⟨S.texts[k]'(by rw [← Hnt.out]; exact hlt), List.getElem?_eq_getElem _⟩
              obtain ⟨bb, oo, hT, hbw, hcell⟩ := str_at (Hp.out.txt.below HE.out.ck.below) ht
              subst hT
              have htl := HO.out.txt t (List.mem_of_getElem? ht)
              have Hstep : Hid ((S.texts.take (k + 1)).flatMap bytesB = (S.texts.take k).flatMap bytesB ++ bytesB t) := by show _ = _; rw [List.take_add_one, ht]; simp
              have htb : (bytesB t).length ≤ 2009 := by
                unfold bytesB
                rw [List.length_append]
                have := intB_le (t.length : Int) (nat_I64 (by omega))
                omega
              have hb1 : nn + (bytesB t).length ≤ maxLen := by unfold maxLen; omega
              have hb2 : (nn + (bytesB t).length) * 1 ≤ 140737488355328 := by omega
              have HBt := Lib.hid fun W => bytes_any t W (by omega)
              clear ht
              go_wp2_with fail
              refine (HBt.out _).mono ?_
              rintro en w2 ⟨A2, c2, rfl, hO2⟩
              have HE2 := Lib.hid (HE.out.call hO2.below)
              have HO2 := Lib.hid hO2.o
              clear hO2
              go_wp2_with (at_builtin; refine wpList_append_sl rfl _ _ 38 rfl rfl rfl so38 HE2.out.o (m := (bytesB t).length) (news := Lib.byteCells (bytesB t)) (by rw [byteCells_length, Nat.mul_one]) (own_sl HO2.out) (byteCells_one _) hb1 hb2 HE2.out.ck.below.size ?_; intro A5 c5 w5 ho5 hg5; have HE5 : Hid (ES w g (scrCs a b c d e f (some ⟨bb, oo, none⟩) nt tc U ns uc) A5 (nn + (bytesB t).length) c5 (out1 ++ (S.texts.take (k + 1)).flatMap bytesB) w5) := HE2.out.grow (by rw [Hstep.out, ← List.append_assoc, byteCells_append]; exact ho5) hg5; clear ho5 hg5)
              go_roundg (nt - (k + 1))
              case measure => omega
              case rel => exact ⟨k + 1, nn + (bytesB t).length, A5, c5, by go_num, rfl, rfl, by omega, by omega, HE5⟩
            · have hke : k = nt := by omega
              have hI3 : ¬ (k : Int) < (nt : Int) := by omega
              obtain ⟨out2, ho2⟩ : ∃ o, o = out1 ++ (S.texts.take k).flatMap bytesB := ⟨_, rfl⟩
              have HO2 : Hid (out2 = out1 ++ S.texts.flatMap bytesB) := by show _ = _; rw [ho2, List.take_of_length_le (by have := Hnt.out; omega)]
              rw [← ho2] at HE
              have HintN : Hid (∀ W, Calls Tryz.prog 47 #[.int .i64 (ns : Int)] W (BytesR (intB (ns : Int)) W)) := fun W => int_any _ _ (Lib.hid (nat_I64 (show ns < 9223372036854775808 by omega)))
              have hl3 : (intB (ns : Int)).length ≤ 9 := intB_le _ (nat_I64 (show ns < 9223372036854775808 by omega))
              have hb1 : nn + (intB (ns : Int)).length ≤ maxLen := by unfold maxLen; omega
              have hb2 : (nn + (intB (ns : Int)).length) * 1 ≤ 140737488355328 := by omega
              clear ho2 hke hlt
              go_wp2_with fail
              refine (HintN.out _).mono ?_
              rintro en w2 ⟨A2, c2, rfl, hO2⟩
              have HE2 := Lib.hid (HE.out.call hO2.below)
              have HF2 := Lib.hid hO2.o
              clear hO2 z0 z1 z2 z3 z4 z5 z6 z7
              go_upto_region 11 with (at_builtin; refine wpList_append_sl rfl _ _ 38 rfl rfl rfl so38 HE2.out.o (m := (intB (ns : Int)).length) (news := Lib.byteCells (intB (ns : Int))) (by rw [byteCells_length, Nat.mul_one]) (own_sl HF2.out) (byteCells_one _) hb1 hb2 HE2.out.ck.below.size ?_; intro A5 c5 w5 ho5 hg5; have HE5 := Lib.hid (HE2.out.grow (out' := out2 ++ intB (ns : Int)) (by rw [byteCells_append]; exact ho5) hg5); clear ho5 hg5; obtain ⟨⟨z0, z1, z2, z3, z4, z5⟩, z6, z7⟩ := HE5.out.ck.cells)
              obtain ⟨N3, hN3⟩ : ∃ n, n = nn + (intB (ns : Int)).length := ⟨_, rfl⟩
              obtain ⟨out3, ho3⟩ : ∃ o, o = out2 ++ intB (ns : Int) := ⟨_, rfl⟩
              have hN3b : N3 ≤ 72 + 2010 * 16 + 9 := by omega
              have HO3 := Lib.hid ho3
              rw [← hN3, ← ho3] at HE5
              rw [← hN3]
              clear hN3 ho3 hb1 hb2 hl3
              go_wp2_with fail
              go_loopg [49, 6] ns (fun gh s49 s6 wr => ∃ (k nn : Nat) (A' : Option Addr) (c' : Nat), s49 = .int .i64 (k : Int) ∧ s6 = .slice A' nn c' ∧ gh = ns - k ∧ k ≤ ns ∧ nn ≤ 72 + 2010 * 16 + 9 + 1000 * k ∧ Hid (ES w g (scrCs a b c d e f T nt tc U ns uc) A' nn c' (out3 ++ (S.steps.take k).flatMap encStep) wr))
              case atStart => exact ⟨0, N3, A5, c5, rfl, rfl, rfl, Nat.zero_le _, by omega, by rw [List.take_zero, List.flatMap_nil, List.append_nil]; exact HE5.out⟩
              case round =>
                obtain ⟨k, nn, A', c', rfl, rfl, hgh, hk, hnn, HE⟩ := hrel
                clear z0 z1 z2 z3 z4 z5 z6 z7
                obtain ⟨⟨z0, z1, z2, z3, z4, z5⟩, z6, z7⟩ := HE.out.ck.cells
                by_cases hlt : k < ns
                · have hI1 : (0 : Int) ≤ (k : Int) := by omega
                  have hI2 : (k : Int) < (ns : Int) := by omega
                  obtain ⟨y, hy⟩ : ∃ y, S.steps[k]? = some y := ⟨S.steps[k]'(by rw [← Hns.out]; exact hlt), List.getElem?_eq_getElem _⟩
                  obtain ⟨bb, oo, A, cc, hU, hbw, hck0, hcs0, hsl, hcc⟩ := step_at Hms.out Hst.out (Below.refl _ _) hy
                  have hck := (HE.out.ck.below.cell (p := ⟨bb, oo + k * 2, none⟩) hbw).trans hck0
                  have hcs := (HE.out.ck.below.cell (p := ⟨bb, oo + k * 2 + 1, none⟩) hbw).trans hcs0
                  clear hck0 hcs0
                  subst hU
                  obtain ⟨s1, s2, s3, s4⟩ := step_bounds HO.out.nt (HO.out.stp y (List.mem_of_getElem? hy))
                  have Hstep : Hid ((S.steps.take (k + 1)).flatMap encStep = (S.steps.take k).flatMap encStep ++ encStep y) := by show _ = _; rw [List.take_add_one, hy]; simp
                  obtain ⟨out, hout⟩ : ∃ o, o = out3 ++ (S.steps.take k).flatMap encStep := ⟨_, rfl⟩
                  have Hout : Hid (out3 ++ (S.steps.take (k + 1)).flatMap encStep = (out ++ intB y.kind) ++ intsB y.args) := by
                    show _ = _
                    rw [Hstep.out, hout, encStep]
                    simp only [List.append_assoc]
                  rw [← hout] at HE
                  obtain ⟨q, hq⟩ : ∃ q, q = y.args.length := ⟨_, rfl⟩
                  obtain ⟨kd, hkd⟩ : ∃ kd, kd = y.kind := ⟨_, rfl⟩
                  have hkl : (intB kd).length ≤ 9 := by rw [hkd]; exact intB_le _ ⟨by omega, by omega⟩
                  have hal : (intsB y.args).length ≤ 9 + 9 * 64 := by
                    unfold intsB
                    rw [List.length_append]
                    have h1 := intB_le (y.args.length : Int) ⟨by omega, by omega⟩
                    have h2 := flat_intB_le y.args fun n hn => by have := s4 n hn; exact ⟨by omega, by omega⟩
                    omega
                  have hc1 : nn + (intB kd).length ≤ maxLen := by unfold maxLen; omega
                  have hc2 : (nn + (intB kd).length) * 1 ≤ 140737488355328 := by omega
                  have hd1 : nn + (intB kd).length + (intsB y.args).length ≤ maxLen := by unfold maxLen; omega
                  have hd2 : (nn + (intB kd).length + (intsB y.args).length) * 1 ≤ 140737488355328 := by omega
                  have HintK : Hid (∀ W, Calls Tryz.prog 47 #[.int .i64 kd] W (BytesR (intB kd) W)) := fun W => int_any _ _ (Lib.hid (by rw [hkd]; exact ⟨by omega, by omega⟩))
                  have HintsA : Hid (∀ W, Below w.heap.size w W → Calls Tryz.prog 46 #[.slice A q cc] W (BytesR (intsB y.args) W)) := fun W hb => by
                    rw [hq]
                    exact ints_any y.args A cc W (by omega) (Lib.hid fun n hn => by have := s4 n hn; exact ⟨by omega, by omega⟩) ((hsl.below hb).more hb.size)
                  rw [← hq] at hcs
                  rw [← hkd] at hck Hout
                  have hq64 : q ≤ 64 := by omega
                  obtain ⟨g7, hg7⟩ : ∃ g, g = wr.heap.size := ⟨_, rfl⟩
                  obtain ⟨W1, hW1⟩ : ∃ W, W = wr.alloc (.cells #[.int .i64 kd, .slice A q cc] 69) := ⟨_, rfl⟩
                  have hb1 : Below wr.heap.size wr W1 := by rw [hW1]; exact (Below.refl _ _).alloc (Nat.le_refl _) _
                  have hr7 : W1.heap[g7]? = some (.cells #[.int .i64 kd, .slice A q cc] 69) := by rw [hW1, hg7]; exact heap_new _ _
                  have HR0 : Hid (RS w g (scrCs a b c d e f T nt tc (some ⟨bb, oo, none⟩) ns uc) g7 kd A q cc A' nn c' out W1) := ⟨HE.out.call hb1, hr7⟩
                  have HR := Lib.hid (HR0.out.call (Below.refl _ _).drew)
                  clear hy hsl hcc hbw s1 s2 s3 s4 hout hq hkd hb1 hr7 Hstep
                  go_upto_region 14 with fail
                  rw [← hW1, ← hg7]
                  clear hg7 hW1 hck hcs z0 z1 z2 z3 z4 z5 z6 z7
                  refine wp_region_held_drew (S := fun W => W.cell? ⟨g7, 0, none⟩ = some (.int .i64 kd) ∧ W.cell? ⟨g7, 1, none⟩ = some (.slice A q cc)) (by kernel_rfl) ⟨(two_cells HR.out.row7).1, (two_cells HR.out.row7).2.1⟩ (fun hHeld => ?_)
                  refine wpAnyH_take (i := 0) (v := ?_) (by simp only [List.getElem?_toArray, List.getElem?_cons_zero] <;> rfl) (by kernel_rfl) (by kernel_rfl) (by kernel_rfl) (by intro _ _ _ h; exact h) (Or.inl ⟨by rfl, ?_⟩) hHeld ?_
                  rotate_left
                  · intro w hSw; (try dsimp only at hSw); go_simp
                    with_reducible rfl
                  try simp only [Act.put, List.setIfInBounds_toArray, List.set_cons_zero, List.set_cons_succ]
                  refine wpAnyH_take (i := 1) (v := ?_) (by simp only [List.getElem?_toArray, List.getElem?_cons_zero, List.getElem?_cons_succ] <;> rfl) (by kernel_rfl) (by kernel_rfl) (by kernel_rfl) (by intro _ _ _ h; exact h) (Or.inl ⟨by rfl, ?_⟩) hHeld ?_
                  rotate_left
                  · intro w hSw; (try dsimp only at hSw); go_simp
                    with_reducible rfl
                  try simp only [Act.put, List.setIfInBounds_toArray, List.set_cons_zero, List.set_cons_succ]
                  refine wpAnyH_take (i := 2) (v := ?_) (by simp only [List.getElem?_toArray, List.getElem?_cons_zero, List.getElem?_cons_succ] <;> rfl) (by kernel_rfl) (by kernel_rfl) (by kernel_rfl) (by intro _ _ _ h; exact h) (Or.inl ⟨by rfl, ?_⟩) hHeld ?_
                  rotate_left
                  · intro w hSw; (try dsimp only at hSw); go_simp
                    with_reducible rfl
                  try simp only [Act.put, List.setIfInBounds_toArray, List.set_cons_zero, List.set_cons_succ]
                  refine wpAnyH_take (i := 5) (v := ?_) (by simp only [List.getElem?_toArray, List.getElem?_cons_zero, List.getElem?_cons_succ] <;> rfl) (by kernel_rfl) (by kernel_rfl) (by kernel_rfl) (by intro _ _ _ h; exact h) (Or.inl ⟨by rfl, ?_⟩) hHeld ?_
                  rotate_left
                  · intro w hSw; (try dsimp only at hSw); go_simp
                    with_reducible rfl
                  try simp only [Act.put, List.setIfInBounds_toArray, List.set_cons_zero, List.set_cons_succ]
                  refine wpAnyH_take (i := 6) (v := ?_) (by simp only [List.getElem?_toArray, List.getElem?_cons_zero, List.getElem?_cons_succ] <;> rfl) (by kernel_rfl) (by kernel_rfl) (by kernel_rfl) (by intro _ _ _ h; exact h) (Or.inl ⟨by rfl, ?_⟩) hHeld ?_
                  rotate_left
                  · intro w hSw; (try dsimp only at hSw); go_simp
                    with_reducible rfl
                  try simp only [Act.put, List.setIfInBounds_toArray, List.set_cons_zero, List.set_cons_succ]
                  refine wpAnyH_ready (rs := [3]) (by kernel_rfl) (by simp) ?_
                  refine (AllReadyH.cons (by simp only [List.getElem?_toArray, List.getElem?_cons_zero, List.getElem?_cons_succ] <;> rfl) (fun K hK => ?_) AllReadyH.nil)
                  · go_simp
                    go_at_call 47
                    refine (HintK.out _).mono ?_
                    rintro en w13 ⟨B3, c3, rfl, hO⟩
                    have HR13 := Lib.hid (HR.out.call hO.below)
                    have HF133 := Lib.hid hO.o
                    clear hO
                    refine hK.out _ _ ⟨(two_cells HR13.out.row7).1, (two_cells HR13.out.row7).2.1⟩ (fun hHeld => ?_)
                    clear hK K
                    try simp only [Act.put, List.setIfInBounds_toArray, List.set_cons_zero, List.set_cons_succ]
                    refine wpAnyH_ready (rs := [4]) (by kernel_rfl) (by simp) ?_
                    refine (AllReadyH.cons (by simp only [List.getElem?_toArray, List.getElem?_cons_zero, List.getElem?_cons_succ] <;> rfl) (fun K hK => ?_) AllReadyH.nil)
                    · refine step_append_sl rfl _ _ 38 rfl rfl rfl so38 HR13.out.es.o (m := (intB kd).length) (news := Lib.byteCells (intB kd)) (by rw [byteCells_length, Nat.mul_one]) (own_sl HF133.out) (byteCells_one _) hc1 hc2 HR13.out.es.ck.below.size ?_
                      intro A24 c24 w24 ho hg
                      have HR24 : Hid (RS w g _ g7 kd A q cc A24 (nn + (intB kd).length) c24 ((out) ++ intB kd) w24) := HR13.out.grow (by rw [byteCells_append]; exact ho) hg
                      clear ho hg
                      refine hK.out _ _ ⟨(two_cells HR24.out.row7).1, (two_cells HR24.out.row7).2.1⟩ (fun hHeld => ?_)
                      clear hK K
                      try simp only [Act.put, List.setIfInBounds_toArray, List.set_cons_zero, List.set_cons_succ]
                      refine wpAnyH_ready (rs := [7]) (by kernel_rfl) (by simp) ?_
                      refine (AllReadyH.cons (by simp only [List.getElem?_toArray, List.getElem?_cons_zero, List.getElem?_cons_succ] <;> rfl) (fun K hK => ?_) AllReadyH.nil)
                      · go_simp
                        go_at_call 46
                        refine (HintsA.out _ HR24.out.es.ck.below).mono ?_
                        rintro en w37 ⟨B7, c7, rfl, hO⟩
                        have HR37 := Lib.hid (HR24.out.call hO.below)
                        have HF377 := Lib.hid hO.o
                        have HF3770 := fun j hj => own_lt HR24.out.es.o (j := j) hj
                        clear hO
                        refine hK.out _ _ ⟨(two_cells HR37.out.row7).1, (two_cells HR37.out.row7).2.1⟩ (fun hHeld => ?_)
                        clear hK K
                        try simp only [Act.put, List.setIfInBounds_toArray, List.set_cons_zero, List.set_cons_succ]
                        refine wpAnyH_ready (rs := [8]) (by kernel_rfl) (by simp) ?_
                        refine (AllReadyH.cons (by simp only [List.getElem?_toArray, List.getElem?_cons_zero, List.getElem?_cons_succ] <;> rfl) (fun K hK => ?_) AllReadyH.nil)
                        · refine step_append_sl rfl _ _ 38 rfl rfl rfl so38 HR37.out.es.o (m := (intsB y.args).length) (news := Lib.byteCells (intsB y.args)) (by rw [byteCells_length, Nat.mul_one]) (own_sl HF377.out) (byteCells_one _) hd1 hd2 HR37.out.es.ck.below.size ?_
                          intro A48 c48 w48 ho hg
                          have HR48 : Hid (RS w g _ g7 kd A q cc A48 (nn + (intB kd).length + (intsB y.args).length) c48 ((out ++ intB kd) ++ intsB y.args) w48) := HR37.out.grow (by rw [byteCells_append]; exact ho) hg
                          clear ho hg
                          refine hK.out _ _ ⟨(two_cells HR48.out.row7).1, (two_cells HR48.out.row7).2.1⟩ (fun hHeld => ?_)
                          clear hK K
                          try simp only [Act.put, List.setIfInBounds_toArray, List.set_cons_zero, List.set_cons_succ]
                          refine wpAnyH_take (i := 9) (v := ?_) (by simp only [List.getElem?_toArray, List.getElem?_cons_zero, List.getElem?_cons_succ] <;> rfl) (by kernel_rfl) (by kernel_rfl) (by kernel_rfl) (by intro _ _ _ h; exact h) (Or.inl ⟨by rfl, ?_⟩) hHeld ?_
                          rotate_left
                          · intro w hSw; (try dsimp only at hSw); go_simp
                            with_reducible rfl
                          try simp only [Act.put, List.setIfInBounds_toArray, List.set_cons_zero, List.set_cons_succ]
                          refine wpAnyH_done (by kernel_rfl) ?_ _
                          clear hHeld
                          go_wp2_with fail
                          go_roundg (ns - (k + 1))
                          case measure => omega
                          case rel => exact ⟨k + 1, _, _, _, by go_num, rfl, rfl, by omega, by omega, by rw [Hout.out]; exact HR48.out.es⟩
                · have hke : k = ns := by omega
                  have hI3 : ¬ (k : Int) < (ns : Int) := by omega
                  have HF : Hid (out3 ++ (S.steps.take k).flatMap encStep = encT S) := by
                    show _ = _
                    rw [List.take_of_length_le (by have := Hns.out; omega), HO3.out, HO2.out, HO1.out, encT, Hnt.out, Hns.out]
                    simp only [List.append_assoc]
                  rw [HF.out] at HE
                  have Hlen : Hid ((encT S).length = nn) := by
                    have := HE.out.o.1
                    rw [byteCells_length, Nat.mul_one] at this
                    exact this
                  clear hke hlt
                  go_wp2_with fail
                  go_ret2
                  unfold EncOk
                  rw [Hlen.out]
                  exact ⟨_, _, rfl, HE.out.ck.below, HE.out.o⟩
end Go.Proofs.YtdfhbnfhkckkbaaGreatDoor
