/-
  The walk of Print (printed by genW17.py).
-/
import Derived.Test.YtdfhbnfhkckkbaaGreatDoorW16
import Derived.Test.YtdfhbnfhkckkbaaGreatDoorW15
import Derived.Deep.RegionHeld
namespace Go.Proofs.YtdfhbnfhkckkbaaGreatDoor
open Go Go.RowKit Go.Walks

def PrintR (x : Bytes × Nat) (w : World) (e : Ending) (w' : World) : Prop := e = .returned (.tuple #[strV x.1, .int .i64 (x.2 : Int)]) ∧ Below w.heap.size w w'
/-- In Print: the script's block and the lines so far. -/
structure PS (w : World) (g : Nat) (cs : Array Value) (A : Option Addr) (n c : Nat) (ls : List Bytes) (W : World) : Prop where
  ck : CK w g cs W
  o : W.ownsRow w.heap.size 9 1 (.slice A n c) n (ls.map strV)
theorem PS.call {w W W' : World} {g n c : Nat} {cs : Array Value} {A : Option Addr} {ls : List Bytes} (h : PS w g cs A n c ls W) (hb : Below W.heap.size W W') : PS w g cs A n c ls W' := ⟨h.ck.call hb, own_below h.o hb⟩
theorem PS.grow {w W W' : World} {g n c n' c' : Nat} {cs : Array Value} {A A' : Option Addr} {ls ls' : List Bytes} {o : Obj} (h : PS w g cs A n c ls W) (ho' : W'.ownsRow w.heap.size 9 1 (.slice A' n' c') n' (ls'.map strV)) (hg : (W.alloc o).grownBy W' (Value.slice A n c).ownBlock) : PS w g cs A' n' c' ls' W' :=
  ⟨⟨below_append h.ck.below h.o hg, (row_grownOwn h.o hg h.ck.row (by decide)).trans h.ck.row⟩, ho'⟩
theorem row_append {W W' : World} {B n c g : Nat} {A : Option Addr} {ls : List Value} {o : Obj} {cs : Array Value} {t : TypeId} (ho : W.ownsRow B 9 1 (.slice A n c) n ls) (hg : (W.alloc o).grownBy W' (Value.slice A n c).ownBlock) (hr : W.heap[g]? = some (.cells cs t)) (ht : t ≠ 9) : W'.heap[g]? = some (.cells cs t) := (row_grownOwn ho hg hr ht).trans hr
theorem flat_le {α : Type} (f : α → Bytes) (m : Nat) : ∀ l : List α, (∀ x ∈ l, (f x).length ≤ m) → (l.flatMap f).length ≤ l.length * m
  | [], _ => by simp
  | x :: l, h => by
    rw [List.flatMap_cons, List.length_append, List.length_cons, Nat.succ_mul]
    have := h x (by simp)
    have := flat_le f m l fun y hy => h y (by simp [hy])
    omega
theorem quote_len (t : Bytes) : (quoteB t).length ≤ 2 + 4 * t.length := by
  unfold quoteB
  rw [List.length_cons, List.length_append, List.length_singleton]
  have := flat_qc_len t
  omega
theorem words_len {wd : Bytes} {l : List Int} (h : ∀ n ∈ l, I64 n) : (wordsB wd l).length ≤ wd.length + l.length * 22 := by
  unfold wordsB
  rw [List.length_append]
  have := flat_le (fun n => 32 :: Lib.itoa n) 22 l fun n hn => by
    have := itoa_len n (h n hn).1 (by have := (h n hn).2; omega)
    rw [List.length_cons]; omega
  omega
theorem name_len : ∀ k : Fin 27, (nameB ((k.val : Int) + 1)).length ≤ 10 := by decide +kernel
theorem name_le (n : Int) : (nameB n).length ≤ 10 := by
  by_cases h : 1 ≤ n ∧ n ≤ 27
  · have := name_len ⟨(n - 1).toNat, by omega⟩
    rw [show (((n - 1).toNat : Nat) : Int) + 1 = n by omega] at this
    exact this
  · unfold nameB
    rw [if_neg]
    · simp
    · unfold isKindB; simp; omega
theorem lines_len {S : ScriptD} (h : OkS S) (h6 : S.cfg.length = 6) : ∀ x ∈ linesT S, x.length ≤ 8010 := by
  intro x hx
  unfold linesT at hx
  rcases List.mem_cons.1 hx with rfl | hx
  · have := words_len (wd := arrayW) (l := S.cfg) fun n hn => by have := h.cfg n hn; exact ⟨by omega, by omega⟩
    have h5 : arrayW.length = 5 := rfl
    omega
  · rcases List.mem_append.1 hx with hx | hx
    · obtain ⟨t, ht, rfl⟩ := List.mem_map.1 hx
      unfold lineT
      rw [List.length_append]
      have := quote_len t
      have := h.txt t ht
      have h5 : textW.length = 5 := rfl
      omega
    · obtain ⟨y, hy, rfl⟩ := List.mem_map.1 hx
      obtain ⟨-, -, s3, s4⟩ := step_bounds h.nt (h.stp y hy)
      unfold lineX
      have := words_len (wd := nameB y.kind) (l := y.args) fun n hn => by have := s4 n hn; exact ⟨by omega, by omega⟩
      have := name_le y.kind
      omega
theorem print_len {S : ScriptD} (h : OkS S) (h6 : S.cfg.length = 6) : (printT S).length ≤ 20000000 := by
  unfold printT joinT
  have h1 := flat_le (· ++ [10]) 8011 (linesT S) fun x hx => by have := lines_len h h6 x hx; simp; omega
  have h2 : (linesT S).length = 1 + (S.texts.length + S.steps.length) := by simp [linesT]; omega
  have := h.nt
  have := h.ns
  rw [h2] at h1
  omega
theorem join_lines : ∀ (l : List Bytes), l ≠ [] → Lib.join l [10] ++ [10] = joinT l
  | [], h => absurd rfl h
  | [x], _ => by simp [Lib.join, joinT]
  | x :: y :: l, _ => by
    have := join_lines (y :: l) (by simp)
    unfold joinT at this ⊢
    rw [List.flatMap_cons, ← this]
    simp [Lib.join]
theorem join_any (ll : List Bytes) (hne : ll ≠ []) {W : World} {B n c : Nat} {A : Option Addr} (ho : W.ownsRow B 9 1 (.slice A n c) n (ll.map strV)) (hn : n = ll.length) (hN : n ≤ 1000000) (hlen : (joinT ll).length ≤ 20000000) :
    Calls Tryz.prog 54 #[.slice A n c, .string ⟨#[10]⟩] W fun e w' => ∃ q, q ++ [10] = joinT ll ∧ e = .returned (.string ⟨q.toArray⟩) ∧ Below W.heap.size W w' := by
  obtain ⟨b, o, rfl, hcs⟩ := strs_all (own_sl ho) hne
  have hcap := (own_cap ho).1
  have hb : b < W.heap.size := by
    obtain ⟨b', o', e, h, -⟩ := (own_sl ho).at_ (k := 0) (by rw [List.length_map]; exact List.length_pos_iff.2 hne)
    injection e with e; injection e with e _
    rw [e]; exact h
  have hmap : (ll.map fun s => (⟨s.toArray⟩ : ByteArray)).map (·.data.toList) = ll := by rw [List.map_map]; exact (List.map_congr_left fun x _ => by simp).trans (List.map_id _)
  have hjoin := join_lines ll hne
  have hj1 : (Lib.join ll [10]).length + 1 = (joinT ll).length := by rw [← hjoin]; simp
  have := Tryz.strings_Join b o c (ll.map fun s => (⟨s.toArray⟩ : ByteArray)) ⟨#[10]⟩ W (fun j x hx => by
    have hj := (List.getElem?_eq_some_iff.1 hx).1
    rw [hcs j hj]
    simp [List.getD, hx]) hb (by rw [List.length_map]; omega) (by rw [List.length_map]; omega) (by rw [hmap]; show (Lib.join ll [10]).length ≤ _; omega)
  rw [hmap, List.length_map, ← hn] at this
  refine this.mono ?_
  rintro e w' ⟨rfl, hb⟩
  exact ⟨_, hjoin, rfl, hb⟩

set_option maxRecDepth 100000 in
set_option maxHeartbeats 4000000 in
theorem print_bad (S : ScriptD) (v : Value) (w : World) (Hg : Hid (Gl w)) (Hv : Hid (ScriptS w S v)) (HL : Hid (ScriptL S)) (hbad : (checkB S).2 ≠ 0) : Calls Tryz.prog 17 #[v] w (PrintR (printB S) w) := by
  obtain ⟨a, b, c, d, e, f, T, tc, U, uc, rfl, hp⟩ := Hv.out
  have HP : Hid (printB S = ([], (checkB S).2)) := by show _ = _; unfold printB; rw [if_pos hbad]
  obtain ⟨ck, hck⟩ : ∃ x, x = checkB S := ⟨_, rfl⟩
  rw [← hck] at HP hbad
  have Hchk : Hid (∀ W, Below w.heap.size w W → Calls Tryz.prog 12 #[.agg (scrCs a b c d e f T S.texts.length tc U S.steps.length uc)] W (CheckR ck W)) := fun W hb => by
    have := check_any S _ W (Hg.out.below hb) (Hv.out.below hb) HL
    rw [← hck] at this
    exact this
  obtain ⟨nt, hnt⟩ : ∃ n, n = S.texts.length := ⟨_, rfl⟩
  obtain ⟨ns, hns⟩ : ∃ n, n = S.steps.length := ⟨_, rfl⟩
  rw [← hnt, ← hns] at Hchk ⊢
  obtain ⟨ce, ch⟩ := ck
  dsimp only at hbad HP
  have q1 : ((ch : Int) != 0) = true := by rw [bne_iff_ne]; omega
  clear hnt hns hp Hv hck hbad
  obtain ⟨g, hgg⟩ : ∃ g, g = w.heap.size := ⟨_, rfl⟩
  obtain ⟨W0, hW0⟩ : ∃ W, W = w.alloc (.cells (scrCs a b c d e f T nt tc U ns uc) 35) := ⟨_, rfl⟩
  have HC0 : Hid (CK w g (scrCs a b c d e f T nt tc U ns uc) W0) := by rw [hW0, hgg]; exact CK.start w _
  obtain ⟨⟨z0, z1, z2, z3, z4, z5⟩, z6, z7⟩ := HC0.out.cells
  go_enter Tryz.func17, Tryz.ntmps17
  go_upto_region 1 with fail
  rw [← hW0, ← hgg]
  clear hW0 hgg
  go_wp2_with fail
  refine (Hchk.out _ HC0.out.below).mono ?_
  rintro en w1 ⟨rfl, hb⟩
  have HC1 := Lib.hid (HC0.out.call hb)
  clear hb z0 z1 z2 z3 z4 z5 z6 z7 Hchk
  go_wp2_with fail
  go_ret2
  rw [HP.out]
  exact ⟨rfl, HC1.out.below⟩
set_option maxRecDepth 100000 in
set_option maxHeartbeats 4000000 in
theorem encode_bad (S : ScriptD) (v : Value) (w : World) (Hg : Hid (Gl w)) (Hv : Hid (ScriptS w S v)) (HL : Hid (ScriptL S)) (hbad : (checkB S).2 ≠ 0) : Calls Tryz.prog 15 #[v] w fun e w' => e = .returned (.tuple #[.slice none 0 0, .int .i64 ((checkB S).2 : Int)]) ∧ Below w.heap.size w w' := by
  obtain ⟨a, b, c, d, e, f, T, tc, U, uc, rfl, hp⟩ := Hv.out
  obtain ⟨ck, hck⟩ : ∃ x, x = checkB S := ⟨_, rfl⟩
  rw [← hck] at hbad ⊢
  have Hchk : Hid (∀ W, Below w.heap.size w W → Calls Tryz.prog 12 #[.agg (scrCs a b c d e f T S.texts.length tc U S.steps.length uc)] W (CheckR ck W)) := fun W hb => by
    have := check_any S _ W (Hg.out.below hb) (Hv.out.below hb) HL
    rw [← hck] at this
    exact this
  obtain ⟨nt, hnt⟩ : ∃ n, n = S.texts.length := ⟨_, rfl⟩
  obtain ⟨ns, hns⟩ : ∃ n, n = S.steps.length := ⟨_, rfl⟩
  rw [← hnt, ← hns] at Hchk ⊢
  obtain ⟨ce, ch⟩ := ck
  dsimp only at hbad ⊢
  have q1 : ((ch : Int) != 0) = true := by rw [bne_iff_ne]; omega
  clear hnt hns hp Hv hck hbad
  obtain ⟨g, hgg⟩ : ∃ g, g = w.heap.size := ⟨_, rfl⟩
  obtain ⟨W0, hW0⟩ : ∃ W, W = w.alloc (.cells (scrCs a b c d e f T nt tc U ns uc) 35) := ⟨_, rfl⟩
  have HC0 : Hid (CK w g (scrCs a b c d e f T nt tc U ns uc) W0) := by rw [hW0, hgg]; exact CK.start w _
  obtain ⟨⟨z0, z1, z2, z3, z4, z5⟩, z6, z7⟩ := HC0.out.cells
  go_enter Tryz.func15, Tryz.ntmps15
  go_upto_region 1 with fail
  rw [← hW0, ← hgg]
  clear hW0 hgg
  go_wp2_with fail
  refine (Hchk.out _ HC0.out.below).mono ?_
  rintro en w1 ⟨rfl, hb⟩
  have HC1 := Lib.hid (HC0.out.call hb)
  clear hb z0 z1 z2 z3 z4 z5 z6 z7 Hchk
  go_wp2_with fail
  go_ret2
  exact ⟨rfl, HC1.out.below⟩

set_option maxRecDepth 100000 in
set_option maxHeartbeats 8000000 in
theorem print_ok (S : ScriptD) (v : Value) (w : World) (Hg : Hid (Gl w)) (Hv : Hid (ScriptS w S v)) (HO : Hid (OkS S)) : Calls Tryz.prog 17 #[v] w (PrintR (printB S) w) := by
  obtain ⟨a, b, c, d, e, f, T, tc, U, uc, rfl, hp⟩ := Hv.out
  have h6 : S.cfg.length = 6 := by rw [hp.cfg]; rfl
  have HLL := Lib.hid (check_okL HO.out)
  have Hlen := Lib.hid (lines_len HO.out h6)
  have Hplen := Lib.hid (print_len HO.out h6)
  have HP : Hid (printB S = if 200000 < (printT S).length then ([], 2) else (printT S, 0)) := by show _ = _; unfold printB; rw [if_neg (fun h => h (check_ok.2 HO.out))]
  have Hchk : Hid (∀ W, Below w.heap.size w W → Calls Tryz.prog 12 #[.agg (scrCs a b c d e f T S.texts.length tc U S.steps.length uc)] W (CheckR (0, 0) W)) := fun W hb => by
    have := check_any S _ W (Hg.out.below hb) (Hv.out.below hb) HLL
    rw [check_zero (check_ok.2 HO.out)] at this
    exact this
  obtain ⟨nt, hnt⟩ : ∃ n, n = S.texts.length := ⟨_, rfl⟩
  obtain ⟨ns, hns⟩ : ∃ n, n = S.steps.length := ⟨_, rfl⟩
  obtain ⟨ms, hms, hst⟩ := hp.stp
  have Hms := Lib.hid hms
  have Hst := Lib.hid hst
  have Hp := Lib.hid hp
  have hnt16 : nt ≤ 16 := by rw [hnt]; exact HO.out.nt
  have hns1000 : ns ≤ 1000 := by rw [hns]; exact HO.out.ns
  rw [← hnt, ← hns] at Hchk ⊢
  have Hnt := Lib.hid hnt
  have Hns := Lib.hid hns
  have Hwords : Hid (∀ A W, Below w.heap.size w W → Sl W W.heap.size A ([a, b, c, d, e, f].map intC) → Calls Tryz.prog 52 #[.string ⟨#[97, 114, 114, 97, 121]⟩, .slice A 6 6] W (StrR (wordsB arrayW S.cfg) W)) := fun A W hb h => by
    rw [hp.cfg]
    exact words_any arrayW [a, b, c, d, e, f] A 6 W (Hg.out.below hb) (by simp) (by decide) (Lib.hid fun n hn => by have := HO.out.cfg n (by rw [hp.cfg]; exact hn); exact ⟨by omega, by omega⟩) h
  clear hnt hns hp hms hst Hv h6
  obtain ⟨g, hgg⟩ : ∃ g, g = w.heap.size := ⟨_, rfl⟩
  obtain ⟨W0, hW0⟩ : ∃ W, W = w.alloc (.cells (scrCs a b c d e f T nt tc U ns uc) 35) := ⟨_, rfl⟩
  have HC0 : Hid (CK w g (scrCs a b c d e f T nt tc U ns uc) W0) := by rw [hW0, hgg]; exact CK.start w _
  obtain ⟨⟨z0, z1, z2, z3, z4, z5⟩, z6, z7⟩ := HC0.out.cells
  go_enter Tryz.func17, Tryz.ntmps17
  go_upto_region 1 with fail
  rw [← hW0, ← hgg]
  clear hW0 hgg
  go_wp2_with fail
  refine (Hchk.out _ HC0.out.below).mono ?_
  rintro en w1 ⟨rfl, hb⟩
  have HC1 := Lib.hid (HC0.out.call hb)
  clear hb z0 z1 z2 z3 z4 z5 z6 z7 Hchk HC0
  obtain ⟨⟨z0, z1, z2, z3, z4, z5⟩, z6, z7⟩ := HC1.out.cells
  go_wp2_with fail
  refine (numbers_any a b c d e f _).mono ?_
  rintro en w2 ⟨A2, rfl, hO⟩
  have HC2 := Lib.hid (HC1.out.call hO.below)
  have HF2 := Lib.hid hO.o
  clear hO z0 z1 z2 z3 z4 z5 z6 z7
  go_wp2_with fail
  refine (Hwords.out _ _ HC2.out.below (own_sl HF2.out)).mono ?_
  rintro en w3 ⟨rfl, hb3⟩
  obtain ⟨l0, hl0⟩ : ∃ l, l = wordsB arrayW S.cfg := ⟨_, rfl⟩
  have HL0 := Lib.hid hl0
  rw [← hl0]
  unfold strV
  have HP3 : Hid (PS w g (scrCs a b c d e f T nt tc U ns uc) (some ⟨w3.heap.size, 0, none⟩) 1 1 [l0] (w3.alloc (.cells #[.string ⟨l0.toArray⟩] 9))) := by
    have hc3 := HC2.out.call hb3
    exact ⟨hc3.call ((Below.refl _ _).alloc (Nat.le_refl _) _), own_new (cs := [.string ⟨l0.toArray⟩]) w3 rfl hc3.below.size (by unfold maxLen; omega)⟩
  clear hb3 hl0
  obtain ⟨⟨z0, z1, z2, z3, z4, z5⟩, z6, z7⟩ := HP3.out.ck.cells
  go_wp2_with fail
  obtain ⟨W4, hW4⟩ : ∃ W, W = w3.alloc (.cells #[.string ⟨l0.toArray⟩] 9) := ⟨_, rfl⟩
  obtain ⟨g4, hg4⟩ : ∃ g, g = w3.heap.size := ⟨_, rfl⟩
  rw [← hW4, ← hg4] at HP3
  rw [← hW4, ← hg4]
  clear hW4 hg4 z0 z1 z2 z3 z4 z5 z6 z7 HC1 HC2 HF2
  go_loopg [28, 6] nt (fun gh s28 s6 wr => ∃ (k : Nat) (A' : Option Addr) (c' : Nat), s28 = .int .i64 (k : Int) ∧ s6 = .slice A' (1 + k) c' ∧ gh = nt - k ∧ k ≤ nt ∧ Hid (PS w g (scrCs a b c d e f T nt tc U ns uc) A' (1 + k) c' (l0 :: (S.texts.take k).map lineT) wr))
  case atStart => exact ⟨0, some ⟨g4, 0, none⟩, 1, rfl, rfl, rfl, Nat.zero_le _, HP3.out⟩
  case round =>
    obtain ⟨k, A', c', rfl, rfl, hgh, hk, HPk⟩ := hrel
    obtain ⟨⟨z0, z1, z2, z3, z4, z5⟩, z6, z7⟩ := HPk.out.ck.cells
    by_cases hlt : k < nt
    · have hI1 : (0 : Int) ≤ (k : Int) := by omega
      have hI2 : (k : Int) < (nt : Int) := by omega
      obtain ⟨t, ht⟩ : ∃ t, S.texts[k]? = some t := ⟨S.texts[k]'(by rw [← Hnt.out]; exact hlt), List.getElem?_eq_getElem _⟩
      obtain ⟨bb, oo, hT, hbw, hcell⟩ := str_at (Hp.out.txt.below HPk.out.ck.below) ht
      subst hT
      have htl := HO.out.txt t (List.mem_of_getElem? ht)
      have Hstep : Hid (l0 :: (S.texts.take (k + 1)).map lineT = (l0 :: (S.texts.take k).map lineT) ++ [lineT t]) := by show _ = _; rw [List.take_add_one, ht]; simp
      have hqq := fun W => quote_any t W (by omega)
      have hql := quote_len t
      obtain ⟨q, hq⟩ : ∃ q, q = quoteB t := ⟨_, rfl⟩
      rw [← hq] at hqq hql
      have Hcat : Hid ((⟨#[116, 101, 120, 116, 32]⟩ : ByteArray) ++ ⟨q.toArray⟩ = ⟨(lineT t).toArray⟩) := by show _ = _; rw [hq]; exact cat_eq textW _
      unfold StrR strV at hqq
      have Hq := Lib.hid hqq
      have hsz : ¬ 9223372036854775807 < 5 + q.length := by omega
      have hb1 : 1 + k + 1 ≤ maxLen := by unfold maxLen; omega
      have hb2 : (1 + k + 1) * 16 ≤ 140737488355328 := by omega
      clear ht hqq hq
      go_wp2_with fail
      refine (Hq.out _).mono ?_
      rintro en w5 ⟨rfl, hb5⟩
      have HP5 := Lib.hid (HPk.out.call hb5)
      clear hb5 hcell
      go_wp2_with (at_builtin; rw [Hcat.out]; refine wpList_append_sl rfl _ _ 24 rfl rfl rfl so24 (HP5.out.o.alloc _) (m := 1) (news := [.string ⟨(lineT t).toArray⟩]) rfl (Sl.new _ _ _) (fun u hu => by rw [List.mem_singleton.1 hu]; rfl) hb1 hb2 (Nat.le_trans HP5.out.ck.below.size (by simp)) ?_; intro A6 c6 w6 ho6 hg6; have HP6 : Hid (PS w g (scrCs a b c d e f (some ⟨bb, oo, none⟩) nt tc U ns uc) A6 (1 + k + 1) c6 (l0 :: (S.texts.take (k + 1)).map lineT) w6) := HP5.out.grow (by rw [Hstep.out, List.map_append]; exact ho6) hg6; clear ho6 hg6)
      go_roundg (nt - (k + 1))
      case measure => omega
      case rel => exact ⟨k + 1, A6, c6, by go_num, rfl, rfl, by omega, HP6⟩
    · have hke : k = nt := by omega
      have hI3 : ¬ (k : Int) < (nt : Int) := by omega
      obtain ⟨lt, hlt2⟩ : ∃ x, x = l0 :: S.texts.map lineT := ⟨_, rfl⟩
      have HLT := Lib.hid hlt2
      have HPt : Hid (PS w g (scrCs a b c d e f T nt tc U ns uc) A' (1 + nt) c' lt wr) := by
        have := HPk.out
        rw [hke, List.take_of_length_le (by have := Hnt.out; omega), ← hlt2] at this
        exact this
      have hkk : 1 + k = 1 + nt := by omega
      rw [hkk]
      clear hke hlt hlt2 HPk hkk hgh hk
      go_wp2_with fail
      clear z0 z1 z2 z3 z4 z5 z6 z7
      go_loopg [42, 6] ns (fun gh s42 s6 wr => ∃ (k : Nat) (A' : Option Addr) (c' : Nat), s42 = .int .i64 (k : Int) ∧ s6 = .slice A' (1 + nt + k) c' ∧ gh = ns - k ∧ k ≤ ns ∧ Hid (PS w g (scrCs a b c d e f T nt tc U ns uc) A' (1 + nt + k) c' (lt ++ (S.steps.take k).map lineX) wr))
      case atStart => exact ⟨0, A', c', rfl, rfl, rfl, Nat.zero_le _, by rw [List.take_zero, List.map_nil, List.append_nil]; exact HPt.out⟩
      case round =>
        obtain ⟨k, A', c', rfl, rfl, hgh, hk, HPk⟩ := hrel
        by_cases hlt : k < ns
        · have hI1 : (0 : Int) ≤ (k : Int) := by omega
          have hI2 : (k : Int) < (ns : Int) := by omega
          obtain ⟨y, hy⟩ : ∃ y, S.steps[k]? = some y := ⟨S.steps[k]'(by rw [← Hns.out]; exact hlt), List.getElem?_eq_getElem _⟩
          obtain ⟨bb, oo, A, cc, hU, hbw, hck0, hcs0, hsl, hcc⟩ := step_at Hms.out Hst.out (Below.refl _ _) hy
          have hck := (HPk.out.ck.below.cell (p := ⟨bb, oo + k * 2, none⟩) hbw).trans hck0
          have hcs := (HPk.out.ck.below.cell (p := ⟨bb, oo + k * 2 + 1, none⟩) hbw).trans hcs0
          clear hck0 hcs0
          subst hU
          obtain ⟨s1, s2, s3, s4⟩ := step_bounds HO.out.nt (HO.out.stp y (List.mem_of_getElem? hy))
          have Hstep : Hid (lt ++ (S.steps.take (k + 1)).map lineX = (lt ++ (S.steps.take k).map lineX) ++ [lineX y]) := by show _ = _; rw [List.take_add_one, hy]; simp
          obtain ⟨q, hq⟩ : ∃ q, q = y.args.length := ⟨_, rfl⟩
          obtain ⟨kd, hkd⟩ : ∃ kd, kd = y.kind := ⟨_, rfl⟩
          have Hnm : Hid (∀ W, Below w.heap.size w W → Calls Tryz.prog 19 #[.int .i64 kd] W (ValR (strV (nameB kd)) W)) := fun W hb => name_any kd W (Hg.out.below hb)
          have Hwd : Hid (∀ W, Below w.heap.size w W → Calls Tryz.prog 52 #[.string ⟨(nameB kd).toArray⟩, .slice A q cc] W (StrR (lineX y) W)) := fun W hb => by
            rw [hq, hkd]
            exact words_any (nameB y.kind) y.args A cc W (Hg.out.below hb) (by omega) (by have := name_le y.kind; omega) (Lib.hid fun n hn => by have := s4 n hn; exact ⟨by omega, by omega⟩) ((hsl.below hb).more hb.size)
          rw [← hq] at hcs
          rw [← hkd] at hck
          have hb1 : 1 + nt + k + 1 ≤ maxLen := by unfold maxLen; omega
          have hb2 : (1 + nt + k + 1) * 16 ≤ 140737488355328 := by omega
          obtain ⟨g7, hg7⟩ : ∃ g, g = wr.heap.size := ⟨_, rfl⟩
          obtain ⟨W1, hW1⟩ : ∃ W, W = wr.alloc (.cells #[.int .i64 kd, .slice A q cc] 69) := ⟨_, rfl⟩
          have hb1' : Below wr.heap.size wr W1 := by rw [hW1]; exact (Below.refl _ _).alloc (Nat.le_refl _) _
          have hr7 : W1.heap[g7]? = some (.cells #[.int .i64 kd, .slice A q cc] 69) := by rw [hW1, hg7]; exact heap_new _ _
          have hd : Below W1.heap.size W1 W1.drew := (Below.refl _ _).drew
          have HP1 := Lib.hid ((HPk.out.call hb1').call hd)
          have HR1 := Lib.hid (below_cells hr7 hd)
          clear hy hsl hcc hbw s1 s2 s3 s4 hq hkd hb1' hr7 hd HPk
          go_upto_region 13 with fail
          rw [← hW1, ← hg7]
          clear hg7 hW1 hck hcs
          refine wp_region_held_drew (S := fun W => W.cell? ⟨g7, 0, none⟩ = some (.int .i64 kd) ∧ W.cell? ⟨g7, 1, none⟩ = some (.slice A q cc)) (by kernel_rfl) ⟨(two_cells HR1.out).1, (two_cells HR1.out).2.1⟩ (fun hHeld => ?_)
          refine wpAnyH_take (i := 0) (v := ?_) (by simp only [List.getElem?_toArray, List.getElem?_cons_zero] <;> rfl) (by kernel_rfl) (by kernel_rfl) (by kernel_rfl) (by intro _ _ _ h; exact h) (Or.inl ⟨by rfl, ?_⟩) hHeld ?_
          rotate_left
          · intro w hSw; (try dsimp only at hSw); go_simp
            with_reducible rfl
          try simp only [Act.put, List.setIfInBounds_toArray, List.set_cons_zero, List.set_cons_succ]
          refine wpAnyH_take (i := 1) (v := ?_) (by simp only [List.getElem?_toArray, List.getElem?_cons_zero, List.getElem?_cons_succ] <;> rfl) (by kernel_rfl) (by kernel_rfl) (by kernel_rfl) (by intro _ _ _ h; exact h) (Or.inl ⟨by rfl, ?_⟩) hHeld ?_
          rotate_left
          · intro w hSw; (try dsimp only at hSw); go_simp
            with_reducible rfl
          try simp only [Act.put, List.setIfInBounds_toArray, List.set_cons_zero, List.set_cons_succ]
          refine wpAnyH_take (i := 2) (v := ?_) (by simp only [List.getElem?_toArray, List.getElem?_cons_zero, List.getElem?_cons_succ] <;> rfl) (by kernel_rfl) (by kernel_rfl) (by kernel_rfl) (by intro _ _ _ h; exact h) (Or.inl ⟨by rfl, ?_⟩) hHeld ?_
          rotate_left
          · intro w hSw; (try dsimp only at hSw); go_simp
            with_reducible rfl
          try simp only [Act.put, List.setIfInBounds_toArray, List.set_cons_zero, List.set_cons_succ]
          refine wpAnyH_take (i := 4) (v := ?_) (by simp only [List.getElem?_toArray, List.getElem?_cons_zero, List.getElem?_cons_succ] <;> rfl) (by kernel_rfl) (by kernel_rfl) (by kernel_rfl) (by intro _ _ _ h; exact h) (Or.inl ⟨by rfl, ?_⟩) hHeld ?_
          rotate_left
          · intro w hSw; (try dsimp only at hSw); go_simp
            with_reducible rfl
          try simp only [Act.put, List.setIfInBounds_toArray, List.set_cons_zero, List.set_cons_succ]
          refine wpAnyH_take (i := 5) (v := ?_) (by simp only [List.getElem?_toArray, List.getElem?_cons_zero, List.getElem?_cons_succ] <;> rfl) (by kernel_rfl) (by kernel_rfl) (by kernel_rfl) (by intro _ _ _ h; exact h) (Or.inl ⟨by rfl, ?_⟩) hHeld ?_
          rotate_left
          · intro w hSw; (try dsimp only at hSw); go_simp
            with_reducible rfl
          try simp only [Act.put, List.setIfInBounds_toArray, List.set_cons_zero, List.set_cons_succ]
          refine wpAnyH_ready (rs := [3]) (by kernel_rfl) (by simp) ?_
          refine (AllReadyH.cons (by simp only [List.getElem?_toArray, List.getElem?_cons_zero, List.getElem?_cons_succ] <;> rfl) (fun K hK => ?_) AllReadyH.nil)
          · go_simp
            go_at_call 19
            refine (Hnm.out _ HP1.out.ck.below).mono ?_
            unfold strV
            rintro en w4 ⟨rfl, hw4⟩
            obtain rfl := hw4
            refine hK.out _ _ ⟨(two_cells HR1.out).1, (two_cells HR1.out).2.1⟩ (fun hHeld => ?_)
            clear hK K
            try simp only [Act.put, List.setIfInBounds_toArray, List.set_cons_zero, List.set_cons_succ]
            refine wpAnyH_ready (rs := [6]) (by kernel_rfl) (by simp) ?_
            refine (AllReadyH.cons (by simp only [List.getElem?_toArray, List.getElem?_cons_zero, List.getElem?_cons_succ] <;> rfl) (fun K hK => ?_) AllReadyH.nil)
            · go_simp
              go_at_call 52
              refine (Hwd.out _ HP1.out.ck.below).mono ?_
              unfold StrR strV
              rintro en w5 ⟨rfl, hb5⟩
              have HP5 := Lib.hid (HP1.out.call hb5)
              have HR5 := Lib.hid (below_cells HR1.out hb5)
              clear hb5
              refine hK.out _ _ ⟨(two_cells HR5.out).1, (two_cells HR5.out).2.1⟩ (fun hHeld => ?_)
              clear hK K
              try simp only [Act.put, List.setIfInBounds_toArray, List.set_cons_zero, List.set_cons_succ]
              refine wpAnyH_ready (rs := [7]) (by kernel_rfl) (by simp) ?_
              refine (AllReadyH.cons (by simp only [List.getElem?_toArray, List.getElem?_cons_zero, List.getElem?_cons_succ] <;> rfl) (fun K hK => ?_) AllReadyH.nil)
              · go_simp
                refine hK.out _ _ ⟨(two_cells (below_cells HR5.out ((Below.refl _ _).alloc (Nat.le_refl _) _))).1, (two_cells (below_cells HR5.out ((Below.refl _ _).alloc (Nat.le_refl _) _))).2.1⟩ (fun hHeld => ?_)
                clear hK K
                try simp only [Act.put, List.setIfInBounds_toArray, List.set_cons_zero, List.set_cons_succ]
                refine wpAnyH_ready (rs := [8]) (by kernel_rfl) (by simp) ?_
                refine (AllReadyH.cons (by simp only [List.getElem?_toArray, List.getElem?_cons_zero, List.getElem?_cons_succ] <;> rfl) (fun K hK => ?_) AllReadyH.nil)
                · refine step_append_sl rfl _ _ 24 rfl rfl rfl so24 (HP5.out.o.alloc _) (m := 1) (news := [.string ⟨(lineX y).toArray⟩]) rfl (Sl.new _ _ _) (fun u hu => by rw [List.mem_singleton.1 hu]; rfl) hb1 hb2 (Nat.le_trans HP5.out.ck.below.size (by simp)) ?_
                  intro A6 c6 w6 ho6 hg6
                  have HP6 : Hid (PS w g (scrCs a b c d e f T nt tc (some ⟨bb, oo, none⟩) ns uc) A6 (1 + nt + k + 1) c6 (lt ++ (S.steps.take (k + 1)).map lineX) w6) := HP5.out.grow (by rw [Hstep.out, List.map_append]; exact ho6) hg6
                  have HR6 := Lib.hid (row_append HP5.out.o hg6 HR5.out (by decide))
                  clear ho6 hg6
                  refine hK.out _ _ ⟨(two_cells HR6.out).1, (two_cells HR6.out).2.1⟩ (fun hHeld => ?_)
                  clear hK K
                  try simp only [Act.put, List.setIfInBounds_toArray, List.set_cons_zero, List.set_cons_succ]
                  refine wpAnyH_take (i := 9) (v := ?_) (by simp only [List.getElem?_toArray, List.getElem?_cons_zero, List.getElem?_cons_succ] <;> rfl) (by kernel_rfl) (by kernel_rfl) (by kernel_rfl) (by intro _ _ _ h; exact h) (Or.inl ⟨by rfl, ?_⟩) hHeld ?_
                  rotate_left
                  · intro w hSw; (try dsimp only at hSw); go_simp
                    with_reducible rfl
                  try simp only [Act.put, List.setIfInBounds_toArray, List.set_cons_zero, List.set_cons_succ]
                  refine wpAnyH_done (by kernel_rfl) ?_ _
                  clear hHeld
                  go_wp2_with fail
                  go_roundg (ns - (k + 1))
                  case measure => omega
                  case rel => exact ⟨k + 1, A6, c6, by go_num, rfl, rfl, by omega, HP6⟩
        · have hke : k = ns := by omega
          have hI3 : ¬ (k : Int) < (ns : Int) := by omega
          obtain ⟨ll, hll⟩ : ∃ x, x = linesT S := ⟨_, rfl⟩
          have HLL2 := Lib.hid hll
          have hlen : ll.length = 1 + nt + k := by rw [hll, hke, Hnt.out, Hns.out]; unfold linesT; simp; omega
          have HPt : Hid (PS w g (scrCs a b c d e f T nt tc U ns uc) A' (1 + nt + k) c' ll wr) := by
            have := HPk.out
            rw [HLT.out, List.take_of_length_le (by have := Hns.out; omega), List.cons_append, HL0.out] at this
            rw [hll]
            exact this
          have hln : (joinT ll).length ≤ 20000000 := by rw [hll]; exact Hplen.out
          have HJ := Lib.hid (join_any ll (by rw [hll]; unfold linesT; simp) HPt.out.o hlen.symm (by omega) (by omega))
          obtain ⟨p, hp⟩ : ∃ p, p = printT S := ⟨_, rfl⟩
          have hpj : joinT ll = p := by rw [hp, hll]; rfl
          rw [hpj] at HJ hln
          have HPb : Hid (printB S = if 200000 < p.length then ([], 2) else (p, 0)) := by rw [hp]; exact HP.out
          clear hp hpj hll hlen hke hlt hgh
          go_wp2_with fail
          refine HJ.out.mono ?_
          rintro en w7 ⟨q, hqp, rfl, hb7⟩
          have Hcat : Hid ((⟨q.toArray⟩ : ByteArray) ++ ⟨#[10]⟩ = ⟨p.toArray⟩) := by show _ = _; rw [← hqp]; exact cat_eq q [10]
          have hql : q.length + 1 = p.length := by rw [← hqp]; simp
          have hcl : ¬ 9223372036854775807 < q.length + 1 := by omega
          have HB7 := Lib.hid (HPt.out.ck.below.trans (hb7.mono HPt.out.ck.below.size))
          clear hqp hql hb7
          go_upto_region 16 with fail
          rw [Hcat.out]
          clear Hcat hcl
          by_cases hbig : 200000 < p.length
          · have hI : (200000 : Int) < (p.length : Int) := by omega
            go_wp2_with fail
            go_ret2
            rw [HPb.out, if_pos hbig]
            exact ⟨rfl, HB7.out⟩
          · have hI : ¬ (200000 : Int) < (p.length : Int) := by omega
            go_wp2_with fail
            go_ret2
            rw [HPb.out, if_neg hbig]
            exact ⟨rfl, HB7.out⟩
theorem print_any (S : ScriptD) (v : Value) (w : World) (Hg : Hid (Gl w)) (Hv : Hid (ScriptS w S v)) (HL : Hid (ScriptL S)) : Calls Tryz.prog 17 #[v] w (PrintR (printB S) w) := by
  by_cases h : (checkB S).2 = 0
  · exact print_ok S v w Hg Hv (check_ok.1 h)
  · exact print_bad S v w Hg Hv HL h
/-- What Encode hands back. -/
def EncR (x : Bytes × Nat) (w : World) (e : Ending) (w' : World) : Prop := ∃ A c, e = .returned (.tuple #[.slice A x.1.length c, .int .i64 (x.2 : Int)]) ∧ OS w 5 1 A x.1.length c (Lib.byteCells x.1) w'
theorem encode_any (S : ScriptD) (v : Value) (w : World) (Hg : Hid (Gl w)) (Hv : Hid (ScriptS w S v)) (HL : Hid (ScriptL S)) : Calls Tryz.prog 15 #[v] w (EncR (encodeB S) w) := by
  by_cases h : (checkB S).2 = 0
  · have he : encodeB S = (encT S, 0) := by unfold encodeB; rw [if_neg (fun k => k h)]
    rw [he]
    exact encode_ok S v w Hg Hv (check_ok.1 h)
  · have he : encodeB S = ([], (checkB S).2) := by unfold encodeB; rw [if_pos h]
    rw [he]
    refine (encode_bad S v w Hg Hv HL h).mono ?_
    rintro e w' ⟨rfl, hb⟩
    exact ⟨none, 0, rfl, hb, own_nil _ _ _ _⟩
end Go.Proofs.YtdfhbnfhkckkbaaGreatDoor
