/-
  The walk of Parse.
-/
import Derived.Test.YtdfhbnfhkckkbaaGreatDoorW25
namespace Go.Proofs.YtdfhbnfhkckkbaaGreatDoor
open Go Go.RowKit Go.Walks

set_option maxRecDepth 100000 in
theorem after_any (t : Bytes) (w : World) (Hg : Hid (Gl w)) (hl : t.length ≤ 1000000) : Calls Tryz.prog 79 #[.string ⟨t.toArray⟩, .string ⟨#[10]⟩] w fun e w' => e = .returned (.slice (some ⟨w.heap.size, 0, none⟩) (pieces t).length (pieces t).length) ∧ w' = w.alloc (.cells ((pieces t).map strV).toArray 9) := by
  obtain ⟨m, hm⟩ := Hg.out.mx
  have hc : t.count 10 ≤ t.length := List.count_le_length
  have h := Tryz.strings_genSplit ⟨t.toArray⟩ ⟨#[10]⟩ 1 (-1) (t.count 10 + 1) m w (by rw [strBytes_size]; omega) hm (Nat.le_refl 1) (Nat.le_refl 1) (by decide) (by decide) (by
    rw [(lib_split t 10 1).1, if_pos (by decide), strBytes_size]; omega)
  have hlen := splitK_len t 10 1
  rw [Nat.add_sub_cancel, (lib_split t 10 1).2, List.length_map, hlen] at h
  have e2 : Lib.cellsOf ((Lib.splitK [10] 1 (t.count 10) t).map fun s => (⟨s.toArray⟩ : ByteArray)) (t.count 10 + 1) = ((pieces t).map strV).toArray := by
    have := Lib.cellsOf_full ((Lib.splitK [10] 1 (t.count 10) t).map fun s => (⟨s.toArray⟩ : ByteArray))
    rw [List.length_map, hlen] at this
    rw [this, List.map_map, splitK_after]
    rfl
  have e3 : t.count 10 + 1 = (pieces t).length := by rw [← hlen, splitK_after]
  rw [e2, e3] at h
  obtain ⟨n, hn⟩ : ∃ n, n = (pieces t).length := ⟨_, rfl⟩
  rw [← hn] at h ⊢
  have H := Lib.hid h
  clear hn h e2 e3 hlen hc hm hl
  go_enter Tryz.func79, Tryz.ntmps79
  go_wp2_with fail
  refine H.out.mono ?_
  rintro e w' ⟨rfl, hw⟩
  have hw1 := hw.symm
  subst hw1
  clear hw
  go_wp2_with fail
  go_ret
  exact ⟨rfl, rfl⟩
theorem info35' : (Tryz.prog.info? 35).map (·.size) = some 8 := info35
theorem res31 (tmps : Array Value) (w : World) (g : Nat) (cs : Array Value) (u v : Value) (hs : cs.size = 8) (hp : tmps.getD 2 undef = .pointer (some ⟨g, 0, none⟩)) (h3 : tmps.getD 3 undef = u) (h4 : tmps.getD 4 undef = v) (hg : w.heap[g]? = some (.cells cs 35)) :
    (results Tryz.f31 tmps).run Tryz.prog w = .ok (.tuple #[.agg cs, u, v]) w := by
  have hp' : tmps[2]?.getD undef = .pointer (some ⟨g, 0, none⟩) := by simpa using hp
  have h3' : tmps[3]?.getD undef = u := by simpa using h3
  have h4' : tmps[4]?.getD undef = v := by simpa using h4
  simp [results, Tryz.results31, h3', h4', hp', asAddr, run_loadVar_row w g 35 35 cs (0, 0) _ hg Tryz.underlying35 rfl (by rw [hs]; exact info35)]
/-- What Parse hands back. -/
def ParR (t : Bytes) (w : World) (e : Ending) (w' : World) : Prop := Below w.heap.size w w' ∧ match parseB t with
  | .error (n, er) => e = .returned (.tuple #[.agg (scrCs 0 0 0 0 0 0 none 0 0 none 0 0), .int .i64 (n : Int), .int .i64 (er : Int)])
  | .ok S => ∃ v, e = .returned (.tuple #[v, .int .i64 0, .int .i64 0]) ∧ ScriptS w' S v
theorem SP.final {B s nt tc ns uc g : Nat} {a b c d e f : Int} {T U : Option Addr} {xs : List Bytes} {ys : List StepD} {W : World} {cs0 : Array Value} (h : SP B s a b c d e f T nt tc U ns uc xs ys W) (hg : g < B) (hr : W.heap[g]? = some (.cells cs0 35)) (cs : Array Value) : ScriptP (W.setRow g cs) ⟨[a, b, c, d, e, f], xs, ys⟩ a b c d e f T tc U uc := by
  obtain ⟨ms, h1, h2⟩ := h.own2
  have k1 := own_rb_lt h.own1 (rb_setRow1 g W cs) hg
  have k2 := own_rb_lt h1 (rb_setRow1 g W cs) hg
  exact ⟨rfl, own_sl k1, ⟨ms, own_sl k2, (h2.keep (keep_setRow hr (by decide) cs)).toS⟩, by have := (own_cap h.own1).1; rw [h.n1] at this; exact this, by have := (own_cap h1).1; rw [h.n2] at this; exact this⟩
/-- In Parse: the result's block, the lines and the script. -/
structure PW (w : World) (g gl s : Nat) (P : List Bytes) (S : ScriptD) (W : World) : Prop where
  below : Below w.heap.size w W
  hg : w.heap.size ≤ g
  gs : g < s
  gls : gl < s
  sg : w.heap.size ≤ s
  res : W.heap[g]? = some (.cells (scrCs 0 0 0 0 0 0 none 0 0 none 0 0) 35)
  ln : W.heap[gl]? = some (.cells (P.map strV).toArray 9)
  sm : SM (s + 1) s S W
theorem PW.kb {w W W' : World} {g gl s : Nat} {P : List Bytes} {S S' : ScriptD} (h : PW w g gl s P S W) (hk : KB (s + 1) s W W') (hs : SM (s + 1) s S' W') : PW w g gl s P S' W' := by
  have e1 := h.gs
  have e2 := h.gls
  have e3 := h.sg
  have e4 := h.below.size
  refine ⟨⟨hk.os.trans h.below.os, hk.tape.trans h.below.tape, hk.output.trans h.below.output, Nat.le_trans h.below.size hk.size, fun k hkk => (hk.block k (by omega) (by omega)).trans (h.below.block k hkk)⟩, h.hg, h.gs, h.gls, h.sg, (hk.block g (by omega) (by omega)).trans h.res, (hk.block gl (by omega) (by omega)).trans h.ln, hs⟩
theorem PW.kb0 {w W W' : World} {g gl s : Nat} {P : List Bytes} {S : ScriptD} (h : PW w g gl s P S W) (hk : KB (s + 1) s W W') : Below w.heap.size w W' ∧ W'.heap[g]? = some (.cells (scrCs 0 0 0 0 0 0 none 0 0 none 0 0) 35) := by
  have e1 := h.gs
  have e2 := h.gls
  have e3 := h.sg
  have e4 := h.below.size
  exact ⟨⟨hk.os.trans h.below.os, hk.tape.trans h.below.tape, hk.output.trans h.below.output, Nat.le_trans h.below.size hk.size, fun k hkk => (hk.block k (by omega) (by omega)).trans (h.below.block k hkk)⟩, (hk.block g (by omega) (by omega)).trans h.res⟩
theorem SM.call {B s : Nat} {S : ScriptD} {W W' : World} (h : SM B s S W) (hb : Below W.heap.size W W') : SM B s S W' := by
  obtain ⟨a, b, c, d, e, f, T, nt, tc, U, ns, uc, h1, h2⟩ := h
  exact ⟨a, b, c, d, e, f, T, nt, tc, U, ns, uc, h1, h2.call hb⟩
theorem PW.call {w W W' : World} {g gl s : Nat} {P : List Bytes} {S : ScriptD} (h : PW w g gl s P S W) (hb : Below W.heap.size W W') : PW w g gl s P S W' := by
  have hk : KB (s + 1) s W W' := KB.of_below hb (by obtain ⟨a, b, c, d, e, f, T, nt, tc, U, ns, uc, h1, h2⟩ := h.sm; exact h2.hB)
  exact h.kb hk (h.sm.call hb)
theorem PW.start {w : World} {P : List Bytes} : PW w w.heap.size (w.heap.size + 1) (w.heap.size + 1 + 1) P emptyS (((w.alloc (.cells (scrCs 0 0 0 0 0 0 none 0 0 none 0 0) 35)).alloc (.cells (P.map strV).toArray 9)).alloc (.cells (scrCs 0 0 0 0 0 0 none 0 0 none 0 0) 35)) := by
  obtain ⟨W1, hW1⟩ : ∃ W, W = w.alloc (.cells (scrCs 0 0 0 0 0 0 none 0 0 none 0 0) 35) := ⟨_, rfl⟩
  obtain ⟨W2, hW2⟩ : ∃ W, W = W1.alloc (.cells (P.map strV).toArray 9) := ⟨_, rfl⟩
  obtain ⟨W3, hW3⟩ : ∃ W, W = W2.alloc (.cells (scrCs 0 0 0 0 0 0 none 0 0 none 0 0) 35) := ⟨_, rfl⟩
  rw [← hW1, ← hW2, ← hW3]
  have h1 : Below w.heap.size w W1 := by rw [hW1]; exact (Below.refl _ _).alloc (Nat.le_refl _) _
  have h2 : Below W1.heap.size W1 W2 := by rw [hW2]; exact (Below.refl _ _).alloc (Nat.le_refl _) _
  have h3 : Below W2.heap.size W2 W3 := by rw [hW3]; exact (Below.refl _ _).alloc (Nat.le_refl _) _
  have s1 : W1.heap.size = w.heap.size + 1 := by rw [hW1]; simp
  have s2 : W2.heap.size = w.heap.size + 1 + 1 := by rw [hW2]; simp [s1]
  have s3 : W3.heap.size = w.heap.size + 1 + 1 + 1 := by rw [hW3]; simp [s2]
  have r1 : W1.heap[w.heap.size]? = some (.cells (scrCs 0 0 0 0 0 0 none 0 0 none 0 0) 35) := by rw [hW1]; exact heap_new _ _
  have r2 : W2.heap[w.heap.size + 1]? = some (.cells (P.map strV).toArray 9) := by rw [hW2, ← s1]; exact heap_new _ _
  have r3 : W3.heap[w.heap.size + 1 + 1]? = some (.cells (scrCs 0 0 0 0 0 0 none 0 0 none 0 0) 35) := by rw [hW3, ← s2]; exact heap_new _ _
  have b12 := h1.trans (h2.mono h1.size)
  have b13 := b12.trans (h3.mono b12.size)
  exact ⟨b13, Nat.le_refl _, by omega, by omega, by omega, below_cells (below_cells r1 h2) h3, below_cells r2 h3, 0, 0, 0, 0, 0, 0, none, 0, 0, none, 0, 0, rfl, by omega, by omega, r3, own_nil _ _ _ _, ⟨[], own_nil _ _ _ _, rfl⟩, rfl, rfl⟩

theorem join_ge : ∀ ls : List Bytes, ls.length ≤ (joinT ls).length
  | [] => by simp [joinT]
  | x :: l => by
    have := join_ge l
    unfold joinT at this ⊢
    rw [List.flatMap_cons, List.length_append, List.length_append, List.length_cons, List.length_singleton]
    omega
theorem join_mem_ge : ∀ (ls : List Bytes), ∀ x ∈ ls, x.length ≤ (joinT ls).length
  | [], x, hx => by cases hx
  | y :: l, x, hx => by
    unfold joinT
    rw [List.flatMap_cons, List.length_append, List.length_append, List.length_singleton]
    rcases List.mem_cons.1 hx with rfl | hx
    · omega
    · have := join_mem_ge l x hx
      unfold joinT at this
      omega

theorem raw_len : ∀ (n : Nat) (u : Bytes), u.length ≤ n → (rawL u).length ≤ u.length
  | _, [], _ => by rw [rawL]; exact Nat.le_refl _
  | _, [_], _ => by rw [rawL]; simp
  | 0, _ :: _ :: _, h => by simp at h
  | n + 1, c :: d :: r, h => by
    simp only [List.length_cons] at h
    by_cases h92 : c = 92
    · subst h92
      by_cases h120 : d = 120
      · subst h120
        by_cases h2 : r.length < 2
        · rw [raw_x_short h2]
          have := raw_len n r (by omega)
          simp only [List.length_cons]; omega
        · match r, h2 with
          | a :: b :: r, _ =>
            rw [raw_hex]
            simp only [List.length_cons] at h ⊢
            have := raw_len n r (by omega)
            omega
          | [], h2 => exact absurd (by simp) h2
          | [a], h2 => exact absurd (by simp) h2
      · rw [raw_esc h120]
        have := raw_len n r (by omega)
        simp only [List.length_cons]; omega
    · rw [raw_other h92]
      have := raw_len n (d :: r) (by simp only [List.length_cons]; omega)
      simp only [List.length_cons] at this ⊢; omega
theorem nums_len : ∀ (l : List Bytes) (r : List Int), numsB l = some r → r.length = l.length
  | [], r, h => by
    rw [numsB] at h
    injection h with h
    subst h; rfl
  | s :: l, r, h => by
    rw [numsB] at h
    split at h
    · cases h
    · split at h
      · cases h
      · rename_i r' h'
        injection h with h
        subst h
        simp [nums_len l r' h']
theorem fields_len {x w : Bytes} {l : List Int} (h : fieldsB x = some (w, l)) : l.length ≤ x.length := by
  have h1 := split_len_le 32 x
  unfold fieldsB at h
  split at h
  · cases h
  · rename_i a r hs
    rw [hs] at h1
    split at h
    · cases h
    · rename_i r' hn
      injection h with h
      injection h with _ h
      subst h
      have := nums_len _ _ hn
      simp at h1
      omega
/-- The sizes of what is read. -/
def ScrB (S : ScriptD) : Prop := (∀ t ∈ S.texts, t.length ≤ 1000000) ∧ ∀ y ∈ S.steps, y.args.length ≤ 1000000
theorem scrB_nil : ScrB emptyS := ⟨fun t h => (by cases h), fun t h => (by cases h)⟩
theorem scrB_line {S S' : ScriptD} {n : Nat} {x : Bytes} (hS : ScrB S) (hx : x.length ≤ 1000000) (h : lineB S n x = some S') : ScrB S' := by
  unfold lineB at h
  split at h
  · split at h
    · injection h with h
      subst h
      refine ⟨fun t ht => ?_, hS.2⟩
      rcases List.mem_append.1 ht with ht | ht
      · exact hS.1 t ht
      · rw [List.mem_singleton.1 ht]
        have h1 := raw_len _ (x.drop 6) (Nat.le_refl _)
        rw [List.length_drop] at h1
        omega
    · cases h
  · split at h
    · cases h
    · rename_i w l hf
      have hl := fields_len hf
      split at h
      · split at h
        · injection h with h; subst h; exact hS
        · cases h
      · split at h
        · injection h with h
          subst h
          refine ⟨hS.1, fun t ht => ?_⟩
          rcases List.mem_append.1 ht with ht | ht
          · exact hS.2 t ht
          · rw [List.mem_singleton.1 ht]
            show l.length ≤ _
            omega
        · cases h
theorem scrB_L {S : ScriptD} {k : Nat} (h : ScrB S) (h1 : S.texts.length ≤ k) (h2 : S.steps.length ≤ k) (hk : k ≤ 1000000) : ScriptL S := by
  have hm : ∀ n : Nat, n ≤ 1000000 → n ≤ maxLen := fun n h => by unfold maxLen; omega
  exact ⟨hm _ (by omega), hm _ (by omega), fun t ht => hm _ (h.1 t ht), fun y hy => hm _ (h.2 y hy)⟩
theorem suffix_yes (x : Bytes) : Lib.hasSuffix (x ++ [10]) [10] = true ∧ Lib.trimSuffix (x ++ [10]) [10] = x := by
  have h : Lib.hasSuffix (x ++ [10]) [10] = true := by unfold Lib.hasSuffix; rw [List.isSuffixOf_iff_suffix]; exact List.suffix_append _ _
  refine ⟨h, ?_⟩
  unfold Lib.trimSuffix
  rw [if_pos h]
  simp
theorem suffix_no {r : Bytes} (h : (10 : UInt8) ∉ r) : Lib.hasSuffix r [10] = false := by
  cases hs : Lib.hasSuffix r [10] with
  | false => rfl
  | true =>
    unfold Lib.hasSuffix at hs
    rw [List.isSuffixOf_iff_suffix] at hs
    obtain ⟨y, hy⟩ := hs
    exact absurd (by rw [← hy]; simp) h
theorem cut_yes (x : Bytes) (w : World) (hl : x.length ≤ 1000000) : Calls Tryz.prog 80 #[.string ⟨(x ++ [10]).toArray⟩, .string ⟨#[10]⟩] w fun e w' => e = .returned (.tuple #[.string ⟨x.toArray⟩, .bool true]) ∧ w' = w := by
  have h := Tryz.strings_CutSuffix ⟨(x ++ [10]).toArray⟩ ⟨#[10]⟩ w (by rw [strBytes_size, List.length_append, List.length_singleton]; omega)
  obtain ⟨h1, h2⟩ := suffix_yes x
  refine h.mono ?_
  rintro e w' ⟨rfl, hw⟩
  refine ⟨?_, hw⟩
  show Ending.returned (.tuple #[.string ⟨(Lib.trimSuffix (x ++ [10]) [10]).toArray⟩, .bool (Lib.hasSuffix (x ++ [10]) [10])]) = _
  rw [h1, h2]
theorem cut_no {r : Bytes} (w : World) (hl : r.length ≤ 1000000) (hr : (10 : UInt8) ∉ r) : Calls Tryz.prog 80 #[.string ⟨r.toArray⟩, .string ⟨#[10]⟩] w fun e w' => e = .returned (.tuple #[.string ⟨r.toArray⟩, .bool false]) ∧ w' = w := by
  have h := Tryz.strings_CutSuffix ⟨r.toArray⟩ ⟨#[10]⟩ w (by rw [strBytes_size]; omega)
  have h1 := suffix_no hr
  have h2 : Lib.trimSuffix r [10] = r := by unfold Lib.trimSuffix; rw [if_neg (by rw [h1]; decide)]
  refine h.mono ?_
  rintro e w' ⟨rfl, hw⟩
  refine ⟨?_, hw⟩
  show Ending.returned (.tuple #[.string ⟨(Lib.trimSuffix r [10]).toArray⟩, .bool (Lib.hasSuffix r [10])]) = _
  rw [h1, h2]
theorem lines_step {S : ScriptD} {k : Nat} {ls : List Bytes} {x : Bytes} (hx : ls[k]? = some x) : linesB S k (ls.drop k) = match lineB S k x with
    | none => .error k
    | some S' => linesB S' (k + 1) (ls.drop (k + 1)) := by
  obtain ⟨h1, h2⟩ := List.getElem?_eq_some_iff.1 hx
  rw [List.drop_eq_getElem_cons h1, h2, linesB]
  rfl
theorem line_lens {S S' : ScriptD} {n : Nat} {x : Bytes} (h : lineB S n x = some S') : S'.texts.length ≤ S.texts.length + 1 ∧ S'.steps.length ≤ S.steps.length + 1 := by
  unfold lineB at h
  split at h
  · split at h
    · injection h with h; subst h; simp
    · cases h
  · split at h
    · cases h
    · split at h
      · split at h
        · injection h with h; subst h; simp
        · cases h
      · split at h
        · injection h with h; subst h; simp
        · cases h

set_option maxRecDepth 100000 in
set_option maxHeartbeats 4000000 in
theorem parse_any (t : Bytes) (w : World) (Hg : Hid (Gl w)) (hl : t.length ≤ 1000000) : Calls Tryz.prog 31 #[.string ⟨t.toArray⟩] w (ParR t w) := by
  obtain ⟨W0, hW0⟩ : ∃ W, W = w.alloc (.cells (scrCs 0 0 0 0 0 0 none 0 0 none 0 0) 35) := ⟨_, rfl⟩
  have hb0 : Below w.heap.size w W0 := by rw [hW0]; exact (Below.refl _ _).alloc (Nat.le_refl _) _
  have hs0 : W0.heap.size = w.heap.size + 1 := by rw [hW0]; simp
  have HW0' : Hid (w.alloc (.cells #[.int .i64 0, .int .i64 0, .int .i64 0, .int .i64 0, .int .i64 0, .int .i64 0, .slice none 0 0, .slice none 0 0] 35) = W0) := hW0.symm
  obtain ⟨n, hn⟩ : ∃ n, n = t.length := ⟨_, rfl⟩
  by_cases hbig : 200000 < n
  · have hP : parseB t = .error (0, 2) := by unfold parseB; rw [if_pos (by omega)]
    have HP := Lib.hid hP
    have hI : (200000 : Int) < (t.length : Int) := by omega
    have hres : W0.heap[w.heap.size]? = some (.cells (scrCs 0 0 0 0 0 0 none 0 0 none 0 0) 35) := by rw [hW0]; exact heap_new _ _
    have HB0 := Lib.hid hb0
    clear hP hW0 hb0 hs0 hn hbig hl
    go_enter Tryz.func31, Tryz.ntmps31
    go_upto_region 1 with fail
    rw [HW0'.out]
    go_wp2_with (refine wpList_store_row rfl 35 _ _ rfl w.heap.size (scrCs 0 0 0 0 0 0 none 0 0 none 0 0) rfl rfl 35 _ hres info35 rfl (scr_one _ _ _ _ _ _ _ _ _ _ _ _) ?_)
    refine bodyPost_ret (res31 _ _ w.heap.size (scrCs 0 0 0 0 0 0 none 0 0 none 0 0) (.int .i64 0) (.int .i64 2) rfl rfl rfl rfl (setRow_heap _ _ _ _ _ _ hres)) rfl ?_
    unfold ParR
    rw [HP.out]
    exact ⟨below_setRow1 HB0.out (Nat.le_refl _) _, rfl⟩
  · have hI : ¬ (200000 : Int) < (t.length : Int) := by omega
    have haft := after_any t W0 (Hg.out.below hb0) hl
    obtain ⟨ls, r, hcut⟩ : ∃ ls r, cutL t = (ls, r) := ⟨_, _, rfl⟩
    obtain ⟨hj1, hj2, hj3⟩ := join_cut t
    rw [hcut] at hj1 hj2 hj3
    dsimp only at hj1 hj2 hj3
    have hP0 : pieces t = ls.map (· ++ [10]) ++ [r] := by unfold pieces; rw [hcut]
    have hrl : r.length ≤ 1000000 := by
      have h2 := congrArg List.length hj1
      rw [List.length_append] at h2
      omega
    have HPB : Hid (parseB t = match linesB emptyS 0 ls with
        | .error n => .error (n, 3)
        | .ok s => if ls = [] ∨ r ≠ [] then .error (ls.length, 3) else if (checkB s).2 ≠ 0 then .error (0, (checkB s).2) else .ok s) := by
      show _ = _
      unfold parseB
      rw [if_neg (by omega), hcut]
      rfl
    obtain ⟨L, hL⟩ : ∃ L, L = ls.length := ⟨_, rfl⟩
    have hjl : (joinT ls).length ≤ 200000 := by
      have h2 := congrArg List.length hj1
      rw [List.length_append] at h2
      omega
    have hLl : L ≤ 200000 := by rw [hL]; exact Nat.le_trans (join_ge ls) hjl
    have hmemL : ∀ x ∈ ls, x.length ≤ 200000 := fun x hx => Nat.le_trans (join_mem_ge ls x hx) hjl
    obtain ⟨P, hP⟩ : ∃ P, P = pieces t := ⟨_, rfl⟩
    have hPl : P.length = L + 1 := by rw [hP, hP0, hL]; simp
    rw [← hP, hPl, hs0] at haft
    obtain ⟨g, hgg⟩ : ∃ g, g = w.heap.size := ⟨_, rfl⟩
    obtain ⟨gl, hgl⟩ : ∃ g, g = w.heap.size + 1 := ⟨_, rfl⟩
    obtain ⟨s, hss⟩ : ∃ g, g = w.heap.size + 1 + 1 := ⟨_, rfl⟩
    obtain ⟨W1, hW1⟩ : ∃ W, W = W0.alloc (.cells (P.map strV).toArray 9) := ⟨_, rfl⟩
    obtain ⟨W2, hW2⟩ : ∃ W, W = W1.alloc (.cells (scrCs 0 0 0 0 0 0 none 0 0 none 0 0) 35) := ⟨_, rfl⟩
    have HPW : Hid (PW w g gl s P emptyS W2) := by rw [hW2, hW1, hW0, hgg, hgl, hss]; exact PW.start
    have hln : W1.heap[gl]? = some (.cells (P.map strV).toArray 9) := by rw [hW1, hgl, ← hs0]; exact heap_new _ _
    have hPL : P[L]? = some r := by rw [hP, hP0, hL]; simp
    have hcr : W1.cell? ⟨gl, L, none⟩ = some (.string ⟨r.toArray⟩) := (cell_at hln L (by simp [hPL, strV])).1
    have hs1 : W1.heap.size = s := by rw [hW1, hss]; simp [hs0]
    have HW2' : Hid (W1.alloc (.cells #[.int .i64 0, .int .i64 0, .int .i64 0, .int .i64 0, .int .i64 0, .int .i64 0, .slice none 0 0, .slice none 0 0] 35) = W2) := hW2.symm
    rw [← hgl, ← hW1] at haft
    have Haft := Lib.hid haft
    have Hs1 := Lib.hid hs1
    subst hgg
    have HP := Lib.hid (hP.trans hP0)
    have HL := Lib.hid hL
    have HmemL := Lib.hid hmemL
    have Hj2 := Lib.hid hj2
    have Hj3 := Lib.hid hj3
    clear haft hcut hj1 hj2 hj3 hP0 hP hPl hL hmemL hW1 hW2 hW0 hss hgl hs0 hs1 hb0 hn hbig hl hln hPL
    have hsg : 9 ≤ s := by
      have h1 := HPW.out.sg
      have h2 := Hg.out.size
      omega
    go_enter Tryz.func31, Tryz.ntmps31
    go_upto_region 3 with fail
    rw [HW0'.out]
    go_wp2_with fail
    refine Haft.out.mono ?_
    rintro en w1 ⟨rfl, hw⟩
    have hw1 := hw.symm
    subst hw1
    clear hw
    by_cases hr : r = []
    · subst hr
      by_cases hL0 : L = 0
      · subst hL0
        go_upto_region 8 with fail
        rw [Hs1.out, HW2'.out]
        go_wp2_with fail
        go_loopg [38] (1) (fun gh s38 wr => ∃ (k : Nat) (S : ScriptD), s38 = .int .i64 (k : Int) ∧ gh = 1 - k ∧ k ≤ 0 ∧ Hid (PW w w.heap.size gl s P S wr ∧ linesB emptyS 0 ls = linesB S k (ls.drop k) ∧ S.texts.length ≤ k ∧ S.steps.length ≤ k ∧ ScrB S))
        case atStart => exact ⟨0, emptyS, rfl, rfl, Nat.zero_le _, HPW.out, rfl, Nat.le_refl _, Nat.le_refl _, scrB_nil⟩
        case round =>
          obtain ⟨k, S, rfl, hgh, hk, HO⟩ := hrel
          have hke : k = 0 := by omega
          subst hke
          have HST : Hid (linesB emptyS 0 ls = .ok S) := by
            show _ = _
            rw [HO.out.2.1, List.drop_of_length_le (by have := HL.out; omega), linesB]
          have hPk : P[0]? = some ([] : Bytes) := by rw [HP.out]; have := List.eq_nil_of_length_eq_zero HL.out.symm; subst this; rfl
          have hcell : wr.cell? ⟨gl, 0, none⟩ = some (.string ⟨#[]⟩) := (cell_at HO.out.1.ln 0 (by simp [hPk, strV])).1
          have Hcut := Lib.hid (cut_no (r := []) wr hrl Hj3.out)
          have Hdec : Hid (parseB t = .error (0, 3)) := by
            show _ = _
            rw [HPB.out, HST.out]
            dsimp only
            rw [if_pos (.inl (List.eq_nil_of_length_eq_zero HL.out.symm)), ← HL.out]
          have hI2 : (0 : Int) < 1 := by omega
          clear hPk
          go_wp2_with fail
          refine Hcut.out.mono ?_
          rintro en w3 ⟨rfl, hw⟩
          have hw3 := hw.symm
          subst hw3
          clear hw Hcut hcell HST
          have hres := HO.out.1.res
          have HBB := Lib.hid HO.out.1.below
          go_wp2_with (refine wpList_store_row rfl 35 _ _ rfl w.heap.size (scrCs 0 0 0 0 0 0 none 0 0 none 0 0) rfl rfl 35 _ hres info35 rfl (scr_one _ _ _ _ _ _ _ _ _ _ _ _) ?_)
          refine bodyPost_ret (res31 _ _ w.heap.size (scrCs 0 0 0 0 0 0 none 0 0 none 0 0) (.int .i64 (0)) (.int .i64 3) rfl rfl rfl rfl (setRow_heap _ _ _ _ _ _ hres)) rfl ?_
          unfold ParR
          rw [Hdec.out]
          exact ⟨below_setRow1 HBB.out HPW.out.hg _, rfl⟩
      · have hL1 : (0 : Int) < (L : Int) := by omega
        have hdL : decide (0 < L) = true := decide_eq_true (by omega)
        go_upto_region 8 with fail
        clear hdL
        rw [Hs1.out, HW2'.out]
        go_wp2_with fail
        go_loopg [38] (L) (fun gh s38 wr => ∃ (k : Nat) (S : ScriptD), s38 = .int .i64 (k : Int) ∧ gh = L - k ∧ k ≤ L ∧ Hid (PW w w.heap.size gl s P S wr ∧ linesB emptyS 0 ls = linesB S k (ls.drop k) ∧ S.texts.length ≤ k ∧ S.steps.length ≤ k ∧ ScrB S))
        case atStart => exact ⟨0, emptyS, rfl, rfl, Nat.zero_le _, HPW.out, rfl, Nat.le_refl _, Nat.le_refl _, scrB_nil⟩
        case round =>
          obtain ⟨k, S, rfl, hgh, hk, HO⟩ := hrel
          by_cases hlt : k < L
          · have hI1 : (0 : Int) ≤ (k : Int) := by omega
            have hI2 : (k : Int) < (L : Int) := by omega
            have hI3 : (k : Int) < ((L : Nat) : Int) := by omega
            have hI4 : (k : Int) < (L : Int) + 1 := by omega
            obtain ⟨x, hx⟩ : ∃ x, ls[k]? = some x := ⟨ls[k]'(by rw [← HL.out]; exact hlt), List.getElem?_eq_getElem _⟩
            have hPk : P[k]? = some (x ++ [10]) := by
              rw [HP.out, List.getElem?_append_left (by rw [List.length_map, ← HL.out]; exact hlt), List.getElem?_map, hx]; rfl
            have hcell : wr.cell? ⟨gl, k, none⟩ = some (.string ⟨(x ++ [10]).toArray⟩) := (cell_at HO.out.1.ln k (by simp [hPk, strV])).1
            have hxl := HmemL.out x (List.mem_of_getElem? hx)
            have Hcut := Lib.hid (cut_yes x wr (by omega))
            have Hline := Lib.hid (line_any S k x (s + 1) s wr (Hg.out.below HO.out.1.below) HO.out.1.sm (by omega) hsg (by have := HO.out.2.2.1; omega) (by have := HO.out.2.2.2.1; omega) (by omega))
            have HST := Lib.hid (HO.out.2.1.trans (lines_step hx))
            obtain ⟨xe, hxe⟩ : ∃ y, y = x ++ [10] := ⟨_, rfl⟩
            rw [← hxe] at hcell Hcut
            clear hx hPk hxe
            go_wp2_with fail
            refine Hcut.out.mono ?_
            rintro en w3 ⟨rfl, hw⟩
            have hw3 := hw.symm
            subst hw3
            clear hw Hcut hcell
            go_wp2_with fail
            refine Hline.out.mono ?_
            unfold LineR
            cases hlb : lineB S k x with
            | none =>
              rintro en w4 ⟨hk4, rfl⟩
              obtain ⟨hb4, hr4⟩ := HO.out.1.kb0 hk4
              have hdec : parseB t = .error (k, 3) := by rw [HPB.out, HST.out, hlb]
              have Hdec := Lib.hid hdec
              clear hdec hlb HST hk4
              have hres := hr4
              have HBB := Lib.hid hb4
              go_wp2_with (refine wpList_store_row rfl 35 _ _ rfl w.heap.size (scrCs 0 0 0 0 0 0 none 0 0 none 0 0) rfl rfl 35 _ hres info35 rfl (scr_one _ _ _ _ _ _ _ _ _ _ _ _) ?_)
              refine bodyPost_ret (res31 _ _ w.heap.size (scrCs 0 0 0 0 0 0 none 0 0 none 0 0) (.int .i64 ((k : Nat) : Int)) (.int .i64 3) rfl rfl rfl rfl (setRow_heap _ _ _ _ _ _ hres)) rfl ?_
              unfold ParR
              rw [Hdec.out]
              exact ⟨below_setRow1 HBB.out HPW.out.hg _, rfl⟩
            | some S' =>
              rintro en w4 ⟨hk4, rfl, hs4⟩
              have HPW4 := Lib.hid (HO.out.1.kb hk4 hs4)
              have hll := line_lens hlb
              have HSB := Lib.hid (scrB_line HO.out.2.2.2.2 (show x.length ≤ 1000000 by omega) hlb)
              have HST4 : Hid (linesB emptyS 0 ls = linesB S' (k + 1) (ls.drop (k + 1))) := by
                show _ = _
                rw [HST.out, hlb]
              have HLL : Hid (S'.texts.length ≤ k + 1 ∧ S'.steps.length ≤ k + 1) := by
                have := HO.out.2.2.1
                have := HO.out.2.2.2.1
                exact ⟨by omega, by omega⟩
              clear hlb hll HST hk4 hs4
              go_wp2_with fail
              go_roundg (L - (k + 1))
              case measure => omega
              case rel => exact ⟨k + 1, S', by go_num, rfl, by omega, HPW4.out, HST4.out, HLL.out.1, HLL.out.2, HSB.out⟩
          · have hke : k = L := by omega
            clear hlt
            subst hke
            have HST : Hid (linesB emptyS 0 ls = .ok S) := by
              show _ = _
              rw [HO.out.2.1, List.drop_of_length_le (by have := HL.out; omega), linesB]
            obtain ⟨a0, a1, a2, a3, a4, a5, T, nt, tc, U, ns, uc, hcfg, hSP⟩ := HO.out.1.sm
            have hLne : ¬ (ls = [] ∨ ([] : Bytes) ≠ []) := by
              rintro (h | h)
              · have := HL.out; rw [h] at this; exact hL0 this
              · exact h rfl
            have HD : Hid (parseB t = if (checkB S).2 ≠ 0 then .error (0, (checkB S).2) else .ok S) := by
              show _ = _
              rw [HPB.out, HST.out]
              dsimp only
              rw [if_neg hLne]
            have hnt : nt = S.texts.length := hSP.n1
            have hns : ns = S.steps.length := hSP.n2
            have hSc : (⟨[a0, a1, a2, a3, a4, a5], S.texts, S.steps⟩ : ScriptD) = S := by rw [← hcfg]
            have hSP' := hSP.script
            rw [hSc] at hSP'
            have hSS : ScriptS wr S (.agg (scrCs a0 a1 a2 a3 a4 a5 T nt tc U ns uc)) := ⟨a0, a1, a2, a3, a4, a5, T, tc, U, uc, by rw [hnt, hns], hSP'⟩
            have hbounds := scrB_L HO.out.2.2.2.2 HO.out.2.2.1 HO.out.2.2.2.1 (by omega)
            have hchk := check_any S _ wr (Hg.out.below HO.out.1.below) (Lib.hid hSS) (Lib.hid hbounds)
            obtain ⟨ck, hck⟩ : ∃ x, x = checkB S := ⟨_, rfl⟩
            rw [← hck] at hchk HD
            obtain ⟨ce, ch⟩ := ck
            unfold CheckR at hchk
            dsimp only at hchk HD
            have Hchk := Lib.hid hchk
            have HSP := Lib.hid hSP
            have HSc := Lib.hid hSc
            have HNN := Lib.hid (And.intro hnt hns)
            have hrow := hSP.row
            have y0 := (cell_at (u := .int .i64 a0) hrow 0 rfl).1
            have y1 := (cell_at (u := .int .i64 a1) hrow 1 rfl).1
            have y2 := (cell_at (u := .int .i64 a2) hrow 2 rfl).1
            have y3 := (cell_at (u := .int .i64 a3) hrow 3 rfl).1
            have y4 := (cell_at (u := .int .i64 a4) hrow 4 rfl).1
            have y5 := (cell_at (u := .int .i64 a5) hrow 5 rfl).1
            have y6 := (cell_at (u := .slice T nt tc) hrow 6 rfl).1
            have y7 := (cell_at (u := .slice U ns uc) hrow 7 rfl).1
            have hI5 : ¬ (k : Int) < (k : Int) := by omega
            clear hLne hcfg hSP hnt hns hSc hSP' hSS hbounds hchk hck hrow hL0 hL1
            go_wp2_with fail
            refine Hchk.out.mono ?_
            rintro en w8 ⟨rfl, hb8⟩
            have HP8 := Lib.hid (HO.out.1.call hb8)
            have HSP8 := Lib.hid (HSP.out.call hb8)
            clear hb8 y0 y1 y2 y3 y4 y5 y6 y7 Hchk
            have hres := HP8.out.res
            by_cases hch : ch = 0
            · subst hch
              rw [if_neg (by simp)] at HD
              have hrow := HSP8.out.row
              obtain ⟨CS, hCS⟩ : ∃ C, C = scrCs a0 a1 a2 a3 a4 a5 T nt tc U ns uc := ⟨_, rfl⟩
              obtain ⟨C0, hC0⟩ : ∃ C, C = scrCs 0 0 0 0 0 0 none 0 0 none 0 0 := ⟨_, rfl⟩
              have i8 : (Tryz.prog.info? 35).map (·.size) = some CS.size := by rw [hCS]; exact info35
              have o8 : C0.size = CS.size := by rw [hCS, hC0]; rfl
              have c8 : CS.size = 8 := by rw [hCS]; rfl
              have all1 : CS.all (·.oneCell') = true := by rw [hCS]; exact scr_one _ _ _ _ _ _ _ _ _ _ _ _
              have hfin := HSP8.out.final (Nat.lt_succ_of_lt HP8.out.gs) hres CS
              rw [HSc.out] at hfin
              have Hfin := Lib.hid hfin
              rw [← hC0] at hres
              rw [← hCS] at hrow
              have HCS := Lib.hid hCS
              clear hCS hC0 hfin
              go_wp2_with (first | (refine wpList_load_row rfl 35 _ rfl s rfl 35 CS (0, 0) _ hrow Tryz.underlying35 rfl i8 ?_) | (refine wpList_store_row rfl 35 _ _ rfl w.heap.size CS rfl rfl 35 C0 hres i8 o8 all1 ?_))
              refine bodyPost_ret (res31 _ _ w.heap.size CS (.int .i64 0) (.int .i64 0) c8 rfl rfl rfl (setRow_heap _ _ _ _ _ _ hres)) rfl ?_
              unfold ParR
              rw [HD.out]
              refine ⟨below_setRow1 HP8.out.below HP8.out.hg CS, _, rfl, a0, a1, a2, a3, a4, a5, T, tc, U, uc, ?_, Hfin.out⟩
              rw [HCS.out, HNN.out.1, HNN.out.2]
            · have q1 : ((ch : Int) != 0) = true := by rw [bne_iff_ne]; omega
              rw [if_pos hch] at HD
              have HBB := Lib.hid HP8.out.below
              clear hch
              go_wp2_with (refine wpList_store_row rfl 35 _ _ rfl w.heap.size (scrCs 0 0 0 0 0 0 none 0 0 none 0 0) rfl rfl 35 _ hres info35 rfl (scr_one _ _ _ _ _ _ _ _ _ _ _ _) ?_)
              refine bodyPost_ret (res31 _ _ w.heap.size (scrCs 0 0 0 0 0 0 none 0 0 none 0 0) (.int .i64 0) (.int .i64 (ch : Int)) rfl rfl rfl rfl (setRow_heap _ _ _ _ _ _ hres)) rfl ?_
              unfold ParR
              rw [HD.out]
              exact ⟨below_setRow1 HBB.out HPW.out.hg _, rfl⟩
    · have hr2 : (r == []) = false := beq_eq_false_iff_ne.2 hr
      go_upto_region 8 with fail
      rw [Hs1.out, HW2'.out]
      go_wp2_with fail
      go_loopg [38] (L + 1) (fun gh s38 wr => ∃ (k : Nat) (S : ScriptD), s38 = .int .i64 (k : Int) ∧ gh = L + 1 - k ∧ k ≤ L ∧ Hid (PW w w.heap.size gl s P S wr ∧ linesB emptyS 0 ls = linesB S k (ls.drop k) ∧ S.texts.length ≤ k ∧ S.steps.length ≤ k ∧ ScrB S))
      case atStart => exact ⟨0, emptyS, rfl, rfl, Nat.zero_le _, HPW.out, rfl, Nat.le_refl _, Nat.le_refl _, scrB_nil⟩
      case round =>
        obtain ⟨k, S, rfl, hgh, hk, HO⟩ := hrel
        by_cases hlt : k < L
        · have hI1 : (0 : Int) ≤ (k : Int) := by omega
          have hI2 : (k : Int) < (L : Int) := by omega
          have hI3 : (k : Int) < ((L + 1 : Nat) : Int) := by omega
          have hI4 : (k : Int) < (L : Int) + 1 := by omega
          obtain ⟨x, hx⟩ : ∃ x, ls[k]? = some x := ⟨ls[k]'(by rw [← HL.out]; exact hlt), List.getElem?_eq_getElem _⟩
          have hPk : P[k]? = some (x ++ [10]) := by
            rw [HP.out, List.getElem?_append_left (by rw [List.length_map, ← HL.out]; exact hlt), List.getElem?_map, hx]; rfl
          have hcell : wr.cell? ⟨gl, k, none⟩ = some (.string ⟨(x ++ [10]).toArray⟩) := (cell_at HO.out.1.ln k (by simp [hPk, strV])).1
          have hxl := HmemL.out x (List.mem_of_getElem? hx)
          have Hcut := Lib.hid (cut_yes x wr (by omega))
          have Hline := Lib.hid (line_any S k x (s + 1) s wr (Hg.out.below HO.out.1.below) HO.out.1.sm (by omega) hsg (by have := HO.out.2.2.1; omega) (by have := HO.out.2.2.2.1; omega) (by omega))
          have HST := Lib.hid (HO.out.2.1.trans (lines_step hx))
          obtain ⟨xe, hxe⟩ : ∃ y, y = x ++ [10] := ⟨_, rfl⟩
          rw [← hxe] at hcell Hcut
          clear hx hPk hxe
          go_wp2_with fail
          refine Hcut.out.mono ?_
          rintro en w3 ⟨rfl, hw⟩
          have hw3 := hw.symm
          subst hw3
          clear hw Hcut hcell
          go_wp2_with fail
          refine Hline.out.mono ?_
          unfold LineR
          cases hlb : lineB S k x with
          | none =>
            rintro en w4 ⟨hk4, rfl⟩
            obtain ⟨hb4, hr4⟩ := HO.out.1.kb0 hk4
            have hdec : parseB t = .error (k, 3) := by rw [HPB.out, HST.out, hlb]
            have Hdec := Lib.hid hdec
            clear hdec hlb HST hk4
            have hres := hr4
            have HBB := Lib.hid hb4
            go_wp2_with (refine wpList_store_row rfl 35 _ _ rfl w.heap.size (scrCs 0 0 0 0 0 0 none 0 0 none 0 0) rfl rfl 35 _ hres info35 rfl (scr_one _ _ _ _ _ _ _ _ _ _ _ _) ?_)
            refine bodyPost_ret (res31 _ _ w.heap.size (scrCs 0 0 0 0 0 0 none 0 0 none 0 0) (.int .i64 ((k : Nat) : Int)) (.int .i64 3) rfl rfl rfl rfl (setRow_heap _ _ _ _ _ _ hres)) rfl ?_
            unfold ParR
            rw [Hdec.out]
            exact ⟨below_setRow1 HBB.out HPW.out.hg _, rfl⟩
          | some S' =>
            rintro en w4 ⟨hk4, rfl, hs4⟩
            have HPW4 := Lib.hid (HO.out.1.kb hk4 hs4)
            have hll := line_lens hlb
            have HSB := Lib.hid (scrB_line HO.out.2.2.2.2 (show x.length ≤ 1000000 by omega) hlb)
            have HST4 : Hid (linesB emptyS 0 ls = linesB S' (k + 1) (ls.drop (k + 1))) := by
              show _ = _
              rw [HST.out, hlb]
            have HLL : Hid (S'.texts.length ≤ k + 1 ∧ S'.steps.length ≤ k + 1) := by
              have := HO.out.2.2.1
              have := HO.out.2.2.2.1
              exact ⟨by omega, by omega⟩
            clear hlb hll HST hk4 hs4
            go_wp2_with fail
            go_roundg (L + 1 - (k + 1))
            case measure => omega
            case rel => exact ⟨k + 1, S', by go_num, rfl, by omega, HPW4.out, HST4.out, HLL.out.1, HLL.out.2, HSB.out⟩
        · have hke : k = L := by omega
          clear hlt
          subst hke
          have HST : Hid (linesB emptyS 0 ls = .ok S) := by
            show _ = _
            rw [HO.out.2.1, List.drop_of_length_le (by have := HL.out; omega), linesB]
          have hPk : P[k]? = some r := by rw [HP.out, HL.out]; simp
          have hcell : wr.cell? ⟨gl, k, none⟩ = some (.string ⟨r.toArray⟩) := (cell_at HO.out.1.ln k (by simp [hPk, strV])).1
          have Hcut := Lib.hid (cut_no wr hrl Hj3.out)
          have Hdec : Hid (parseB t = .error (k, 3)) := by
            show _ = _
            rw [HPB.out, HST.out]
            dsimp only
            rw [if_pos (.inr hr), ← HL.out]
          have hI2 : ((k : Int) : Int) < (k : Int) + 1 := by omega
          clear hPk
          go_wp2_with fail
          refine Hcut.out.mono ?_
          rintro en w3 ⟨rfl, hw⟩
          have hw3 := hw.symm
          subst hw3
          clear hw Hcut hcell HST
          have hres := HO.out.1.res
          have HBB := Lib.hid HO.out.1.below
          go_wp2_with (refine wpList_store_row rfl 35 _ _ rfl w.heap.size (scrCs 0 0 0 0 0 0 none 0 0 none 0 0) rfl rfl 35 _ hres info35 rfl (scr_one _ _ _ _ _ _ _ _ _ _ _ _) ?_)
          refine bodyPost_ret (res31 _ _ w.heap.size (scrCs 0 0 0 0 0 0 none 0 0 none 0 0) (.int .i64 (((k : Nat) : Int))) (.int .i64 3) rfl rfl rfl rfl (setRow_heap _ _ _ _ _ _ hres)) rfl ?_
          unfold ParR
          rw [Hdec.out]
          exact ⟨below_setRow1 HBB.out HPW.out.hg _, rfl⟩
end Go.Proofs.YtdfhbnfhkckkbaaGreatDoor
