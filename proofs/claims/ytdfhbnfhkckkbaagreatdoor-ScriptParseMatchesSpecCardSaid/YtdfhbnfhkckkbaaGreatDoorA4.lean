/-
  The laws of the text of scripts: what is printed is parsed, what is parsed is a printed text, prefixes, units. No program is run here.
-/
import Derived.Test.YtdfhbnfhkckkbaaGreatDoorA3
namespace Go.Proofs.YtdfhbnfhkckkbaaGreatDoor
open Go

theorem kinds_ok : ∀ k : Fin 27, (32 : UInt8) ∉ nameB ((k.val : Int) + 1) ∧ (10 : UInt8) ∉ nameB ((k.val : Int) + 1) ∧ kindOf (nameB ((k.val : Int) + 1)) = k.val + 1 ∧ nameB ((k.val : Int) + 1) ≠ [116, 101, 120, 116] := by decide +kernel
theorem kind_ok {n : Int} (h0 : 1 ≤ n) (h1 : n ≤ 27) : (32 : UInt8) ∉ nameB n ∧ (10 : UInt8) ∉ nameB n ∧ (kindOf (nameB n) : Int) = n ∧ nameB n ≠ [116, 101, 120, 116] := by
  have := kinds_ok ⟨(n - 1).toNat, by omega⟩
  have e : (((n - 1).toNat : Nat) : Int) + 1 = n := by omega
  dsimp only at this
  rw [e] at this
  exact ⟨this.1, this.2.1, by rw [this.2.2.1]; omega, this.2.2.2⟩
theorem idx_spec (w : Bytes) : ∀ (l : List (Bytes × Nat)) (k : Nat), idxB w l k = 0 ∨ ∃ i, idxB w l k = k + i + 1 ∧ (l[i]?.getD ([], 0)).1 = w
  | [], k => .inl rfl
  | x :: l, k => by
    rw [idxB]
    split
    · rename_i h
      exact .inr ⟨0, rfl, h⟩
    · rcases idx_spec w l (k + 1) with h | ⟨i, h, h'⟩
      · exact .inl h
      · exact .inr ⟨i + 1, by rw [h]; omega, h'⟩
theorem name_kind {w : Bytes} (h : 1 ≤ kindOf w) (h27 : kindOf w ≤ 27) : nameB (kindOf w) = w := by
  rcases idx_spec w kindsB 0 with h' | ⟨i, h1, h2⟩
  · unfold kindOf at h; omega
  · have hk : kindOf w = i + 1 := by unfold kindOf; omega
    unfold nameB isKindB
    rw [hk] at h h27 ⊢
    rw [if_pos (by simp; omega)]
    rw [show (((i + 1 : Nat) : Int) - 1).toNat = i by omega]
    exact h2
theorem fits_kind {n : Int} {k : Nat} (h : fitsB n k = true) : 1 ≤ n ∧ n ≤ 27 := by
  unfold fitsB at h
  rw [Bool.and_eq_true] at h
  simpa [isKindB] using h.1
theorem text_line {s : ScriptD} {n : Nat} (hn : 0 < n) (hs : s.steps = []) (t : Bytes) : lineB s n (lineT t) = some ⟨s.cfg, s.texts ++ [t], []⟩ := by
  have h1 : (lineT t).take 5 = textW := rfl
  have h2 : (lineT t).drop 5 = quoteB t := rfl
  have h3 : (lineT t).drop 6 = (quoteB t).drop 1 := rfl
  rw [lineB, if_pos ⟨hn, h1⟩, h2, h3, unq_quote, if_pos ⟨rfl, hs⟩, hs]
theorem step_line {s : ScriptD} {n : Nat} (hn : 0 < n) {nt : Nat} (hnt : nt ≤ 16) {x : StepD} (hx : stepB nt x = true) : lineB s n (lineX x) = some ⟨s.cfg, s.texts, s.steps ++ [x]⟩ := by
  obtain ⟨h1, h2, h3, h4⟩ := step_bounds hnt hx
  obtain ⟨g1, g2, g3, g4⟩ := kind_ok h1 h2
  have hf : fieldsB (lineX x) = some (nameB x.kind, x.args) := fields_words g1 fun n hn => h4 n hn
  have hfit : fitsB x.kind x.args.length = true := by unfold stepB at hx; rw [Bool.and_eq_true] at hx; exact hx.1
  rw [lineB, if_neg, hf]
  · dsimp only
    rw [if_neg (by omega), g3, if_pos hfit]
  · rintro ⟨-, ht⟩
    have e : lineX x = [116, 101, 120, 116] ++ 32 :: (lineX x).drop 5 := by
      have := List.take_append_drop 5 (lineX x)
      rw [ht] at this
      exact this.symm
    unfold fieldsB at hf
    rw [e, split_free 32 _ _ (by decide)] at hf
    dsimp only at hf
    split at hf
    · cases hf
    · have := congrArg (fun o => o.map Prod.fst) hf
      simp at this
      exact g4 this.symm
theorem array_line {l : List Int} (h6 : l.length = 6) (hl : ∀ n ∈ l, 0 ≤ n ∧ n ≤ 65536) : lineB emptyS 0 (wordsB arrayW l) = some ⟨l, [], []⟩ := by
  rw [lineB, if_neg (by omega), fields_words (by decide) (fun n hn => by have := hl n hn; omega)]
  dsimp only
  rw [if_pos rfl, if_pos ⟨rfl, h6⟩]
  rfl
theorem texts_run (c : List Int) : ∀ (ts ts0 : List Bytes) (n : Nat) (r : List Bytes), 0 < n → linesB ⟨c, ts0, []⟩ n (ts.map lineT ++ r) = linesB ⟨c, ts0 ++ ts, []⟩ (n + ts.length) r
  | [], ts0, n, r, _ => by simp
  | t :: ts, ts0, n, r, hn => by
    rw [List.map_cons, List.cons_append, linesB, text_line hn rfl]
    dsimp only
    rw [texts_run c ts _ (n + 1) r (by omega), List.append_assoc, List.length_cons, List.cons_append, List.nil_append, show n + 1 + ts.length = n + (ts.length + 1) by omega]
theorem steps_run (c : List Int) (ts : List Bytes) {nt : Nat} (hnt : nt ≤ 16) : ∀ (ss ss0 : List StepD) (n : Nat) (r : List Bytes), 0 < n → (∀ x ∈ ss, stepB nt x = true) → linesB ⟨c, ts, ss0⟩ n (ss.map lineX ++ r) = linesB ⟨c, ts, ss0 ++ ss⟩ (n + ss.length) r
  | [], ss0, n, r, _, _ => by simp
  | x :: ss, ss0, n, r, hn, h => by
    rw [List.map_cons, List.cons_append, linesB, step_line hn hnt (h x (by simp))]
    dsimp only
    rw [steps_run c ts hnt ss _ (n + 1) r (by omega) fun y hy => h y (by simp [hy]), List.append_assoc, List.length_cons, List.cons_append, List.nil_append, show n + 1 + ss.length = n + (ss.length + 1) by omega]
/-- The beginning of a script, as far as its first lines tell. -/
def prefS (s : ScriptD) (k : Nat) : ScriptD := ⟨s.cfg, s.texts.take k, s.steps.take (k - s.texts.length)⟩
theorem pref_run {s : ScriptD} (h6 : s.cfg.length = 6) (h : OkS s) (k : Nat) : linesB emptyS 0 ((linesT s).take (k + 1)) = .ok (prefS s k) := by
  rw [linesT, List.take_succ_cons, List.take_append, List.length_map, ← List.map_take, ← List.map_take, linesB, array_line h6 h.cfg]
  dsimp only
  have := steps_run s.cfg (s.texts.take k) h.nt (s.steps.take (k - s.texts.length)) [] (1 + (s.texts.take k).length) [] (by omega) (fun x hx => h.stp x (List.mem_of_mem_take hx))
  rw [List.append_nil] at this
  rw [texts_run s.cfg (s.texts.take k) [] 1 _ (by omega), List.nil_append, this]
  rfl
theorem pref_ok {s : ScriptD} (h : OkS s) (k : Nat) : OkS (prefS s k) := by
  refine ⟨h.cfg, ?_, ?_, fun t ht => h.txt t (List.mem_of_mem_take ht), fun x hx => ?_⟩
  · simp only [prefS]; rw [List.length_take]; have := h.nt; omega
  · simp only [prefS]; rw [List.length_take]; have := h.ns; omega
  · have hx' : x ∈ s.steps.take (k - s.texts.length) := hx
    have hk : s.texts.length < k := by
      rcases Nat.lt_or_ge s.texts.length k with h | h
      · exact h
      · rw [Nat.sub_eq_zero_of_le h] at hx'; simp at hx'
    have e : (prefS s k).texts = s.texts := List.take_of_length_le (by omega)
    rw [e]
    exact h.stp x (List.mem_of_mem_take hx')
theorem pref_all (s : ScriptD) : prefS s (s.texts.length + s.steps.length) = s := by
  unfold prefS
  rw [List.take_of_length_le (by omega), List.take_of_length_le (by omega)]
theorem qc_free (c : UInt8) : (10 : UInt8) ∉ qc c := by
  unfold qc
  intro h
  split at h
  · rename_i hc
    rcases hc with hc | hc <;> rw [hc] at h <;> revert h <;> decide
  · split at h
    · have hx : ∀ n, n < 16 → (10 : UInt8) ≠ hexD n := fun n hn e => by
        have := congrArg UInt8.toNat e
        rw [hexD_toNat hn] at this
        change 10 = _ at this
        split at this <;> omega
      have hc : c.toNat < 256 := c.toNat_lt
      simp only [List.mem_cons, List.not_mem_nil, or_false] at h
      rcases h with h | h | h | h
      · exact absurd h (by decide)
      · exact absurd h (by decide)
      · exact hx _ (by omega) h
      · exact hx _ (by omega) h
    · rename_i hc
      rw [List.mem_singleton] at h
      rw [← h] at hc
      exact hc (.inl (by decide))
theorem words_free {w : Bytes} {l : List Int} (hw : (10 : UInt8) ∉ w) (hl : ∀ n ∈ l, 0 ≤ n) : (10 : UInt8) ∉ wordsB w l := by
  intro h
  rcases List.mem_append.1 h with h | h
  · exact hw h
  · obtain ⟨n, hn, h⟩ := List.mem_flatMap.1 h
    rcases List.mem_cons.1 h with h | h
    · exact absurd h (by decide)
    · exact itoa_free (hl n hn) (by decide) h
theorem lines_free {s : ScriptD} (h : OkS s) : ∀ x ∈ linesT s, (10 : UInt8) ∉ x := by
  intro x hx
  rcases List.mem_cons.1 hx with rfl | hx
  · exact words_free (by decide) fun n hn => (h.cfg n hn).1
  rcases List.mem_append.1 hx with hx | hx
  · obtain ⟨t, ht, rfl⟩ := List.mem_map.1 hx
    intro h
    rcases List.mem_append.1 h with h | h
    · exact absurd h (by decide)
    · rcases List.mem_cons.1 h with h | h
      · exact absurd h (by decide)
      · rcases List.mem_append.1 h with h | h
        · obtain ⟨c, hc, h⟩ := List.mem_flatMap.1 h
          exact qc_free c h
        · exact absurd h (by decide)
  · obtain ⟨y, hy, rfl⟩ := List.mem_map.1 hx
    obtain ⟨h1, h2, h3, h4⟩ := step_bounds h.nt (h.stp y hy)
    exact words_free (kind_ok h1 h2).2.1 fun n hn => (h4 n hn).1
/-- What is printed is parsed. -/
theorem parse_print {s : ScriptD} (h6 : s.cfg.length = 6) (h : OkS s) (hl : (printT s).length ≤ 200000) : parseB (printT s) = .ok s := by
  have hc : cutL (printT s) = (linesT s, []) := by
    have := cut_join (linesT s) [] (lines_free h) (by simp)
    rwa [List.append_nil] at this
  have hlen : (linesT s).length = s.texts.length + s.steps.length + 1 := by simp [linesT]
  have := pref_run h6 h (s.texts.length + s.steps.length)
  rw [List.take_of_length_le (by omega), pref_all] at this
  rw [parseB, if_neg (by omega), hc]
  dsimp only
  rw [this]
  dsimp only
  rw [if_neg (by simp [linesT]), if_neg (by rw [check_ok.2 h]; simp)]

theorem join_prefix : ∀ (l : List Bytes) (j : Nat), (∀ x ∈ l, (10 : UInt8) ∉ x) → ∃ m r, (joinT l).take j = joinT (l.take m) ++ r ∧ (10 : UInt8) ∉ r ∧ m ≤ l.length
  | [], j, _ => ⟨0, [], by simp [joinT], by simp, Nat.le_refl _⟩
  | x :: l, j, h => by
    have e : joinT (x :: l) = x ++ 10 :: joinT l := by simp [joinT]
    rw [e]
    rcases Nat.lt_or_ge x.length j with hj | hj
    · obtain ⟨m, r, h1, h2, h3⟩ := join_prefix l (j - x.length - 1) fun y hy => h y (by simp [hy])
      refine ⟨m + 1, r, ?_, h2, by simpa using h3⟩
      rw [List.take_append, List.take_of_length_le (by omega), show j - x.length = (j - x.length - 1) + 1 by omega, List.take_succ_cons, h1, List.take_succ_cons]
      simp [joinT]
    · refine ⟨0, x.take j, ?_, fun h' => h x (by simp) (List.mem_of_mem_take h'), Nat.zero_le _⟩
      rw [List.take_append_of_le_length hj]
      rfl
theorem join_count : ∀ l : List Bytes, (∀ x ∈ l, (10 : UInt8) ∉ x) → (joinT l).count 10 = l.length
  | [], _ => rfl
  | x :: l, h => by
    have e : joinT (x :: l) = x ++ 10 :: joinT l := by simp [joinT]
    rw [e, List.count_append, List.count_cons, join_count l fun y hy => h y (by simp [hy]), List.count_eq_zero.2 (h x (by simp)), List.length_cons]
    simp
theorem join_last : ∀ l : List Bytes, l ≠ [] → (joinT l).getLast? = some 10
  | [], h => absurd rfl h
  | [x], _ => by simp [joinT]
  | x :: y :: l, _ => by
    have e : joinT (x :: y :: l) = (x ++ [10]) ++ joinT (y :: l) := by simp [joinT]
    have := join_last (y :: l) (by simp)
    rw [e, List.getLast?_append, this]
    rfl
/-- A prefix of a printed text: parsed as the beginning of the script, or refused in its last line. -/
theorem parse_prefix {s : ScriptD} (h6 : s.cfg.length = 6) (h : OkS s) (hl : (printT s).length ≤ 200000) (j : Nat) :
    if ((printT s).take j).getLast? = some 10 then parseB ((printT s).take j) = .ok (prefS s (((printT s).take j).count 10 - 1)) ∧ 1 ≤ ((printT s).take j).count 10
    else parseB ((printT s).take j) = .error (((printT s).take j).count 10, 3) := by
  obtain ⟨m, r, h1, h2, h3⟩ := join_prefix (linesT s) j (lines_free h)
  have hf : ∀ x ∈ (linesT s).take m, (10 : UInt8) ∉ x := fun x hx => lines_free h x (List.mem_of_mem_take hx)
  have hc := cut_join ((linesT s).take m) r hf h2
  have hn : (joinT ((linesT s).take m) ++ r).count 10 = m := by
    rw [List.count_append, join_count _ hf, List.count_eq_zero.2 h2, List.length_take]; omega
  have hlen : (joinT ((linesT s).take m) ++ r).length ≤ 200000 := by
    rw [← h1, List.length_take]; show min j (printT s).length ≤ _; omega
  show if ((joinT (linesT s)).take j).getLast? = _ then _ else _
  unfold printT
  rw [h1, hn]
  cases m with
  | zero =>
    rw [List.take_zero] at hc hlen ⊢
    rw [if_neg]
    · rw [parseB, if_neg (by omega), hc]
      dsimp only
      rw [linesB]
      dsimp only
      rw [if_pos (.inl rfl)]
      rfl
    · intro e
      have : joinT [] ++ r = r := rfl
      rw [this] at e
      exact h2 (List.mem_of_getLast? e)
  | succ k =>
    have hp := pref_run h6 h k
    have hne : (linesT s).take (k + 1) ≠ [] := by rw [linesT, List.take_succ_cons]; simp
    have hlm : ((linesT s).take (k + 1)).length = k + 1 := by rw [List.length_take]; omega
    by_cases hr : r = []
    · subst hr
      rw [List.append_nil, join_last _ hne, if_pos rfl, Nat.add_sub_cancel]
      rw [List.append_nil] at hc hlen
      refine ⟨?_, by omega⟩
      rw [parseB, if_neg (by omega), hc]
      dsimp only
      rw [hp]
      dsimp only
      rw [if_neg (by simp [hne]), if_neg (by rw [check_ok.2 (pref_ok h k)]; simp)]
    · rw [if_neg, parseB, if_neg (by omega), hc]
      · dsimp only
        rw [hp]
        dsimp only
        rw [if_pos (.inr hr), hlm]
      · intro e
        rw [List.getLast?_append] at e
        obtain ⟨c, hcl⟩ : ∃ c, r.getLast? = some c := ⟨_, List.getLast?_eq_some_getLast hr⟩
        rw [hcl] at e
        have : c = 10 := by simpa using e
        exact h2 (this ▸ List.mem_of_getLast? hcl)

/-- After some lines: they are those of the script. -/
def Read (s : ScriptD) (ls : List Bytes) : Prop := (ls = [] ∧ s = emptyS) ∨ (ls = linesT s ∧ s.cfg.length = 6)
theorem read_step {s s' : ScriptD} {ls : List Bytes} {x : Bytes} (h : Read s ls) (hx : lineB s ls.length x = some s') : Read s' (ls ++ [x]) := by
  rw [lineB] at hx
  split at hx
  · rename_i g
    split at hx
    · rename_i g2
      obtain rfl : (⟨s.cfg, s.texts ++ [rawL (x.drop 6)], s.steps⟩ : ScriptD) = s' := by simpa using hx
      rcases h with ⟨h, -⟩ | ⟨h, h6⟩
      · rw [h] at g; simp at g
      · refine .inr ⟨?_, h6⟩
        have e : lineT (rawL (x.drop 6)) = x := by rw [lineT, g2.1, ← g.2, List.take_append_drop]
        rw [h, linesT, linesT, g2.2]
        simp [e]
    · cases hx
  · split at hx
    · cases hx
    · rename_i w l hf
      obtain ⟨f1, f2, f3⟩ := fields_can hf
      split at hx
      · rename_i h0
        split at hx
        · rename_i g
          obtain rfl : (⟨l, s.texts, s.steps⟩ : ScriptD) = s' := by simpa using hx
          rcases h with ⟨h, h'⟩ | ⟨h, h6⟩
          · subst h'
            refine .inr ⟨?_, g.2⟩
            rw [h, f1, g.1]
            rfl
          · rw [h] at h0; simp [linesT] at h0
        · cases hx
      · rename_i h0
        split at hx
        · rename_i g
          obtain rfl : (⟨s.cfg, s.texts, s.steps ++ [⟨kindOf w, l⟩]⟩ : ScriptD) = s' := by simpa using hx
          rcases h with ⟨h, h'⟩ | ⟨h, h6⟩
          · rw [h] at h0; simp at h0
          · refine .inr ⟨?_, h6⟩
            have hk := fits_kind g
            have e : lineX ⟨kindOf w, l⟩ = x := by rw [lineX, f1, name_kind (by omega) (by omega)]
            rw [h, linesT, linesT]
            simp [e]
        · cases hx
theorem read_all : ∀ (l ls : List Bytes) (s s' : ScriptD), Read s ls → linesB s ls.length l = .ok s' → Read s' (ls ++ l)
  | [], ls, s, s', h, hl => by
    obtain rfl : s = s' := by simpa [linesB] using hl
    rwa [List.append_nil]
  | x :: l, ls, s, s', h, hl => by
    rw [linesB] at hl
    split at hl
    · cases hl
    · rename_i s1 h1
      have := read_all l (ls ++ [x]) s1 s' (read_step h h1) (by rw [List.length_append]; exact hl)
      rwa [List.append_assoc] at this
/-- What is parsed is a printed text. -/
theorem print_parse {t : Bytes} {s : ScriptD} (h : parseB t = .ok s) : printT s = t ∧ s.cfg.length = 6 ∧ OkS s ∧ t.length ≤ 200000 := by
  rw [parseB] at h
  split at h
  · cases h
  rename_i hlen
  split at h
  · cases h
  rename_i s1 hl
  split at h
  · cases h
  rename_i hr
  split at h
  · cases h
  rename_i hc
  obtain rfl : s1 = s := by simpa using h
  have hne : (cutL t).1 ≠ [] := fun e => hr (.inl e)
  have hre : (cutL t).2 = [] := Classical.not_not.1 fun e => hr (.inr e)
  have := read_all (cutL t).1 [] emptyS s1 (.inl ⟨rfl, rfl⟩) hl
  rw [List.nil_append] at this
  rcases this with ⟨e, -⟩ | ⟨e, h6⟩
  · exact absurd e hne
  · refine ⟨?_, h6, check_ok.1 (Classical.not_not.1 hc), by omega⟩
    have := (join_cut t).1
    rw [hre, List.append_nil, e] at this
    exact this.symm
theorem unit_len (k : Int) : (unitB k).length = 32 := by
  unfold unitB
  simp [bigB_length]
theorem unit_inj {j k : Int} (hj : I64 j) (hk : I64 k) : unitB j = unitB k ↔ j = k := by
  refine ⟨fun h => ?_, fun h => by rw [h]⟩
  have ht : ∀ n : Int, (unitB n).take 8 = bigB (n % 18446744073709551616).toNat 8 := fun n => by
    unfold unitB
    rw [show (4 : Nat) = 3 + 1 from rfl, List.replicate_succ, List.flatten_cons, List.take_left' (bigB_length _ _)]
  have h8 := congrArg (fun l => valB (l.take 8)) h
  rw [ht, ht, val_big, val_big] at h8
  obtain ⟨a1, a2⟩ := hj
  obtain ⟨b1, b2⟩ := hk
  have : (256 : Nat) ^ 8 = 18446744073709551616 := by decide
  rw [this] at h8
  omega
end Go.Proofs.YtdfhbnfhkckkbaaGreatDoor
