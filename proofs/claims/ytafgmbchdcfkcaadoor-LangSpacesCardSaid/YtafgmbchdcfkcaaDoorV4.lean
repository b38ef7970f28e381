/-
  A text without a closing brace is no code; the tokens of a printed code with other gaps between them are read as the same code. No program is run here.
-/
import Derived.Test.YtafgmbchdcfkcaaDoorV3
namespace Go.Proofs.YtafgmbchdcfkcaaDoor
open Go

/-- How a part of the parser ends, seen from its tokens. -/
def Fits {α : Type} (ts : List Tok) : PR α → Prop
  | .ok _ a => a <:+ ts
  | .bad p => p = 0 ∨ ∃ T ∈ ts, T.at_ = p
/-- A part of the parser that ends in an error. -/
def Stops {β : Type} (ts : List Tok) (y : PR β) : Prop := ∃ p, y = .bad p ∧ (p = 0 ∨ ∃ T ∈ ts, T.at_ = p)
section
variable {α β : Type} {ts : List Tok}
theorem Fits.next {x : PR α} {f : α → List Tok → PR β} (h : Fits ts x) (hf : ∀ a b, Fits b (f a b)) : Fits ts (x.next f) := by
  cases x with
  | bad p => exact h
  | ok a b =>
    rw [PR.next_ok]
    have h' : b <:+ ts := h
    have := hf a b
    cases hy : f a b with
    | ok c d => rw [hy] at this; exact List.IsSuffix.trans this h'
    | bad p =>
      rw [hy] at this
      rcases this with e | ⟨T, hT, e⟩
      · exact .inl e
      · exact .inr ⟨T, h'.mem hT, e⟩
theorem Fits.stop {x : PR α} {f : α → List Tok → PR β} (h : Fits ts x) (hf : ∀ a b, b <:+ ts → Stops b (f a b)) : Stops ts (x.next f) := by
  cases x with
  | bad p => exact ⟨p, rfl, h⟩
  | ok a b =>
    rw [PR.next_ok]
    have h' : b <:+ ts := h
    obtain ⟨p, e, hp⟩ := hf a b h'
    refine ⟨p, e, ?_⟩
    rcases hp with e | ⟨T, hT, e⟩
    · exact .inl e
    · exact .inr ⟨T, h'.mem hT, e⟩
theorem must_fits (s : Bytes) (ts : List Tok) : Fits ts (mustT s ts) := by
  cases ts with
  | nil => exact .inl rfl
  | cons T ts =>
    rw [mustT]
    split
    · exact List.suffix_cons T ts
    · exact .inr ⟨T, by simp, rfl⟩
theorem kind_fits (k : Nat) (ts : List Tok) : Fits ts (kindT k ts) := by
  cases ts with
  | nil => exact .inl rfl
  | cons T ts =>
    rw [kindT]
    split
    · exact List.suffix_cons T ts
    · exact .inr ⟨T, by simp, rfl⟩
theorem ok_fits {a : α} (ts : List Tok) : Fits ts (PR.ok a ts) := List.suffix_refl ts
theorem nums_fits (ts : List Tok) : Fits ts (numsT ts) := (kind_fits 2 ts).next fun _ a => (List.dropWhile_suffix _ : a.dropWhile isN <:+ a)
theorem one_fits (kw : Bytes) (ts : List Tok) : Fits ts (oneT kw ts) := (must_fits kw ts).next fun _ a => (kind_fits 2 a).next fun _ b => (must_fits kSemi b).next fun _ c => ok_fits c
theorem end_fits (p : Nat) (loc : Bool) (idx ts : List Tok) : Fits ts (rowEnd p loc idx ts) := (nums_fits ts).next fun _ d => (must_fits kSemi d).next fun _ e => ok_fits e
theorem row_fits (ts : List Tok) : Fits ts (rowT ts) := by
  unfold rowT
  split
  · exact (must_fits kLocal ts).next fun _ a => (nums_fits a).next fun is b => (must_fits kColon b).next fun _ c => end_fits _ _ _ c
  · exact (must_fits kParity ts).next fun _ a => end_fits _ _ _ a
theorem rows_fits : ∀ (f : Nat) (ts : List Tok), Fits ts (rowsT f ts)
  | 0, ts => ok_fits ts
  | f + 1, ts => by
    rw [rowsT]
    split
    · exact (row_fits ts).next fun R a => (rows_fits f a).next fun Rs b => ok_fits b
    · exact ok_fits ts
theorem dom_fits (ts : List Tok) : Fits ts (domT ts) := by
  unfold domT
  split
  · exact (one_fits kDomain ts).next fun d a => ok_fits a
  · exact ok_fits ts
end
theorem code_stops {ts : List Tok} (h : ∀ T ∈ ts, T.text ≠ kClose) : Stops ts (codeT ts) := by
  have last : ∀ (a : List Tok) (f : Nat → List Tok → PR Src), a <:+ ts → Stops a ((mustT kClose a).next f) := fun a f ha => by
    cases a with
    | nil => exact ⟨0, rfl, .inl rfl⟩
    | cons T a =>
      have hT := h T (ha.mem (by simp))
      refine ⟨T.at_, ?_, .inr ⟨T, by simp, rfl⟩⟩
      rw [mustT, if_neg (by simpa using hT)]; rfl
  unfold codeT
  exact (must_fits kCode ts).stop fun _ a ha => (kind_fits 1 a).stop fun nm b hb => (must_fits kOpen b).stop fun _ c hc => (one_fits kField c).stop fun fl d hd => (one_fits kData d).stop fun dt e he =>
    (row_fits e).stop fun R f hf => (rows_fits f.length f).stop fun Rs g hg => (dom_fits g).stop fun dm i hi => last i _ (hi.trans (hg.trans (hf.trans (he.trans (hd.trans (hc.trans (hb.trans ha)))))))
theorem toksF_in : ∀ (f : Nat) (s : Bytes) (a : Nat) (T : Tok), T ∈ toksF f s a → T.at_ ≤ a + s.length ∧ ∀ c ∈ T.text, c ∈ s
  | 0, _, _, T, h => by cases h
  | f + 1, s, a, T, h => by
    have hk := skipS_le false s
    have hd : ∀ c, c ∈ s.drop (skipS false s) → c ∈ s := fun c hc => List.mem_of_mem_drop hc
    have h1 : (lexT (s.drop (skipS false s)) (a + skipS false s)).at_ ≤ a + s.length ∧ ∀ c ∈ (lexT (s.drop (skipS false s)) (a + skipS false s)).text, c ∈ s :=
      ⟨by simp only [lexT]; omega, fun c hc => hd c (List.mem_of_mem_take hc)⟩
    simp only [toksF] at h
    split at h
    · rw [List.mem_singleton] at h; rw [h]; exact h1
    · rcases List.mem_cons.1 h with h | h
      · rw [h]; exact h1
      · have hlen := lexT_len (s.drop (skipS false s)) (a + skipS false s)
        have hle := lexLen_le (s.drop (skipS false s))
        rw [List.length_drop] at hle
        obtain ⟨i1, i2⟩ := toksF_in f _ _ T h
        refine ⟨by rw [List.length_drop] at i1; omega, fun c hc => List.mem_of_mem_drop (i2 c hc)⟩
/-- A text without a closing brace: a syntax error, within the text or at its end. -/
theorem parse_open {t : Bytes} (ht : t.length ≤ 2000) (h : (125 : UInt8) ∉ t) : ∃ p, p ≤ t.length ∧ parseB true t = .bad p 3 := by
  have hin := fun T (hT : T ∈ toks t 0) => toksF_in _ _ _ T hT
  obtain ⟨p, e, hp⟩ := code_stops (ts := toks t 0) fun T hT e => h (by
    have := (hin T hT).2 125 (by rw [e]; simp [kClose])
    rwa [List.drop_zero] at this)
  refine ⟨p, ?_, ?_⟩
  · rcases hp with e | ⟨T, hT, e⟩
    · omega
    · have := (hin T hT).1
      rw [List.drop_zero] at this
      omega
  · unfold parseB
    rw [if_neg (by omega), srcsT, if_pos (.inr ⟨rfl, rfl⟩), if_neg (fun e => e.2 rfl), e]
    rfl
/-- A prefix that ends ahead of the first closing brace. -/
theorem parse_prefix {s : Bytes} (hs : s.length ≤ 2000) {n : Nat} (hn : (n : Int) ≤ Lib.indexByte s 125) : ∃ p, p ≤ n ∧ n ≤ s.length ∧ parseB true (s.take n) = .bad p 3 := by
  rw [indexByte_eq] at hn
  split at hn
  · have hle : n ≤ (s.takeWhile (· != 125)).length := by omega
    have h2 : (s.takeWhile (· != 125)).length ≤ s.length := (List.takeWhile_sublist _).length_le
    have hno : (125 : UInt8) ∉ s.take n := fun hm => by
      have e : s.take n = (s.takeWhile (· != 125)).take n := by
        have hp := List.prefix_iff_eq_take.1 (List.takeWhile_prefix (· != (125 : UInt8)) (l := s))
        rw [hp, List.take_take, Nat.min_eq_left hle]
      rw [e] at hm
      have hm2 := List.mem_of_mem_take hm
      obtain ⟨i, hi, he⟩ := List.mem_iff_getElem.1 hm2
      obtain ⟨c, hc, hp⟩ := takeWhile_at s i hi
      rw [← takeWhile_get s i hi, List.getElem?_eq_getElem hi, he] at hc
      injection hc with hc
      rw [← hc] at hp
      exact absurd hp (by decide)
    obtain ⟨p, hp, e⟩ := parse_open (t := s.take n) (by rw [List.length_take]; omega) hno
    rw [List.length_take] at hp
    exact ⟨p, by omega, by omega, e⟩
  · omega

/-! Other gaps. -/
/-- A token that can stand in a printed code. -/
def LxK (k : Key) : Prop := (k.1 = 1 ∧ wordB k.2.1 = true ∧ k.2.2 = 0) ∨ (k.1 = 2 ∧ numB k.2.1 ∧ k.2.2 = valD k.2.1) ∨ (k.1 = 3 ∧ ∃ c, isS c = true ∧ k.2.1 = [c] ∧ k.2.2 = 0)
def gapsL : List Bytes := [[32], [9], [10], [32, 32, 10], [32, 35, 32, 99, 111, 100, 101, 32, 125, 10]]
def gapAt (n : Nat) : Bytes := (gapsL[n / 2 % 5]?).getD [32]
def gapIf (last n : Nat) (k : Nat) : Bytes := if (last < 3 ∧ k < 3) ∨ n % 2 = 1 then gapAt n else []
/-- The tokens, with other gaps. -/
def weave : Nat → List Nat → List Key → Bytes
  | _, _, [] => []
  | last, cs, k :: ks => gapIf last (cs.head?.getD 0) k.1 ++ (k.2.1 ++ weave k.1 cs.tail ks)
theorem gap_at (n : Nat) : Gap (gapAt n) ∧ gapAt n ≠ [] ∧ Free (gapAt n) := by
  have h : ∀ g ∈ gapsL, Gap g ∧ g ≠ [] ∧ Free g := by
    intro g hg
    simp only [gapsL, List.mem_cons, List.not_mem_nil, or_false] at hg
    rcases hg with rfl | rfl | rfl | rfl | rfl
    · exact ⟨gap_one rfl, by simp, free_cons rfl _⟩
    · exact ⟨gap_one rfl, by simp, free_cons rfl _⟩
    · exact ⟨gap_one rfl, by simp, free_cons rfl _⟩
    · exact ⟨gap_blank rfl (gap_blank rfl (gap_one rfl)), by simp, free_cons rfl _⟩
    · refine ⟨fun s => ?_, by simp, free_cons rfl _⟩
      simp [skipS, isB]
      omega
  have hlt : n / 2 % 5 < gapsL.length := Nat.mod_lt _ (by decide)
  unfold gapAt
  rw [List.getElem?_eq_getElem hlt]
  exact h _ (List.getElem_mem hlt)
theorem gap_if (last n k : Nat) : Gap (gapIf last n k) ∧ Free (gapIf last n k) := by
  unfold gapIf
  split
  · exact ⟨(gap_at n).1, (gap_at n).2.2⟩
  · exact ⟨gap_nil, free_nil⟩
theorem weave_free {last : Nat} (hl : last < 3) : ∀ (l : List Key) (cs : List Nat), (∀ k ∈ l, LxK k) → Free (weave last cs (l ++ [eK]))
  | [], cs, _ => by
    show Free (gapIf last _ 4 ++ ([] ++ []))
    exact free_app (gap_if _ _ _).2 free_nil
  | k :: l, cs, h => by
    rw [List.cons_append, weave]
    by_cases hk : k.1 < 3
    · have e : gapIf last (cs.head?.getD 0) k.1 = gapAt (cs.head?.getD 0) := if_pos (.inl ⟨hl, hk⟩)
      rw [e]
      obtain ⟨-, h1, h2⟩ := gap_at (cs.head?.getD 0)
      cases hg : gapAt (cs.head?.getD 0) with
      | nil => exact absurd hg h1
      | cons c r => rw [hg] at h2; exact free_cons (h2 c r rfl) _
    · refine free_app (gap_if _ _ _).2 ?_
      rcases h k (by simp) with ⟨h1, _⟩ | ⟨h1, _⟩ | ⟨_, c, hc, h2, _⟩
      · omega
      · omega
      · rw [h2]
        refine free_cons ?_ _
        unfold isS at hc
        simp only [Bool.or_eq_true, beq_iff_eq] at hc
        rcases hc with ((rfl | rfl) | rfl) | rfl <;> rfl
theorem weave_keys : ∀ (l : List Key) (last : Nat) (cs : List Nat), (∀ k ∈ l, LxK k) → keys (weave last cs (l ++ [eK])) = l ++ [eK]
  | [], last, cs, _ => by
    show keys (gapIf last _ 4 ++ ([] ++ [])) = _
    rw [keys_gap (gap_if _ _ _).1]
    exact keys_nil
  | k :: l, last, cs, h => by
    have ih := weave_keys l k.1 cs.tail (fun k' hk' => h k' (by simp [hk']))
    rw [List.cons_append, weave, keys_gap (gap_if _ _ _).1]
    obtain ⟨a, x, n⟩ := k
    rcases h (a, x, n) (by simp) with ⟨h1, h2, h3⟩ | ⟨h1, h2, h3⟩ | ⟨h1, c, h2, h3, h4⟩
    · dsimp only at h1 h2 h3 ih ⊢
      subst h1; subst h3
      rw [keys_word h2 (weave_free (by omega) l _ (fun k' hk' => h k' (by simp [hk']))), ih]
    · dsimp only at h1 h2 h3 ih ⊢
      subst h1; subst h3
      rw [keys_num h2 (weave_free (by omega) l _ (fun k' hk' => h k' (by simp [hk']))), ih]
    · dsimp only at h1 h2 h3 h4 ih ⊢
      subst h1; subst h3; subst h4
      rw [List.cons_append, List.nil_append, keys_sign h2, ih]
theorem lx_w {x : Bytes} (h : wordB x = true) : LxK (wK x) := .inl ⟨rfl, h, rfl⟩
theorem lx_s {c : UInt8} (h : isS c = true) : LxK (sK c) := .inr (.inr ⟨rfl, c, h, rfl, rfl⟩)
theorem lx_n {n : Nat} (h : n < 100000) : LxK (nK n) := .inr (.inl ⟨rfl, numB_dec h, (decD_spec n).2.2.1.symm⟩)
theorem lx_row {d : Nat} {r : List Int} (hd : d ≤ 31) (h : RowFine d 65535 r) : ∀ k ∈ rowK r, LxK k := by
  have hv : ∀ n ∈ posV r, LxK (nK n) := fun n hn => by
    obtain ⟨x, hx, hp, e⟩ := posV_mem hn
    have := (h.rng x hx).2
    exact lx_n (by omega)
  have hi : ∀ n ∈ posI 0 r, LxK (nK n) := fun n hn => by
    have h1 := posI_lt r 0 n hn
    have h2 := h.len
    exact lx_n (by omega)
  intro k hk
  unfold rowK at hk
  split at hk
  · rcases List.mem_cons.1 hk with rfl | hk
    · exact lx_w rfl
    rcases List.mem_append.1 hk with hk | hk
    · obtain ⟨n, hn, rfl⟩ := List.mem_map.1 hk; exact hi n hn
    rcases List.mem_cons.1 hk with rfl | hk
    · exact lx_s rfl
    rcases List.mem_append.1 hk with hk | hk
    · obtain ⟨n, hn, rfl⟩ := List.mem_map.1 hk; exact hv n hn
    · rw [List.mem_singleton] at hk; rw [hk]; exact lx_s rfl
  · rcases List.mem_cons.1 hk with rfl | hk
    · exact lx_w rfl
    rcases List.mem_append.1 hk with hk | hk
    · obtain ⟨n, hn, rfl⟩ := List.mem_map.1 hk; exact hv n hn
    · rw [List.mem_singleton] at hk; rw [hk]; exact lx_s rfl
theorem lx_code {C : Code} (h : Ok C) : ∀ k ∈ keysC C, LxK k := by
  have hd1 := h.d1
  have hd2 := h.d2
  have hw := h.width
  have hm1 := h.dom1
  have hm2 := h.dom2
  have hf : C.field.toNat < 100000 := by rcases h.field with e | e <;> rw [e] <;> decide
  have hr : ∀ r ∈ C.par, RowFine C.data.toNat 65535 r := fun r hr => by
    have := row_fine h hr
    refine ⟨this.len, fun x hx => ?_, this.pos⟩
    have ht : topN C.field.toNat ≤ 65535 := by unfold topN; split <;> simp
    have := this.rng x hx
    omega
  intro k hk
  unfold keysC at hk
  simp only [List.mem_cons, List.mem_append, List.not_mem_nil, or_false, List.mem_flatMap] at hk
  rcases hk with rfl | rfl | rfl | rfl | rfl | rfl | rfl | rfl | rfl | ⟨r, hr', hk⟩ | rfl | rfl | rfl | rfl
  · exact lx_w rfl
  · exact lx_w h.word
  · exact lx_s rfl
  · exact lx_w rfl
  · exact lx_n hf
  · exact lx_s rfl
  · exact lx_w rfl
  · exact lx_n (by omega)
  · exact lx_s rfl
  · exact lx_row (by omega) (hr r hr') k hk
  · exact lx_w rfl
  · exact lx_n (by omega)
  · exact lx_s rfl
  · exact lx_s rfl
/-- With other gaps between its tokens, the printed code is read as the same. -/
theorem parse_weave {C : Code} (h : Ok C) (last : Nat) (cs : List Nat) (hl : (weave last cs (keys (printT C))).length ≤ 2000) : parseB true (weave last cs (keys (printT C))) = .ok [C] := by
  refine parse_one h hl ?_
  rw [keys_text h]
  exact weave_keys _ _ _ (lx_code h)
end Go.Proofs.YtafgmbchdcfkcaaDoor
