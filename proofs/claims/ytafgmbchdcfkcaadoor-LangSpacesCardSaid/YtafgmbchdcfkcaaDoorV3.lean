/-
  What the checks make of the tokens of a printed code: the code; so the parser gives back what was printed. No program is run here.
-/
import Derived.Test.YtafgmbchdcfkcaaDoorV2
namespace Go.Proofs.YtafgmbchdcfkcaaDoor
open Go

theorem posV_ne : ∀ {r : List Int}, (∃ x ∈ r, 0 < x) → posV r ≠ []
  | [], ⟨x, hx, _⟩ => by cases hx
  | y :: r, ⟨x, hx, hp⟩ => by
    rw [posV]
    split
    · simp
    · rename_i hy
      rcases List.mem_cons.1 hx with rfl | hx
      · exact absurd hp hy
      · exact posV_ne ⟨x, hx, hp⟩
theorem posI_lt : ∀ (r : List Int) (j : Nat), ∀ k ∈ posI j r, j ≤ k ∧ k < j + r.length
  | [], _, k, h => by cases h
  | x :: r, j, k, h => by
    rw [posI] at h
    have ih := posI_lt r (j + 1) k
    rw [List.length_cons]
    split at h
    · rcases List.mem_cons.1 h with rfl | h
      · omega
      · have := ih h; omega
    · have := ih h; omega
theorem posI_len : ∀ (r : List Int) (j : Nat), (posI j r).length = (posV r).length
  | [], _ => rfl
  | x :: r, j => by
    have ih := posI_len r (j + 1)
    rw [posI, posV]
    split
    · rw [List.length_cons, List.length_cons, ih]
    · exact ih
theorem posV_mem : ∀ {r : List Int} {n : Nat}, n ∈ posV r → ∃ x ∈ r, 0 < x ∧ n = x.toNat
  | [], n, h => by cases h
  | y :: r, n, h => by
    rw [posV] at h
    split at h
    · rename_i hy
      rcases List.mem_cons.1 h with rfl | h
      · exact ⟨y, by simp, hy, rfl⟩
      · obtain ⟨x, hx, h1⟩ := posV_mem h
        exact ⟨x, by simp [hx], h1⟩
    · obtain ⟨x, hx, h1⟩ := posV_mem h
      exact ⟨x, by simp [hx], h1⟩
theorem posV_all : ∀ {r : List Int}, (∀ x ∈ r, 0 < x) → posV r = r.map Int.toNat
  | [], _ => rfl
  | x :: r, h => by rw [posV, if_pos (h x (by simp)), posV_all (fun y hy => h y (by simp [hy])), List.map_cons]
theorem idxBad_k {data : Nat} : ∀ (r : List Int) (j : Nat) (ts : List Tok) (last : Int), ts.map Tok.n = posI j r → j + r.length ≤ data → last < (j : Int) → idxBad data last ts = none
  | [], _, ts, _, h, _, _ => by
    rw [posI, List.map_eq_nil_iff] at h
    rw [h]; rfl
  | x :: r, j, ts, last, h, hd, hl => by
    rw [posI] at h
    rw [List.length_cons] at hd
    split at h
    · cases ts with
      | nil => cases h
      | cons T ts =>
        rw [List.map_cons] at h
        injection h with h1 h2
        rw [idxBad, if_pos (by omega)]
        exact idxBad_k r (j + 1) ts _ h2 (by omega) (by omega)
    · exact idxBad_k r (j + 1) ts last h (by omega) (by omega)
theorem coefBad_k {loc : Bool} {top : Nat} : ∀ (ts : List Tok), (∀ T ∈ ts, T.n ≤ top ∧ T.n ≠ 0) → coefBad loc top ts = none
  | [], _ => rfl
  | T :: ts, h => by
    have := h T (by simp)
    rw [coefBad, if_pos ⟨this.1, fun e => this.2 e.2⟩]
    exact coefBad_k ts (fun U hU => h U (by simp [hU]))
theorem sumN_k {ts : List Tok} (hne : ts ≠ []) (h : ∀ T ∈ ts, T.n ≠ 0) : sumN ts ≠ 0 := by
  cases ts with
  | nil => exact absurd rfl hne
  | cons T ts =>
    have := h T (by simp)
    rw [sumN]; omega
theorem fill_loc (idx : List Tok) : ∀ (r' pre : List Int) (j : Nat) (cs : List Tok), (∀ x ∈ r', 0 ≤ x) → cs.map Tok.n = posV r' → (idx.drop j).map Tok.n = posI pre.length r' → fillL true idx j cs (pre ++ List.replicate r'.length 0) = pre ++ r'
  | [], pre, j, cs, _, hc, _ => by
    rw [posV, List.map_eq_nil_iff] at hc
    rw [hc]; rfl
  | x :: r', pre, j, cs, h0, hc, hi => by
    have hx := h0 x (by simp)
    rw [posV] at hc
    rw [posI] at hi
    rw [List.length_cons, List.replicate_succ]
    by_cases hp : 0 < x
    · rw [if_pos hp] at hc hi
      cases cs with
      | nil => cases hc
      | cons T cs =>
        rw [List.map_cons] at hc
        injection hc with hc1 hc2
        have hj : j < idx.length := by
          rcases Nat.lt_or_ge j idx.length with h | h
          · exact h
          · rw [List.drop_of_length_le h] at hi; cases hi
        rw [List.drop_eq_getElem_cons hj, List.map_cons] at hi
        injection hi with hi1 hi2
        have hat : atJ true idx j = pre.length := by
          unfold atJ
          rw [if_pos rfl, List.getElem?_eq_getElem hj]
          exact hi1
        rw [fillL, hat, List.set_append_right _ _ (Nat.le_refl _), Nat.sub_self, List.set_cons_zero]
        have ex : ((T.n : Nat) : Int) = x := by rw [hc1]; omega
        rw [ex]
        have := fill_loc idx r' (pre ++ [x]) (j + 1) cs (fun y hy => h0 y (by simp [hy])) hc2 (by rw [hi2, List.length_append]; rfl)
        rw [List.append_assoc, List.append_assoc] at this
        exact this
    · rw [if_neg hp] at hc hi
      obtain rfl : x = 0 := by omega
      have := fill_loc idx r' (pre ++ [0]) j cs (fun y hy => h0 y (by simp [hy])) hc (by rw [hi, List.length_append]; rfl)
      rw [List.append_assoc, List.append_assoc] at this
      exact this
theorem fill_par (idx : List Tok) : ∀ (r' pre : List Int) (cs : List Tok), (∀ x ∈ r', 0 ≤ x) → cs.map Tok.n = r'.map Int.toNat → fillL false idx pre.length cs (pre ++ List.replicate r'.length 0) = pre ++ r'
  | [], pre, cs, _, hc => by
    rw [List.map_nil, List.map_eq_nil_iff] at hc
    rw [hc]; rfl
  | x :: r', pre, cs, h0, hc => by
    have hx := h0 x (by simp)
    cases cs with
    | nil => cases hc
    | cons T cs =>
      rw [List.map_cons, List.map_cons] at hc
      injection hc with hc1 hc2
      have hat : atJ false idx pre.length = pre.length := rfl
      rw [fillL, hat, List.length_cons, List.replicate_succ, List.set_append_right _ _ (Nat.le_refl _), Nat.sub_self, List.set_cons_zero]
      have ex : ((T.n : Nat) : Int) = x := by rw [hc1]; omega
      rw [ex]
      have := fill_par idx r' (pre ++ [x]) cs (fun y hy => h0 y (by simp [hy])) hc2
      rw [List.append_assoc, List.append_assoc, List.length_append] at this
      exact this
/-- What a row must be. -/
structure RowFine (d top : Nat) (r : List Int) : Prop where
  len : r.length = d
  rng : ∀ x ∈ r, 0 ≤ x ∧ x ≤ (top : Int)
  pos : ∃ x ∈ r, 0 < x
theorem buildRow_k {R : Row} {r : List Int} {d top : Nat} (hR : RowV R r) (hr : RowFine d top r) : buildRow R d top = .ok r := by
  have hpv := posV_ne hr.pos
  have hlen : R.coefs.length = (posV r).length := by rw [← hR.coefs, List.length_map]
  have hcs : ∀ T ∈ R.coefs, T.n ≤ top ∧ T.n ≠ 0 := fun T hT => by
    have : T.n ∈ posV r := by rw [← hR.coefs]; exact List.mem_map.2 ⟨T, hT, rfl⟩
    obtain ⟨x, hx, hp, he⟩ := posV_mem this
    have := hr.rng x hx
    omega
  have hne : R.coefs ≠ [] := fun e => by rw [e] at hlen; exact hpv (List.length_eq_zero_iff.1 hlen.symm)
  unfold buildRow
  by_cases h0 : (0 : Int) ∈ r
  · have hl : R.loc = true := by rw [hR.loc]; simp [h0]
    have hi := hR.idx hl
    rw [idxBad_k r 0 R.idx (-1) hi (by rw [Nat.zero_add, hr.len]; exact Nat.le_refl _) (by omega)]
    dsimp only
    have hil : R.idx.length = (posV r).length := by rw [← posI_len r 0, ← hi, List.length_map]
    rw [if_neg (by unfold wantN; rw [if_pos hl]; omega), coefBad_k R.coefs hcs]
    dsimp only
    rw [if_neg (sumN_k hne fun T hT => (hcs T hT).2), hl]
    have := fill_loc R.idx r [] 0 R.coefs (fun x hx => (hr.rng x hx).1) hR.coefs (by rw [List.drop_zero]; exact hi)
    rw [List.nil_append, hr.len] at this
    rw [this]; rfl
  · have hl : R.loc = false := by rw [hR.loc]; simp [h0]
    have hi := hR.idx0 hl
    rw [hi]
    have hall : ∀ x ∈ r, 0 < x := fun x hx => by
      have := (hr.rng x hx).1
      have h2 : x ≠ 0 := fun e => h0 (by rw [← e]; exact hx)
      omega
    have hpa := posV_all hall
    simp only [idxBad]
    rw [if_neg (by unfold wantN; rw [hl, hlen, hpa, List.length_map, hr.len]; simp), coefBad_k R.coefs hcs]
    dsimp only
    rw [if_neg (sumN_k hne fun T hT => (hcs T hT).2), hl]
    have hc2 := hR.coefs
    rw [hpa] at hc2
    have := fill_par [] r [] R.coefs (fun x hx => (hr.rng x hx).1) hc2
    rw [List.nil_append, hr.len] at this
    rw [show (0 : Nat) = ([] : List Int).length from rfl, this]; rfl
theorem buildRows_k {d top : Nat} : ∀ (Rs : List Row) (rs acc : List (List Int)), RowsV Rs rs → (∀ r ∈ rs, RowFine d top r) → d + acc.length + rs.length ≤ 32 → buildRows d top acc Rs = .ok (acc ++ rs)
  | [], rs, acc, h, _, _ => by
    have : rs = [] := h
    rw [this, List.append_nil]; rfl
  | R :: Rs, rs, acc, ⟨r, rs', e, h1, h2⟩, hf, hl => by
    subst e
    rw [List.length_cons] at hl
    rw [buildRows, if_pos (by omega), buildRow_k h1 (hf r (by simp))]
    show buildRows d top (acc ++ [r]) Rs = _
    rw [buildRows_k Rs rs' (acc ++ [r]) h2 (fun r' hr' => hf r' (by simp [hr'])) (by rw [List.length_append, List.length_singleton]; omega), List.append_assoc]
    rfl
theorem row_fine {C : Code} (h : Ok C) {r : List Int} (hr : r ∈ C.par) : RowFine C.data.toNat (topN C.field.toNat) r := by
  have := h.rows r hr
  unfold rowOkB at this
  simp only [Bool.and_eq_true, decide_eq_true_eq, List.all_eq_true, List.any_eq_true] at this
  obtain ⟨⟨h1, h2⟩, x, hx, h3⟩ := this
  exact ⟨by omega, h2, x, hx, by omega⟩
theorem rowsIs_len : ∀ {Rs : List Row} {rs : List (List Int)}, RowsV Rs rs → Rs.length = rs.length
  | [], rs, h => by have : rs = [] := h; rw [this]; rfl
  | R :: Rs, rs, ⟨r, rs', e, _, h2⟩ => by rw [e, List.length_cons, List.length_cons, rowsIs_len h2]
theorem build_k {S : Src} {C : Code} (hC : Ok C) (h : SrcV S C) : buildS S = .ok C := by
  have hd1 := hC.d1
  have hd2 := hC.d2
  have hw := hC.width
  have hm1 := hC.dom1
  have hm2 := hC.dom2
  have hf : C.field.toNat = 8 ∨ C.field.toNat = 16 := by rcases hC.field with e | e <;> rw [e] <;> decide
  obtain ⟨T, hT, hn⟩ := h.dom
  unfold buildS
  rw [h.name, h.field, h.data, if_pos hC.len, if_pos hf, if_pos (by omega), buildRows_k S.rows C.par [] h.rows (fun r hr => row_fine hC hr) (by simp; omega)]
  show buildDom S C.par = _
  unfold buildDom
  rw [hT, h.data, h.field, h.name]
  dsimp only
  rw [if_pos (by omega), hn]
  obtain ⟨nm, fl, dt, pr, dm⟩ := C
  have f1 : 0 ≤ fl := by rcases hC.field with e | e <;> (change fl = _ at e; omega)
  dsimp only at *
  rw [Int.toNat_of_nonneg f1, Int.toNat_of_nonneg (by omega), Int.toNat_of_nonneg (by omega)]

theorem codes_ok {C : Code} (h : Ok C) : C.par ≠ [] ∧ ∀ r ∈ C.par, posV r ≠ [] := ⟨h.ne, fun _ hr => posV_ne (row_fine h hr).pos⟩
def SrcsV : List Src → List Code → Prop
  | [], Cs => Cs = []
  | S :: Ss, Cs => ∃ C Cs', Cs = C :: Cs' ∧ SrcV S C ∧ SrcsV Ss Cs'
theorem headK_end {ts : List Tok} (h : ts.map key = [eK]) : headK ts = 4 := by
  cases ts with
  | nil => cases h
  | cons T ts =>
    rw [List.map_cons] at h
    injection h with h1 h2
    exact congrArg (fun x : Key => x.1) h1
theorem headK_code {C : Code} {K : List Key} {ts : List Tok} (h : ts.map key = keysC C ++ K) : headK ts = 1 := by
  unfold keysC at h
  cases ts with
  | nil => cases h
  | cons T ts =>
    rw [List.map_cons, List.cons_append] at h
    injection h with h1 h2
    exact congrArg (fun x : Key => x.1) h1
theorem srcs_end {sg : Bool} {f : Nat} {l : List Src} {ts : List Tok} (h : ts.map key = [eK]) (hl : sg = true → l ≠ []) : srcsT sg f l ts = .ok l ts := by
  cases f with
  | zero => rfl
  | succ f =>
    rw [srcsT, if_neg]
    rintro (h4 | ⟨h5, h6⟩)
    · exact h4 (headK_end h)
    · exact hl h5 h6
theorem srcs_k : ∀ (Cs : List Code) (f : Nat) (l : List Src) (ts : List Tok), Cs.length < f → (∀ C ∈ Cs, Ok C) → ts.map key = Cs.flatMap keysC ++ [eK] → ∃ Ss a, srcsT false f l ts = .ok (l ++ Ss) a ∧ SrcsV Ss Cs
  | [], f, l, ts, _, _, h => ⟨[], ts, by rw [List.append_nil]; exact srcs_end h (fun e => by cases e), rfl⟩
  | C :: Cs, 0, l, ts, hf, _, _ => by simp at hf
  | C :: Cs, f + 1, l, ts, hf, hC, h => by
    rw [List.flatMap_cons, List.append_assoc] at h
    obtain ⟨S, a, h1, h2, h3⟩ := code_k (codes_ok (hC C (by simp))).1 (codes_ok (hC C (by simp))).2 h
    obtain ⟨Ss, b, h4, h5⟩ := srcs_k Cs f (l ++ [S]) a (by simpa using hf) (fun C' hC' => hC C' (by simp [hC'])) h3
    refine ⟨S :: Ss, b, ?_, C, Cs, rfl, h2, h5⟩
    rw [srcsT, if_pos (.inl (by rw [headK_code h]; decide)), if_neg (fun e => by cases e.1), h1, PR.next_ok, h4, List.append_assoc]
    rfl
theorem one_srcs {C : Code} (hC : Ok C) {f : Nat} {ts : List Tok} (h : ts.map key = keysC C ++ [eK]) : ∃ S a, srcsT true (f + 1) [] ts = .ok [S] a ∧ SrcV S C := by
  obtain ⟨S, a, h1, h2, h3⟩ := code_k (codes_ok hC).1 (codes_ok hC).2 h
  refine ⟨S, a, ?_, h2⟩
  rw [srcsT, if_pos (.inr ⟨rfl, rfl⟩), if_neg (fun e => e.2 rfl), h1, PR.next_ok]
  exact srcs_end h3 (fun _ => by simp)
theorem codesB_k : ∀ (Cs : List Code) (Ss : List Src) (names : List Bytes) (acc : List Code), SrcsV Ss Cs → (∀ C ∈ Cs, Ok C) → names.length + Cs.length ≤ 8 → (Cs.map Code.name).Nodup → (∀ C ∈ Cs, C.name ∉ names) → codesB names acc Ss = .ok (acc ++ Cs)
  | Cs, [], names, acc, h, _, _, _, _ => by
    have : Cs = [] := h
    rw [this, List.append_nil]; rfl
  | _, S :: Ss, names, acc, ⟨C, Cs', e, h1, h2⟩, hC, hl, hn, hnot => by
    subst e
    rw [List.length_cons] at hl
    rw [List.map_cons, List.nodup_cons] at hn
    rw [codesB, if_pos (by omega), h1.name, if_neg (hnot C (by simp)), build_k (hC C (by simp)) h1]
    show codesB (names ++ [C.name]) (acc ++ [C]) Ss = _
    rw [codesB_k Cs' Ss (names ++ [C.name]) (acc ++ [C]) h2 (fun C' hC' => hC C' (by simp [hC'])) (by rw [List.length_append, List.length_singleton]; omega) hn.2 ?_, List.append_assoc]
    · rfl
    · intro C' hC' hm
      rcases List.mem_append.1 hm with hm | hm
      · exact hnot C' (by simp [hC']) hm
      · rw [List.mem_singleton] at hm
        exact hn.1 (by rw [← hm]; exact List.mem_map.2 ⟨C', hC', rfl⟩)
/-- A text whose tokens are those of a printed code is read as the code. -/
theorem parse_one {C : Code} (hC : Ok C) {t : Bytes} (ht : t.length ≤ 2000) (h : keys t = keysC C ++ [eK]) : parseB true t = .ok [C] := by
  unfold parseB
  rw [if_neg (by omega)]
  obtain ⟨S, a, h1, h2⟩ := one_srcs hC (f := (toks t 0).length) (ts := toks t 0) (by rw [toks_keys, List.drop_zero]; exact h)
  rw [h1]
  show codesB [] [] [S] = _
  exact codesB_k [C] [S] [] [] ⟨C, [], rfl, h2, rfl⟩ (fun C' hC' => by rw [List.mem_singleton] at hC'; rw [hC']; exact hC) (by simp) (by simp) (fun _ _ h => by cases h)
theorem parse_all {Cs : List Code} (hC : ∀ C ∈ Cs, Ok C) (hl : Cs.length ≤ 8) (hn : (Cs.map Code.name).Nodup) {t : Bytes} (ht : t.length ≤ 2000) (h : keys t = Cs.flatMap keysC ++ [eK]) : parseB false t = .ok Cs := by
  unfold parseB
  rw [if_neg (by omega)]
  have hk : (toks t 0).map key = Cs.flatMap keysC ++ [eK] := by rw [toks_keys, List.drop_zero]; exact h
  have hlen : Cs.length < (toks t 0).length + 1 := by
    have h1 := congrArg List.length hk
    rw [List.length_map, List.length_append] at h1
    have h2 : ∀ Ds : List Code, Ds.length ≤ (Ds.flatMap keysC).length := fun Ds => by
      induction Ds with
      | nil => exact Nat.le_refl _
      | cons D Ds ih =>
        rw [List.flatMap_cons, List.length_append, List.length_cons]
        have : 1 ≤ (keysC D).length := by unfold keysC; simp
        omega
    have := h2 Cs
    omega
  obtain ⟨Ss, a, h1, h2⟩ := srcs_k Cs _ [] (toks t 0) hlen hC hk
  rw [h1]
  show codesB [] [] ([] ++ Ss) = _
  exact codesB_k Cs Ss [] [] h2 hC (by simpa using hl) hn (fun _ _ h => by cases h)
theorem keys_text {C : Code} (h : Ok C) : keys (printT C) = keysC C ++ [eK] := by
  have := keys_print h []
  rw [List.append_nil, keys_nil] at this
  exact this
/-- Printed and read again. -/
theorem round_one {C : Code} (hC : Ok C) (ht : (printT C).length ≤ 2000) : parseB true (printT C) = .ok [C] ∧ parseB false (printT C) = .ok [C] := by
  refine ⟨parse_one hC ht (keys_text hC), parse_all (Cs := [C]) (fun C' hC' => ?_) (by simp) (by simp) ht ?_⟩
  · rw [List.mem_singleton] at hC'; rw [hC']; exact hC
  · rw [keys_text hC]; simp
theorem keys_cat : ∀ {Cs : List Code}, (∀ C ∈ Cs, Ok C) → keys (Cs.flatMap printT) = Cs.flatMap keysC ++ [eK]
  | [], _ => keys_nil
  | C :: Cs, h => by
    rw [List.flatMap_cons, keys_print (h C (by simp)), keys_cat (fun C' hC' => h C' (by simp [hC'])), List.flatMap_cons, List.append_assoc]
/-- Printed one behind the other, and read again. -/
theorem round_all {Cs : List Code} (hC : ∀ C ∈ Cs, Ok C) (hl : Cs.length ≤ 8) (hn : (Cs.map Code.name).Nodup) (ht : (Cs.flatMap printT).length ≤ 2000) : parseB false (Cs.flatMap printT) = .ok Cs :=
  parse_all hC hl hn ht (keys_cat hC)
end Go.Proofs.YtafgmbchdcfkcaaDoor
