/-
  The tokens of a printed code, in plain words; what the parser makes of them. No program is run here.
-/
import Derived.Test.YtafgmbchdcfkcaaDoorV1
namespace Go.Proofs.YtafgmbchdcfkcaaDoor
open Go

def wK (s : Bytes) : Key := (1, s, 0)
def sK (c : UInt8) : Key := (3, [c], 0)
def eK : Key := (4, [], 0)
def posI : Nat → List Int → List Nat
  | _, [] => []
  | j, x :: r => if 0 < x then j :: posI (j + 1) r else posI (j + 1) r
def posV : List Int → List Nat
  | [] => []
  | x :: r => if 0 < x then x.toNat :: posV r else posV r
def rowK (r : List Int) : List Key := if (0 : Int) ∈ r then wK kLocal :: ((posI 0 r).map nK ++ sK 58 :: ((posV r).map nK ++ [sK 59])) else wK kParity :: ((posV r).map nK ++ [sK 59])
def keysC (C : Code) : List Key := wK kCode :: wK C.name :: sK 123 :: wK kField :: nK C.field.toNat :: sK 59 :: wK kData :: nK C.data.toNat :: sK 59 :: (C.par.flatMap rowK ++ [wK kDomain, nK C.dom.toNat, sK 59, sK 125])

theorem free_coef {s : Bytes} (hs : Free s) : ∀ (r : List Int), Free (coefTx r ++ s)
  | [] => hs
  | x :: r => by
    rw [coefTx, List.append_assoc]
    refine free_app ?_ (free_coef hs r)
    split
    · exact free_cons rfl _
    · exact free_nil
theorem keys_coef {s : Bytes} (hs : Free s) : ∀ (r : List Int), (∀ x ∈ r, 0 ≤ x ∧ x ≤ 65535) → keys (coefTx r ++ s) = (posV r).map nK ++ keys s
  | [], _ => rfl
  | x :: r, h => by
    have ih := keys_coef hs r (fun y hy => h y (by simp [hy]))
    have hx := h x (by simp)
    rw [coefTx, posV, List.append_assoc]
    by_cases hp : 0 < x
    · rw [if_pos hp, if_pos hp, List.cons_append, keys_blank rfl, keys_itoa hx.1 (by omega) (free_coef hs r), ih]; rfl
    · rw [if_neg hp, if_neg hp]; exact ih
theorem free_idx {s : Bytes} (hs : Free s) : ∀ (r : List Int) (j : Nat), Free (idxB j r ++ s)
  | [], _ => hs
  | x :: r, j => by
    rw [idxB, List.append_assoc]
    refine free_app ?_ (free_idx hs r (j + 1))
    split
    · exact free_cons rfl _
    · exact free_nil
theorem keys_idx {s : Bytes} (hs : Free s) : ∀ (r : List Int) (j : Nat), j + r.length ≤ 1000 → keys (idxB j r ++ s) = (posI j r).map nK ++ keys s
  | [], _, _ => rfl
  | x :: r, j, h => by
    have hl : (x :: r).length = r.length + 1 := rfl
    have ih := keys_idx hs r (j + 1) (by omega)
    rw [idxB, posI, List.append_assoc]
    by_cases hp : 0 < x
    · rw [if_pos hp, if_pos hp, List.cons_append, keys_blank rfl, itoa_nat, keys_dec (by omega) (free_idx hs r (j + 1)), ih]; rfl
    · rw [if_neg hp, if_neg hp]; exact ih
theorem keys_kw {x s : Bytes} (hx : wordB x = true) (hs : Free s) : keys (x ++ s) = wK x :: keys s := keys_word hx hs
theorem keys_row {r : List Int} (hl : r.length ≤ 31) (h : ∀ x ∈ r, 0 ≤ x ∧ x ≤ 65535) (s : Bytes) : keys (lineTx (rowTx r) ++ s) = rowK r ++ keys s := by
  have hsemi : keys (59 :: 10 :: s) = sK 59 :: keys s := by rw [keys_sign rfl, keys_blank rfl]; rfl
  have hf : Free (59 :: 10 :: s) := free_cons rfl _
  unfold lineTx rowTx rowK
  by_cases h0 : (0 : Int) ∈ r
  · rw [if_pos h0, if_pos h0]
    simp only [List.append_assoc, List.cons_append, List.nil_append]
    rw [keys_blank rfl, keys_kw rfl (free_idx (free_cons rfl _) r 0), keys_idx (free_cons rfl _) r 0 (by omega), keys_sign rfl, keys_coef hf r h, hsemi]
    rfl
  · rw [if_neg h0, if_neg h0]
    simp only [List.append_assoc, List.cons_append, List.nil_append]
    rw [keys_blank rfl, keys_kw rfl (free_coef hf r), keys_coef hf r h, hsemi]
theorem keys_rows {s : Bytes} : ∀ (rows : List (List Int)), (∀ r ∈ rows, r.length ≤ 31 ∧ ∀ x ∈ r, 0 ≤ x ∧ x ≤ 65535) → keys (rowsTx rows ++ s) = rows.flatMap rowK ++ keys s
  | [], _ => rfl
  | r :: rows, h => by
    have ih := keys_rows (s := s) rows (fun r' hr' => h r' (by simp [hr']))
    have hr := h r (by simp)
    have e : rowsTx (r :: rows) = lineTx (rowTx r) ++ rowsTx rows := rfl
    rw [e, List.append_assoc, keys_row hr.1 hr.2, ih, List.flatMap_cons, List.append_assoc]
theorem keys_print {C : Code} (h : Ok C) (s : Bytes) : keys (printT C ++ s) = keysC C ++ keys s := by
  have hsemi : ∀ s, keys (59 :: 10 :: s) = sK 59 :: keys s := fun s => by rw [keys_sign rfl, keys_blank rfl]; rfl
  have hrows : ∀ r ∈ C.par, r.length ≤ 31 ∧ ∀ x ∈ r, 0 ≤ x ∧ x ≤ 65535 := fun r hr => by
    obtain ⟨h1, h2, -⟩ := rowOk_spec h hr
    have := h.d2
    exact ⟨by omega, h2⟩
  have hd := h.d1
  have hd2 := h.d2
  have hm := h.dom1
  have hm2 := h.dom2
  have hw := h.width
  have hf : 0 ≤ C.field ∧ C.field < 100000 := by rcases h.field with e | e <;> rw [e] <;> decide
  have kw : ∀ (x s : Bytes), wordB x = true → keys (x ++ (32 :: s)) = wK x :: keys s := fun x s hx => by rw [keys_kw hx (free_cons rfl _), keys_blank rfl]
  have nm : ∀ (x : Int) (s : Bytes), 0 ≤ x → x < 100000 → keys (Lib.itoa x ++ (59 :: 10 :: s)) = nK x.toNat :: sK 59 :: keys s := fun x s h0 h1 => by rw [keys_itoa h0 h1 (free_cons rfl _), hsemi]
  unfold printT headTxt keysC
  rw [show lineTx (fieldTx C.field) = 9 :: (kField ++ (32 :: (Lib.itoa C.field ++ [59, 10]))) by simp [lineTx, fieldTx, kField],
    show lineTx (dataTx C.data) = 9 :: (kData ++ (32 :: (Lib.itoa C.data ++ [59, 10]))) by simp [lineTx, dataTx, kData],
    show lineTx (domTx C.dom) = 9 :: (kDomain ++ (32 :: (Lib.itoa C.dom ++ [59, 10]))) by simp [lineTx, domTx, kDomain],
    show ([99, 111, 100, 101, 32] : Bytes) ++ C.name ++ [32, 123, 10] = kCode ++ (32 :: (C.name ++ (32 :: [123, 10]))) by simp [kCode]]
  simp only [List.append_assoc, List.cons_append, List.nil_append]
  rw [kw kCode _ rfl, kw C.name _ h.word, keys_sign rfl, keys_blank rfl, keys_blank rfl, kw kField _ rfl, nm _ _ hf.1 hf.2, keys_blank rfl, kw kData _ rfl, nm _ _ (by omega) (by omega), keys_rows C.par hrows,
    keys_blank rfl, kw kDomain _ rfl, nm _ _ (by omega) (by omega), keys_sign rfl, keys_blank rfl]
  rfl

/-! The parser on tokens. -/
section
variable {ts : List Tok} {K : List Key}
theorem must_k {s : Bytes} {k n : Nat} (h : ts.map key = (k, s, n) :: K) : ∃ p a, mustT s ts = .ok p a ∧ a.map key = K := by
  cases ts with
  | nil => cases h
  | cons T ts =>
    rw [List.map_cons] at h
    injection h with h1 h2
    have ht : T.text = s := congrArg (fun x : Key => x.2.1) h1
    exact ⟨T.at_, ts, by rw [mustT, if_pos (by simp [ht])], h2⟩
theorem kind_k {s : Bytes} {k n : Nat} (h : ts.map key = (k, s, n) :: K) : ∃ T a, kindT k ts = .ok T a ∧ key T = (k, s, n) ∧ a.map key = K := by
  cases ts with
  | nil => cases h
  | cons T ts =>
    rw [List.map_cons] at h
    injection h with h1 h2
    have ht : T.kind = k := congrArg (fun x : Key => x.1) h1
    exact ⟨T, ts, by rw [kindT, if_pos ht], h1, h2⟩
def Not2 (K : List Key) : Prop := ∀ k r, K = k :: r → k.1 ≠ 2
theorem not2_cons {k : Key} (h : k.1 ≠ 2) (K : List Key) : Not2 (k :: K) := fun a r e => by injection e with e _; rw [← e]; exact h
theorem run_k (hK : Not2 K) : ∀ (ns : List Nat) (a : List Tok), a.map key = ns.map nK ++ K → (a.takeWhile isN).map key = ns.map nK ∧ (a.dropWhile isN).map key = K
  | [], a, h => by
    cases a with
    | nil => exact ⟨rfl, h⟩
    | cons T a =>
      have hk : ¬ isN T = true := by
        unfold isN
        have : T.kind ≠ 2 := hK (key T) (a.map key) h.symm
        simpa using this
      rw [List.takeWhile_cons, if_neg hk, List.dropWhile_cons, if_neg hk]
      exact ⟨rfl, h⟩
  | n :: ns, a, h => by
    cases a with
    | nil => cases h
    | cons T a =>
      rw [List.map_cons, List.map_cons, List.cons_append] at h
      injection h with h1 h2
      have hk : isN T = true := by
        unfold isN
        have : T.kind = 2 := congrArg (fun x : Key => x.1) h1
        simp [this]
      obtain ⟨i1, i2⟩ := run_k hK ns a h2
      rw [List.takeWhile_cons, if_pos hk, List.dropWhile_cons, if_pos hk, List.map_cons, List.map_cons, h1, i1]
      exact ⟨rfl, i2⟩
theorem map_n {Ts : List Tok} {ns : List Nat} (h : Ts.map key = ns.map nK) : Ts.map Tok.n = ns := by
  have := congrArg (List.map fun x : Key => x.2.2) h
  rw [List.map_map, List.map_map] at this
  have e : ns.map ((fun x : Key => x.2.2) ∘ nK) = ns := by
    conv => rhs; rw [← List.map_id ns]
    rfl
  rw [e] at this
  exact this
theorem nums_k (hK : Not2 K) {ns : List Nat} (hne : ns ≠ []) (h : ts.map key = ns.map nK ++ K) : ∃ Ts a, numsT ts = .ok Ts a ∧ Ts.map Tok.n = ns ∧ a.map key = K := by
  cases ns with
  | nil => exact absurd rfl hne
  | cons n ns =>
    rw [List.map_cons, List.cons_append] at h
    obtain ⟨T, a, h1, h2, h3⟩ := kind_k (ts := ts) (k := 2) h
    obtain ⟨i1, i2⟩ := run_k hK ns a h3
    refine ⟨T :: a.takeWhile isN, a.dropWhile isN, by unfold numsT; rw [h1]; rfl, ?_, i2⟩
    rw [List.map_cons, map_n i1]
    have : T.n = n := congrArg (fun x : Key => x.2.2) h2
    rw [this]
theorem one_k {kw : Bytes} {n : Nat} (h : ts.map key = wK kw :: nK n :: sK 59 :: K) : ∃ T a, oneT kw ts = .ok T a ∧ T.n = n ∧ a.map key = K := by
  obtain ⟨p, a, h1, h2⟩ := must_k h
  obtain ⟨T, b, h3, h4, h5⟩ := kind_k (k := 2) h2
  obtain ⟨q, c, h6, h7⟩ := must_k h5
  refine ⟨T, c, ?_, congrArg (fun x : Key => x.2.2) h4, h7⟩
  unfold oneT
  rw [h1, PR.next_ok, h3, PR.next_ok]
  show (mustT [59] b).next _ = _
  rw [h6]; rfl
theorem head_k {s x : Bytes} {k n : Nat} (h : ts.map key = (k, s, n) :: K) : headIs x ts = (s == x) := by
  cases ts with
  | nil => cases h
  | cons T ts =>
    rw [List.map_cons] at h
    injection h with h1 h2
    have ht : T.text = s := congrArg (fun x : Key => x.2.1) h1
    rw [headIs, ht]
/-- What the source's row says. -/
structure RowV (R : Row) (r : List Int) : Prop where
  loc : R.loc = decide ((0 : Int) ∈ r)
  idx : R.loc = true → R.idx.map Tok.n = posI 0 r
  idx0 : R.loc = false → R.idx = []
  coefs : R.coefs.map Tok.n = posV r
theorem pos_ne : ∀ {r : List Int} (j : Nat), posV r ≠ [] → posI j r ≠ []
  | [], _, h => absurd rfl h
  | x :: r, j, h => by
    rw [posV] at h
    rw [posI]
    split
    · simp
    · rename_i hx
      rw [if_neg hx] at h
      exact pos_ne (j + 1) h
theorem end_k {p : Nat} {loc : Bool} {idx : List Tok} {ns : List Nat} (hne : ns ≠ []) (h : ts.map key = ns.map nK ++ (sK 59 :: K)) : ∃ Ts a, rowEnd p loc idx ts = .ok ⟨p, loc, idx, Ts⟩ a ∧ Ts.map Tok.n = ns ∧ a.map key = K := by
  obtain ⟨Ts, a, h1, h2, h3⟩ := nums_k (not2_cons (by decide) _) hne h
  obtain ⟨q, b, h4, h5⟩ := must_k h3
  refine ⟨Ts, b, ?_, h2, h5⟩
  unfold rowEnd
  rw [h1, PR.next_ok]
  show (mustT [59] a).next _ = _
  rw [h4]; rfl
theorem row_k {r : List Int} (hr : posV r ≠ []) (h : ts.map key = rowK r ++ K) : ∃ R a, rowT ts = .ok R a ∧ RowV R r ∧ a.map key = K := by
  unfold rowK at h
  by_cases h0 : (0 : Int) ∈ r
  · rw [if_pos h0] at h
    simp only [List.cons_append, List.append_assoc, List.nil_append] at h
    have hl : headIs kLocal ts = true := by rw [head_k h]; rfl
    obtain ⟨p, a, h1, h2⟩ := must_k h
    obtain ⟨is, b, h3, h4, h5⟩ := nums_k (not2_cons (by decide) _) (pos_ne 0 hr) h2
    obtain ⟨q, c, h6, h7⟩ := must_k h5
    obtain ⟨cs, d, h8, h9, h10⟩ := end_k (p := headAt ts) (loc := true) (idx := is) hr h7
    refine ⟨⟨headAt ts, true, is, cs⟩, d, ?_, ⟨?_, fun _ => h4, (fun e => by cases e), h9⟩, h10⟩
    · unfold rowT
      rw [if_pos hl, h1, PR.next_ok, h3, PR.next_ok]
      show (mustT [58] b).next _ = _
      rw [h6]; exact h8
    · simp [h0]
  · rw [if_neg h0] at h
    simp only [List.cons_append, List.append_assoc, List.nil_append] at h
    have hl : ¬ headIs kLocal ts = true := by rw [head_k h]; decide
    obtain ⟨p, a, h1, h2⟩ := must_k h
    obtain ⟨cs, d, h8, h9, h10⟩ := end_k (p := headAt ts) (loc := false) (idx := []) hr h2
    refine ⟨⟨headAt ts, false, [], cs⟩, d, ?_, ⟨?_, (fun e => by cases e), fun _ => rfl, h9⟩, h10⟩
    · unfold rowT
      rw [if_neg hl, h1]; exact h8
    · simp [h0]
end
def RowsV : List Row → List (List Int) → Prop
  | [], rs => rs = []
  | R :: Rs, rs => ∃ r rs', rs = r :: rs' ∧ RowV R r ∧ RowsV Rs rs'
theorem more_k {ts : List Tok} {K : List Key} {r : List Int} (h : ts.map key = rowK r ++ K) : moreR ts = true := by
  unfold moreR
  unfold rowK at h
  by_cases h0 : (0 : Int) ∈ r
  · rw [if_pos h0, List.cons_append] at h
    rw [head_k (x := kLocal) h, head_k (x := kParity) h]; rfl
  · rw [if_neg h0, List.cons_append] at h
    rw [head_k (x := kParity) h]; rfl
def NotR (K : List Key) : Prop := ∀ ts : List Tok, ts.map key = K → moreR ts = false
theorem rows_k {K : List Key} (hK : NotR K) : ∀ (rs : List (List Int)) (f : Nat) (ts : List Tok), rs.length ≤ f → (∀ r ∈ rs, posV r ≠ []) → ts.map key = rs.flatMap rowK ++ K → ∃ Rs a, rowsT f ts = .ok Rs a ∧ RowsV Rs rs ∧ a.map key = K
  | [], 0, ts, _, _, h => ⟨[], ts, rfl, rfl, h⟩
  | [], f + 1, ts, _, _, h => ⟨[], ts, by rw [rowsT, hK ts h]; rfl, rfl, h⟩
  | r :: rs, 0, ts, hf, _, _ => by simp at hf
  | r :: rs, f + 1, ts, hf, hp, h => by
    rw [List.flatMap_cons, List.append_assoc] at h
    obtain ⟨R, a, h1, h2, h3⟩ := row_k (hp r (by simp)) h
    obtain ⟨Rs, b, h4, h5, h6⟩ := rows_k hK rs f a (by simpa using hf) (fun r' hr' => hp r' (by simp [hr'])) h3
    exact ⟨R :: Rs, b, by rw [rowsT, if_pos (more_k h), h1, PR.next_ok, h4]; rfl, ⟨r, rs, rfl, h2, h5⟩, h6⟩
theorem rowsK_len : ∀ (rs : List (List Int)), rs.length ≤ (rs.flatMap rowK).length
  | [] => Nat.le_refl _
  | r :: rs => by
    have := rowsK_len rs
    have h1 : 1 ≤ (rowK r).length := by unfold rowK; split <;> simp
    rw [List.flatMap_cons, List.length_append, List.length_cons]
    omega
/-- What the source of a code says. -/
structure SrcV (S : Src) (C : Code) : Prop where
  name : S.name.text = C.name
  field : S.field.n = C.field.toNat
  data : S.data.n = C.data.toNat
  rows : RowsV S.rows C.par
  dom : ∃ T, S.dom = some T ∧ T.n = C.dom.toNat
theorem code_k {C : Code} {ts : List Tok} {K : List Key} (hne : C.par ≠ []) (hp : ∀ r ∈ C.par, posV r ≠ []) (h : ts.map key = keysC C ++ K) : ∃ S a, codeT ts = .ok S a ∧ SrcV S C ∧ a.map key = K := by
  unfold keysC at h
  simp only [List.cons_append, List.append_assoc, List.nil_append] at h
  obtain ⟨p1, a1, e1, h⟩ := must_k h
  obtain ⟨nm, a2, e2, hn, h⟩ := kind_k (k := 1) h
  obtain ⟨p3, a3, e3, h⟩ := must_k h
  obtain ⟨fl, a4, e4, hf, h⟩ := one_k h
  obtain ⟨dt, a5, e5, hd, h⟩ := one_k h
  obtain ⟨r, rs, hpar⟩ : ∃ r rs, C.par = r :: rs := by
    cases hc : C.par with
    | nil => exact absurd hc hne
    | cons r rs => exact ⟨r, rs, rfl⟩
  rw [hpar, List.flatMap_cons, List.append_assoc] at h
  rw [hpar] at hp
  obtain ⟨R, a6, e6, hR, h⟩ := row_k (hp r (by simp)) h
  have hK : NotR (wK kDomain :: nK C.dom.toNat :: sK 59 :: sK 125 :: K) := fun ts' h' => by
    unfold moreR
    rw [head_k h', head_k h']; rfl
  have hlen : rs.length ≤ a6.length := by
    have := congrArg List.length h
    have h2 := rowsK_len rs
    rw [List.length_map, List.length_append] at this
    omega
  obtain ⟨Rs, a7, e7, hRs, h⟩ := rows_k hK rs a6.length a6 hlen (fun r' hr' => hp r' (by simp [hr'])) h
  have hdom : headIs kDomain a7 = true := by rw [head_k h]; rfl
  obtain ⟨dm, a8, e8, hdm, h⟩ := one_k h
  obtain ⟨p9, a9, e9, h⟩ := must_k h
  refine ⟨⟨nm, fl, dt, R :: Rs, some dm⟩, a9, ?_, ⟨congrArg (fun x : Key => x.2.1) hn, hf, hd, by rw [hpar]; exact ⟨r, rs, rfl, hR, hRs⟩, dm, rfl, hdm⟩, h⟩
  unfold codeT
  rw [e1, PR.next_ok, e2, PR.next_ok]
  show (mustT [123] a2).next _ = _
  rw [e3, PR.next_ok, e4, PR.next_ok, e5, PR.next_ok, e6, PR.next_ok, e7, PR.next_ok]
  unfold domT
  rw [if_pos hdom, e8, PR.next_ok, PR.next_ok]
  show (mustT [125] a8).next _ = _
  rw [e9]; rfl
end Go.Proofs.YtafgmbchdcfkcaaDoor
