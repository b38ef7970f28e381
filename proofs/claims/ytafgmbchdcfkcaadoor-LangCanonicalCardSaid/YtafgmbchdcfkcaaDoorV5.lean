/-
  What the parser accepts, Check accepts. No program is run here.
-/
import Derived.Test.YtafgmbchdcfkcaaDoorV3
namespace Go.Proofs.YtafgmbchdcfkcaaDoor
open Go Go.RowKit Go.Walks

theorem toksF_word : ∀ (f : Nat) (s : Bytes) (a : Nat) (T : Tok), T ∈ toksF f s a → T.kind = 1 → wordB T.text = true
  | 0, _, _, T, h, _ => by cases h
  | f + 1, s, a, T, h, h1 => by
    have one : ∀ (r : Bytes) (b : Nat), (lexT r b).kind = 1 → wordB (lexT r b).text = true := fun r b hk => by
      have hk' : kindL r = 1 := hk
      cases r with
      | nil => cases hk'
      | cons c r =>
        have hL := kind1_iff.1 hk'
        have hl : lexLen (c :: r) = rawL (c :: r) := by unfold lexLen; rw [hk']; rfl
        have hc : isAN c = true := by unfold isAN; rw [hL]; rfl
        have ht : (c :: r).take (lexLen (c :: r)) = c :: r.takeWhile isAN := by
          rw [hl, rawL_cons, if_pos hL]
          rw [← List.prefix_iff_eq_take.1 (List.takeWhile_prefix isAN), List.takeWhile_cons, if_pos hc]
        show wordB ((c :: r).take (lexLen (c :: r))) = true
        rw [ht, wordB, Bool.and_eq_true, List.all_eq_true]
        exact ⟨hL, fun x hx => by
          obtain ⟨i, hi, he⟩ := List.mem_iff_getElem.1 hx
          obtain ⟨d, hd, hp⟩ := takeWhile_at r i hi
          rw [← takeWhile_get r i hi, List.getElem?_eq_getElem hi, he] at hd
          injection hd with hd
          rw [hd]; exact hp⟩
    simp only [toksF] at h
    split at h
    · rw [List.mem_singleton] at h; rw [h] at h1 ⊢; exact one _ _ h1
    · rcases List.mem_cons.1 h with h | h
      · rw [h] at h1 ⊢; exact one _ _ h1
      · exact toksF_word f _ _ T h h1
theorem codeT_rows {ts a : List Tok} {S : Src} (h : codeT ts = .ok S a) : S.rows ≠ [] := by
  rw [codeT] at h
  have stepE : ∀ {α β : Type} {x : PR α} {f : α → List Tok → PR β} {b : β} {c : List Tok}, x.next f = .ok b c → ∃ u v, f u v = .ok b c := fun {α β} {x} {f} {b} {c} hx => by
    cases x with
    | bad p => cases hx
    | ok u v => exact ⟨u, v, hx⟩
  obtain ⟨_, _, h⟩ := stepE h
  obtain ⟨nm, _, h⟩ := stepE h
  obtain ⟨_, _, h⟩ := stepE h
  obtain ⟨fl, _, h⟩ := stepE h
  obtain ⟨dt, _, h⟩ := stepE h
  obtain ⟨R, _, h⟩ := stepE h
  obtain ⟨Rs, _, h⟩ := stepE h
  obtain ⟨dm, _, h⟩ := stepE h
  obtain ⟨_, _, h⟩ := stepE h
  injection h with h _
  rw [← h]; simp

theorem idxBad_inc {data : Nat} : ∀ {ts : List Tok} {last : Int}, idxBad data last ts = none → (∀ (i : Nat) (T : Tok), ts[i]? = some T → last < (T.n : Int)) ∧ ∀ (i j : Nat) (T U : Tok), i < j → ts[i]? = some T → ts[j]? = some U → T.n < U.n
  | [], _, _ => ⟨fun i T h => by simp at h, fun i j T U _ h => by simp at h⟩
  | T0 :: ts, last, h => by
    rw [idxBad] at h
    split at h
    · rename_i hc
      obtain ⟨i1, i2⟩ := idxBad_inc h
      refine ⟨fun i T hi => ?_, fun i j T U hij hi hj => ?_⟩
      · cases i with
        | zero =>
          have : T0 = T := by simpa using hi
          rw [← this]; exact hc.2
        | succ i =>
          have := i1 i T (by simpa using hi)
          omega
      · cases j with
        | zero => omega
        | succ j =>
          have hj' : ts[j]? = some U := by simpa using hj
          cases i with
          | zero =>
            have : T0 = T := by simpa using hi
            have h2 := i1 j U hj'
            rw [← this]; omega
          | succ i => exact i2 i j T U (by omega) (by simpa using hi) hj'
    · cases h
theorem fill_keep {loc : Bool} {idx : List Tok} {q : Nat} : ∀ (ts : List Tok) (j : Nat) (row : List Int), (∀ i, i < ts.length → atJ loc idx (j + i) ≠ q) → (fillL loc idx j ts row)[q]? = row[q]?
  | [], _, _, _ => rfl
  | T :: ts, j, row, h => by
    rw [fillL, fill_keep ts (j + 1) _ (fun i hi => by
      have := h (i + 1) (by simpa using hi)
      rwa [show j + 1 + i = j + (i + 1) by omega])]
    have h0 := h 0 (by simp)
    rw [Nat.add_zero] at h0
    rw [List.getElem?_set_ne h0]
theorem fill_at {loc : Bool} {idx : List Tok} : ∀ (ts : List Tok) (j : Nat) (row : List Int) (i : Nat) (T : Tok), ts[i]? = some T → (∀ a b, a < b → b < ts.length → atJ loc idx (j + a) < atJ loc idx (j + b)) → atJ loc idx (j + i) < row.length → (fillL loc idx j ts row)[atJ loc idx (j + i)]? = some (T.n : Int)
  | [], _, _, i, T, h, _, _ => by simp at h
  | U :: ts, j, row, 0, T, h, hinc, hlt => by
    have : U = T := by simpa using h
    subst this
    rw [fillL, fill_keep ts (j + 1) _ (fun i hi => ?_), Nat.add_zero, List.getElem?_set_self (by rw [Nat.add_zero] at hlt; exact hlt)]
    have := hinc 0 (i + 1) (by omega) (by simpa using hi)
    rw [show j + 1 + i = j + (i + 1) by omega]
    omega
  | U :: ts, j, row, i + 1, T, h, hinc, hlt => by
    have := fill_at ts (j + 1) (row.set (atJ loc idx j) (U.n : Int)) i T (by simpa using h) (fun a b hab hb => by
      have := hinc (a + 1) (b + 1) (by omega) (by simpa using hb)
      rwa [show j + 1 + a = j + (a + 1) by omega, show j + 1 + b = j + (b + 1) by omega]) (by rw [List.length_set, show j + 1 + i = j + (i + 1) by omega]; exact hlt)
    rw [show j + (i + 1) = j + 1 + i by omega, fillL]
    exact this
theorem fill_rng {loc : Bool} {idx : List Tok} {top : Nat} : ∀ (ts : List Tok) (j : Nat) (row : List Int), (∀ T ∈ ts, T.n ≤ top) → (∀ x ∈ row, 0 ≤ x ∧ x ≤ (top : Int)) → ∀ x ∈ fillL loc idx j ts row, 0 ≤ x ∧ x ≤ (top : Int)
  | [], _, _, _, h => h
  | T :: ts, j, row, ht, h => by
    rw [fillL]
    refine fill_rng ts (j + 1) _ (fun U hU => ht U (by simp [hU])) fun x hx => ?_
    rcases List.mem_or_eq_of_mem_set hx with hx | hx
    · exact h x hx
    · have := ht T (by simp)
      omega
theorem coefBad_le {loc : Bool} {top : Nat} : ∀ {ts : List Tok}, coefBad loc top ts = none → ∀ T ∈ ts, T.n ≤ top
  | [], _, T, h => by cases h
  | U :: ts, h, T, hT => by
    rw [coefBad] at h
    split at h
    · rename_i hc
      rcases List.mem_cons.1 hT with rfl | hT
      · exact hc.1
      · exact coefBad_le h T hT
    · cases h
theorem sumN_pos : ∀ {ts : List Tok}, sumN ts ≠ 0 → ∃ (i : Nat) (T : Tok), ts[i]? = some T ∧ T.n ≠ 0
  | [], h => absurd rfl h
  | T :: ts, h => by
    by_cases h0 : T.n = 0
    · rw [sumN, h0, Nat.zero_add] at h
      obtain ⟨i, U, hi, hU⟩ := sumN_pos h
      exact ⟨i + 1, U, by simpa using hi, hU⟩
    · exact ⟨0, T, rfl, h0⟩
theorem buildRow_fine {R : Row} {d top : Nat} {r : List Int} (h : buildRow R d top = .ok r) : RowFine d top r := by
  unfold buildRow at h
  split at h
  · cases h
  rename_i hi
  split at h
  · cases h
  rename_i hw
  split at h
  · cases h
  rename_i hc
  split at h
  · cases h
  rename_i hs
  injection h with h
  have hlen : r.length = d := by rw [← h, fillL_len, List.length_replicate]
  refine ⟨hlen, ?_, ?_⟩
  · rw [← h]
    exact fill_rng _ _ _ (coefBad_le hc) (fun x hx => by
      have := List.eq_of_mem_replicate hx
      omega)
  · obtain ⟨i, T, hT, hn⟩ := sumN_pos hs
    have hw' : R.coefs.length = wantN R d := Decidable.not_not.1 hw
    have hil := (List.getElem?_eq_some_iff.1 hT).1
    have hat : ∀ (j : Nat), j < R.coefs.length → atJ R.loc R.idx j < d ∧ ∀ k, k < j → atJ R.loc R.idx k < atJ R.loc R.idx j := fun j hj => by
      unfold atJ
      cases hl : R.loc with
      | false =>
        unfold wantN at hw'
        rw [hl] at hw'
        simp only [Bool.false_eq_true, if_false] at hw' ⊢
        exact ⟨by omega, fun k hk => hk⟩
      | true =>
        unfold wantN at hw'
        rw [hl] at hw'
        simp only [if_true] at hw' ⊢
        have hj' : j < R.idx.length := by omega
        rw [List.getElem?_eq_getElem hj']
        refine ⟨idxBad_none hi _ (List.getElem_mem hj'), fun k hk => ?_⟩
        have hk' : k < R.idx.length := by omega
        rw [List.getElem?_eq_getElem hk']
        exact (idxBad_inc hi).2 k j _ _ hk (List.getElem?_eq_getElem hk') (List.getElem?_eq_getElem hj')
    have hv := fill_at R.coefs 0 (List.replicate d 0) i T hT (fun a b hab hb => by
      rw [Nat.zero_add, Nat.zero_add]; exact (hat b hb).2 a hab) (by rw [Nat.zero_add, List.length_replicate]; exact (hat i hil).1)
    rw [h] at hv
    exact ⟨(T.n : Int), List.mem_of_getElem? hv, by omega⟩
theorem buildRows_fine {d top : Nat} : ∀ {Rs : List Row} {acc rows : List (List Int)}, buildRows d top acc Rs = .ok rows → (Rs ≠ [] → d + rows.length ≤ 32) ∧ rows.length = acc.length + Rs.length ∧ ((∀ r ∈ acc, RowFine d top r) → ∀ r ∈ rows, RowFine d top r)
  | [], acc, rows, h => by injection h with h; subst h; exact ⟨(fun h => absurd rfl h), rfl, fun h => h⟩
  | R :: Rs, acc, rows, h => by
    rw [buildRows] at h
    split at h
    · rename_i hlt
      cases hb : buildRow R d top with
      | bad p e => rw [hb] at h; cases h
      | ok row =>
        rw [hb] at h
        obtain ⟨i1, i2, i3⟩ := buildRows_fine (Rs := Rs) h
        rw [List.length_append, List.length_singleton] at i2
        refine ⟨fun _ => ?_, by rw [List.length_cons]; omega, fun ha => i3 fun r hr => ?_⟩
        · cases Rs with
          | nil => rw [List.length_nil] at i2; omega
          | cons R' Rs => exact i1 (by simp)
        · rcases List.mem_append.1 hr with hr | hr
          · exact ha r hr
          · rw [List.mem_singleton] at hr; rw [hr]; exact buildRow_fine hb
    · cases h
theorem build_check {S : Src} {C : Code} (hw : wordB S.name.text = true) (hr : S.rows ≠ []) (h : buildS S = .ok C) : checkB C = 0 := by
  unfold buildS at h
  split at h
  case isFalse => cases h
  rename_i hn
  split at h
  case isFalse => cases h
  rename_i hf
  split at h
  case isFalse => cases h
  rename_i hd
  cases hb : buildRows S.data.n (topN S.field.n) [] S.rows with
  | bad p e => rw [hb] at h; cases h
  | ok rows =>
    rw [hb] at h
    obtain ⟨b1, b2, b3⟩ := buildRows_fine hb
    have b1 := b1 hr
    have b3 := b3 (fun r hr => by cases hr)
    rw [List.length_nil, Nat.zero_add] at b2
    have hne : rows ≠ [] := fun e => by
      rw [e, List.length_nil] at b2
      exact hr (List.length_eq_zero_iff.1 b2.symm)
    change buildDom S rows = _ at h
    obtain ⟨dm, rfl, hdm⟩ : ∃ dm : Nat, C = ⟨S.name.text, S.field.n, S.data.n, rows, (dm : Int)⟩ ∧ 1 ≤ dm ∧ dm ≤ S.data.n + rows.length := by
      unfold buildDom at h
      split at h
      · injection h with h
        exact ⟨S.data.n + rows.length, h.symm, by omega, by omega⟩
      · split at h
        · rename_i d _ hc
          injection h with h
          exact ⟨d.n, h.symm, hc⟩
        · cases h
    have hW : widthI ⟨S.name.text, S.field.n, S.data.n, rows, (dm : Int)⟩ = (S.data.n : Int) + rows.length := by
      show wrap64 ((S.data.n : Int) + (rows.length : Int)) = _
      unfold wrap64
      omega
    have hrow : rows.all (rowOkB (S.data.n : Int) (S.field.n : Int)) = true := by
      rw [List.all_eq_true]
      intro r hr
      obtain ⟨r1, r2, x, hx, hp⟩ := b3 r hr
      unfold rowOkB
      simp only [Bool.and_eq_true, decide_eq_true_eq, List.all_eq_true, List.any_eq_true]
      exact ⟨⟨by omega, r2⟩, x, hx, by omega⟩
    unfold checkB
    rw [hW]
    dsimp only
    rw [if_neg (by rw [hw]; decide), if_neg (by omega), if_neg (by omega), if_neg (by rintro (e | e | e) <;> first | omega | exact hne e), if_neg (by omega), hrow, if_neg (by decide), if_neg (by omega)]
/-- What Parse gives back as a code, Check finds right. -/
theorem parse_checked {t : Bytes} {Cs : List Code} (h : parseB true t = .ok Cs) : ∃ C, Cs = [C] ∧ checkB C = 0 := by
  unfold parseB at h
  split at h
  · cases h
  rw [srcsT, if_pos (.inr ⟨rfl, rfl⟩), if_neg (fun e => e.2 rfl)] at h
  cases hc : codeT (toks t 0) with
  | bad p => rw [hc] at h; cases h
  | ok S a =>
    rw [hc, PR.next_ok] at h
    obtain ⟨-, -, -, hm, hk⟩ := codeT_ok hc
    have hword := toksF_word _ _ _ _ hm hk
    have hrows := codeT_rows hc
    have hsrc : ∃ b, srcsT true (toks t 0).length ([] ++ [S]) a = .ok [S] b ∨ ∃ p, srcsT true (toks t 0).length ([] ++ [S]) a = .bad p := by
      cases (toks t 0).length with
      | zero => exact ⟨a, .inl rfl⟩
      | succ f =>
        rw [srcsT]
        split
        · rw [if_pos ⟨rfl, by simp⟩]; exact ⟨a, .inr ⟨_, rfl⟩⟩
        · exact ⟨a, .inl rfl⟩
    obtain ⟨b, e | ⟨p, e⟩⟩ := hsrc
    · rw [e] at h
      change codesB [] [] [S] = _ at h
      rw [codesB, if_pos (by decide), if_neg (fun e => by cases e)] at h
      cases hb : buildS S with
      | bad p en => rw [hb] at h; cases h
      | ok C =>
        rw [hb] at h
        change codesB ([] ++ [S.name.text]) ([] ++ [C]) [] = _ at h
        rw [codesB] at h
        injection h with h
        exact ⟨C, h.symm, build_check hword hrows hb⟩
    · rw [e] at h; cases h
end Go.Proofs.YtafgmbchdcfkcaaDoor
