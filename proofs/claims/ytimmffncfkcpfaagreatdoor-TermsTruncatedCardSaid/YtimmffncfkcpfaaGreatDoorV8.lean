/-
  A proper prefix of a printed class that does not contain the closing brace, in plain words: it yields a syntax error within the prefix, at its start if it has less than five bytes. No program is run here.
-/
import Derived.Test.YtimmffncfkcpfaaGreatDoorV7
namespace Go.Proofs.YtimmffncfkcpfaaGreatDoor
open Go

section
variable {α β : Type} {ts us : List Tok}
/-- Who succeeds has met a closing brace. -/
def Clo (ts : List Tok) (x : PR α) : Prop := ∀ a us, x = .ok a us → ∃ T ∈ ts, T.text = kClose
theorem Clo.next {x : PR α} {f : α → List Tok → PR β} (k : ∀ a us, x = .ok a us → (∀ T ∈ us, T ∈ ts) ∧ Clo us (f a us)) : Clo ts (x.next f) := by
  intro b vs h
  obtain ⟨a, us, h1, h2⟩ := next_inv h
  obtain ⟨k1, k2⟩ := k a us h1
  obtain ⟨T, hT, e⟩ := k2 b vs h2
  exact ⟨T, k1 T hT, e⟩
theorem Clo.first {x : PR α} {f : α → List Tok → PR β} (h : Clo ts x) : Clo ts (x.next f) := by
  intro b vs h'
  obtain ⟨a, us, h1, -⟩ := next_inv h'
  exact h a us h1
theorem close_clo (ts : List Tok) : Clo ts (mustT kClose ts) := by
  intro T us h
  exact ⟨T, (take_in h).1, by simpa using take_inv h⟩
theorem end_clo (fs : List Field) (ts : List Tok) : Clo ts (closeT fs ts) :=
  Clo.next fun _ us h => ⟨(must_in h).1, (close_clo us).first⟩
theorem class_clo (ts : List Tok) : Clo ts (classT ts) :=
  Clo.next fun _ _ h => ⟨(name_in h).1, Clo.next fun _ _ h => ⟨(must_in h).1, Clo.next fun _ _ h => ⟨(must_in h).1, Clo.next fun _ _ h => ⟨(name_in h).1, Clo.next fun _ _ h => ⟨(must_in h).1,
    Clo.next fun _ _ h => ⟨(num_in h).1, Clo.next fun _ _ h => ⟨(must_in h).1, Clo.next fun _ _ h => ⟨(num_in h).1, end_clo _ _⟩⟩⟩⟩⟩⟩⟩⟩
theorem tenant_clo (ts : List Tok) : Clo ts (tenantT ts) :=
  Clo.next fun _ _ h => ⟨(name_in h).1, Clo.next fun _ _ h => ⟨(must_in h).1, Clo.next fun _ _ h => ⟨(num_in h).1, Clo.next fun _ _ h => ⟨(must_in h).1, Clo.next fun _ _ h => ⟨(optS_in h).1,
    Clo.next fun _ _ h => ⟨(optB_in h).1, Clo.next fun _ _ h => ⟨(must_in h).1, Clo.next fun _ _ h => ⟨(name_in h).1, end_clo _ _⟩⟩⟩⟩⟩⟩⟩⟩
theorem item_clo (ts : List Tok) : Clo ts (itemT ts) := by
  unfold itemT
  split
  · exact Clo.next fun _ us h => ⟨(must_in h).1, (tenant_clo us).first⟩
  · exact Clo.next fun _ us h => ⟨(must_in h).1, (class_clo us).first⟩
end
/-- A token's text stands in the text. -/
theorem toksF_text : ∀ (f : Nat) (s : Bytes) (a : Nat) (T : Tok), T ∈ toksF f s a → ∀ c ∈ T.text, c ∈ s
  | 0, _, _, T, h => by cases h
  | f + 1, s, a, T, h => by
    have hx : ∀ c ∈ lexS (s.drop (skipS false s)), c ∈ s := fun c hc => by
      rw [lexS_take] at hc
      exact List.mem_of_mem_drop (List.mem_of_mem_take hc)
    rw [toksF] at h
    split at h
    · rw [List.mem_singleton] at h; rw [h]; intro c hc; cases hc
    · rcases List.mem_cons.1 h with h | h
      · rw [h]; exact hx
      · exact fun c hc => List.mem_of_mem_drop (toksF_text f _ _ T h c hc)
theorem no_close {s : Bytes} (h : (125 : UInt8) ∉ s) : ∀ T ∈ toks s 0, T.text ≠ kClose := by
  intro T hT e
  unfold toks at hT
  rw [List.drop_zero] at hT
  exact h (toksF_text _ _ _ T hT 125 (by rw [e]; simp [kClose]))
theorem head_zero {c : UInt8} {r : Bytes} (hc : isAN c = true) : headAt (toks (c :: r) 0) = 0 := by
  have h0 := skip_not (.inl hc) r
  rw [toks_eq]
  have : (nextT (c :: r) 0).at_ = 0 := by
    unfold nextT
    simp only [List.drop_zero, h0]
  split <;> exact this
/-- Without a closing brace nothing is parsed. -/
theorem parse_open {c : UInt8} {r : Bytes} (hc : isAN c = true) (hb : (125 : UInt8) ∉ c :: r) (hl : (c :: r).length ≤ 2000) : ∃ p, parseB (c :: r) = .bad p 3 ∧ p ≤ (c :: r).length := by
  obtain ⟨s, hs⟩ : ∃ s, s = c :: r := ⟨_, rfl⟩
  have hh : headAt (toks s 0) < s.length := by rw [hs, head_zero hc]; simp
  rw [← hs] at hb hl ⊢
  cases hi : itemT (toks s 0) with
  | ok x us =>
    obtain ⟨T, hT, e⟩ := item_clo _ _ _ hi
    exact absurd e (no_close hb T hT)
  | bad p =>
    refine ⟨p, ?_, ?_⟩
    · unfold parseB
      rw [if_neg (by omega), itemsT, if_pos hh, hi]
      rfl
    · rcases item_bad _ p hi with rfl | ⟨T, hT, rfl⟩
      · exact Nat.zero_le _
      · exact (toks_len s T hT).2
/-- The printed class without its last three bytes. -/
def head8 (C : ClassD) : Bytes := (sClass ++ C.name ++ sCode ++ C.code ++ kSemi) ++ numTx kLosses C.losses ++ kSemi ++ numTx kWhole C.whole ++ [59]
theorem class_head (C : ClassD) : classTx C = head8 C ++ [32, 125, 10] := by
  simp [classTx, head8, sEnd]
theorem an_ne {x : Bytes} (hx : ∀ c ∈ x, isAN c = true) : (125 : UInt8) ∉ x ∧ (10 : UInt8) ∉ x :=
  ⟨fun h => by have := hx _ h; revert this; decide, fun h => by have := hx _ h; revert this; decide⟩
theorem head_free {C : ClassD} (h : OkC C) : (125 : UInt8) ∉ head8 C ∧ (10 : UInt8) ∉ head8 C := by
  have hl := perm_losses.1 h.losses
  have hw := perm_whole.1 h.whole
  have h1 := an_ne (word_an (name_word h.name).1)
  have h2 := an_ne (word_an (name_word h.code).1)
  have h3 := an_ne (num_an (itoa_num hl.1 (by omega)).1)
  have h4 := an_ne (num_an (itoa_num (x := C.whole) (by omega) (by omega)).1)
  unfold head8 numTx
  simp only [List.mem_append, not_or, h1, h2, h3, h4, not_false_eq_true, and_true]
  refine ⟨?_, ?_⟩ <;> simp only [sClass, sCode, kSemi, kLosses, kWhole] <;> decide
theorem cut_head {C : ClassD} {k : Nat} (hk : k + 3 ≤ (classTx C).length) : (classTx C).take k = (head8 C).take k := by
  rw [class_head] at hk ⊢
  rw [List.length_append] at hk
  rw [List.take_append_of_le_length (by simpa using hk)]
theorem head_start (C : ClassD) : ∃ r, head8 C = kClass ++ r := ⟨_, by simp only [head8, sClass, kClass, List.append_assoc, List.cons_append, List.nil_append]; rfl⟩
theorem short_bad : ∀ k, 1 ≤ k → k < 5 → parseB (kClass.take k) = .bad 0 3 := by
  intro k h1 h5
  obtain rfl | rfl | rfl | rfl : k = 1 ∨ k = 2 ∨ k = 3 ∨ k = 4 := by omega
  all_goals rfl
theorem cut_bad {C : ClassD} (hC : OkC C) (hl : (classTx C).length ≤ 2000) {k : Nat} (h1 : 1 ≤ k) (hk : k + 3 ≤ (classTx C).length) :
    ∃ p, parseB ((classTx C).take k) = .bad p 3 ∧ p ≤ k ∧ (k < 5 → p = 0) ∧ (10 : UInt8) ∉ (classTx C).take k := by
  obtain ⟨f1, f2⟩ := head_free hC
  obtain ⟨r, hr⟩ := head_start C
  rw [cut_head hk]
  have hn : (10 : UInt8) ∉ (head8 C).take k := fun h => f2 (List.mem_of_mem_take h)
  by_cases h5 : k < 5
  · refine ⟨0, ?_, Nat.zero_le _, fun _ => rfl, hn⟩
    rw [hr, List.take_append_of_le_length (by show k ≤ 5; omega)]
    exact short_bad k h1 h5
  · obtain ⟨k', rfl⟩ : ∃ k', k = k' + 1 := ⟨k - 1, by omega⟩
    have hc : (head8 C).take (k' + 1) = 99 :: (([108, 97, 115, 115] : Bytes) ++ r).take k' := by rw [hr]; rfl
    have hlen : ((head8 C).take (k' + 1)).length ≤ k' + 1 := List.length_take_le _ _
    have hb : (125 : UInt8) ∉ (head8 C).take (k' + 1) := fun h => f1 (List.mem_of_mem_take h)
    rw [hc] at hb hlen hn ⊢
    obtain ⟨p, hp, hpl⟩ := parse_open (c := 99) (by decide) hb (by omega)
    exact ⟨p, hp, by omega, fun h => absurd h h5, hn⟩
end Go.Proofs.YtimmffncfkcpfaaGreatDoor
