/-
  Other gaps between the tokens of printed terms: the same tokens. No program is run here.
-/
import Derived.Test.YtimmffncfkcpfaaDoorV3
namespace Go.Proofs.YtimmffncfkcpfaaDoor
open Go

/-- The separators. -/
def sepB (k : Nat) : Bytes := match k with
  | 0 => [32]
  | 1 => [10]
  | 2 => [9]
  | 3 => [32, 32]
  | 4 => [32, 35, 32, 99, 108, 97, 115, 115, 32, 123, 32, 59, 10]
  | _ => [10, 10, 35, 10]
theorem sep_gap (k : Nat) : Gap (sepB k) ∧ ∃ c r, sepB k = c :: r ∧ isAN c = false := by
  unfold sepB
  split
  · exact ⟨gap_one rfl, _, _, rfl, rfl⟩
  · exact ⟨gap_one rfl, _, _, rfl, rfl⟩
  · exact ⟨gap_one rfl, _, _, rfl, rfl⟩
  · exact ⟨gap_blank rfl (gap_one rfl), _, _, rfl, rfl⟩
  · exact ⟨fun s => by simp [skipS, isB]; omega, _, _, rfl, rfl⟩
  · exact ⟨fun s => by simp [skipS, isB]; omega, _, _, rfl, rfl⟩
/-- The blanks and newlines of a text, replaced as the picks say, from the blank n on. -/
def weaveB (pk : Nat → Nat) : Nat → Bytes → Bytes
  | _, [] => []
  | n, c :: s => if c = 32 ∨ c = 10 then sepB (pk n) ++ weaveB pk (n + 1) s else c :: weaveB pk n s
theorem weave_run (pk : Nat → Nat) : ∀ (x : Bytes) (n : Nat) (s : Bytes), (∀ c ∈ x, isAN c = true) → weaveB pk n (x ++ s) = x ++ weaveB pk n s
  | [], _, _, _ => rfl
  | c :: x, n, s, h => by
    have hc := an_range (h c (by simp))
    have h1 : ¬ (c = 32 ∨ c = 10) := by
      rintro (e | e) <;> (subst e; simp at hc)
    rw [List.cons_append, weaveB, if_neg h1, weave_run pk x n s (fun d hd => h d (by simp [hd])), List.cons_append]
theorem weave_free (pk : Nat → Nat) (n : Nat) {s : Bytes} (h : Free s) : Free (weaveB pk n s) := by
  cases s with
  | nil => exact h
  | cons c s =>
    rw [weaveB]
    split
    · obtain ⟨-, d, r, e, hd⟩ := sep_gap (pk n)
      rw [e, List.cons_append]
      exact free_cons hd _
    · exact free_cons (h c s rfl) _
theorem keys_stuck {c : UInt8} {s : Bytes} (h1 : isB c = false) (h2 : (c == 35) = false) (h3 : isS c = false) (h4 : (wordB (runT (c :: s)) || numB (runT (c :: s))) = false) : keys (c :: s) = [some []] := by
  have h0 : skipS false (c :: s) = 0 := by rw [skipS, h1, h2]; rfl
  have e : lexS (c :: s) = [] := by rw [lexS_cons, h3, h4]; rfl
  rw [keys_eq, h0, List.drop_zero, e, if_pos rfl, if_neg (by simp)]
theorem keys_weave (pk : Nat → Nat) : ∀ (k n : Nat) (s : Bytes), s.length ≤ k → (35 : UInt8) ∉ s → keys (weaveB pk n s) = keys s
  | _, n, [], _, _ => rfl
  | 0, n, c :: s, h, _ => by simp at h
  | k + 1, n, c :: s, h, h35 => by
    have hs : s.length ≤ k := by simpa using h
    have h35s : (35 : UInt8) ∉ s := fun hm => h35 (by simp [hm])
    have hc35 : (c == 35) = false := by
      rw [beq_eq_false_iff_ne]
      rintro rfl
      exact h35 (by simp)
    rw [weaveB]
    by_cases hb : c = 32 ∨ c = 10
    · rw [if_pos hb, keys_gap (sep_gap _).1, keys_weave pk k (n + 1) s hs h35s]
      rw [keys_blank (by rcases hb with rfl | rfl <;> rfl)]
    · rw [if_neg hb]
      by_cases h9 : c = 9
      · subst h9
        rw [keys_blank rfl, keys_blank rfl, keys_weave pk k n s hs h35s]
      · have hB : isB c = false := by
          unfold isB
          simp only [Bool.or_eq_false_iff, beq_eq_false_iff_ne]
          exact ⟨⟨fun e => hb (.inl e), h9⟩, fun e => hb (.inr e)⟩
        cases hS : isS c with
        | true => rw [keys_sign hS, keys_sign hS, keys_weave pk k n s hs h35s]
        | false =>
          cases hA : isAN c with
          | false =>
            have e : ∀ s, runT (c :: s) = [] := fun s => by unfold runT; rw [List.takeWhile_cons, if_neg (by rw [hA]; simp)]
            rw [keys_stuck hB hc35 hS (by rw [e]; rfl), keys_stuck hB hc35 hS (by rw [e]; rfl)]
          | true =>
            obtain ⟨x, r, hx, hr, hf⟩ : ∃ x r, c :: s = x ++ r ∧ (∀ d ∈ x, isAN d = true) ∧ Free r := by
              refine ⟨(c :: s).takeWhile isAN, (c :: s).dropWhile isAN, (List.takeWhile_append_dropWhile).symm, fun d hd => ?_, fun d r' e => ?_⟩
              · have := List.all_takeWhile (p := isAN) (l := c :: s)
                exact List.all_eq_true.1 this d hd
              · have := List.head?_dropWhile_not isAN (c :: s)
                rw [e] at this
                simpa using this
            have hx0 : x ≠ [] := by
              rintro rfl
              have := hf c s hx.symm
              rw [hA] at this; cases this
            have hw : c :: weaveB pk n s = x ++ weaveB pk n r := by
              rw [← weave_run pk x n r hr, ← hx, weaveB, if_neg hb]
            by_cases hwn : wordB x = true ∨ numB x = true
            · rw [hw, hx, keys_an hwn hr (weave_free pk n hf), keys_an hwn hr hf]
              congr 1
              refine keys_weave pk k n r ?_ ?_
              · have := congrArg List.length hx
                have hp := List.length_pos_iff.2 hx0
                rw [List.length_cons, List.length_append] at this
                omega
              · intro hm
                exact h35 (by rw [hx]; simp [hm])
            · have hno : (wordB x || numB x) = false := by
                rw [Bool.or_eq_false_iff]
                constructor
                · cases h' : wordB x with
                  | false => rfl
                  | true => exact absurd (.inl h') hwn
                · cases h' : numB x with
                  | false => rfl
                  | true => exact absurd (.inr h') hwn
              have e1 : runT (c :: s) = x := by rw [hx]; exact run_free hr hf
              have e2 : runT (c :: weaveB pk n s) = x := by rw [hw]; exact run_free hr (weave_free pk n hf)
              rw [keys_stuck hB hc35 hS (by rw [e2]; exact hno), keys_stuck hB hc35 hS (by rw [e1]; exact hno)]
theorem an_no35 {x : Bytes} (h : ∀ c ∈ x, isAN c = true) : (35 : UInt8) ∉ x := fun hm => by
  have := h 35 hm
  revert this; decide
theorem itoa_no35 {x : Int} (h0 : 0 ≤ x) (h : x < 100000000) : (35 : UInt8) ∉ Lib.itoa x := an_no35 (num_an (itoa_num h0 h).1)
theorem print_no35 {T : TermsD} (hT : Ok T) : (35 : UInt8) ∉ printT T := by
  intro hm
  unfold printT at hm
  rcases List.mem_append.1 hm with hm | hm
  · obtain ⟨C, hC, hm⟩ := List.mem_flatMap.1 hm
    have h := hT.cs C hC
    have h1 := perm_losses.1 h.losses
    have h2 := perm_whole.1 h.whole
    have n1 := an_no35 (word_an (name_word h.name).1)
    have n2 := an_no35 (word_an (name_word h.code).1)
    have n3 := itoa_no35 h1.1 (by omega)
    have n4 := itoa_no35 (x := C.whole) (by omega) (by omega)
    revert hm
    simp [classTx, numTx, sClass, sCode, sEnd, kSemi, kLosses, kWhole, n1, n2, n3, n4]
  · obtain ⟨D, hD, hm⟩ := List.mem_flatMap.1 hm
    have h := (hT.ts D hD).1
    have h1 := perm_guar.1 h.guar
    have h2 := perm_snap.1 h.snap
    have h3 := perm_burst.1 h.burst
    have h4 := perm_rank.1 h.rank
    have n1 := an_no35 (word_an (name_word h.tenant).1)
    have n2 := an_no35 (word_an (name_word h.cls).1)
    have n3 := itoa_no35 h1.1 (by omega)
    have n4 := itoa_no35 h2.1 (by omega)
    have n5 := itoa_no35 h3.1 (by omega)
    have n6 := itoa_no35 h4.1 (by omega)
    revert hm
    unfold contrTx snapTx burstTx
    split <;> split <;> simp [numTx, sTenant, sBrace, sCls, sEnd, kSemi, kGuar, kSnap, kBurst, kRank, n1, n2, n3, n4, n5, n6]
/-- Terms printed, other gaps laid between the tokens, and read again. -/
theorem parse_weave {T : TermsD} (hT : Ok T) (pk : Nat → Nat) (n : Nat) (hl : (weaveB pk n (printT T)).length ≤ 2000) : parseB (weaveB pk n (printT T)) = .ok T :=
  parse_keys hT hl ((keys_weave pk _ n _ (Nat.le_refl _) (print_no35 hT)).trans (keys_print hT))
end Go.Proofs.YtimmffncfkcpfaaDoor
