/-
  The walk of the reader's token.
-/
import Derived.Test.YtafgmbchdcfkcaaDoorW1
import Derived.Test.YtafgmbchdcfkcaaDoorLx
import Derived.LoopN
namespace Go.Proofs.YtafgmbchdcfkcaaDoor
open Go Go.RowKit Go.Walks

abbrev strV (s : Bytes) : Value := .string ⟨s.toArray⟩
/-- The offset of the next token. -/
def nxt (t : ByteArray) (n : Nat) : Nat := n + skipS false (t.data.toList.drop n)
/-- The next token's text. -/
def tokS (t : ByteArray) (n : Nat) : Bytes := (t.data.toList.drop (nxt t n)).take (lexLen (t.data.toList.drop (nxt t n)))
theorem nxt_le {t : ByteArray} {n : Nat} (h : n ≤ t.size) : nxt t n ≤ t.size := by
  have := skipS_le false (t.data.toList.drop n)
  rw [List.length_drop, ← Lib.size_eq] at this
  unfold nxt; omega

set_option maxRecDepth 100000 in
set_option maxHeartbeats 1000000 in
theorem token_any (t : ByteArray) (r n : Nat) (w : World) (hn : n ≤ t.size) (ht : t.size ≤ 2000) (Hr : Hid (Rd w r t n)) :
    Calls Tryd.prog 79 #[.pointer (some ⟨r, 0, none⟩)] w fun e w' => e = .returned (strV (tokS t n)) ∧ Rd w' r t (nxt t n) ∧ RB r w w' := by
  have hle := nxt_le hn
  go_enter Tryd.func79, Tryd.ntmps79
  go_wp2_with (go_at_call 57; refine (skip_any t r n _ hn ht Hr).mono ?_; rintro e w1 ⟨rfl, hr1, hb1⟩; have HR1 := Lib.hid (show Rd w1 r t (nxt t n) from hr1); have HB1 := Lib.hid hb1; clear hr1 hb1; obtain ⟨c0, c1, f0, f1⟩ := two_cells HR1.out)
  obtain ⟨a, ha⟩ : ∃ a, a = nxt t n := ⟨_, rfl⟩
  rw [← ha] at c1 hle HR1
  have Ha := Lib.hid ha
  clear ha
  have hI1 : (0 : Int) ≤ (a : Int) := by omega
  have hI2 : (a : Int) ≤ (t.size : Int) := by omega
  go_quiet (fail)
  obtain ⟨u, hu⟩ : ∃ u, u = t.extract a t.size := ⟨_, rfl⟩
  rw [← hu]
  obtain ⟨w2, hw2⟩ : ∃ w2, w2 = w1.drewN nq := ⟨_, rfl⟩
  rw [← hw2]
  have HR2 : Hid (Rd w2 r t a) := by rw [hw2]; exact HR1.out
  have HB2 : Hid (RB r w w2) := by rw [hw2]; exact HB1.out.drewN _
  have hul : u.data.toList = t.data.toList.drop a := by rw [hu]; exact cut_list
  have hus : u.size ≤ 2000 := by rw [Lib.size_eq, hul, List.length_drop, ← Lib.size_eq]; omega
  have Hfin : Hid (∀ x, x = (u.data.toList).take (lexLen u.data.toList) → (Ending.returned (.string ⟨x.toArray⟩)) = Ending.returned (strV (tokS t n)) ∧ Rd w2 r t (nxt t n) ∧ RB r w w2) := by
    rintro x rfl
    refine ⟨?_, by rw [← Ha.out]; exact HR2.out, HB2.out⟩
    unfold strV tokS
    rw [hul, Ha.out]
  clear hu hw2 hul HR2 HB2 HR1 HB1 c0 c1 f0 f1 Hr Ha hI1 hI2 hle hn ht
  cases hcs : u.data.toList with
  | nil =>
    have hu0 : u.size = 0 := by rw [Lib.size_eq, hcs]; rfl
    have hue : u = ByteArray.empty := bytes_ext (by rw [hcs]; rfl)
    have Hf : Hid ((Ending.returned (.string ByteArray.empty)) = Ending.returned (strV (tokS t n)) ∧ Rd w2 r t (nxt t n) ∧ RB r w w2) := by
      have := Hfin.out _ rfl
      rw [hcs] at this
      exact this
    clear hcs hu0 hus Hfin
    subst hue
    go_wp2_with fail
    refine wp_loop_rounds 1 ?_
    rw [rounds_succ]
    go_wp2_with fail
    go_ret
    exact Hf.out
  | cons c0 s =>
    have hpos : 0 < u.size := by rw [Lib.size_eq, hcs]; simp
    have hc0 : u[0] = c0 := by
      have := byte_get hpos
      rw [hcs] at this
      injection this with this
      exact this.symm
    have hne : u.toList.isEmpty = false := by rw [isEmpty_list, hcs]; rfl
    have hrl : rawL (c0 :: s) ≤ u.size := by rw [Lib.size_eq, hcs]; exact rawL_le _
    have Hcs := Lib.hid hcs
    clear hcs
    have HL := Lib.hid (letter_any c0)
    go_wp2_with fail
    go_loopw [4] (fun ix wr => ∃ k : Nat, k ≤ rawL (c0 :: s) ∧ ix = .int .i64 k ∧ wr = w2) (fun ix _ => rawL (c0 :: s) - (intOf ix).toNat)
    case atStart => exact ⟨0, by omega, rfl, rfl⟩
    case round =>
      obtain ⟨k, hk, rfl, rfl⟩ := hrel
      have hK1 : (0 : Int) ≤ (k : Int) := by omega
      by_cases hlt : k < rawL (c0 :: s)
      · obtain ⟨c, hc, hin⟩ := raw_at hlt
        have hku : k < u.size := by omega
        have hK2 : (k : Int) < (u.size : Int) := by omega
        have hck : u[k] = c := by
          have := byte_get hku
          rw [Hcs.out, hc] at this
          injection this with this
          exact this.symm
        clear hc
        have hcase : isD c = true ∨ (isD c = false ∧ isL c0 = true ∧ isL c = true) := by
          unfold inT at hin
          cases h1 : isD c <;> simp_all
        clear hin
        rcases hcase with h1 | ⟨h1, h2, h3⟩
        · have H1 := Lib.hid h1
          clear h1
          go_wp2_with (go_at_call 52; refine (digit_any c _).mono ?_; rintro e w3 ⟨rfl, rfl⟩; rw [H1.out])
          exact ⟨⟨k + 1, by omega, by go_num, trivial⟩, by simp [intOf]; omega⟩
        · have H1 := Lib.hid h1
          have H2 := Lib.hid h2
          have H3 := Lib.hid h3
          clear h1 h2 h3
          go_wp2_with (first
            | (go_at_call 52; refine (digit_any c _).mono ?_; rintro e w3 ⟨rfl, rfl⟩; rw [H1.out])
            | (go_at_call 51; ((with_reducible refine (letter_any c0 _).mono ?_)); rintro e w3 ⟨rfl, rfl⟩; rw [H2.out])
            | (go_at_call 51; ((with_reducible refine (letter_any c _).mono ?_)); rintro e w3 ⟨rfl, rfl⟩; rw [H3.out]))
          exact ⟨⟨k + 1, by omega, by go_num, trivial⟩, by simp [intOf]; omega⟩
      · obtain rfl : k = rawL (c0 :: s) := by omega
        have hex : u.size ≤ rawL (c0 :: s) ∨ ∃ c, ∃ h : rawL (c0 :: s) < u.size, u[rawL (c0 :: s)] = c ∧ inT c0 c = false := by
          rcases Nat.lt_or_ge (rawL (c0 :: s)) u.size with h | h
          · right
            refine ⟨_, h, rfl, ?_⟩
            have := byte_get h
            rw [Hcs.out] at this
            exact raw_end this
          · left; exact h
        have HF : Hid (∀ k : Nat, lexLen (c0 :: s) = k → k ≤ u.size → (Ending.returned (.string (u.extract 0 k))) = Ending.returned (strV (tokS t n)) ∧ Rd wr r t (nxt t n) ∧ RB r w wr) := fun k hk hku => by
          have := Hfin.out _ rfl
          rw [Hcs.out, hk] at this
          have e : u.extract 0 k = ⟨((c0 :: s).take k).toArray⟩ := bytes_ext (by rw [Lib.extract_data, Hcs.out]; simp)
          rw [e]; exact this
        have HF0 : Hid (lexLen (c0 :: s) = 0 → (Ending.returned (.string ByteArray.empty)) = Ending.returned (strV (tokS t n)) ∧ Rd wr r t (nxt t n) ∧ RB r w wr) := fun h => by
          have := HF.out 0 h (by omega)
          have e : u.extract 0 0 = ByteArray.empty := bytes_ext (by rw [Lib.extract_data]; simp)
          rw [e] at this; exact this
        clear hlt hk
        have HS0 : Hid (Lib.indexByte (ByteArray.mk #[123, 125, 59, 58]).data.toList ((c0.toNat : Int)).toNat.toUInt8 = Lib.indexByte [123, 125, 59, 58] c0) := by
          show _ = _
          rw [Int.toNat_natCast]
          congr 1
          exact UInt8.ofNat_toNat
        cases hl0 : isL c0 with
        | true =>
          have HL0 := Lib.hid hl0
          have HD0 := Lib.hid (isL_not_D hl0)
          have hR : 0 < rawL (c0 :: s) := rawL_pos (by simp [isAN, hl0])
          have hRb : ((rawL (c0 :: s) : Int) == 0) = false := by rw [beq_eq_false_iff_ne]; omega
          have Hk : Hid (lexLen (c0 :: s) = rawL (c0 :: s)) := by show _ = _; unfold lexLen; rw [kindL_cons, hl0]; rfl
          clear hl0
          rcases hex with hge | ⟨c, hlt, hck, hin⟩
          · have c : UInt8 := 0
            have HDc : Hid (isD c = isD c) := rfl
            have HLc : Hid (isL c = isL c) := rfl
            generalize hRe : rawL (c0 :: s) = R at *
            clear hRe
            go_wp2_with (first
              | (go_at_call 52; ((with_reducible refine (digit_any c0 _).mono ?_)); rintro e w3 ⟨rfl, rfl⟩; rw [HD0.out])
              | (go_at_call 51; ((with_reducible refine (letter_any c0 _).mono ?_)); rintro e w3 ⟨rfl, rfl⟩; rw [HL0.out])
              | (go_at_call 52; ((with_reducible refine (digit_any c _).mono ?_)); rintro e w3 ⟨rfl, rfl⟩; rw [HDc.out])
              | (go_at_call 51; ((with_reducible refine (letter_any c _).mono ?_)); rintro e w3 ⟨rfl, rfl⟩; rw [HLc.out])
              | (go_at_call 27; refine (Tryd.strings_IndexByte _ _ _).mono ?_; rintro e w3 ⟨rfl, rfl⟩; rw [HS0.out]))
            go_ret
            exact HF.out _ Hk.out hrl
          · have hK2 : ((rawL (c0 :: s) : Nat) : Int) < (u.size : Int) := by omega
            have HDc : Hid (isD c = false) := by show _ = _; unfold inT at hin; cases h : isD c <;> simp_all
            have HLc : Hid (isL c = false) := by show _ = _; unfold inT at hin; rw [HL0.out] at hin; cases h : isL c <;> simp_all
            clear hin
            generalize hRe : rawL (c0 :: s) = R at *
            clear hRe
            go_wp2_with (first
              | (go_at_call 52; ((with_reducible refine (digit_any c0 _).mono ?_)); rintro e w3 ⟨rfl, rfl⟩; rw [HD0.out])
              | (go_at_call 51; ((with_reducible refine (letter_any c0 _).mono ?_)); rintro e w3 ⟨rfl, rfl⟩; rw [HL0.out])
              | (go_at_call 52; ((with_reducible refine (digit_any c _).mono ?_)); rintro e w3 ⟨rfl, rfl⟩; rw [HDc.out])
              | (go_at_call 51; ((with_reducible refine (letter_any c _).mono ?_)); rintro e w3 ⟨rfl, rfl⟩; rw [HLc.out])
              | (go_at_call 27; refine (Tryd.strings_IndexByte _ _ _).mono ?_; rintro e w3 ⟨rfl, rfl⟩; rw [HS0.out]))
            go_ret
            exact HF.out _ Hk.out hrl
        | false =>
          cases hd0 : isD c0 with
          | true =>
            have HL0 := Lib.hid hl0
            have HD0 := Lib.hid hd0
            have hR : 0 < rawL (c0 :: s) := rawL_pos (by simp [isAN, hd0])
            have hRb : ((rawL (c0 :: s) : Int) == 0) = false := by rw [beq_eq_false_iff_ne]; omega
            have b48 : ((c0.toNat : Int) == 48) = (c0 == 48) := byte_eq c0 48
            cases hb : badN (c0 :: s) with
            | true =>
              have Hk : Hid (lexLen (c0 :: s) = 0) := by show _ = _; unfold lexLen; rw [kindL_cons, hl0, hd0, hb]; rfl
              have hcase : 5 < rawL (c0 :: s) ∨ (rawL (c0 :: s) ≤ 5 ∧ 1 < rawL (c0 :: s) ∧ (c0 == 48) = true) := by
                unfold badN at hb
                by_cases h5 : 5 < rawL (c0 :: s)
                · exact .inl h5
                · right
                  simp [h5] at hb
                  exact ⟨by omega, hb.1, by simpa using hb.2⟩
              clear hb hd0 hl0
              rcases hcase with h5 | ⟨h5, h1, h48⟩
              · clear b48
                rcases hex with hge | ⟨c, hlt, hck, hin⟩
                · have c : UInt8 := 0
                  have HDc : Hid (isD c = isD c) := rfl
                  have HLc : Hid (isL c = isL c) := rfl
                  generalize hRe : rawL (c0 :: s) = R at *
                  clear hRe
                  go_wp2_with (first
                    | (go_at_call 52; ((with_reducible refine (digit_any c0 _).mono ?_)); rintro e w3 ⟨rfl, rfl⟩; rw [HD0.out])
                    | (go_at_call 51; ((with_reducible refine (letter_any c0 _).mono ?_)); rintro e w3 ⟨rfl, rfl⟩; rw [HL0.out])
                    | (go_at_call 52; ((with_reducible refine (digit_any c _).mono ?_)); rintro e w3 ⟨rfl, rfl⟩; rw [HDc.out])
                    | (go_at_call 51; ((with_reducible refine (letter_any c _).mono ?_)); rintro e w3 ⟨rfl, rfl⟩; rw [HLc.out])
                    | (go_at_call 27; refine (Tryd.strings_IndexByte _ _ _).mono ?_; rintro e w3 ⟨rfl, rfl⟩; rw [HS0.out]))
                  go_ret
                  exact HF0.out Hk.out
                · have hK2 : ((rawL (c0 :: s) : Nat) : Int) < (u.size : Int) := by omega
                  have HDc : Hid (isD c = false) := by show _ = _; unfold inT at hin; cases h : isD c <;> simp_all
                  have HLc : Hid (isL c = isL c) := rfl
                  clear hin
                  generalize hRe : rawL (c0 :: s) = R at *
                  clear hRe
                  go_wp2_with (first
                    | (go_at_call 52; ((with_reducible refine (digit_any c0 _).mono ?_)); rintro e w3 ⟨rfl, rfl⟩; rw [HD0.out])
                    | (go_at_call 51; ((with_reducible refine (letter_any c0 _).mono ?_)); rintro e w3 ⟨rfl, rfl⟩; rw [HL0.out])
                    | (go_at_call 52; ((with_reducible refine (digit_any c _).mono ?_)); rintro e w3 ⟨rfl, rfl⟩; rw [HDc.out])
                    | (go_at_call 51; ((with_reducible refine (letter_any c _).mono ?_)); rintro e w3 ⟨rfl, rfl⟩; rw [HLc.out])
                    | (go_at_call 27; refine (Tryd.strings_IndexByte _ _ _).mono ?_; rintro e w3 ⟨rfl, rfl⟩; rw [HS0.out]))
                  go_ret
                  exact HF0.out Hk.out
              · rw [h48] at b48
                clear h48
                rcases hex with hge | ⟨c, hlt, hck, hin⟩
                · have c : UInt8 := 0
                  have HDc : Hid (isD c = isD c) := rfl
                  have HLc : Hid (isL c = isL c) := rfl
                  generalize hRe : rawL (c0 :: s) = R at *
                  clear hRe
                  go_wp2_with (first
                    | (go_at_call 52; ((with_reducible refine (digit_any c0 _).mono ?_)); rintro e w3 ⟨rfl, rfl⟩; rw [HD0.out])
                    | (go_at_call 51; ((with_reducible refine (letter_any c0 _).mono ?_)); rintro e w3 ⟨rfl, rfl⟩; rw [HL0.out])
                    | (go_at_call 52; ((with_reducible refine (digit_any c _).mono ?_)); rintro e w3 ⟨rfl, rfl⟩; rw [HDc.out])
                    | (go_at_call 51; ((with_reducible refine (letter_any c _).mono ?_)); rintro e w3 ⟨rfl, rfl⟩; rw [HLc.out])
                    | (go_at_call 27; refine (Tryd.strings_IndexByte _ _ _).mono ?_; rintro e w3 ⟨rfl, rfl⟩; rw [HS0.out]))
                  go_ret
                  exact HF0.out Hk.out
                · have hK2 : ((rawL (c0 :: s) : Nat) : Int) < (u.size : Int) := by omega
                  have HDc : Hid (isD c = false) := by show _ = _; unfold inT at hin; cases h : isD c <;> simp_all
                  have HLc : Hid (isL c = isL c) := rfl
                  clear hin
                  generalize hRe : rawL (c0 :: s) = R at *
                  clear hRe
                  go_wp2_with (first
                    | (go_at_call 52; ((with_reducible refine (digit_any c0 _).mono ?_)); rintro e w3 ⟨rfl, rfl⟩; rw [HD0.out])
                    | (go_at_call 51; ((with_reducible refine (letter_any c0 _).mono ?_)); rintro e w3 ⟨rfl, rfl⟩; rw [HL0.out])
                    | (go_at_call 52; ((with_reducible refine (digit_any c _).mono ?_)); rintro e w3 ⟨rfl, rfl⟩; rw [HDc.out])
                    | (go_at_call 51; ((with_reducible refine (letter_any c _).mono ?_)); rintro e w3 ⟨rfl, rfl⟩; rw [HLc.out])
                    | (go_at_call 27; refine (Tryd.strings_IndexByte _ _ _).mono ?_; rintro e w3 ⟨rfl, rfl⟩; rw [HS0.out]))
                  go_ret
                  exact HF0.out Hk.out
            | false =>
              have Hk : Hid (lexLen (c0 :: s) = rawL (c0 :: s)) := by show _ = _; unfold lexLen; rw [kindL_cons, hl0, hd0, hb]; rfl
              have hcase : rawL (c0 :: s) ≤ 1 ∨ (rawL (c0 :: s) ≤ 5 ∧ 1 < rawL (c0 :: s) ∧ (c0 == 48) = false) := by
                unfold badN at hb
                rw [Bool.or_eq_false_iff] at hb
                have h5 : rawL (c0 :: s) ≤ 5 := by have := hb.1; simp at this; exact this
                by_cases h1 : 1 < rawL (c0 :: s)
                · right
                  have := hb.2
                  simp [h1] at this
                  exact ⟨h5, h1, by simpa using this⟩
                · exact .inl (by omega)
              clear hb hd0 hl0
              rcases hcase with h1 | ⟨h5, h1, h48⟩
              · clear b48
                rcases hex with hge | ⟨c, hlt, hck, hin⟩
                · have c : UInt8 := 0
                  have HDc : Hid (isD c = isD c) := rfl
                  have HLc : Hid (isL c = isL c) := rfl
                  generalize hRe : rawL (c0 :: s) = R at *
                  clear hRe
                  go_wp2_with (first
                    | (go_at_call 52; ((with_reducible refine (digit_any c0 _).mono ?_)); rintro e w3 ⟨rfl, rfl⟩; rw [HD0.out])
                    | (go_at_call 51; ((with_reducible refine (letter_any c0 _).mono ?_)); rintro e w3 ⟨rfl, rfl⟩; rw [HL0.out])
                    | (go_at_call 52; ((with_reducible refine (digit_any c _).mono ?_)); rintro e w3 ⟨rfl, rfl⟩; rw [HDc.out])
                    | (go_at_call 51; ((with_reducible refine (letter_any c _).mono ?_)); rintro e w3 ⟨rfl, rfl⟩; rw [HLc.out])
                    | (go_at_call 27; refine (Tryd.strings_IndexByte _ _ _).mono ?_; rintro e w3 ⟨rfl, rfl⟩; rw [HS0.out]))
                  go_ret
                  exact HF.out _ Hk.out hrl
                · have hK2 : ((rawL (c0 :: s) : Nat) : Int) < (u.size : Int) := by omega
                  have HDc : Hid (isD c = false) := by show _ = _; unfold inT at hin; cases h : isD c <;> simp_all
                  have HLc : Hid (isL c = isL c) := rfl
                  clear hin
                  generalize hRe : rawL (c0 :: s) = R at *
                  clear hRe
                  go_wp2_with (first
                    | (go_at_call 52; ((with_reducible refine (digit_any c0 _).mono ?_)); rintro e w3 ⟨rfl, rfl⟩; rw [HD0.out])
                    | (go_at_call 51; ((with_reducible refine (letter_any c0 _).mono ?_)); rintro e w3 ⟨rfl, rfl⟩; rw [HL0.out])
                    | (go_at_call 52; ((with_reducible refine (digit_any c _).mono ?_)); rintro e w3 ⟨rfl, rfl⟩; rw [HDc.out])
                    | (go_at_call 51; ((with_reducible refine (letter_any c _).mono ?_)); rintro e w3 ⟨rfl, rfl⟩; rw [HLc.out])
                    | (go_at_call 27; refine (Tryd.strings_IndexByte _ _ _).mono ?_; rintro e w3 ⟨rfl, rfl⟩; rw [HS0.out]))
                  go_ret
                  exact HF.out _ Hk.out hrl
              · rw [h48] at b48
                clear h48
                rcases hex with hge | ⟨c, hlt, hck, hin⟩
                · have c : UInt8 := 0
                  have HDc : Hid (isD c = isD c) := rfl
                  have HLc : Hid (isL c = isL c) := rfl
                  generalize hRe : rawL (c0 :: s) = R at *
                  clear hRe
                  go_wp2_with (first
                    | (go_at_call 52; ((with_reducible refine (digit_any c0 _).mono ?_)); rintro e w3 ⟨rfl, rfl⟩; rw [HD0.out])
                    | (go_at_call 51; ((with_reducible refine (letter_any c0 _).mono ?_)); rintro e w3 ⟨rfl, rfl⟩; rw [HL0.out])
                    | (go_at_call 52; ((with_reducible refine (digit_any c _).mono ?_)); rintro e w3 ⟨rfl, rfl⟩; rw [HDc.out])
                    | (go_at_call 51; ((with_reducible refine (letter_any c _).mono ?_)); rintro e w3 ⟨rfl, rfl⟩; rw [HLc.out])
                    | (go_at_call 27; refine (Tryd.strings_IndexByte _ _ _).mono ?_; rintro e w3 ⟨rfl, rfl⟩; rw [HS0.out]))
                  go_ret
                  exact HF.out _ Hk.out hrl
                · have hK2 : ((rawL (c0 :: s) : Nat) : Int) < (u.size : Int) := by omega
                  have HDc : Hid (isD c = false) := by show _ = _; unfold inT at hin; cases h : isD c <;> simp_all
                  have HLc : Hid (isL c = isL c) := rfl
                  clear hin
                  generalize hRe : rawL (c0 :: s) = R at *
                  clear hRe
                  go_wp2_with (first
                    | (go_at_call 52; ((with_reducible refine (digit_any c0 _).mono ?_)); rintro e w3 ⟨rfl, rfl⟩; rw [HD0.out])
                    | (go_at_call 51; ((with_reducible refine (letter_any c0 _).mono ?_)); rintro e w3 ⟨rfl, rfl⟩; rw [HL0.out])
                    | (go_at_call 52; ((with_reducible refine (digit_any c _).mono ?_)); rintro e w3 ⟨rfl, rfl⟩; rw [HDc.out])
                    | (go_at_call 51; ((with_reducible refine (letter_any c _).mono ?_)); rintro e w3 ⟨rfl, rfl⟩; rw [HLc.out])
                    | (go_at_call 27; refine (Tryd.strings_IndexByte _ _ _).mono ?_; rintro e w3 ⟨rfl, rfl⟩; rw [HS0.out]))
                  go_ret
                  exact HF.out _ Hk.out hrl
          | false =>
            have HL0 := Lib.hid hl0
            have HD0 := Lib.hid hd0
            have hR : rawL (c0 :: s) = 0 := raw_zero hl0 hd0
            have hsg := sign_index c0
            have Hk1 : Hid (isS c0 = true → lexLen (c0 :: s) = 1) := fun h => by unfold lexLen; rw [kindL_cons, hl0, hd0, h]; rfl
            have Hk0 : Hid (isS c0 = false → lexLen (c0 :: s) = 0) := fun h => by unfold lexLen; rw [kindL_cons, hl0, hd0, h]; rfl
            have c : UInt8 := 0
            have HDc : Hid (isD c = isD c) := rfl
            have HLc : Hid (isL c = isL c) := rfl
            clear hex hl0 hd0
            rw [hR]
            generalize hJ : Lib.indexByte [123, 125, 59, 58] c0 = J at *
            clear hJ hR hrl
            cases hs : isS c0 with
            | true =>
              rw [hs] at hsg
              have hJ0 : 0 ≤ J := by simpa using hsg
              have Hk := Lib.hid (Hk1.out hs)
              clear hsg hs
              go_wp2_with (first
                | (go_at_call 52; ((with_reducible refine (digit_any c0 _).mono ?_)); rintro e w3 ⟨rfl, rfl⟩; rw [HD0.out])
                | (go_at_call 51; ((with_reducible refine (letter_any c0 _).mono ?_)); rintro e w3 ⟨rfl, rfl⟩; rw [HL0.out])
                | (go_at_call 52; ((with_reducible refine (digit_any c _).mono ?_)); rintro e w3 ⟨rfl, rfl⟩; rw [HDc.out])
                | (go_at_call 51; ((with_reducible refine (letter_any c _).mono ?_)); rintro e w3 ⟨rfl, rfl⟩; rw [HLc.out])
                | (go_at_call 27; refine (Tryd.strings_IndexByte _ _ _).mono ?_; rintro e w3 ⟨rfl, rfl⟩; rw [HS0.out]))
              go_ret
              exact HF.out 1 Hk.out (by omega)
            | false =>
              rw [hs] at hsg
              have hJ0 : J < 0 := by simpa using hsg
              have Hk := Lib.hid (Hk0.out hs)
              clear hsg hs
              go_wp2_with (first
                | (go_at_call 52; ((with_reducible refine (digit_any c0 _).mono ?_)); rintro e w3 ⟨rfl, rfl⟩; rw [HD0.out])
                | (go_at_call 51; ((with_reducible refine (letter_any c0 _).mono ?_)); rintro e w3 ⟨rfl, rfl⟩; rw [HL0.out])
                | (go_at_call 52; ((with_reducible refine (digit_any c _).mono ?_)); rintro e w3 ⟨rfl, rfl⟩; rw [HDc.out])
                | (go_at_call 51; ((with_reducible refine (letter_any c _).mono ?_)); rintro e w3 ⟨rfl, rfl⟩; rw [HLc.out])
                | (go_at_call 27; refine (Tryd.strings_IndexByte _ _ _).mono ?_; rintro e w3 ⟨rfl, rfl⟩; rw [HS0.out]))
              go_ret
              exact HF0.out Hk.out
end Go.Proofs.YtafgmbchdcfkcaaDoor
