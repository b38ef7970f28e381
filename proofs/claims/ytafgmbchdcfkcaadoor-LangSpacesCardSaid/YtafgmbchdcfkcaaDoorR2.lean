/-
  The walk of the reference's next: the token at an offset or after it.
-/
import Derived.Test.YtafgmbchdcfkcaaDoorR1
namespace Go.Proofs.YtafgmbchdcfkcaaDoor
open Go Go.RowKit Go.Walks

theorem isL_iff (c : UInt8) : isL c = true ↔ 97 ≤ c.toNat ∧ c.toNat ≤ 122 := by simp [isL]
theorem rlet_any (c : UInt8) (w : World) : Calls Tryd.prog 53 #[.int .u8 (c.toNat : Int)] w fun e w' => e = .returned (.bool (isL c)) ∧ w' = w := rletter_any c w

theorem valD_snoc {l : Bytes} {k : Nat} {d : UInt8} (h : l[k]? = some d) : valD (l.take (k + 1)) = 10 * valD (l.take k) + (d.toNat - 48) := by
  rw [List.take_add_one, h]
  simp [valD]
theorem valD_le (l : Bytes) : ∀ k, valD (l.take k) + 23 ≤ 23 * 10 ^ k
  | 0 => by simp [valD]
  | k + 1 => by
    have ih := valD_le l k
    rw [Nat.pow_succ]
    cases h : l[k]? with
    | none =>
      have : l.take (k + 1) = l.take k := by rw [List.take_add_one, h]; simp
      rw [this]
      omega
    | some d =>
      rw [valD_snoc h]
      have hd : d.toNat < 256 := d.toNat_lt
      omega
theorem pow6 {k : Nat} : 10 ^ min k 6 ≤ 1000000 := by
  have : 10 ^ min k 6 ≤ 10 ^ 6 := Nat.pow_le_pow_right (by omega) (by omega)
  simpa using this
theorem isS_yes {c : UInt8} (h : isS c = true) : ((c == 123) = true) ∨ ((c == 123) = false ∧ (c == 125) = true) ∨ ((c == 123) = false ∧ (c == 125) = false ∧ (c == 59) = true) ∨ ((c == 123) = false ∧ (c == 125) = false ∧ (c == 59) = false ∧ (c == 58) = true) := by
  unfold isS at h
  cases h1 : (c == 123) <;> cases h2 : (c == 125) <;> cases h3 : (c == 59) <;> cases h4 : (c == 58) <;> simp_all
theorem isS_no {c : UInt8} (h : isS c = false) : (c == 123) = false ∧ (c == 125) = false ∧ (c == 59) = false ∧ (c == 58) = false := by
  unfold isS at h
  cases h1 : (c == 123) <;> cases h2 : (c == 125) <;> cases h3 : (c == 59) <;> cases h4 : (c == 58) <;> simp_all
theorem tok_bad {l s : Bytes} {c : UInt8} {m : Nat} (hd : l.drop m = c :: s) (hk : kindL (c :: s) = if badN (c :: s) then 5 else 2) (hb : badN (c :: s) = true) : lexT (l.drop m) m = ⟨m, 5, [], 0⟩ := by
  have h1 : kindL (c :: s) = 5 := by rw [hk, hb]; rfl
  have hll : lexLen (c :: s) = 0 := by unfold lexLen; rw [h1]; rfl
  unfold lexT
  rw [hd, h1, hll]
  rfl
theorem tok_num {l s : Bytes} {c : UInt8} {m R : Nat} (hd : l.drop m = c :: s) (hk : kindL (c :: s) = if badN (c :: s) then 5 else 2) (hR : R = rawL (c :: s)) (hb : badN (c :: s) = false) : lexT (l.drop m) m = ⟨m, 2, (c :: s).take R, valD ((c :: s).take R)⟩ := by
  have h1 : kindL (c :: s) = 2 := by rw [hk, hb]; rfl
  have hll : lexLen (c :: s) = R := by unfold lexLen; rw [h1]; exact hR.symm
  unfold lexT
  rw [hd, h1, hll]
  rfl
/-- A token of the reference. -/
def tokR (T : Tok) : Array Value := #[strV T.text, .int .i64 (T.at_ : Int), .int .i64 (T.kind : Int), .int .i64 (T.n : Int)]
abbrev z4 : Array Value := #[.string ⟨#[]⟩, .int .i64 0, .int .i64 0, .int .i64 0]
theorem info46 : (Tryd.prog.info? 46).map (·.size) = some 4 := by kernel_rfl
theorem res46 (tmps : Array Value) (w : World) (g : Nat) (cs : Array Value) (hp : tmps.getD 4 undef = .pointer (some ⟨g, 0, none⟩)) (hg : w.heap[g]? = some (.cells cs 46)) (hs : cs.size = 4) :
    (results Tryd.f46 tmps).run Tryd.prog w = .ok (.agg cs) w :=
  results_cell_row (p := 4) (ty := 46) rfl tmps w g 46 cs (0, 0) _ hp hg Tryd.underlying46 rfl (by rw [hs]; exact info46)

def NextP (T : Tok) (w : World) (e : Ending) (w' : World) : Prop := e = .returned (.agg (tokR T)) ∧ Below w.heap.size w w'
/-- The token at the offset n of the text. -/
def nextT (l : Bytes) (n : Nat) : Tok := lexT (l.drop (n + skipS false (l.drop n))) (n + skipS false (l.drop n))

set_option maxRecDepth 100000 in
set_option maxHeartbeats 4000000 in
theorem rnext_any (t : ByteArray) (n : Nat) (w : World) (hn : n ≤ t.size) (ht : t.size ≤ 2000) :
    Calls Tryd.prog 46 #[.string t, .int .i64 (n : Int)] w (NextP (nextT t.data.toList n) w) := by
  obtain ⟨m, hm⟩ : ∃ m, m = n + skipS false (t.data.toList.drop n) := ⟨_, rfl⟩
  have Hs : Hid (nextT t.data.toList n = lexT (t.data.toList.drop m) m) := by show _ = _; rw [hm]; rfl
  have hms : m ≤ t.size := by
    have := skipS_le false (t.data.toList.drop n)
    rw [List.length_drop, size_l] at this
    omega
  have hsk := fun w => rskip_any t n w hn ht
  rw [← hm] at hsk
  have Hsk := Lib.hid hsk
  clear hsk hm
  go_enter Tryd.func46, Tryd.ntmps46
  go_wp2_with fail
  refine (Hsk.out _).mono ?_
  rintro e w' ⟨rfl, hw⟩
  rw [hw]
  clear hw
  have fin : ∀ T, Hid (lexT (t.data.toList.drop m) m = T) → ∀ (cs : Array Value) (tmps : Array Value), cs = tokR T → tmps.getD 4 undef = .pointer (some ⟨w.heap.size, 0, none⟩) → bodyPost Tryd.prog Tryd.f46 (NextP (nextT t.data.toList n) w) .ret { tmps := tmps, defers := [] } (w.alloc (.cells cs 46)) := by
    intro T hT cs tmps hcs hp
    subst hcs
    refine bodyPost_ret (res46 _ _ w.heap.size _ hp (heap_new w _) rfl) rfl ⟨?_, (Below.refl _ _).alloc (Nat.le_refl _) _⟩
    rw [Hs.out, hT.out]
  have Fin := Lib.hid fin
  clear fin
  by_cases hend : m = t.size
  · have hb : ((m : Int) == (t.size : Int)) = true := by rw [beq_iff_eq]; omega
    have HT : Hid (lexT (t.data.toList.drop m) m = ⟨m, 4, [], 0⟩) := by show _ = _; rw [drop_end (by omega)]; rfl
    clear hend
    go_wp2_with fail
    exact Fin.out _ HT _ _ rfl rfl
  have hb : ((m : Int) == (t.size : Int)) = false := by rw [beq_eq_false_iff_ne]; omega
  have hlt : m < t.size := by omega
  have hI1 : (0 : Int) ≤ (m : Int) := by omega
  have hI2 : (m : Int) < (t.size : Int) := by omega
  obtain ⟨c, hc⟩ : ∃ c, t[m] = c := ⟨_, rfl⟩
  have hdr := drop_byte hlt
  rw [hc] at hdr
  obtain ⟨s, hs⟩ : ∃ s, s = t.data.toList.drop (m + 1) := ⟨_, rfl⟩
  rw [← hs] at hdr
  have Hdr := Lib.hid hdr
  obtain ⟨R, hR⟩ : ∃ R, R = rawL (c :: s) := ⟨_, rfl⟩
  have hRs : m + R ≤ t.size := by
    have := rawL_le (c :: s)
    rw [← hdr, List.length_drop, size_l, hdr, ← hR] at this
    omega
  -- the byte k behind
  have hat : ∀ k, (h : m + k < t.size) → (c :: s)[k]? = some t[m + k] := by
    intro k h
    rw [← hdr, List.getElem?_drop]
    exact byte_get h
  have Hin : Hid (∀ k, (h : m + k < t.size) → k < R → inT c t[m + k] = true) := by
    intro k h hk
    obtain ⟨d, h1, h2⟩ := raw_at (c0 := c) (s := s) (i := k) (by rw [← hR]; exact hk)
    rw [hat k h] at h1
    injection h1 with h1
    rw [h1]; exact h2
  have Hout : Hid (∀ (h : m + R < t.size), inT c t[m + R] = false) := by
    intro h
    exact raw_end (c0 := c) (s := s) (c := t[m + R]) (by rw [← hR]; exact hat R h)
  have Hat := Lib.hid hat
  have HR := Lib.hid hR
  clear hat hR hs hdr hend
  have htx : ∀ k, m + k ≤ t.size → (.string (t.extract m (m + k)) : Value) = strV ((c :: s).take k) := by
    intro k hk
    have : t.extract m (m + k) = ⟨((c :: s).take k).toArray⟩ := by
      refine bytes_ext ?_
      rw [Lib.extract_data, Hdr.out]
      show _ = (c :: s).take k
      congr 1
      omega
    rw [this]
  have Htx := Lib.hid htx
  clear htx
  have hl0 : Hid (isL c = isL c) := rfl
  cases hl : isL c with
  | true =>
    have HL := Lib.hid hl
    have hRp : 0 < R := by rw [HR.out]; exact rawL_pos (by simp [isAN, hl])
    have HT : Hid (lexT (t.data.toList.drop m) m = ⟨m, 1, (c :: s).take R, 0⟩) := by
      show _ = _
      have hk : kindL (c :: s) = 1 := by rw [kindL_cons, hl]; rfl
      have hll : lexLen (c :: s) = R := by unfold lexLen; rw [hk]; exact HR.out.symm
      unfold lexT
      rw [Hdr.out, hk, hll]
      rfl
    clear hl
    go_wp2_with (go_at_call 53; refine (rletter_any c _).mono ?_; rintro e w' ⟨rfl, hw⟩; rw [hw, HL.out]; clear hw)
    go_loopg [5] R (fun g s5 wr => ∃ k : Nat, g = R - k ∧ s5 = .int .i64 (((m + k : Nat)) : Int) ∧ k ≤ R ∧ (w.alloc (.cells z4 46)) = wr)
    case atStart => exact ⟨0, rfl, rfl, by omega, rfl⟩
    case round =>
      obtain ⟨k, hgk, rfl, hk, rfl⟩ := hrel
      have Hgk := Lib.hid hgk
      clear hgk
      rw [Int.natCast_add]
      by_cases hin : m + k < t.size
      · have hJ1 : (0 : Int) ≤ (m : Int) + (k : Int) := by omega
        have hJ2 : (m : Int) + (k : Int) < (t.size : Int) := by omega
        obtain ⟨d, hd⟩ : ∃ d, t[m + k] = d := ⟨_, rfl⟩
        by_cases hkR : k < R
        · have hT := Hin.out k hin hkR
          rw [hd] at hT
          cases hLd : isL d with
          | true =>
            have HLd := Lib.hid hLd
            clear hLd hT
            go_wp2_with (go_at_call 53; refine (rletter_any d _).mono ?_; rintro e w' ⟨rfl, hw⟩; rw [hw, HLd.out]; clear hw)
            go_roundg (R - (k + 1))
            case measure => rw [Hgk.out]; omega
            case rel => exact ⟨k + 1, rfl, by go_num, by omega, rfl⟩
          | false =>
            have HLd := Lib.hid hLd
            have HDd : Hid (isD d = true) := by show _ = _; unfold inT at hT; rw [hLd] at hT; simpa using hT
            clear hLd hT
            go_wp2_with (first | (go_at_call 53; refine (rletter_any d _).mono ?_; rintro e w' ⟨rfl, hw⟩; rw [hw, HLd.out]; clear hw) | (go_at_call 54; refine (rdigit_any d _).mono ?_; rintro e w' ⟨rfl, hw⟩; rw [hw, HDd.out]; clear hw))
            go_roundg (R - (k + 1))
            case measure => rw [Hgk.out]; omega
            case rel => exact ⟨k + 1, rfl, by go_num, by omega, rfl⟩
        · have hke : k = R := by omega
          subst hke
          have hT := Hout.out hin
          rw [hd] at hT
          have hLd : isL d = false := by
            unfold inT at hT
            rw [HL.out] at hT
            cases h : isL d <;> simp_all
          have hDd : isD d = false := by unfold inT at hT; cases h : isD d <;> simp_all
          have HLd := Lib.hid hLd
          have HDd := Lib.hid hDd
          have hJ3 : (m : Int) + (k : Int) ≤ (t.size : Int) := by omega
          have hJ4 : (m : Int) ≤ (m : Int) + (k : Int) := by omega
          clear hLd hDd hT
          go_wp2_with (first | (go_at_call 53; refine (rletter_any d _).mono ?_; rintro e w' ⟨rfl, hw⟩; rw [hw, HLd.out]; clear hw) | (go_at_call 54; refine (rdigit_any d _).mono ?_; rintro e w' ⟨rfl, hw⟩; rw [hw, HDd.out]; clear hw))
          exact Fin.out _ HT _ _ (congrArg (fun v => #[v, Value.int .i64 (m : Int), Value.int .i64 1, Value.int .i64 0]) (Htx.out k (by omega))) rfl
      · have hke : k = R := by omega
        subst hke
        go_wp2_with fail
        exact Fin.out _ HT _ _ (congrArg (fun v => #[v, Value.int .i64 (m : Int), Value.int .i64 1, Value.int .i64 0]) (Htx.out k (by omega))) rfl
  | false =>
    have HL := Lib.hid hl
    cases hdg : isD c with
    | true =>
      have HD := Lib.hid hdg
      have hRp : 0 < R := by rw [HR.out]; exact rawL_pos (by simp [isAN, hdg])
      have hk0 : kindL (c :: s) = if badN (c :: s) then 5 else 2 := by rw [kindL_cons, hl, hdg]; rfl
      have Hk0 := Lib.hid hk0
      clear hl hdg hk0
      go_wp2_with (first | (go_at_call 53; refine (rletter_any c _).mono ?_; rintro e w' ⟨rfl, hw⟩; rw [hw, HL.out]; clear hw) | (go_at_call 54; refine (rdigit_any c _).mono ?_; rintro e w' ⟨rfl, hw⟩; rw [hw, HD.out]; clear hw))
      go_loopg [5, 7] R (fun g s5 s7 wr => ∃ k : Nat, g = R - k ∧ s5 = .int .i64 (((m + k : Nat)) : Int) ∧ s7 = .int .i64 (valD ((c :: s).take (min k 6)) : Nat) ∧ k ≤ R ∧ (w.alloc (.cells z4 46)) = wr)
      case atStart => exact ⟨0, rfl, rfl, rfl, by omega, rfl⟩
      case round =>
        obtain ⟨k, hgk, rfl, rfl, hk, rfl⟩ := hrel
        have Hgk := Lib.hid hgk
        clear hgk
        rw [Int.natCast_add]
        by_cases hin : m + k < t.size
        · have hJ1 : (0 : Int) ≤ (m : Int) + (k : Int) := by omega
          have hJ2 : (m : Int) + (k : Int) < (t.size : Int) := by omega
          obtain ⟨d, hd⟩ : ∃ d, t[m + k] = d := ⟨_, rfl⟩
          have hat := Hat.out k hin
          rw [hd] at hat
          have Hatd := Lib.hid hat
          clear hat
          by_cases hkR : k < R
          · have hT := Hin.out k hin hkR
            rw [hd] at hT
            have hDd : isD d = true := by unfold inT at hT; rw [HL.out] at hT; simpa using hT
            have HDd := Lib.hid hDd
            have hdb := (isD_iff d).1 hDd
            clear hDd hT
            by_cases hk6 : k < 6
            · have hk6' : (m : Int) + (k : Int) - (m : Int) < 6 := by omega
              have hk7 : (k : Int) < 6 := by omega
              have hv := valD_le (c :: s) (min k 6)
              have hvs : valD ((c :: s).take (min (k + 1) 6)) = 10 * valD ((c :: s).take (min k 6)) + (d.toNat - 48) := by
                rw [show min (k + 1) 6 = k + 1 by omega, show min k 6 = k by omega]
                exact valD_snoc Hatd.out
              have Hvs := Lib.hid hvs
              clear hvs
              generalize hV : valD ((c :: s).take (min k 6)) = V at *
              clear hV
              have hVb : V < 100000000 := by
                have : 10 ^ min k 6 ≤ 1000000 := pow6
                omega
              go_wp2_with (go_at_call 54; refine (rdigit_any d _).mono ?_; rintro e w' ⟨rfl, hw⟩; rw [hw, HDd.out]; clear hw)
              go_roundg (R - (k + 1))
              case measure => rw [Hgk.out]; omega
              case rel => exact ⟨k + 1, rfl, by go_num, by rw [Hvs.out]; go_num, by omega, rfl⟩
            · have hk6' : ¬ (m : Int) + (k : Int) - (m : Int) < 6 := by omega
              have hk7 : ¬ (k : Int) < 6 := by omega
              have hmin : min (k + 1) 6 = min k 6 := by omega
              go_wp2_with (go_at_call 54; refine (rdigit_any d _).mono ?_; rintro e w' ⟨rfl, hw⟩; rw [hw, HDd.out]; clear hw)
              go_roundg (R - (k + 1))
              case measure => rw [Hgk.out]; omega
              case rel => exact ⟨k + 1, rfl, by go_num, by rw [hmin], by omega, rfl⟩
          · have hke : k = R := by omega
            subst hke
            have hT := Hout.out hin
            rw [hd] at hT
            have hDd : isD d = false := by unfold inT at hT; cases h : isD d <;> simp_all
            have HDd := Lib.hid hDd
            clear hDd hT
            have hJ3 : (m : Int) + (k : Int) ≤ (t.size : Int) := by omega
            have hJ4 : (m : Int) ≤ (m : Int) + (k : Int) := by omega
            by_cases h5 : 5 < k
            · have HT : Hid (lexT (t.data.toList.drop m) m = ⟨m, 5, [], 0⟩) := tok_bad Hdr.out Hk0.out (by simp [badN, ← HR.out, h5])
              have q1 : (5 : Int) < (m : Int) + (k : Int) - (m : Int) := by omega
              have q2 : (5 : Int) < (k : Int) := by omega
              have q3 : decide (5 < k) = true := decide_eq_true h5
              go_wp2_with (go_at_call 54; refine (rdigit_any d _).mono ?_; rintro e w' ⟨rfl, hw⟩; rw [hw, HDd.out]; clear hw)
              exact Fin.out _ HT _ _ rfl rfl
            · have q1 : ¬ (5 : Int) < (m : Int) + (k : Int) - (m : Int) := by omega
              have q2 : ¬ (5 : Int) < (k : Int) := by omega
              have q3 : decide (5 < k) = false := decide_eq_false h5
              have b48 : ((c.toNat : Int) == 48) = (c == 48) := byte_eq c 48
              cases h48 : (c == 48) with
              | true =>
                rw [h48] at b48
                by_cases h1 : 1 < k
                · have HT : Hid (lexT (t.data.toList.drop m) m = ⟨m, 5, [], 0⟩) := tok_bad Hdr.out Hk0.out (by simp [badN, ← HR.out, h1]; exact .inr (by simpa using h48))
                  have q4 : (1 : Int) < (m : Int) + (k : Int) - (m : Int) := by omega
                  have q5 : decide (1 < k) = true := decide_eq_true h1
                  go_wp2_with (go_at_call 54; refine (rdigit_any d _).mono ?_; rintro e w' ⟨rfl, hw⟩; rw [hw, HDd.out]; clear hw)
                  exact Fin.out _ HT _ _ rfl rfl
                · have HT : Hid (lexT (t.data.toList.drop m) m = ⟨m, 2, (c :: s).take k, valD ((c :: s).take k)⟩) := tok_num Hdr.out Hk0.out HR.out (by simp [badN, ← HR.out]; omega)
                  have q4 : ¬ (1 : Int) < (m : Int) + (k : Int) - (m : Int) := by omega
                  have q5 : decide (1 < k) = false := decide_eq_false h1
                  rw [show min k 6 = k by omega]
                  go_wp2_with (go_at_call 54; refine (rdigit_any d _).mono ?_; rintro e w' ⟨rfl, hw⟩; rw [hw, HDd.out]; clear hw)
                  exact Fin.out _ HT _ _ (congrArg (fun v => #[v, Value.int .i64 (m : Int), Value.int .i64 2, Value.int .i64 (valD ((c :: s).take k) : Nat)]) (Htx.out k (by omega))) rfl
              | false =>
                rw [h48] at b48
                have HT : Hid (lexT (t.data.toList.drop m) m = ⟨m, 2, (c :: s).take k, valD ((c :: s).take k)⟩) := tok_num Hdr.out Hk0.out HR.out (by simp [badN, ← HR.out]; exact ⟨by omega, fun _ e => by rw [e] at h48; simp at h48⟩)
                rw [show min k 6 = k by omega]
                go_wp2_with (go_at_call 54; refine (rdigit_any d _).mono ?_; rintro e w' ⟨rfl, hw⟩; rw [hw, HDd.out]; clear hw)
                exact Fin.out _ HT _ _ (congrArg (fun v => #[v, Value.int .i64 (m : Int), Value.int .i64 2, Value.int .i64 (valD ((c :: s).take k) : Nat)]) (Htx.out k (by omega))) rfl
        · have hke : k = R := by omega
          subst hke
          have hJ3 : (m : Int) + (k : Int) ≤ (t.size : Int) := by omega
          have hJ4 : (m : Int) ≤ (m : Int) + (k : Int) := by omega
          by_cases h5 : 5 < k
          · have HT : Hid (lexT (t.data.toList.drop m) m = ⟨m, 5, [], 0⟩) := tok_bad Hdr.out Hk0.out (by simp [badN, ← HR.out, h5])
            have q1 : (5 : Int) < (m : Int) + (k : Int) - (m : Int) := by omega
            have q2 : (5 : Int) < (k : Int) := by omega
            have q3 : decide (5 < k) = true := decide_eq_true h5
            go_wp2_with fail
            exact Fin.out _ HT _ _ rfl rfl
          · have q1 : ¬ (5 : Int) < (m : Int) + (k : Int) - (m : Int) := by omega
            have q2 : ¬ (5 : Int) < (k : Int) := by omega
            have q3 : decide (5 < k) = false := decide_eq_false h5
            have b48 : ((c.toNat : Int) == 48) = (c == 48) := byte_eq c 48
            cases h48 : (c == 48) with
            | true =>
              rw [h48] at b48
              by_cases h1 : 1 < k
              · have HT : Hid (lexT (t.data.toList.drop m) m = ⟨m, 5, [], 0⟩) := tok_bad Hdr.out Hk0.out (by simp [badN, ← HR.out, h1]; exact .inr (by simpa using h48))
                have q4 : (1 : Int) < (m : Int) + (k : Int) - (m : Int) := by omega
                have q5 : decide (1 < k) = true := decide_eq_true h1
                go_wp2_with fail
                exact Fin.out _ HT _ _ rfl rfl
              · have HT : Hid (lexT (t.data.toList.drop m) m = ⟨m, 2, (c :: s).take k, valD ((c :: s).take k)⟩) := tok_num Hdr.out Hk0.out HR.out (by simp [badN, ← HR.out]; omega)
                have q4 : ¬ (1 : Int) < (m : Int) + (k : Int) - (m : Int) := by omega
                have q5 : decide (1 < k) = false := decide_eq_false h1
                rw [show min k 6 = k by omega]
                go_wp2_with fail
                exact Fin.out _ HT _ _ (congrArg (fun v => #[v, Value.int .i64 (m : Int), Value.int .i64 2, Value.int .i64 (valD ((c :: s).take k) : Nat)]) (Htx.out k (by omega))) rfl
            | false =>
              rw [h48] at b48
              have HT : Hid (lexT (t.data.toList.drop m) m = ⟨m, 2, (c :: s).take k, valD ((c :: s).take k)⟩) := tok_num Hdr.out Hk0.out HR.out (by simp [badN, ← HR.out]; exact ⟨by omega, fun _ e => by rw [e] at h48; simp at h48⟩)
              rw [show min k 6 = k by omega]
              go_wp2_with fail
              exact Fin.out _ HT _ _ (congrArg (fun v => #[v, Value.int .i64 (m : Int), Value.int .i64 2, Value.int .i64 (valD ((c :: s).take k) : Nat)]) (Htx.out k (by omega))) rfl
    | false =>
      have HD := Lib.hid hdg
      have b1 : ((c.toNat : Int) == 123) = (c == 123) := byte_eq c 123
      have b2 : ((c.toNat : Int) == 125) = (c == 125) := byte_eq c 125
      have b3 : ((c.toNat : Int) == 59) = (c == 59) := byte_eq c 59
      have b4 : ((c.toNat : Int) == 58) = (c == 58) := byte_eq c 58
      have hk0 : kindL (c :: s) = if isS c then 3 else 5 := by rw [kindL_cons, hl, hdg]; rfl
      clear hl hdg
      have hJ3 : (m : Int) + 1 ≤ (t.size : Int) := by omega
      cases hsg : isS c with
      | true =>
        have HT : Hid (lexT (t.data.toList.drop m) m = ⟨m, 3, (c :: s).take 1, 0⟩) := by
          show _ = _
          unfold lexT
          have hll : lexLen (c :: s) = 1 := by unfold lexLen; rw [hk0, hsg]; rfl
          rw [Hdr.out, hk0, hsg, hll]
          rfl
        have hcase := isS_yes hsg
        clear hk0 hsg
        rcases hcase with h1 | ⟨h1, h2⟩ | ⟨h1, h2, h3⟩ | ⟨h1, h2, h3, h4⟩
        · rw [h1] at b1
          clear h1 b2 b3 b4
          go_wp2_with (first | (go_at_call 53; refine (rletter_any c _).mono ?_; rintro e w' ⟨rfl, hw⟩; rw [hw, HL.out]; clear hw) | (go_at_call 54; refine (rdigit_any c _).mono ?_; rintro e w' ⟨rfl, hw⟩; rw [hw, HD.out]; clear hw))
          exact Fin.out _ HT _ _ (congrArg (fun v => #[v, Value.int .i64 (m : Int), Value.int .i64 3, Value.int .i64 0]) (Htx.out 1 (by omega))) rfl
        · rw [h1] at b1
          rw [h2] at b2
          clear h1 h2 b3 b4
          go_wp2_with (first | (go_at_call 53; refine (rletter_any c _).mono ?_; rintro e w' ⟨rfl, hw⟩; rw [hw, HL.out]; clear hw) | (go_at_call 54; refine (rdigit_any c _).mono ?_; rintro e w' ⟨rfl, hw⟩; rw [hw, HD.out]; clear hw))
          exact Fin.out _ HT _ _ (congrArg (fun v => #[v, Value.int .i64 (m : Int), Value.int .i64 3, Value.int .i64 0]) (Htx.out 1 (by omega))) rfl
        · rw [h1] at b1
          rw [h2] at b2
          rw [h3] at b3
          clear h1 h2 h3 b4
          go_wp2_with (first | (go_at_call 53; refine (rletter_any c _).mono ?_; rintro e w' ⟨rfl, hw⟩; rw [hw, HL.out]; clear hw) | (go_at_call 54; refine (rdigit_any c _).mono ?_; rintro e w' ⟨rfl, hw⟩; rw [hw, HD.out]; clear hw))
          exact Fin.out _ HT _ _ (congrArg (fun v => #[v, Value.int .i64 (m : Int), Value.int .i64 3, Value.int .i64 0]) (Htx.out 1 (by omega))) rfl
        · rw [h1] at b1
          rw [h2] at b2
          rw [h3] at b3
          rw [h4] at b4
          clear h1 h2 h3 h4
          go_wp2_with (first | (go_at_call 53; refine (rletter_any c _).mono ?_; rintro e w' ⟨rfl, hw⟩; rw [hw, HL.out]; clear hw) | (go_at_call 54; refine (rdigit_any c _).mono ?_; rintro e w' ⟨rfl, hw⟩; rw [hw, HD.out]; clear hw))
          exact Fin.out _ HT _ _ (congrArg (fun v => #[v, Value.int .i64 (m : Int), Value.int .i64 3, Value.int .i64 0]) (Htx.out 1 (by omega))) rfl
      | false =>
        have HT : Hid (lexT (t.data.toList.drop m) m = ⟨m, 5, [], 0⟩) := by
          show _ = _
          unfold lexT
          have hll : lexLen (c :: s) = 0 := by unfold lexLen; rw [hk0, hsg]; rfl
          rw [Hdr.out, hk0, hsg, hll]
          rfl
        obtain ⟨h1, h2, h3, h4⟩ := isS_no hsg
        rw [h1] at b1
        rw [h2] at b2
        rw [h3] at b3
        rw [h4] at b4
        clear h1 h2 h3 h4 hk0 hsg
        go_wp2_with (first | (go_at_call 53; refine (rletter_any c _).mono ?_; rintro e w' ⟨rfl, hw⟩; rw [hw, HL.out]; clear hw) | (go_at_call 54; refine (rdigit_any c _).mono ?_; rintro e w' ⟨rfl, hw⟩; rw [hw, HD.out]; clear hw))
        exact Fin.out _ HT _ _ rfl rfl
end Go.Proofs.YtafgmbchdcfkcaaDoor
