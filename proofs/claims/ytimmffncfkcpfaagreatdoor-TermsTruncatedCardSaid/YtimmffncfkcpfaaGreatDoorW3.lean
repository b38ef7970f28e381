/-
  The walk of advance: the parser reads its next token.
-/
import Derived.Test.YtimmffncfkcpfaaGreatDoorW1
import Derived.Deep.DeepCutAuto
import Derived.Deep.RegionLaw
import Derived.Deep.RegionHeld3
import Derived.Deep.MidRow
namespace Go.Proofs.YtimmffncfkcpfaaGreatDoor
open Go Go.RowKit Go.Walks

/-- The parser's block. -/
def Ps (w : World) (r : Nat) (t : ByteArray) (T : Tok) : Prop := w.heap[r]? = some (.cells #[.string t, strV T.text, .int .i64 (T.at_ : Int)] 56)
def TextB (w : World) (r : Nat) (t : ByteArray) (cs : Array Value) : Prop := ∃ a b, cs = #[.string t, a, b] ∧ w.heap[r]? = some (.cells cs 56)
theorem size_l {t : ByteArray} : t.data.toList.length = t.size := (Lib.size_eq t).symm

theorem idx_in {l : Bytes} {c : UInt8} (h : c ∈ l) : ∃ k : Nat, Lib.indexByte l (c.toNat : Int).toNat.toUInt8 = (k : Int) := by
  have e : (c.toNat : Int).toNat.toUInt8 = c := by rw [Int.toNat_natCast]; exact UInt8.ofNat_toNat
  rw [e, indexByte_eq, if_pos h]
  exact ⟨_, rfl⟩
theorem idx_out {l : Bytes} {c : UInt8} (h : c ∉ l) : Lib.indexByte l (c.toNat : Int).toNat.toUInt8 = -1 := by
  have e : (c.toNat : Int).toNat.toUInt8 = c := by rw [Int.toNat_natCast]; exact UInt8.ofNat_toNat
  rw [e, indexByte_eq, if_neg h]
theorem gap_mem {c : UInt8} : c ∈ ([32, 9, 10, 35] : Bytes) ↔ (isB c || c == 35) = true := by
  simp [isB, or_assoc]
theorem sign_mem {c : UInt8} : c ∈ ([123, 125, 59] : Bytes) ↔ isS c = true := by
  simp [isS, or_assoc]

set_option maxRecDepth 100000 in
set_option maxHeartbeats 4000000 in
theorem advance_any (t : ByteArray) (r n : Nat) (x y : Value) (w : World) (hn : n ≤ t.size) (ht : t.size ≤ 2000) (hr7 : 7 ≤ r) (Hg : Hid (Gl w)) (Hr : Hid (w.heap[r]? = some (.cells #[.string t, x, y] 56))) :
    Calls Tryz.prog 16 #[.pointer (some ⟨r, 0, none⟩), .int .i64 (n : Int)] w fun e w' => e = .returned (.tuple #[]) ∧ Ps w' r t (nextT t.data.toList n) ∧ RB r w w' := by
  go_enter Tryz.func16, Tryz.ntmps16
  go_wp2_with fail
  go_loopg [1] (t.size - n) (fun g s1 wr => ∃ m : Nat, s1 = .int .i64 (m : Int) ∧ g = t.size - m ∧ m ≤ t.size ∧ Hid (wr.heap[r]? = some (.cells #[.string t, x, y] 56)) ∧ Hid (RB r w wr) ∧ Hid (m + skipS false (t.data.toList.drop m) = n + skipS false (t.data.toList.drop n)))
  case atStart => exact ⟨n, rfl, rfl, hn, Hr, RB.refl _ _, rfl⟩
  case round =>
    obtain ⟨m, rfl, hg, hm, HR, HB, HE⟩ := hrel
    have Hgm := Lib.hid hg
    clear hg
    obtain ⟨c0, f0⟩ := cell_at HR.out 0 (u := .string t) rfl
    obtain ⟨c1, f1⟩ := cell_at HR.out 1 (u := x) rfl
    obtain ⟨c2, f2⟩ := cell_at HR.out 2 (u := y) rfl
    have HZ : Hid (((wr.setCell ⟨r, 1, none⟩ (.string ⟨#[]⟩)).setCell ⟨r, 2, none⟩ (.int .i64 (m : Int))).heap[r]? = some (.cells #[.string t, .string ⟨#[]⟩, .int .i64 (m : Int)] 56)) := set_at (set_at HR.out 1 (.string ⟨#[]⟩)) 2 (.int .i64 (m : Int))
    by_cases hlt : m < t.size
    · have hI1 : (0 : Int) ≤ (m : Int) := by omega
      have hI2 : (m : Int) < (t.size : Int) := by omega
      obtain ⟨c, hc⟩ : ∃ c, t[m] = c := ⟨_, rfl⟩
      have hdr := drop_byte hlt
      rw [hc] at hdr
      have Hdr := Lib.hid hdr
      clear hdr
      cases hB : isB c with
      | true =>
        obtain ⟨k, hk⟩ := idx_in (gap_mem.2 (show (isB c || c == 35) = true by rw [hB]; rfl))
        have HK := Lib.hid hk
        have h35 : (c == 35) = false := by
          unfold isB at hB
          simp only [Bool.or_eq_true, beq_iff_eq] at hB
          rcases hB with (rfl | rfl) | rfl <;> rfl
        have b35n : ((c.toNat : Int) != 35) = true := by
          rw [bne_iff_ne]
          have : c ≠ 35 := by simpa using h35
          have : c.toNat ≠ 35 := fun e => this (UInt8.toNat_inj.1 e)
          omega
        have HN : Hid (m + 1 + skipS false (t.data.toList.drop (m + 1)) = n + skipS false (t.data.toList.drop n)) := by
          show _ = _
          rw [← HE.out, Hdr.out, skipS, if_pos hB]; omega
        clear hk hB h35
        go_wp2_with (go_at_call 44; refine (Tryz.strings_IndexByte _ _ _).mono ?_; rintro e w2 ⟨rfl, rfl⟩; rw [HK.out])
        go_roundg (t.size - (m + 1))
        case measure => rw [Hgm.out]; omega
        case rel => exact ⟨m + 1, by go_num, rfl, by omega, HR, HB, HN⟩
      | false =>
        cases h35 : (c == 35) with
        | true =>
          have h35' : c = 35 := by simpa using h35
          subst h35'
          obtain ⟨kk, hkk⟩ := idx_in (l := [32, 9, 10, 35]) (c := 35) (by simp)
          have HKK := Lib.hid hkk
          obtain ⟨k, hk⟩ : ∃ k, k = ((t.data.toList.drop m).takeWhile (· != 10)).length := ⟨_, rfl⟩
          have hkl : m + k ≤ t.size := by
            have := (List.takeWhile_sublist (fun x : UInt8 => x != 10) (l := t.data.toList.drop m)).length_le
            rw [← hk, List.length_drop, ← Lib.size_eq] at this
            omega
          have hk1 : 0 < k := by rw [hk, Hdr.out]; simp
          have HN : Hid (m + k + skipS false (t.data.toList.drop (m + k)) = n + skipS false (t.data.toList.drop n)) := by
            show _ = _
            have hcm := skipS_comment (t.data.toList.drop (m + 1))
            have hk' : k = ((t.data.toList.drop (m + 1)).takeWhile (· != 10)).length + 1 := by rw [hk, Hdr.out]; simp
            rw [← HE.out, Hdr.out, skipS, if_neg (by rw [hB]; simp), if_pos (by decide), hcm, hk', List.drop_drop]
            rw [show m + (((t.data.toList.drop (m + 1)).takeWhile (· != 10)).length + 1) = m + 1 + ((t.data.toList.drop (m + 1)).takeWhile (· != 10)).length by omega]
            omega
          have HJ : Hid (Lib.indexByte (t.extract m t.size).data.toList ((10 : Int)).toNat.toUInt8 = if (10 : UInt8) ∈ t.data.toList.drop m then (k : Int) else -1) := by
            show _ = _
            rw [cut_list, hk]
            exact indexByte_eq 10 _
          have H10 : Hid ((10 : UInt8) ∉ t.data.toList.drop m → t.size - m = k) := fun h => by
            rw [hk, takeWhile_all h, List.length_drop, ← Lib.size_eq]
          have hc35 : ((35 : UInt8).toNat : Int) = 35 := rfl
          rw [hc35] at HKK
          clear hk hkk h35 hB
          by_cases hm10 : (10 : UInt8) ∈ t.data.toList.drop m
          · have HJ' : Hid (Lib.indexByte (t.extract m t.size).data.toList ((10 : Int)).toNat.toUInt8 = (k : Int)) := by show _ = _; rw [HJ.out, if_pos hm10]
            clear hm10
            go_wp2_with (go_at_call 44; refine (Tryz.strings_IndexByte _ _ _).mono ?_; rintro e w2 ⟨rfl, rfl⟩; first | rw [HKK.out] | rw [HJ'.out])
            go_roundg (t.size - (m + k))
            case measure => rw [Hgm.out]; omega
            case rel => exact ⟨m + k, by go_num, rfl, hkl, HR, HB, HN⟩
          · have HJ' : Hid (Lib.indexByte (t.extract m t.size).data.toList ((10 : Int)).toNat.toUInt8 = -1) := by show _ = _; rw [HJ.out, if_neg hm10]
            have H10' := Lib.hid (H10.out hm10)
            clear hm10
            go_wp2_with (go_at_call 44; refine (Tryz.strings_IndexByte _ _ _).mono ?_; rintro e w2 ⟨rfl, rfl⟩; first | rw [HKK.out] | rw [HJ'.out])
            have ek : (m : Int) + ((t.size : Int) - (m : Int)) = ((m + k : Nat) : Int) := by have := H10'.out; omega
            go_roundg (t.size - (m + k))
            case measure => rw [Hgm.out]; omega
            case rel => exact ⟨m + k, by first | go_num | (rw [ek]) | (simp only [ek]), rfl, hkl, HR, HB, HN⟩
        | false =>
          have hk := idx_out (l := [32, 9, 10, 35]) (c := c) (fun h => by rw [gap_mem, hB, h35] at h; cases h)
          have HK := Lib.hid hk
          have hsk : skipS false (t.data.toList.drop m) = 0 := by rw [Hdr.out, skipS, hB, h35]; rfl
          obtain ⟨x, hx⟩ : ∃ x, x = runT (t.data.toList.drop m) := ⟨_, rfl⟩
          have HNX : Hid (nextT t.data.toList n = ⟨if isS c then [c] else if wordB x || numB x then x else [], m⟩) := by
            have hE := HE.out
            rw [hsk, Nat.add_zero] at hE
            show _ = _
            unfold nextT
            rw [← hE, hx, Hdr.out, lexS_cons]
          have hxl : m + x.length ≤ t.size := by
            have := runT_le (t.data.toList.drop m)
            rw [← hx, List.length_drop, ← Lib.size_eq] at this
            omega
          have Hlx : Hid (∀ e, m ≤ e → e < m + x.length → ∃ d, t.data.toList[e]? = some d ∧ isAN d = true) := fun e h1 h2 => by
            obtain ⟨d, h3, h4⟩ := takeWhile_at (p := isAN) (t.data.toList.drop m) (e - m) (by show e - m < (runT _).length; rw [← hx]; omega)
            rw [List.getElem?_drop, show m + (e - m) = e by omega] at h3
            exact ⟨d, h3, h4⟩
          have Hle : Hid (∀ d, t.data.toList[m + x.length]? = some d → isAN d = false) := fun d hd => by
            refine takeWhile_end (p := isAN) (t.data.toList.drop m) d ?_
            rw [List.getElem?_drop]
            show t.data.toList[m + (runT (t.data.toList.drop m)).length]? = _
            rw [← hx]; exact hd
          have HX : Hid (t.extract m (m + x.length) = ⟨x.toArray⟩) := by
            refine bytes_ext ?_
            rw [Lib.extract_data, show m + x.length - m = x.length by omega]
            have h : x = (t.data.toList.drop m).take x.length := by
              rw [hx]
              exact List.prefix_iff_eq_take.1 (List.takeWhile_prefix isAN)
            exact h.symm
          have Han : Hid (∀ d ∈ x, isAN d = true) := fun d hd => by
            rw [hx] at hd
            exact List.all_eq_true.1 (List.all_takeWhile (p := isAN) (l := t.data.toList.drop m)) d hd
          clear hk hsk hB h35 hx
          have hmt : ((m : Int) == (t.size : Int)) = false := by rw [beq_eq_false_iff_ne]; omega
          go_wp2_with (go_at_call 44; refine (Tryz.strings_IndexByte _ _ _).mono ?_; rintro e w2 ⟨rfl, rfl⟩; rw [HK.out])
          obtain ⟨W, hW⟩ : ∃ W, W = (w2.setCell ⟨r, 1, none⟩ (.string ⟨#[]⟩)).setCell ⟨r, 2, none⟩ (.int .i64 (m : Int)) := ⟨_, rfl⟩
          have HW : Hid (W.heap[r]? = some (.cells #[.string t, .string ⟨#[]⟩, .int .i64 (m : Int)] 56)) := by rw [hW]; exact HZ.out
          have HWB : Hid (RB r w W) := by rw [hW]; exact (HB.out.setCell 1 _).setCell 2 _
          rw [← hW]
          clear hW HZ c0 c1 c2 f0 f1 f2
          obtain ⟨c0, f0⟩ := cell_at HW.out 0 (u := .string t) rfl
          go_loopg [5] x.length (fun g s5 wx => ∃ e : Nat, s5 = .int .i64 (e : Int) ∧ g = m + x.length - e ∧ m ≤ e ∧ e ≤ m + x.length ∧ wx = W)
          case atStart => exact ⟨m, rfl, by omega, Nat.le_refl _, by omega, rfl⟩
          case round =>
            obtain ⟨e, rfl, hge, hme, hex, rfl⟩ := hrel
            have Hge := Lib.hid hge
            clear hge
            by_cases hlt2 : e < m + x.length
            · have hJ1 : (0 : Int) ≤ (e : Int) := by omega
              have hJ2 : (e : Int) < (t.size : Int) := by omega
              have hJ3 : e < t.size := by omega
              obtain ⟨d, hd, hA⟩ := Hlx.out e hme hlt2
              have htd : t[e] = d := by
                have := byte_get hJ3
                rw [hd] at this
                injection this with this; exact this.symm
              have H54 := Lib.hid (letter_any d wr)
              have H55 := Lib.hid (digit_any d wr)
              clear hd
              cases hL : isL d with
              | true =>
                have HL := Lib.hid hL
                clear hL hA
                go_wp2_with (go_at_call 45; refine H54.out.mono ?_; rintro e1 w' ⟨rfl, hw'⟩; subst hw'; rw [HL.out])
                go_roundg (m + x.length - (e + 1))
                case measure => rw [Hge.out]; omega
                case rel => exact ⟨e + 1, by go_num, rfl, by omega, by omega, rfl⟩
              | false =>
                have HL := Lib.hid hL
                have HD : Hid (isD d = true) := by
                  show _ = _
                  unfold isAN at hA
                  rw [hL] at hA; exact hA
                clear hL hA
                go_wp2_with (first | (go_at_call 45; refine H54.out.mono ?_; rintro e1 w' ⟨rfl, hw'⟩; subst hw'; rw [HL.out]) | (go_at_call 46; refine H55.out.mono ?_; rintro e1 w' ⟨rfl, hw'⟩; subst hw'; rw [HD.out]))
                go_roundg (m + x.length - (e + 1))
                case measure => rw [Hge.out]; omega
                case rel => exact ⟨e + 1, by go_num, rfl, by omega, by omega, rfl⟩
            · obtain rfl : e = m + x.length := by omega
              have hJ1 : (0 : Int) ≤ (m : Int) + (x.length : Int) := by omega
              have hcase : m + x.length = t.size ∨ (m + x.length < t.size ∧ ∃ d, t.data.toList[m + x.length]? = some d ∧ isL d = false ∧ isD d = false) := by
                rcases Nat.lt_or_ge (m + x.length) t.size with h | h
                · right
                  have h2 := byte_get h
                  refine ⟨h, _, h2, ?_⟩
                  have := Hle.out _ h2
                  unfold isAN at this
                  rw [Bool.or_eq_false_iff] at this
                  exact this
                · left; omega
              have hslice : (m : Int) + (x.length : Int) ≤ (t.size : Int) := by omega
              have hmt0 : (m : Int) ≤ (m : Int) + (x.length : Int) := by omega
              rcases hcase with hE | ⟨hJ3, d, hd, hL, hD⟩
              · have hJ2 : ¬ (m : Int) + (x.length : Int) < (t.size : Int) := by omega
                have HX2 : Hid (t.extract m t.size = ⟨x.toArray⟩) := by show _ = _; rw [← hE]; exact HX.out
                go_wp2_with fail
                obtain ⟨c1, f1⟩ := cell_at HW.out 1 (u := .string ⟨#[]⟩) rfl
                cases hS : isS c with
                | true =>
                  obtain ⟨kk, hkk⟩ := idx_in (sign_mem.2 hS)
                  have HKK := Lib.hid hkk
                  have HNS : Hid (nextT t.data.toList n = ⟨[c], m⟩) := by show _ = _; rw [HNX.out, hS]; rfl
                  have HC : Hid (t.extract m (m + 1) = ⟨[c].toArray⟩) := by
                    refine bytes_ext ?_
                    rw [Lib.extract_data, Hdr.out, show m + 1 - m = 1 by omega]; rfl
                  clear hkk hS
                  go_wp2_with (go_at_call 44; refine (Tryz.strings_IndexByte _ _ _).mono ?_; rintro e2 w2 ⟨rfl, hw2⟩; rw [hw2, HKK.out])
                  go_end0
                  refine ⟨rfl, ?_, HWB.out.setCell 1 _⟩
                  rw [HNS.out]
                  refine (set_at HW.out 1 (.string (t.extract m (m + 1)))).trans ?_
                  rw [HC.out]
                  rfl
                | false =>
                  have hk := idx_out (l := [123, 125, 59]) (c := c) (fun h => by rw [sign_mem, hS] at h; cases h)
                  have HKK := Lib.hid hk
                  clear hk
                  go_wp2_with (go_at_call 44; refine (Tryz.strings_IndexByte _ _ _).mono ?_; rintro e2 w2 ⟨rfl, hw2⟩; rw [hw2, HKK.out])
                  first | rw [HX.out] | rw [HX2.out]
                  have hlx : x.length ≤ 140737488355328 := by omega
                  have HNO : Hid (NoSign x) := fun d rr e3 => by
                    have := Han.out d (by rw [e3]; simp)
                    unfold isAN isL isD at this
                    simp at this; omega
                  have H42 := isWord_any x wr hlx
                  cases hw : wordB x with
                  | true =>
                    rw [hw] at H42
                    have HNW : Hid (nextT t.data.toList n = ⟨x, m⟩) := by show _ = _; rw [HNX.out, hS, hw]; rfl
                    have H42' := Lib.hid H42
                    clear H42 hw hS c0 c1 f0 f1
                    refine H42'.out.mono ?_
                    rintro e3 w3 ⟨rfl, hb3⟩
                    have HW3 := Lib.hid (below_cells HW.out hb3)
                    have HB3 := Lib.hid (HWB.out.trans (RB.of_below hb3))
                    clear hb3
                    obtain ⟨c1, f1⟩ := cell_at HW3.out 1 (u := .string ⟨#[]⟩) rfl
                    go_wp2_with fail
                    go_end0
                    refine ⟨rfl, ?_, HB3.out.setCell 1 _⟩
                    rw [HNW.out]
                    exact set_at HW3.out 1 (.string ⟨x.toArray⟩)
                  | false =>
                    rw [hw] at H42
                    have H42' := Lib.hid H42
                    have Hw := Lib.hid hw
                    have HS := Lib.hid hS
                    clear H42 hw hS c0 c1 f0 f1
                    refine H42'.out.mono ?_
                    rintro e3 w3 ⟨rfl, hb3⟩
                    have HW3 := Lib.hid (below_cells HW.out hb3)
                    have HB3 := Lib.hid (HWB.out.trans (RB.of_below hb3))
                    clear hb3
                    have H56 := Lib.hid (isNumber_any x w3 hlx HNO.out (Hg.out.rb HB3.out hr7))
                    go_wp2_with fail
                    first | rw [HX.out] | rw [HX2.out] | skip
                    refine H56.out.mono ?_
                    rintro e4 w4 ⟨rfl, hb4⟩
                    have HW4 := Lib.hid (below_cells HW3.out hb4)
                    have HB4 := Lib.hid (HB3.out.trans (RB.of_below hb4))
                    clear hb4
                    obtain ⟨c1, f1⟩ := cell_at HW4.out 1 (u := .string ⟨#[]⟩) rfl
                    cases hnm : numB x with
                    | true =>
                      have HNW : Hid (nextT t.data.toList n = ⟨x, m⟩) := by show _ = _; rw [HNX.out, HS.out, Hw.out, hnm]; rfl
                      clear hnm
                      go_wp2_with fail
                      go_end0
                      refine ⟨rfl, ?_, HB4.out.setCell 1 _⟩
                      rw [HNW.out]
                      exact set_at HW4.out 1 (.string ⟨x.toArray⟩)
                    | false =>
                      have HNW : Hid (nextT t.data.toList n = ⟨[], m⟩) := by show _ = _; rw [HNX.out, HS.out, Hw.out, hnm]; rfl
                      clear hnm
                      go_wp2_with fail
                      go_end0
                      refine ⟨rfl, ?_, HB4.out⟩
                      rw [HNW.out]
                      exact HW4.out
              · have hJ2 : (m : Int) + (x.length : Int) < (t.size : Int) := by omega
                have htd : t[m + x.length] = d := by
                  have := byte_get hJ3
                  rw [hd] at this
                  injection this with this; exact this.symm
                have H54 := Lib.hid (letter_any d wr)
                have H55 := Lib.hid (digit_any d wr)
                have HL := Lib.hid hL
                have HD := Lib.hid hD
                clear hd hL hD
                go_wp2_with (first | (go_at_call 45; refine H54.out.mono ?_; rintro e1 w' ⟨rfl, hw'⟩; rw [hw']; rw [HL.out]) | (go_at_call 46; refine H55.out.mono ?_; rintro e1 w' ⟨rfl, hw'⟩; rw [hw']; rw [HD.out]))
                obtain ⟨c1, f1⟩ := cell_at HW.out 1 (u := .string ⟨#[]⟩) rfl
                cases hS : isS c with
                | true =>
                  obtain ⟨kk, hkk⟩ := idx_in (sign_mem.2 hS)
                  have HKK := Lib.hid hkk
                  have HNS : Hid (nextT t.data.toList n = ⟨[c], m⟩) := by show _ = _; rw [HNX.out, hS]; rfl
                  have HC : Hid (t.extract m (m + 1) = ⟨[c].toArray⟩) := by
                    refine bytes_ext ?_
                    rw [Lib.extract_data, Hdr.out, show m + 1 - m = 1 by omega]; rfl
                  clear hkk hS
                  go_wp2_with (go_at_call 44; refine (Tryz.strings_IndexByte _ _ _).mono ?_; rintro e2 w2 ⟨rfl, hw2⟩; rw [hw2, HKK.out])
                  go_end0
                  refine ⟨rfl, ?_, HWB.out.setCell 1 _⟩
                  rw [HNS.out]
                  refine (set_at HW.out 1 (.string (t.extract m (m + 1)))).trans ?_
                  rw [HC.out]
                  rfl
                | false =>
                  have hk := idx_out (l := [123, 125, 59]) (c := c) (fun h => by rw [sign_mem, hS] at h; cases h)
                  have HKK := Lib.hid hk
                  clear hk
                  go_wp2_with (go_at_call 44; refine (Tryz.strings_IndexByte _ _ _).mono ?_; rintro e2 w2 ⟨rfl, hw2⟩; rw [hw2, HKK.out])
                  first | rw [HX.out] | rw [HX2.out]
                  have hlx : x.length ≤ 140737488355328 := by omega
                  have HNO : Hid (NoSign x) := fun d rr e3 => by
                    have := Han.out d (by rw [e3]; simp)
                    unfold isAN isL isD at this
                    simp at this; omega
                  have H42 := isWord_any x wr hlx
                  cases hw : wordB x with
                  | true =>
                    rw [hw] at H42
                    have HNW : Hid (nextT t.data.toList n = ⟨x, m⟩) := by show _ = _; rw [HNX.out, hS, hw]; rfl
                    have H42' := Lib.hid H42
                    clear H42 hw hS c0 c1 f0 f1
                    refine H42'.out.mono ?_
                    rintro e3 w3 ⟨rfl, hb3⟩
                    have HW3 := Lib.hid (below_cells HW.out hb3)
                    have HB3 := Lib.hid (HWB.out.trans (RB.of_below hb3))
                    clear hb3
                    obtain ⟨c1, f1⟩ := cell_at HW3.out 1 (u := .string ⟨#[]⟩) rfl
                    go_wp2_with fail
                    go_end0
                    refine ⟨rfl, ?_, HB3.out.setCell 1 _⟩
                    rw [HNW.out]
                    exact set_at HW3.out 1 (.string ⟨x.toArray⟩)
                  | false =>
                    rw [hw] at H42
                    have H42' := Lib.hid H42
                    have Hw := Lib.hid hw
                    have HS := Lib.hid hS
                    clear H42 hw hS c0 c1 f0 f1
                    refine H42'.out.mono ?_
                    rintro e3 w3 ⟨rfl, hb3⟩
                    have HW3 := Lib.hid (below_cells HW.out hb3)
                    have HB3 := Lib.hid (HWB.out.trans (RB.of_below hb3))
                    clear hb3
                    have H56 := Lib.hid (isNumber_any x w3 hlx HNO.out (Hg.out.rb HB3.out hr7))
                    go_wp2_with fail
                    first | rw [HX.out] | rw [HX2.out] | skip
                    refine H56.out.mono ?_
                    rintro e4 w4 ⟨rfl, hb4⟩
                    have HW4 := Lib.hid (below_cells HW3.out hb4)
                    have HB4 := Lib.hid (HB3.out.trans (RB.of_below hb4))
                    clear hb4
                    obtain ⟨c1, f1⟩ := cell_at HW4.out 1 (u := .string ⟨#[]⟩) rfl
                    cases hnm : numB x with
                    | true =>
                      have HNW : Hid (nextT t.data.toList n = ⟨x, m⟩) := by show _ = _; rw [HNX.out, HS.out, Hw.out, hnm]; rfl
                      clear hnm
                      go_wp2_with fail
                      go_end0
                      refine ⟨rfl, ?_, HB4.out.setCell 1 _⟩
                      rw [HNW.out]
                      exact set_at HW4.out 1 (.string ⟨x.toArray⟩)
                    | false =>
                      have HNW : Hid (nextT t.data.toList n = ⟨[], m⟩) := by show _ = _; rw [HNX.out, HS.out, Hw.out, hnm]; rfl
                      clear hnm
                      go_wp2_with fail
                      go_end0
                      refine ⟨rfl, ?_, HB4.out⟩
                      rw [HNW.out]
                      exact HW4.out
    · obtain rfl : m = t.size := by omega
      have HNX : Hid (nextT t.data.toList n = ⟨[], t.size⟩) := by
        have hE := HE.out
        rw [drop_end (t := t) (m := t.size) (Nat.le_refl _)] at hE
        have hE : t.size = n + skipS false (t.data.toList.drop n) := hE
        show _ = _
        unfold nextT
        rw [← hE, drop_end (t := t) (m := t.size) (Nat.le_refl _)]
        rfl
      go_wp2_with fail
      refine bodyPost_ret (results_none rfl _ _ _) rfl ?_
      refine ⟨rfl, ?_, (HB.out.setCell 1 _).setCell 2 _⟩
      rw [HNX.out]
      exact HZ.out
end Go.Proofs.YtimmffncfkcpfaaGreatDoor
