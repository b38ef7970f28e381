/-
  The walks of quote and words.
-/
import Derived.Test.YtdfhbnfhkckkbaaGreatDoorX2
import Derived.Test.YtdfhbnfhkckkbaaGreatDoorW7
import Derived.Lib.ConvBytes
namespace Go.Proofs.YtdfhbnfhkckkbaaGreatDoor
open Go Go.RowKit Go.Walks

/-- In quote: the bytes of the text in block g1, the builder in block b. -/
structure QS (w : World) (t : Bytes) (b g1 : Nat) (l : Bytes) (g : Option Nat) (W : World) : Prop where
  below : Below w.heap.size w W
  bd : BdAt W w.heap.size b l g
  src : ∃ cur fz, W.heap[g1]? = some (.cells cur 5 fz) ∧ ∀ (j : Nat) (x : UInt8), t[j]? = some x → cur[j]? = some (.int .u8 (x.toNat : Int))
  ne : g ≠ some g1
theorem QS.wrote {w W W' : World} {t l s : Bytes} {b g1 : Nat} {g : Option Nat} (h : QS w t b g1 l g W) {g' : Option Nat} (hd : BdAt W' w.heap.size b (l ++ s) g') (hg : g' = g ∨ ∃ k, g' = some k ∧ W.heap.size ≤ k) (hw : Wr b g W W') : QS w t b g1 (l ++ s) g' W' := by
  obtain ⟨cur, fz, hs, hc⟩ := h.src
  have hlt := (Array.getElem?_eq_some_iff.1 hs).1
  refine ⟨h.below.trans (h.bd.wr_below hw h.below.size), hd, ⟨cur, fz, (hw.block g1 hlt ?_ h.ne).trans hs, hc⟩, ?_⟩
  · rintro rfl
    obtain ⟨_, p, v, _, hb, _⟩ := h.bd
    rw [hb] at hs
    injection hs with hs
    injection hs with _ hs
    exact absurd hs (by decide)
  · rcases hg with rfl | ⟨k, rfl, hk⟩
    · exact h.ne
    · intro e; injection e with e; omega
theorem QS.byte {w W W' : World} {t l : Bytes} {x : UInt8} {b g1 : Nat} {g : Option Nat} {e : Ending} (h : QS w t b g1 l g W) (hw : WroteB w.heap.size b l [x] g W e W') : e = .returned .nilIface ∧ ∃ g', QS w t b g1 (l ++ [x]) g' W' := by
  obtain ⟨he, g', h1, h2, h3⟩ := hw
  exact ⟨he, g', h.wrote h1 h2 h3⟩
theorem QS.str {w W W' : World} {t l s : Bytes} {b g1 : Nat} {g : Option Nat} {e : Ending} (h : QS w t b g1 l g W) (hw : WroteP w.heap.size b l s g W e W') : e = .returned (.tuple #[.int .i64 (s.length : Int), .nilIface]) ∧ ∃ g', QS w t b g1 (l ++ s) g' W' := by
  obtain ⟨he, g', h1, h2, h3⟩ := hw
  exact ⟨he, g', h.wrote h1 h2 h3⟩
theorem QS.cell {w W : World} {t l : Bytes} {x : UInt8} {b g1 j : Nat} {g : Option Nat} (h : QS w t b g1 l g W) (hx : t[j]? = some x) : W.cell? ⟨g1, j, none⟩ = some (.int .u8 (x.toNat : Int)) := by
  obtain ⟨cur, fz, hs, hc⟩ := h.src
  rw [Lib.cell_of_heap hs]; exact hc j x hx
theorem QS.start {w W : World} {t l : Bytes} {b : Nat} {g : Option Nat} (hb : Below w.heap.size w W) (hd : BdAt W w.heap.size b l g) : QS w t b W.heap.size l g (Lib.bytesWorld W 5 ⟨t.toArray⟩) := by
  have h1 := Lib.bytesWorld_below W 5 ⟨t.toArray⟩
  refine ⟨hb.trans (h1.mono hb.size), hd.below h1, ⟨_, _, Lib.bytesWorld_at_new W 5 _, fun j x hx => ?_⟩, fun e => ?_⟩
  · have hj : j < t.length := (List.getElem?_eq_some_iff.1 hx).1
    have hs : j < (⟨t.toArray⟩ : ByteArray).size := by simpa [ByteArray.size] using hj
    have := Lib.bytesWorld_cell W 5 ⟨t.toArray⟩ j hs
    rw [Lib.cell_of_heap (Lib.bytesWorld_at_new W 5 _)] at this
    rw [this]
    simp [List.getD, hx]
  · have := (hd.own_lt e).2.1
    omega
theorem hex_lit : ∀ n : Fin 16, (⟨#[48, 49, 50, 51, 52, 53, 54, 55, 56, 57, 97, 98, 99, 100, 101, 102]⟩ : ByteArray)[n.val]'(by have := n.isLt; simp [ByteArray.size]) = hexD n.val := by decide +kernel
theorem qc_len (c : UInt8) : (qc c).length ≤ 4 := by unfold qc; split <;> (try split) <;> simp
theorem flat_qc_len : ∀ l : Bytes, (l.flatMap qc).length ≤ 4 * l.length
  | [] => by simp
  | c :: l => by
    rw [List.flatMap_cons, List.length_append, List.length_cons]
    have := qc_len c
    have := flat_qc_len l
    omega
theorem flat_qc_step {l : Bytes} {k : Nat} {x : UInt8} (h : l[k]? = some x) : (l.take (k + 1)).flatMap qc = (l.take k).flatMap qc ++ qc x := by
  rw [List.take_add_one, h]
  simp

set_option maxRecDepth 100000 in
set_option maxHeartbeats 4000000 in
theorem quote_any (t : Bytes) (w : World) (hl : t.length ≤ 1000000000) : Calls Tryz.prog 53 #[.string ⟨t.toArray⟩] w (StrR (quoteB t) w) := by
  obtain ⟨n, hn⟩ : ∃ n, n = t.length := ⟨_, rfl⟩
  obtain ⟨b, hb⟩ : ∃ b, b = w.heap.size := ⟨_, rfl⟩
  obtain ⟨W0, hW0⟩ : ∃ W, W = w.alloc (.cells #[.pointer none, .slice none 0 0] 125) := ⟨_, rfl⟩
  have HD0 : Hid (BdAt W0 w.heap.size b [] none) := by rw [hW0, hb]; exact BdAt.start w (Nat.le_refl _)
  have HB0 : Hid (Below w.heap.size w W0) := by rw [hW0]; exact (Below.refl _ _).alloc (Nat.le_refl _) _
  have Hn := Lib.hid hn
  have hnl : n ≤ 1000000000 := by omega
  clear hn hl
  go_enter Tryz.func53, Tryz.ntmps53
  go_upto_region 2 with fail
  rw [← hW0, ← hb]
  clear hW0 hb
  go_wp2_with fail
  refine (writeB_any 34 HD0.out (by simp) HB0.out.size).mono ?_
  rintro e w1 ⟨rfl, g', hd1, -, hw1⟩
  have HD1 := Lib.hid hd1
  have HB1 := Lib.hid (HB0.out.trans (HD0.out.wr_below hw1 HB0.out.size))
  clear hd1 hw1
  go_wp2_with fail
  rw [Lib.run_convert_string_bytes w1 9 38 5 ⟨t.toArray⟩ Tryz.underlying9 Tryz.underlying38 Tryz.underlying5]
  simp only [Result.andThen]
  rw [Oper.upon_value]
  rw [strBytes_size, ← Hn.out]
  obtain ⟨g1, hg1⟩ : ∃ g, g = w1.heap.size := ⟨_, rfl⟩
  obtain ⟨cp, hcp⟩ : ∃ c, c = grownCap w1 n 0 5 := ⟨_, rfl⟩
  have HQ : Hid (QS w t b g1 [34] g' (Lib.bytesWorld w1 5 ⟨t.toArray⟩)) := by rw [hg1]; exact QS.start HB1.out HD1.out
  obtain ⟨W2, hW2⟩ : ∃ W, W = Lib.bytesWorld w1 5 ⟨t.toArray⟩ := ⟨_, rfl⟩
  rw [← hW2] at HQ
  rw [← hW2, ← hg1, ← hcp]
  clear hW2 hg1 hcp HD1 HB1 HD0 HB0
  go_wp2_with fail
  go_loopg [10] n (fun gh s10 wr => ∃ (k : Nat) (g : Option Nat), s10 = .int .i64 (k : Int) ∧ gh = n - k ∧ k ≤ n ∧ Hid (QS w t b g1 (34 :: (t.take k).flatMap qc) g wr))
  case atStart => exact ⟨0, g', rfl, rfl, Nat.zero_le _, HQ.out⟩
  case round =>
    obtain ⟨k, g, rfl, hgh, hk, HQk⟩ := hrel
    by_cases hlt : k < n
    · have hI1 : (0 : Int) ≤ (k : Int) := by omega
      have hI2 : (k : Int) < (n : Int) := by omega
      obtain ⟨x, hx⟩ : ∃ x, t[k]? = some x := ⟨t[k]'(by rw [← Hn.out]; exact hlt), List.getElem?_eq_getElem _⟩
      have hcell := HQk.out.cell hx
      have Hstep : Hid (34 :: (t.take (k + 1)).flatMap qc = (34 :: (t.take k).flatMap qc) ++ qc x) := by show _ = _; rw [flat_qc_step hx]; rfl
      have hlen := flat_qc_len (t.take k)
      rw [List.length_take] at hlen
      obtain ⟨l, hl⟩ : ∃ l, l = 34 :: (t.take k).flatMap qc := ⟨_, rfl⟩
      have hll : l.length ≤ 1 + 4 * k := by rw [hl, List.length_cons]; omega
      rw [← hl] at HQk Hstep
      have hx0 : (0 : Int) ≤ (x.toNat : Int) := by omega
      have hx1 : (x.toNat : Int) < 256 := by have := x.toNat_lt; omega
      clear hl hlen hx
      have hs10 : l.length + 10 ≤ 140737488355328 := by omega
      have hBw := HQk.out.below.size
      by_cases hq : x.toNat = 34 ∨ x.toNat = 92
      · have hqc : qc x = [92, x] := by
          unfold qc
          rw [if_pos]
          rcases hq with h | h
          · exact .inl (UInt8.toNat_inj.1 h)
          · exact .inr (UInt8.toNat_inj.1 h)
        rw [hqc] at Hstep
        have HX : Hid (∀ W g, QS w t b g1 (l ++ [92]) g W → Calls Tryz.prog 95 #[.pointer (some ⟨b, 0, none⟩), .int .u8 (x.toNat : Int)] W (WroteB w.heap.size b (l ++ [92]) [x] g W)) := fun W g h => writeB_any x h.bd (by simp; omega) h.below.size
        rcases hq with hq | hq
        all_goals
          clear hqc
          rw [hq] at hcell HX
          go_wp2_with fail
          refine (writeB_any 92 HQk.out.bd (by omega) hBw).mono ?_
          rintro e w2 hw2
          obtain ⟨rfl, g2, hQ2⟩ := HQk.out.byte hw2
          have HQ2 := Lib.hid hQ2
          clear hw2 hQ2 hcell hBw
          go_wp2_with fail
          refine (HX.out _ _ HQ2.out).mono ?_
          rintro e w3 hw3
          obtain ⟨rfl, g3, hQ3⟩ := HQ2.out.byte hw3
          have HQ3 := Lib.hid hQ3
          clear hw3 hQ3
          go_wp2_with fail
          go_roundg (n - (k + 1))
          case measure => omega
          case rel => exact ⟨k + 1, g3, by go_num, rfl, by omega, by rw [Hstep.out]; have := HQ3.out; rw [List.append_assoc] at this; exact this⟩
      · have hq1 : ¬ x.toNat = 34 := fun h => hq (.inl h)
        have hq2 : ¬ x.toNat = 92 := fun h => hq (.inr h)
        have q1 : ((x.toNat : Int) == 34) = false := bne_int (by omega)
        have q2 : ((x.toNat : Int) == 92) = false := bne_int (by omega)
        by_cases hc : x.toNat < 32 ∨ 126 < x.toNat
        · have hqc : qc x = [92, 120, hexD (x.toNat / 16), hexD (x.toNat % 16)] := by
            unfold qc
            rw [if_neg (by rintro (rfl | rfl) <;> simp at hq1 hq2), if_pos hc]
          rw [hqc] at Hstep
          have hd1 := hex_lit ⟨x.toNat / 16, by have := x.toNat_lt; omega⟩
          have hd2 := hex_lit ⟨x.toNat % 16, by omega⟩
          dsimp only at hd1 hd2
          have Hd1 := Lib.hid hd1
          have Hd2 := Lib.hid hd2
          rcases hc with hc | hc
          · clear hq hqc hq1 hq2 hd1 hd2
            go_wp2_with fail
            refine (write_any [92, 120] HQk.out.bd (by simp; omega) hBw).mono ?_
            rintro e w2 hw2
            obtain ⟨rfl, g2, hQ2⟩ := HQk.out.str hw2
            have HQ2 := Lib.hid hQ2
            clear hw2 hQ2 hcell hBw
            go_wp2_with fail
            refine (writeB_any _ HQ2.out.bd (by simp; omega) HQ2.out.below.size).mono ?_
            rintro e w3 hw3
            obtain ⟨rfl, g3, hQ3⟩ := HQ2.out.byte hw3
            have HQ3 := Lib.hid hQ3
            rw [Hd1.out] at HQ3
            clear hw3 hQ3
            go_wp2_with fail
            refine (writeB_any _ HQ3.out.bd (by simp; omega) HQ3.out.below.size).mono ?_
            rintro e w4 hw4
            obtain ⟨rfl, g4, hQ4⟩ := HQ3.out.byte hw4
            have HQ4 := Lib.hid hQ4
            rw [Hd2.out] at HQ4
            clear hw4 hQ4
            go_wp2_with fail
            go_roundg (n - (k + 1))
            case measure => omega
            case rel => exact ⟨k + 1, g4, by go_num, rfl, by omega, by rw [Hstep.out]; have := HQ4.out; rw [List.append_assoc, List.append_assoc] at this; exact this⟩
          · have hcI1 : ¬ (x.toNat : Int) < 32 := by omega
            have hcI2 : 126 < (x.toNat : Int) := by omega
            clear hq hqc hq1 hq2 hd1 hd2
            go_wp2_with fail
            refine (write_any [92, 120] HQk.out.bd (by simp; omega) hBw).mono ?_
            rintro e w2 hw2
            obtain ⟨rfl, g2, hQ2⟩ := HQk.out.str hw2
            have HQ2 := Lib.hid hQ2
            clear hw2 hQ2 hcell hBw
            go_wp2_with fail
            refine (writeB_any _ HQ2.out.bd (by simp; omega) HQ2.out.below.size).mono ?_
            rintro e w3 hw3
            obtain ⟨rfl, g3, hQ3⟩ := HQ2.out.byte hw3
            have HQ3 := Lib.hid hQ3
            rw [Hd1.out] at HQ3
            clear hw3 hQ3
            go_wp2_with fail
            refine (writeB_any _ HQ3.out.bd (by simp; omega) HQ3.out.below.size).mono ?_
            rintro e w4 hw4
            obtain ⟨rfl, g4, hQ4⟩ := HQ3.out.byte hw4
            have HQ4 := Lib.hid hQ4
            rw [Hd2.out] at HQ4
            clear hw4 hQ4
            go_wp2_with fail
            go_roundg (n - (k + 1))
            case measure => omega
            case rel => exact ⟨k + 1, g4, by go_num, rfl, by omega, by rw [Hstep.out]; have := HQ4.out; rw [List.append_assoc, List.append_assoc] at this; exact this⟩
        · have hqc : qc x = [x] := by
            unfold qc
            rw [if_neg (by rintro (rfl | rfl) <;> simp at hq1 hq2), if_neg hc]
          rw [hqc] at Hstep
          have hc1 : ¬ (x.toNat : Int) < 32 := by omega
          have hc2 : ¬ 126 < (x.toNat : Int) := by omega
          clear hq hqc hq1 hq2 hc
          go_wp2_with fail
          refine (writeB_any x HQk.out.bd (by omega) hBw).mono ?_
          rintro e w2 hw2
          obtain ⟨rfl, g2, hQ2⟩ := HQk.out.byte hw2
          have HQ2 := Lib.hid hQ2
          clear hw2 hQ2 hcell hBw
          go_wp2_with fail
          go_roundg (n - (k + 1))
          case measure => omega
          case rel => exact ⟨k + 1, g2, by go_num, rfl, by omega, by rw [Hstep.out]; exact HQ2.out⟩
    · have hke : k = n := by omega
      have hI3 : ¬ (k : Int) < (n : Int) := by omega
      have HF : Hid (34 :: (t.take k).flatMap qc = 34 :: t.flatMap qc) := by show _ = _; rw [List.take_of_length_le (by have := Hn.out; omega)]
      rw [HF.out] at HQk
      clear HF hke hlt
      have Hcat : Hid ((⟨(34 :: t.flatMap qc).toArray⟩ : ByteArray) ++ ⟨#[34]⟩ = ⟨(quoteB t).toArray⟩) := by show _ = _; exact cat_eq _ [34]
      have hfl := flat_qc_len t
      have hnn := Hn.out
      obtain ⟨q, hq⟩ : ∃ q, q = 34 :: t.flatMap qc := ⟨_, rfl⟩
      have hql : q.length ≤ 1 + 4 * n := by rw [hq, List.length_cons]; omega
      rw [← hq] at HQk Hcat
      have hst := string_any HQk.out.bd (by rw [hq]; simp)
      unfold strV at hst
      have Hst := Lib.hid hst
      have hcl : ¬ 9223372036854775807 < q.length + 1 := by omega
      clear hst hfl hq hnn hql
      go_wp2_with fail
      refine Hst.out.mono ?_
      rintro e w2 ⟨rfl, hw2⟩
      have HB2 := Lib.hid (HQk.out.below.trans (HQk.out.bd.wr_below hw2 HQk.out.below.size))
      clear hw2
      go_wp2_with fail
      go_ret
      exact ⟨by rw [Hcat.out]; rfl, HB2.out⟩

set_option maxRecDepth 100000 in
set_option maxHeartbeats 1000000 in
theorem words_any (wd : Bytes) (l : List Int) (A : Option Addr) (c : Nat) (w : World) (Hg : Hid (Gl w)) (hl : l.length ≤ 1000000) (hw : wd.length ≤ 1000000) (Hl : Hid (∀ n ∈ l, I64 n)) (Hs : Hid (Sl w w.heap.size A (l.map intC))) : Calls Tryz.prog 52 #[.string ⟨wd.toArray⟩, .slice A l.length c] w (StrR (wordsB wd l) w) := by
  obtain ⟨n, hn⟩ : ∃ n, n = l.length := ⟨_, rfl⟩
  rw [← hn]
  rw [← hn] at hl
  have Hn := Lib.hid hn
  clear hn
  go_enter Tryz.func52, Tryz.ntmps52
  go_wp2_with fail
  go_loopg [9, 0] n (fun gh s9 s0 wr => ∃ (k : Nat) (o : Bytes), s9 = .int .i64 (k : Int) ∧ s0 = .string ⟨o.toArray⟩ ∧ gh = n - k ∧ k ≤ n ∧ o.length ≤ 1000000 + 22 * k ∧ Hid (o = wordsB wd (l.take k) ∧ Below w.heap.size w wr))
  case atStart => exact ⟨0, wd, rfl, rfl, rfl, Nat.zero_le _, by omega, by unfold wordsB; simp, Below.refl _ _⟩
  case round =>
    obtain ⟨k, o, rfl, rfl, hgh, hk, ho, HO⟩ := hrel
    by_cases hlt : k < n
    · have hI1 : (0 : Int) ≤ (k : Int) := by omega
      have hI2 : (k : Int) < (n : Int) := by omega
      obtain ⟨x, hx⟩ : ∃ x, l[k]? = some x := ⟨l[k]'(by rw [← Hn.out]; exact hlt), List.getElem?_eq_getElem _⟩
      obtain ⟨b, of, hA, hbw, hcell⟩ := int_at (Hs.out.below HO.out.2) hx
      subst hA
      obtain ⟨hx0, hx1⟩ := Hl.out x (List.mem_of_getElem? hx)
      have hit := itoa_any x hx0 (by omega) (Hg.out.below HO.out.2)
      have hil := itoa_len x hx0 (by omega)
      have Hstep : Hid (wordsB wd (l.take (k + 1)) = wordsB wd (l.take k) ++ (32 :: Lib.itoa x)) := by show _ = _; unfold wordsB; rw [List.take_add_one, hx]; simp
      obtain ⟨y, hy⟩ : ∃ y, y = Lib.itoa x := ⟨_, rfl⟩
      rw [← hy] at Hstep hit hil
      have Hc1 : Hid ((⟨#[32]⟩ : ByteArray) ++ ⟨y.toArray⟩ = ⟨(32 :: y).toArray⟩) := by show _ = _; exact cat_eq [32] y
      have Hc2 : Hid ((⟨o.toArray⟩ : ByteArray) ++ ⟨(32 :: y).toArray⟩ = ⟨(o ++ 32 :: y).toArray⟩) := by show _ = _; exact cat_eq o (32 :: y)
      unfold strV at hit
      have Hit := Lib.hid hit
      have hq1 : ¬ 9223372036854775807 < 1 + y.length := by omega
      have hq2 : ¬ 9223372036854775807 < o.length + (y.length + 1) := by omega
      clear hx hx0 hx1 hit hy
      go_wp2_with fail
      refine Hit.out.mono ?_
      rintro e w2 ⟨rfl, hb2⟩
      have HB2 := Lib.hid (HO.out.2.trans (hb2.mono HO.out.2.size))
      clear hb2
      go_wp2_with fail
      rw [Hc1.out, Hc2.out]
      go_roundg (n - (k + 1))
      case measure => omega
      case rel => exact ⟨k + 1, o ++ 32 :: y, by go_num, rfl, rfl, by omega, by simp; omega, by rw [Hstep.out, HO.out.1], HB2.out⟩
    · have hke : k = n := by omega
      have hI3 : ¬ (k : Int) < (n : Int) := by omega
      clear hlt
      go_wp2_with fail
      go_ret
      refine ⟨?_, HO.out.2⟩
      rw [HO.out.1, List.take_of_length_le (by have := Hn.out; omega)]; rfl
end Go.Proofs.YtdfhbnfhkckkbaaGreatDoor
