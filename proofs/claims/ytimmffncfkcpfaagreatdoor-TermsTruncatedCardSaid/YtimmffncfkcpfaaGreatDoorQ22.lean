/-
  The walk of the statement TermsTruncated: it returns true for every class and number.
-/
import Derived.Test.YtimmffncfkcpfaaGreatDoorQ20
import Derived.Test.YtimmffncfkcpfaaGreatDoorX6
import Derived.Test.YtimmffncfkcpfaaGreatDoorX8
import Derived.Test.YtimmffncfkcpfaaGreatDoorV8
namespace Go.Proofs.YtimmffncfkcpfaaGreatDoor
open Go Go.RowKit Go.Walks

theorem classTx_len (C : ClassD) : 8 ≤ (classTx C).length := by
  obtain ⟨r, hr⟩ := head_start C
  rw [class_head, hr]
  simp [kClass]
theorem few_fits {T : TermsD} (h : fewB T = true) : Fits T := by
  unfold fewB fewC fewD at h
  simp only [Bool.and_eq_true, List.all_eq_true, decide_eq_true_eq] at h
  exact ⟨fun C hC => by have := h.1.2 C hC; omega, fun D hD => by have := h.2 D hD; omega⟩
/-- The text's first k bytes yield a syntax error in the first line, at most one behind their end, at the start if they are less than five. -/
def CutP (t : ByteArray) (k : Nat) : Prop := ∃ p : Nat, parseB (t.extract 0 k).data.toList = .bad p 3 ∧ spotR (t.extract 0 k) p = #[.int .i64 1, .int .i64 ((p : Int) + 1)] ∧ p ≤ k ∧ (k < 5 → p = 0) ∧ (t.extract 0 k).size ≤ 2100
theorem cut_spot {C : ClassD} (h : OkC C) (hl : (classTx C).length ≤ 2000) {k : Nat} (h1 : 1 ≤ k) (hk : k + 3 ≤ (classTx C).length) : CutP ⟨(classTx C).toArray⟩ k := by
  obtain ⟨p, hp, hpk, h5, hn⟩ := cut_bad h hl h1 hk
  have e : ((⟨(classTx C).toArray⟩ : ByteArray).extract 0 k).data.toList = (classTx C).take k := by rw [Lib.extract_data]; simp
  have hs : ((⟨(classTx C).toArray⟩ : ByteArray).extract 0 k).size = k := by rw [Lib.size_eq, e, List.length_take]; omega
  obtain ⟨s, hse⟩ : ∃ s, s = (⟨(classTx C).toArray⟩ : ByteArray).extract 0 k := ⟨_, rfl⟩
  unfold CutP
  rw [← hse] at e hs ⊢
  refine ⟨p, by rw [e]; exact hp, ?_, hpk, h5, by omega⟩
  have hn1 : (10 : UInt8) ∉ s.data.toList := by rw [e]; exact hn
  unfold spotR spotV
  rw [if_neg (by omega)]
  have hcol : ColIs s.data.toList p ((p : Int) + 1) := .inl ⟨rfl, fun j _ h => hn1 (List.mem_of_getElem? h)⟩
  rw [← hcol.eq (by omega)]
  have hct : Lib.countByte (List.take p s.data.toList) 10 = 0 := List.count_eq_zero.2 fun h => hn1 (List.mem_of_mem_take h)
  rw [hct, IntWalk.i64_left, IntWalk.i64_left, IntWalk.wrap64_in _ (by omega), IntWalk.wrap64_in _ (by omega)]
  rfl
theorem print_one (C : ClassD) : ((checkB ⟨[C], []⟩).2 ≠ 0 ∧ printB ⟨[C], []⟩ = ([], (checkB ⟨[C], []⟩).2)) ∨ printB ⟨[C], []⟩ = ([], 2) ∨ (OkC C ∧ (classTx C).length ≤ 2000 ∧ printB ⟨[C], []⟩ = (classTx C, 0)) := by
  have e : printT ⟨[C], []⟩ = classTx C := by simp [printT]
  unfold printB
  by_cases h : (checkB ⟨[C], []⟩).2 = 0
  · right
    rw [if_neg (fun h' => h' h), e]
    by_cases hl : 2000 < (classTx C).length
    · exact .inl (if_pos hl)
    · exact .inr ⟨(check_ok.1 h).cs C (by simp), by omega, if_neg hl⟩
  · exact .inl ⟨h, if_pos h⟩
theorem one_terms {w : World} {C : ClassD} {g : Nat} {t : TypeId} (h : w.heap[g]? = some (.cells (clsCs C).toArray t)) : TermsV w ⟨[C], []⟩ (.agg #[.slice (some ⟨g, 0, none⟩) 1 1, .slice none 0 0]) := by
  refine ⟨_, _, _, _, rfl, .inr ⟨g, 0, rfl, (Array.getElem?_eq_some_iff.1 h).1, fun j u hu => ?_⟩, .inl rfl, Nat.le_refl _, Nat.le_refl _, by decide, by decide⟩
  rw [show ([C].flatMap clsCs) = clsCs C by simp] at hu
  rw [Nat.zero_add]
  simp only [World.cell?, h]
  simpa using hu

/-- In the law: the terms' block. -/
structure LT (w : World) (T : TermsD) (g : Nat) (v : Array Value) (W : World) : Prop where
  below : Below w.heap.size w W
  x1 : W.heap[g]? = some (.cells v 26)
  tv : TermsV W T (.agg v)
theorem LT.call {w W W' : World} {T : TermsD} {g : Nat} {v : Array Value} (h : LT w T g v W) (hb : Below W.heap.size W W') : LT w T g v W' :=
  ⟨h.below.trans (hb.mono h.below.size), below_cells h.x1 hb, h.tv.below hb⟩

set_option maxRecDepth 100000 in
set_option maxHeartbeats 8000000 in
theorem lawCut_any (C : ClassD) (c : Int) (w : World) (Hg : Hid (Gl w)) (Hc : Hid (0 ≤ c ∧ c < 256)) (HN : Hid (C.name.length ≤ maxLen ∧ C.code.length ≤ maxLen)) : Calls Tryz.prog 4 #[.agg (clsCs C).toArray, .int .u8 c] w (BoolR true w) := by
  have Hsan : Hid (∀ W, Gl W → Calls Tryz.prog 5 #[] W (BoolR true W)) := fun W h => sanity_any W h
  have HNL : Hid (NamesL ⟨[C], []⟩) := ⟨fun D hD => by rw [List.mem_singleton.1 hD]; exact HN.out, fun D hD => by cases hD⟩
  have Hfew : Hid (∀ W g v, LT w ⟨[C], []⟩ g v W → Calls Tryz.prog 9 #[.agg v] W (BoolR (fewB ⟨[C], []⟩) W)) := fun W g v h => few_any _ _ W h.tv HNL
  have Hprint : Hid (fewB ⟨[C], []⟩ = true → ∀ W g v, LT w ⟨[C], []⟩ g v W → Calls Tryz.prog 10 #[.agg v] W (PrintR (printB ⟨[C], []⟩) W)) := fun hf W g v h => print_any _ _ W (Hg.out.below h.below) h.tv (few_fits hf)
  have Hone := Lib.hid (print_one C)
  clear HN HNL
  obtain ⟨nm, cd, ls, wh⟩ := C
  obtain ⟨g0, hg0⟩ : ∃ g, g = w.heap.size := ⟨_, rfl⟩
  obtain ⟨W0, hW0⟩ : ∃ W, W = w.alloc (.cells #[.string ⟨nm.toArray⟩, .string ⟨cd.toArray⟩, .int .i64 ls, .int .i64 wh] 38) := ⟨_, rfl⟩
  have HB0 : Hid (Below w.heap.size w W0) := by rw [hW0]; exact (Below.refl _ _).alloc (Nat.le_refl _) _
  have HX0 : Hid (W0.heap[g0]? = some (.cells #[.string ⟨nm.toArray⟩, .string ⟨cd.toArray⟩, .int .i64 ls, .int .i64 wh] 38)) := by rw [hW0, hg0]; exact heap_new _ _
  go_enter Tryz.func4, Tryz.ntmps4
  go_upto_region 1 with fail
  rw [show clsCs ⟨nm, cd, ls, wh⟩ = [.string ⟨nm.toArray⟩, .string ⟨cd.toArray⟩, .int .i64 ls, .int .i64 wh] from rfl]
  rw [← hW0, ← hg0]
  clear hW0
  go_wp2_with fail
  refine (Hsan.out _ (Hg.out.below HB0.out)).mono ?_
  rintro e w1 ⟨rfl, hb1⟩
  have HB1 := Lib.hid (HB0.out.trans (hb1.mono HB0.out.size))
  have HX1 := Lib.hid (below_cells HX0.out hb1)
  clear hb1 hg0
  obtain ⟨x0, x1, x2, x3, -⟩ := four_cells HX1.out
  obtain ⟨g1, hg1⟩ : ∃ g, g = w1.heap.size := ⟨_, rfl⟩
  obtain ⟨g2, hg2⟩ : ∃ g, g = w1.heap.size + 1 := ⟨_, rfl⟩
  obtain ⟨W1, hW1⟩ : ∃ W, W = w1.alloc (.cells #[.string ⟨nm.toArray⟩, .string ⟨cd.toArray⟩, .int .i64 ls, .int .i64 wh] 38) := ⟨_, rfl⟩
  obtain ⟨W2, hW2⟩ : ∃ W, W = W1.alloc (.cells #[.slice (some ⟨g1, 0, none⟩) 1 1, .slice none 0 0] 26) := ⟨_, rfl⟩
  have HL2 : Hid (LT w ⟨[⟨nm, cd, ls, wh⟩], []⟩ g2 #[.slice (some ⟨g1, 0, none⟩) 1 1, .slice none 0 0] W2) := by
    have h1 : Below w1.heap.size w1 W1 := by rw [hW1]; exact (Below.refl _ _).alloc (Nat.le_refl _) _
    have hr1 : W1.heap[g1]? = some (.cells (clsCs ⟨nm, cd, ls, wh⟩).toArray 38) := by rw [hW1, hg1]; exact heap_new _ _
    have hs1 : W1.heap.size = g2 := by rw [hW1, hg2]; simp
    have h2 : Below W1.heap.size W1 W2 := by rw [hW2]; exact (Below.refl _ _).alloc (Nat.le_refl _) _
    refine ⟨HB1.out.trans ((h1.trans (h2.mono h1.size)).mono HB1.out.size), by rw [hW2, ← hs1]; exact heap_new _ _, (one_terms hr1).below h2⟩
  go_upto_region 3 with fail
  rw [← hg2, ← hg1, ← hW1, ← hW2]
  clear hW1 hW2 hg1 hg2 x0 x1 x2 x3
  obtain ⟨y0, y1, -⟩ := two_cells HL2.out.x1
  cases hf : fewB ⟨[⟨nm, cd, ls, wh⟩], []⟩ with
  | false =>
    rw [hf] at Hfew
    go_wp2_with fail
    refine (Hfew.out _ _ _ HL2.out).mono ?_
    rintro e w3 ⟨rfl, hb3⟩
    have HL3 := Lib.hid (HL2.out.call hb3)
    clear hb3 y0 y1
    go_wp2_with fail
    go_ret
    exact ⟨rfl, HL3.out.below⟩
  | true =>
    rw [hf] at Hfew
    have HP := Lib.hid (Hprint.out hf)
    clear Hprint hf
    go_wp2_with fail
    refine (Hfew.out _ _ _ HL2.out).mono ?_
    rintro e w3 ⟨rfl, hb3⟩
    have HL3 := Lib.hid (HL2.out.call hb3)
    clear hb3 y0 y1
    obtain ⟨y0, y1, -⟩ := two_cells HL3.out.x1
    go_wp2_with fail
    refine (HP.out _ _ _ HL3.out).mono ?_
    rcases Hone.out with ⟨hne, hp⟩ | hp | ⟨hok, hlen, hp⟩
    · obtain ⟨en, hen⟩ : ∃ en, en = (checkB ⟨[⟨nm, cd, ls, wh⟩], []⟩).2 := ⟨_, rfl⟩
      rw [hp, ← hen]
      rw [← hen] at hne
      have hen' : ((en : Int) != 0) = true := by rw [bne_iff_ne]; omega
      unfold PrintR strV
      rintro e w4 ⟨rfl, hb4⟩
      have HL4 := Lib.hid (HL3.out.call hb4)
      clear hb4 y0 y1 hne hp hen
      go_wp2_with fail
      go_ret
      exact ⟨rfl, HL4.out.below⟩
    · rw [hp]
      unfold PrintR strV
      rintro e w4 ⟨rfl, hb4⟩
      have HL4 := Lib.hid (HL3.out.call hb4)
      clear hb4 y0 y1 hp
      go_wp2_with fail
      go_ret
      exact ⟨rfl, HL4.out.below⟩
    · have Hcut := Lib.hid fun k => @cut_spot ⟨nm, cd, ls, wh⟩ hok hlen k
      have h14 := Lib.hid (classTx_len ⟨nm, cd, ls, wh⟩)
      rw [hp]
      unfold PrintR strV
      dsimp only
      obtain ⟨l, hl⟩ : ∃ l, l = classTx ⟨nm, cd, ls, wh⟩ := ⟨_, rfl⟩
      obtain ⟨t, ht⟩ : ∃ t, t = (⟨l.toArray⟩ : ByteArray) := ⟨_, rfl⟩
      have hts : t.size = l.length := by rw [ht]; rfl
      rw [← hl, ← ht] at Hcut ⊢
      rw [← hl] at hlen h14
      rintro e w4 ⟨rfl, hb4⟩
      have HL4 := Lib.hid (HL3.out.call hb4)
      clear hb4 y0 y1 hp hl ht
      have hc0 := Hc.out.1
      have hc1 := Hc.out.2
      have h8 := h14.out
      go_upto_region 10 with fail
      obtain ⟨k, hk, hk1, hkl⟩ : ∃ k : Nat, wrap64 (1 + c % ((l.length : Int) - 2 - 1)) = (k : Int) ∧ 1 ≤ k ∧ k + 3 ≤ l.length := by
        have hm1 := Int.emod_nonneg c (b := (l.length : Int) - 2 - 1) (by omega)
        have hm2 := Int.emod_lt_of_pos c (b := (l.length : Int) - 2 - 1) (by omega)
        rw [IntWalk.wrap64_in _ (by omega)]
        exact ⟨(1 + c % ((l.length : Int) - 2 - 1)).toNat, by omega, by omega, by omega⟩
      rw [hk]
      clear hk
      obtain ⟨p, hpb, hsp, hpk, h5, hsz⟩ := Hcut.out k hk1 hkl
      obtain ⟨x, hx⟩ : ∃ x, x = t.extract 0 k := ⟨_, rfl⟩
      rw [← hx] at hpb hsp hsz
      have Hcall := Lib.hid fun W hW => call_bad hpb W hW
      rw [hsp] at Hcall
      have Href : Hid (∀ W, Calls Tryz.prog 7 #[.string x] W fun e w' => Below W.heap.size W w' ∧ e = .returned (.agg #[.slice none 0 0, .slice none 0 0, .int .i64 1, .int .i64 ((p : Int) + 1), .int .i64 3])) := fun W => (rparse_any x W hsz).mono fun e w' ⟨hb, h⟩ => by
        rw [hpb] at h
        obtain ⟨s1, s2, h1, rfl⟩ := h
        rw [hsp] at h1
        obtain ⟨rfl, rfl⟩ : Value.int .i64 1 = s1 ∧ Value.int .i64 ((p : Int) + 1) = s2 := by simpa using h1
        exact ⟨hb, rfl⟩
      have HG4 := Lib.hid (Hg.out.below HL4.out.below)
      clear hpb hsp hsz hc0 hc1 Hcut
      go_wp2_with fail
      rw [← hx]
      refine (Hcall.out _ HG4).mono ?_
      rintro e w5 ⟨hb5, rfl⟩
      have HL5 := Lib.hid (HL4.out.call hb5)
      obtain ⟨g3, hg3⟩ : ∃ g, g = w5.heap.size + 1 := ⟨_, rfl⟩
      obtain ⟨W5, hW5⟩ : ∃ W, W = w5.alloc (.cells #[.slice none 0 0, .slice none 0 0] 26) := ⟨_, rfl⟩
      obtain ⟨W6, hW6⟩ : ∃ W, W = W5.alloc (.cells #[.int .i64 1, .int .i64 ((p : Int) + 1)] 28) := ⟨_, rfl⟩
      have h1 : Below w5.heap.size w5 W5 := by rw [hW5]; exact (Below.refl _ _).alloc (Nat.le_refl _) _
      have hs1 : W5.heap.size = g3 := by rw [hW5, hg3]; simp
      have h2 : Below W5.heap.size W5 W6 := by rw [hW6]; exact (Below.refl _ _).alloc (Nat.le_refl _) _
      have HL6 := Lib.hid ((HL5.out.call h1).call h2)
      have HX6 : Hid (W6.heap[g3]? = some (.cells #[.int .i64 1, .int .i64 ((p : Int) + 1)] 28)) := by rw [hW6, ← hs1]; exact heap_new _ _
      clear hb5 h1 h2 hs1
      go_upto_region 11 with fail
      rw [← hW5, ← hg3, ← hW6]
      clear hW5 hW6 hg3
      go_wp2_with fail
      rw [← hx]
      refine (Href.out _).mono ?_
      rintro e w7 ⟨hb7, rfl⟩
      have HL7 := Lib.hid (HL6.out.call hb7)
      have HX7 := Lib.hid (below_cells HX6.out hb7)
      obtain ⟨g4, hg4⟩ : ∃ g, g = w7.heap.size := ⟨_, rfl⟩
      obtain ⟨W8, hW8⟩ : ∃ W, W = w7.alloc (.cells #[.slice none 0 0, .slice none 0 0, .int .i64 1, .int .i64 ((p : Int) + 1), .int .i64 3] 33) := ⟨_, rfl⟩
      have h1 : Below w7.heap.size w7 W8 := by rw [hW8]; exact (Below.refl _ _).alloc (Nat.le_refl _) _
      have HL8 := Lib.hid (HL7.out.call h1)
      have HX8 := Lib.hid (below_cells HX7.out h1)
      have hr8 : W8.heap[g4]? = some (.cells #[.slice none 0 0, .slice none 0 0, .int .i64 1, .int .i64 ((p : Int) + 1), .int .i64 3] 33) := by rw [hW8, hg4]; exact heap_new _ _
      clear hb7 h1
      go_upto_region 12 with fail
      rw [← hW8, ← hg4]
      clear hW8 hg4
      obtain ⟨y0, y1, -⟩ := two_cells HX8.out
      obtain ⟨z0, z1, z2, z3, z4, -⟩ := five_cells hr8
      clear hr8
      have hwk : wrap64 ((k : Int) + 1) = (k : Int) + 1 := IntWalk.wrap64_in _ (by omega)
      have hle : (p : Int) + 1 ≤ (k : Int) + 1 := by omega
      by_cases hk5 : k < 5
      · obtain rfl := h5 hk5
        have hk5' : ¬ (5 : Int) ≤ (k : Int) := by omega
        go_wp2_with fail
        go_ret
        exact ⟨rfl, HL8.out.below⟩
      · have hk5' : (5 : Int) ≤ (k : Int) := by omega
        go_wp2_with fail
        go_ret
        exact ⟨rfl, HL8.out.below⟩
end Go.Proofs.YtimmffncfkcpfaaGreatDoor
