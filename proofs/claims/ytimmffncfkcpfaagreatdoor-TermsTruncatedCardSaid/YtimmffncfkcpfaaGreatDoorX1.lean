/-
  The walk of the program's Check.
-/
import Derived.Test.YtimmffncfkcpfaaGreatDoorX0
import Derived.Deep.DeepCutAuto
namespace Go.Proofs.YtimmffncfkcpfaaGreatDoor
open Go Go.RowKit Go.Walks

/-- In Check: the terms' block, and the block of a class or a contract. -/
structure CK (w : World) (v : Array Value) (g5 : Nat) (cs : List Value) (ty : TypeId) (W : World) : Prop where
  below : Below w.heap.size w W
  x1 : W.heap[w.heap.size]? = some (.cells v 26)
  x5 : W.heap[g5]? = some (.cells cs.toArray ty)
theorem CK.call {w W W' : World} {v : Array Value} {g5 : Nat} {cs : List Value} {ty : TypeId} (h : CK w v g5 cs ty W) (hb : Below W.heap.size W W') : CK w v g5 cs ty W' :=
  ⟨h.below.trans (hb.mono h.below.size), below_cells h.x1 hb, below_cells h.x5 hb⟩
theorem CK.drewN {w W : World} {v : Array Value} {g5 : Nat} {cs : List Value} {ty : TypeId} (h : CK w v g5 cs ty W) (q : Nat) : CK w v g5 cs ty (W.drewN q) := h.call (below_drewN (Below.refl _ _) q)
def CheckR (p : Nat × Nat) (w : World) (e : Ending) (w' : World) : Prop := e = .returned (.tuple #[.int .i64 (p.1 : Int), .int .i64 (p.2 : Int)]) ∧ Below w.heap.size w w'
/-- Strings that fit. -/
structure Fits (T : TermsD) : Prop where
  cls : ∀ C ∈ T.classes, C.name.length ≤ 140737488355328 ∧ C.code.length ≤ 140737488355328
  ctr : ∀ D ∈ T.contracts, D.tenant.length ≤ 140737488355328 ∧ D.cls.length ≤ 140737488355328
theorem badFrom_skip {α : Type} {err : Nat → α → Nat} : ∀ {l : List α} {i k : Nat} {x : α}, (∀ (j : Nat) (y : α), j < k → l[j]? = some y → err (i + j) y = 0) → l[k]? = some x → err (i + k) x ≠ 0 → badFrom err i l = some (i + k, err (i + k) x)
  | [], i, k, x, _, h, _ => by simp at h
  | y :: l, i, 0, x, _, h, hn => by
    have : y = x := by simpa using h
    subst this
    rw [Nat.add_zero] at hn ⊢
    rw [badFrom, if_neg hn]
  | y :: l, i, k + 1, x, h0, h, hn => by
    have h1 := h0 0 y (by omega) rfl
    rw [Nat.add_zero] at h1
    rw [badFrom, if_pos h1, badFrom_skip (k := k) (fun j z hj hz => by
      have := h0 (j + 1) z (by omega) (by simpa using hz)
      rw [show i + 1 + j = i + (j + 1) by omega]; exact this) (by simpa using h) (by rw [show i + 1 + k = i + (k + 1) by omega]; exact hn), show i + 1 + k = i + (k + 1) by omega]
theorem any_name {l : List ClassD} {nm : Bytes} : (l.any fun x => x.name == nm) = decide (nm ∈ l.map ClassD.name) := by
  rw [Bool.eq_iff_iff, List.any_eq_true, decide_eq_true_eq, List.mem_map]
  simp only [beq_iff_eq]
theorem any_tenant {l : List ContrD} {nm : Bytes} : (l.any fun x => x.tenant == nm) = decide (nm ∈ l.map ContrD.tenant) := by
  rw [Bool.eq_iff_iff, List.any_eq_true, decide_eq_true_eq, List.mem_map]
  simp only [beq_iff_eq]

theorem six_cells {w : World} {g : Nat} {t : TypeId} {a b c d e f : Value} (h : w.heap[g]? = some (.cells #[a, b, c, d, e, f] t)) :
    w.cell? ⟨g, 0, none⟩ = some a ∧ w.cell? ⟨g, 1, none⟩ = some b ∧ w.cell? ⟨g, 2, none⟩ = some c ∧ w.cell? ⟨g, 3, none⟩ = some d ∧ w.cell? ⟨g, 4, none⟩ = some e ∧ w.cell? ⟨g, 5, none⟩ = some f ∧ w.frozen? ⟨g, 0, none⟩ = false := by
  simp [World.cell?, World.frozen?, h]

set_option maxRecDepth 100000 in
set_option maxHeartbeats 16000000 in
theorem check_any (T : TermsD) (v : Value) (w : World) (Hg : Hid (Gl w)) (Hv : Hid (TermsV w T v)) (Hf : Hid (Fits T)) : Calls Tryz.prog 11 #[v] w (CheckR (checkB T) w) := by
  have hmf : ∀ (fn : Fn) (first cap : Array Value) (w : World), (Instr.makeFunc fn first cap).run Tryz.prog w = .ok (.func fn first cap) w := fun _ _ _ _ => rfl
  obtain ⟨A, c, A', d, rfl, hs1, hs2, hc1, hc2, hc3, hc4⟩ := Hv.out
  obtain ⟨n, hn⟩ : ∃ n, n = T.classes.length := ⟨_, rfl⟩
  obtain ⟨m, hm⟩ : ∃ m, m = T.contracts.length := ⟨_, rfl⟩
  rw [← hn] at hc1 ⊢
  rw [← hm] at hc2 ⊢
  have Hn := Lib.hid hn
  have Hm := Lib.hid hm
  have Hs1 := Lib.hid hs1
  have Hs2 := Lib.hid hs2
  have HB0 : Hid (Below w.heap.size w (w.alloc (.cells #[.slice A n c, .slice A' m d] 26))) := (Below.refl _ _).alloc (Nat.le_refl _) _
  have HX0 := Lib.hid (heap_new w (.cells #[.slice A n c, .slice A' m d] 26))
  obtain ⟨x0, -⟩ := cell_at HX0.out 0 (u := .slice A n c) rfl
  unfold maxLen at hc3 hc4
  clear hs1 hs2 Hv hn hm
  go_enter Tryz.func11, Tryz.ntmps11
  go_wp2_with fail
  go_loopg [15] n (fun g s15 wr => ∃ k : Nat, s15 = .int .i64 (k : Int) ∧ g = n - k ∧ k ≤ n ∧ Hid (Below w.heap.size w wr) ∧ Hid (wr.heap[w.heap.size]? = some (.cells #[.slice A n c, .slice A' m d] 26)) ∧ Hid (∀ (j : Nat) (C : ClassD), j < k → T.classes[j]? = some C → clsErr T.classes j C = 0))
  case atStart => exact ⟨0, rfl, rfl, Nat.zero_le _, HB0.out, HX0.out, fun j C h => absurd h (by omega)⟩
  case round =>
    obtain ⟨k, rfl, hg, hk, HB, HX, HQ⟩ := hrel
    have Hgg := Lib.hid hg
    clear hg x0 HB0 HX0
    by_cases hlt : k < n
    · have hI1 : (0 : Int) ≤ (k : Int) := by omega
      have hI2 : (k : Int) < (n : Int) := by omega
      obtain ⟨C, hC⟩ : ∃ x, T.classes[k]? = some x := ⟨_, List.getElem?_eq_getElem (by have := Hn.out; omega)⟩
      obtain ⟨b, o, hA, hb, hcells⟩ := sl_at cls_len Hs1.out hC (by omega)
      subst hA
      have k0 := (HB.out.cell (p := ⟨b, o + (k * 4 + 0), none⟩) hb).trans (hcells 0 _ rfl)
      have k1 := (HB.out.cell (p := ⟨b, o + (k * 4 + 1), none⟩) hb).trans (hcells 1 _ rfl)
      have k2 := (HB.out.cell (p := ⟨b, o + (k * 4 + 2), none⟩) hb).trans (hcells 2 _ rfl)
      have k3 := (HB.out.cell (p := ⟨b, o + (k * 4 + 3), none⟩) hb).trans (hcells 3 _ rfl)
      rw [Nat.add_zero] at k0
      rw [← Nat.add_assoc] at k1 k2 k3
      have HS : Hid (CK w #[.slice (some ⟨b, o, none⟩) n c, .slice A' m d] wr.heap.size (clsCs C) 38 (wr.alloc (.cells (clsCs C).toArray 38))) := ⟨HB.out.alloc HB.out.size _, below_cells HX.out ((Below.refl _ _).alloc (Nat.le_refl _) _), heap_new _ _⟩
      have HC := Lib.hid hC
      have Hfit := Lib.hid (Hf.out.cls C (List.mem_of_getElem? hC))
      clear hcells hC
      obtain ⟨nm, cd, ls, wh⟩ := C
      unfold clsCs at HS
      dsimp only at HS Hfit k0 k1 k2 k3
      by_cases h8 : 8 ≤ k
      · have hI3 : (8 : Int) ≤ (k : Int) := by omega
        have HE : Hid (checkB T = (k, 2)) := by
          have hne : clsErr T.classes (0 + k) ⟨nm, cd, ls, wh⟩ = 2 := by unfold clsErr; rw [Nat.zero_add, if_pos h8]
          show _ = _
          unfold checkB
          rw [badFrom_skip (k := k) (fun j y hj hy => by rw [Nat.zero_add]; exact HQ.out j y hj hy) HC.out (by rw [hne]; decide), hne, Nat.zero_add]
        go_wp2_with fail
        go_ret2
        exact ⟨by rw [HE.out] <;> rfl, HS.out.below⟩
      · have hI3 : ¬ (8 : Int) ≤ (k : Int) := by omega
        have HNA : Hid (∀ (l : Bytes) W, l.length ≤ 140737488355328 → Calls Tryz.prog 32 #[.string ⟨l.toArray⟩] W (BoolR (nameB l) W)) := fun l W h => isName_any l W h
        have HPA : Hid (∀ (l : Bytes) (v : Int) W, Below w.heap.size w W → Calls Tryz.prog 34 #[.string ⟨l.toArray⟩, .int .i64 v] W (BoolR (permB l v) W)) := fun l v W hW => permitted_any l v W (Hg.out.below hW)
        have HDU : Hid (∀ W, CK w #[.slice (some ⟨b, o, none⟩) n c, .slice A' m d] wr.heap.size [.string ⟨nm.toArray⟩, .string ⟨cd.toArray⟩, .int .i64 ls, .int .i64 wh] 38 W → Calls Tryz.prog 33 #[.slice (some ⟨b, o, none⟩) k c, .func (.func 31) #[] #[.pointer (some ⟨wr.heap.size, 0, none⟩)]] W (BoolR (decide (nm ∈ (T.classes.take k).map ClassD.name)) W)) := fun W hW => by
          have hs : Sl W W.heap.size (some ⟨b, o, none⟩) ((T.classes.take k).flatMap clsCs) := by
            rw [← flat_take cls_len]
            exact ((Hs1.out.below hW.below).more hW.below.size).take _
          have hk2 : (T.classes.take k).length = k := by rw [List.length_take, ← Hn.out]; omega
          have := contains_17 nm wr.heap.size (T.classes.take k) (some ⟨b, o, none⟩) c W (by unfold maxLen; omega) hs (cell_at hW.x5 0 rfl).1
          rw [any_name, hk2] at this
          exact this
        obtain ⟨y0, y1, y2, y3, -⟩ := four_cells HS.out.x5
        have HBAD : Hid (∀ e : Nat, clsErr T.classes k ⟨nm, cd, ls, wh⟩ = e → e ≠ 0 → checkB T = (k, e)) := fun e he hne => by
          unfold checkB
          rw [badFrom_skip (k := k) (fun j y hj hy => by rw [Nat.zero_add]; exact HQ.out j y hj hy) HC.out (by rw [Nat.zero_add, he]; exact hne), Nat.zero_add, he]
        cases hc1 : nameB nm with
        | false =>
          have HE : Hid (checkB T = (k, 4)) := HBAD.out 4 (by unfold clsErr; rw [if_neg h8, if_pos (.inl hc1)]) (by decide)
          have HV1 := Lib.hid hc1
          clear hc1
          go_wp2_with (first | (go_at_call 32; refine (HNA.out _ _ (by first | exact Hfit.out.1 | exact Hfit.out.2)).mono ?_; rw [HV1.out]; rintro e w1 ⟨rfl, hb1⟩; have S1 := Lib.hid (HS.out.call hb1); obtain ⟨y10, y11, y12, y13, -⟩ := four_cells S1.out.x5; obtain ⟨z1, -⟩ := cell_at S1.out.x1 0 (u := .slice (some ⟨b, o, none⟩) n c) rfl; clear hb1))
          go_ret2
          exact ⟨by rw [HE.out] <;> rfl, S1.out.below⟩
        | true =>
          have HV1 := Lib.hid hc1
          clear hc1
          cases hc2 : nameB cd with
          | false =>
            have HE : Hid (checkB T = (k, 4)) := HBAD.out 4 (by unfold clsErr; rw [if_neg h8, if_pos (.inr (.inl hc2))]) (by decide)
            have HV2 := Lib.hid hc2
            clear hc2
            go_wp2_with (first | (go_at_call 32; refine (HNA.out _ _ (by first | exact Hfit.out.1 | exact Hfit.out.2)).mono ?_; rw [HV1.out]; rintro e w1 ⟨rfl, hb1⟩; have S1 := Lib.hid (HS.out.call hb1); obtain ⟨y10, y11, y12, y13, -⟩ := four_cells S1.out.x5; obtain ⟨z1, -⟩ := cell_at S1.out.x1 0 (u := .slice (some ⟨b, o, none⟩) n c) rfl; clear hb1) | (go_at_call 32; refine (HNA.out _ _ (by first | exact Hfit.out.1 | exact Hfit.out.2)).mono ?_; rw [HV2.out]; rintro e w2 ⟨rfl, hb2⟩; have S2 := Lib.hid (S1.out.call hb2); obtain ⟨y20, y21, y22, y23, -⟩ := four_cells S2.out.x5; obtain ⟨z2, -⟩ := cell_at S2.out.x1 0 (u := .slice (some ⟨b, o, none⟩) n c) rfl; clear hb2))
            go_ret2
            exact ⟨by rw [HE.out] <;> rfl, S2.out.below⟩
          | true =>
            have HV2 := Lib.hid hc2
            clear hc2
            cases hc3 : decide (nm ∈ (T.classes.take k).map ClassD.name) with
            | true =>
              have HE : Hid (checkB T = (k, 4)) := HBAD.out 4 (by unfold clsErr; rw [if_neg h8, if_pos (.inr (.inr (of_decide_eq_true hc3)))]) (by decide)
              have HV3 := Lib.hid hc3
              clear hc3
              go_wp2_with (first | (go_at_call 32; refine (HNA.out _ _ (by first | exact Hfit.out.1 | exact Hfit.out.2)).mono ?_; rw [HV1.out]; rintro e w1 ⟨rfl, hb1⟩; have S1 := Lib.hid (HS.out.call hb1); obtain ⟨y10, y11, y12, y13, -⟩ := four_cells S1.out.x5; obtain ⟨z1, -⟩ := cell_at S1.out.x1 0 (u := .slice (some ⟨b, o, none⟩) n c) rfl; clear hb1) | (go_at_call 32; refine (HNA.out _ _ (by first | exact Hfit.out.1 | exact Hfit.out.2)).mono ?_; rw [HV2.out]; rintro e w2 ⟨rfl, hb2⟩; have S2 := Lib.hid (S1.out.call hb2); obtain ⟨y20, y21, y22, y23, -⟩ := four_cells S2.out.x5; obtain ⟨z2, -⟩ := cell_at S2.out.x1 0 (u := .slice (some ⟨b, o, none⟩) n c) rfl; clear hb2) | (go_at_call 33; refine (HDU.out _ S2.out).mono ?_; rw [HV3.out]; rintro e w3 ⟨rfl, hb3⟩; have S3 := Lib.hid (S2.out.call hb3); obtain ⟨y30, y31, y32, y33, -⟩ := four_cells S3.out.x5; clear hb3))
              go_ret2
              exact ⟨by rw [HE.out] <;> rfl, S3.out.below⟩
            | false =>
              have HV3 := Lib.hid hc3
              clear hc3
              cases hc4 : permB [108, 111, 115, 115, 101, 115] ls with
              | false =>
                have HE : Hid (checkB T = (k, 1)) := HBAD.out 1 (by unfold clsErr; rw [if_neg h8, if_neg (by rintro (h | h | h); rw [HV1.out] at h; cases h; rw [HV2.out] at h; cases h; exact of_decide_eq_false HV3.out h), if_pos (.inl hc4)]) (by decide)
                have HV4 := Lib.hid hc4
                clear hc4
                go_wp2_with (first | (go_at_call 32; refine (HNA.out _ _ (by first | exact Hfit.out.1 | exact Hfit.out.2)).mono ?_; rw [HV1.out]; rintro e w1 ⟨rfl, hb1⟩; have S1 := Lib.hid (HS.out.call hb1); obtain ⟨y10, y11, y12, y13, -⟩ := four_cells S1.out.x5; obtain ⟨z1, -⟩ := cell_at S1.out.x1 0 (u := .slice (some ⟨b, o, none⟩) n c) rfl; clear hb1) | (go_at_call 32; refine (HNA.out _ _ (by first | exact Hfit.out.1 | exact Hfit.out.2)).mono ?_; rw [HV2.out]; rintro e w2 ⟨rfl, hb2⟩; have S2 := Lib.hid (S1.out.call hb2); obtain ⟨y20, y21, y22, y23, -⟩ := four_cells S2.out.x5; obtain ⟨z2, -⟩ := cell_at S2.out.x1 0 (u := .slice (some ⟨b, o, none⟩) n c) rfl; clear hb2) | (go_at_call 33; refine (HDU.out _ S2.out).mono ?_; rw [HV3.out]; rintro e w3 ⟨rfl, hb3⟩; have S3 := Lib.hid (S2.out.call hb3); obtain ⟨y30, y31, y32, y33, -⟩ := four_cells S3.out.x5; clear hb3) | (go_at_call 34; refine (HPA.out _ _ _ S3.out.below).mono ?_; rw [HV4.out]; rintro e w4 ⟨rfl, hb4⟩; have S4 := Lib.hid (S3.out.call hb4); obtain ⟨y40, y41, y42, y43, -⟩ := four_cells S4.out.x5; clear hb4))
                go_ret2
                exact ⟨by rw [HE.out] <;> rfl, S4.out.below⟩
              | true =>
                have HV4 := Lib.hid hc4
                clear hc4
                cases hc5 : permB [119, 104, 111, 108, 101] wh with
                | false =>
                  have HE : Hid (checkB T = (k, 1)) := HBAD.out 1 (by unfold clsErr; rw [if_neg h8, if_neg (by rintro (h | h | h); rw [HV1.out] at h; cases h; rw [HV2.out] at h; cases h; exact of_decide_eq_false HV3.out h), if_pos (.inr hc5)]) (by decide)
                  have HV5 := Lib.hid hc5
                  clear hc5
                  go_wp2_with (first | (go_at_call 32; refine (HNA.out _ _ (by first | exact Hfit.out.1 | exact Hfit.out.2)).mono ?_; rw [HV1.out]; rintro e w1 ⟨rfl, hb1⟩; have S1 := Lib.hid (HS.out.call hb1); obtain ⟨y10, y11, y12, y13, -⟩ := four_cells S1.out.x5; obtain ⟨z1, -⟩ := cell_at S1.out.x1 0 (u := .slice (some ⟨b, o, none⟩) n c) rfl; clear hb1) | (go_at_call 32; refine (HNA.out _ _ (by first | exact Hfit.out.1 | exact Hfit.out.2)).mono ?_; rw [HV2.out]; rintro e w2 ⟨rfl, hb2⟩; have S2 := Lib.hid (S1.out.call hb2); obtain ⟨y20, y21, y22, y23, -⟩ := four_cells S2.out.x5; obtain ⟨z2, -⟩ := cell_at S2.out.x1 0 (u := .slice (some ⟨b, o, none⟩) n c) rfl; clear hb2) | (go_at_call 33; refine (HDU.out _ S2.out).mono ?_; rw [HV3.out]; rintro e w3 ⟨rfl, hb3⟩; have S3 := Lib.hid (S2.out.call hb3); obtain ⟨y30, y31, y32, y33, -⟩ := four_cells S3.out.x5; clear hb3) | (go_at_call 34; refine (HPA.out _ _ _ S3.out.below).mono ?_; rw [HV4.out]; rintro e w4 ⟨rfl, hb4⟩; have S4 := Lib.hid (S3.out.call hb4); obtain ⟨y40, y41, y42, y43, -⟩ := four_cells S4.out.x5; clear hb4) | (go_at_call 34; refine (HPA.out _ _ _ S4.out.below).mono ?_; rw [HV5.out]; rintro e w5 ⟨rfl, hb5⟩; have S5 := Lib.hid (S4.out.call hb5); obtain ⟨y50, y51, y52, y53, -⟩ := four_cells S5.out.x5; clear hb5))
                  go_ret2
                  exact ⟨by rw [HE.out] <;> rfl, S5.out.below⟩
                | true =>
                  have HV5 := Lib.hid hc5
                  clear hc5
                  have HQ2 : Hid (∀ (j : Nat) (C : ClassD), j < k + 1 → T.classes[j]? = some C → clsErr T.classes j C = 0) := fun j C hj hC => by
                    rcases Nat.lt_or_ge j k with h | h
                    · exact HQ.out j C h hC
                    · obtain rfl : j = k := by omega
                      rw [HC.out] at hC
                      injection hC with hC
                      subst hC
                      unfold clsErr
                      rw [if_neg h8, if_neg (by rintro (h | h | h); rw [HV1.out] at h; cases h; rw [HV2.out] at h; cases h; exact of_decide_eq_false HV3.out h), if_neg (by rintro (h | h); exact absurd (HV4.out.symm.trans h) (by decide); exact absurd (HV5.out.symm.trans h) (by decide))]
                  go_wp2_with (first | (go_at_call 32; refine (HNA.out _ _ (by first | exact Hfit.out.1 | exact Hfit.out.2)).mono ?_; rw [HV1.out]; rintro e w1 ⟨rfl, hb1⟩; have S1 := Lib.hid (HS.out.call hb1); obtain ⟨y10, y11, y12, y13, -⟩ := four_cells S1.out.x5; obtain ⟨z1, -⟩ := cell_at S1.out.x1 0 (u := .slice (some ⟨b, o, none⟩) n c) rfl; clear hb1) | (go_at_call 32; refine (HNA.out _ _ (by first | exact Hfit.out.1 | exact Hfit.out.2)).mono ?_; rw [HV2.out]; rintro e w2 ⟨rfl, hb2⟩; have S2 := Lib.hid (S1.out.call hb2); obtain ⟨y20, y21, y22, y23, -⟩ := four_cells S2.out.x5; obtain ⟨z2, -⟩ := cell_at S2.out.x1 0 (u := .slice (some ⟨b, o, none⟩) n c) rfl; clear hb2) | (go_at_call 33; refine (HDU.out _ S2.out).mono ?_; rw [HV3.out]; rintro e w3 ⟨rfl, hb3⟩; have S3 := Lib.hid (S2.out.call hb3); obtain ⟨y30, y31, y32, y33, -⟩ := four_cells S3.out.x5; clear hb3) | (go_at_call 34; refine (HPA.out _ _ _ S3.out.below).mono ?_; rw [HV4.out]; rintro e w4 ⟨rfl, hb4⟩; have S4 := Lib.hid (S3.out.call hb4); obtain ⟨y40, y41, y42, y43, -⟩ := four_cells S4.out.x5; clear hb4) | (go_at_call 34; refine (HPA.out _ _ _ S4.out.below).mono ?_; rw [HV5.out]; rintro e w5 ⟨rfl, hb5⟩; have S5 := Lib.hid (S4.out.call hb5); obtain ⟨y50, y51, y52, y53, -⟩ := four_cells S5.out.x5; clear hb5))
                  go_roundg (n - (k + 1))
                  case measure => rw [Hgg.out]; omega
                  case rel => exact ⟨k + 1, by go_num, rfl, by omega, S5.out.below, S5.out.x1, HQ2.out⟩
    · have hkn : k = n := by omega
      subst hkn
      have hI3 : ¬ (k : Int) < (k : Int) := by omega
      have HC1 : Hid (badFrom (clsErr T.classes) 0 T.classes = none) := badFrom_none.2 fun j C hj => by
        rw [Nat.zero_add]
        exact HQ.out j C (by have := (List.getElem?_eq_some_iff.1 hj).1; have := Hn.out; omega) hj
      have HCB : Hid (checkB T = ctrB T) := by show _ = _; unfold checkB; rw [HC1.out]
      have hk8 : k ≤ 8 := by
        rcases Nat.lt_or_ge 8 k with h | h
        · have hl : 8 < T.classes.length := by have := Hn.out; omega
          have h1 := HQ.out 8 T.classes[8] (by omega) (List.getElem?_eq_getElem (by have := Hn.out; omega))
          unfold clsErr at h1
          rw [if_pos (by omega)] at h1
          cases h1
        · exact h
      obtain ⟨z0, -⟩ := cell_at HX.out 0 (u := .slice A k c) rfl
      obtain ⟨z1, -⟩ := cell_at HX.out 1 (u := .slice A' m d) rfl
      clear HQ
      go_wp2_with fail
      clear z0 z1
      go_loopg [64] m (fun g s64 wr => ∃ j : Nat, s64 = .int .i64 (j : Int) ∧ g = m - j ∧ j ≤ m ∧ Hid (Below w.heap.size w wr) ∧ Hid (wr.heap[w.heap.size]? = some (.cells #[.slice A k c, .slice A' m d] 26)) ∧ Hid (∀ (i : Nat) (D : ContrD), i < j → T.contracts[i]? = some D → ctrErr T.classes T.contracts i D = 0))
      case atStart => exact ⟨0, rfl, rfl, Nat.zero_le _, HB.out, HX.out, fun i D h => absurd h (by omega)⟩
      case round =>
        obtain ⟨j, rfl, hg2, hj, HB2, HX2, HQ⟩ := hrel
        have Hg2 := Lib.hid hg2
        clear hg2
        by_cases hlt2 : j < m
        · have hJ1 : (0 : Int) ≤ (j : Int) := by omega
          have hJ2 : (j : Int) < (m : Int) := by omega
          obtain ⟨D, hD⟩ : ∃ x, T.contracts[j]? = some x := ⟨_, List.getElem?_eq_getElem (by have := Hm.out; omega)⟩
          obtain ⟨b, o, hA, hb, hcells⟩ := sl_at ctr_len Hs2.out hD (by omega)
          subst hA
          have k0 := (HB2.out.cell (p := ⟨b, o + (j * 6 + 0), none⟩) hb).trans (hcells 0 _ rfl)
          have k1 := (HB2.out.cell (p := ⟨b, o + (j * 6 + 1), none⟩) hb).trans (hcells 1 _ rfl)
          have k2 := (HB2.out.cell (p := ⟨b, o + (j * 6 + 2), none⟩) hb).trans (hcells 2 _ rfl)
          have k3 := (HB2.out.cell (p := ⟨b, o + (j * 6 + 3), none⟩) hb).trans (hcells 3 _ rfl)
          have k4 := (HB2.out.cell (p := ⟨b, o + (j * 6 + 4), none⟩) hb).trans (hcells 4 _ rfl)
          have k5 := (HB2.out.cell (p := ⟨b, o + (j * 6 + 5), none⟩) hb).trans (hcells 5 _ rfl)
          rw [Nat.add_zero] at k0
          rw [← Nat.add_assoc] at k1 k2 k3 k4 k5
          have HS : Hid (CK w #[.slice A k c, .slice (some ⟨b, o, none⟩) m d] wr.heap.size (ctrCs D) 46 (wr.alloc (.cells (ctrCs D).toArray 46))) := ⟨HB2.out.alloc HB2.out.size _, below_cells HX2.out ((Below.refl _ _).alloc (Nat.le_refl _) _), heap_new _ _⟩
          have HD := Lib.hid hD
          have Hfit := Lib.hid (Hf.out.ctr D (List.mem_of_getElem? hD))
          clear hcells hD
          obtain ⟨tn, gu, sn, bu, rk, cl⟩ := D
          unfold ctrCs at HS
          dsimp only at HS Hfit k0 k1 k2 k3 k4 k5
          have hj16 : j ≤ 16 := by
            rcases Nat.lt_or_ge 16 j with h | h
            · have hl : 16 < T.contracts.length := by have := Hm.out; omega
              have h1 := HQ.out 16 T.contracts[16] (by omega) (List.getElem?_eq_getElem (by have := Hm.out; omega))
              unfold ctrErr at h1
              rw [if_pos (by omega)] at h1
              cases h1
            · exact h
          have hwr : wrap64 ((k : Int) + (j : Int)) = ((k + j : Nat) : Int) := by rw [Int.natCast_add, IntWalk.wrap64_in _ (by omega)]
          have HBAD : Hid (∀ e : Nat, ctrErr T.classes T.contracts j ⟨tn, gu, sn, bu, rk, cl⟩ = e → e ≠ 0 → checkB T = (k + j, e)) := fun e he hne => by
            rw [HCB.out]
            unfold ctrB
            rw [badFrom_skip (k := j) (fun i y hi hy => by rw [Nat.zero_add]; exact HQ.out i y hi hy) HD.out (by rw [Nat.zero_add, he]; exact hne), Nat.zero_add, he, ← Hn.out]
          by_cases h16 : 16 ≤ j
          · have hJ3 : (16 : Int) ≤ (j : Int) := by omega
            have HE : Hid (checkB T = (k + j, 2)) := HBAD.out 2 (by unfold ctrErr; rw [if_pos h16]) (by decide)
            go_wp2_with fail
            go_ret2
            exact ⟨by rw [HE.out] <;> rfl, HS.out.below⟩
          · have hJ3 : ¬ (16 : Int) ≤ (j : Int) := by omega
            have HNA : Hid (∀ (l : Bytes) W, l.length ≤ 140737488355328 → Calls Tryz.prog 32 #[.string ⟨l.toArray⟩] W (BoolR (nameB l) W)) := fun l W h => isName_any l W h
            have HPA : Hid (∀ (l : Bytes) (v : Int) W, Below w.heap.size w W → Calls Tryz.prog 34 #[.string ⟨l.toArray⟩, .int .i64 v] W (BoolR (permB l v) W)) := fun l v W hW => permitted_any l v W (Hg.out.below hW)
            have HDU : Hid (∀ W, CK w #[.slice A k c, .slice (some ⟨b, o, none⟩) m d] wr.heap.size [.string ⟨tn.toArray⟩, .int .i64 gu, .int .i64 sn, .int .i64 bu, .int .i64 rk, .string ⟨cl.toArray⟩] 46 W → Calls Tryz.prog 37 #[.slice (some ⟨b, o, none⟩) j d, .func (.func 35) #[] #[.pointer (some ⟨wr.heap.size, 0, none⟩)]] W (BoolR (decide (tn ∈ (T.contracts.take j).map ContrD.tenant)) W)) := fun W hW => by
              have hs : Sl W W.heap.size (some ⟨b, o, none⟩) ((T.contracts.take j).flatMap ctrCs) := by
                rw [← flat_take ctr_len]
                exact ((Hs2.out.below hW.below).more hW.below.size).take _
              have hk2 : (T.contracts.take j).length = j := by rw [List.length_take, ← Hm.out]; omega
              have := contains_21 tn wr.heap.size (T.contracts.take j) (some ⟨b, o, none⟩) d W (by unfold maxLen; omega) hs (cell_at hW.x5 0 rfl).1
              rw [any_tenant, hk2] at this
              exact this
            have HCL : Hid (∀ W, CK w #[.slice A k c, .slice (some ⟨b, o, none⟩) m d] wr.heap.size [.string ⟨tn.toArray⟩, .int .i64 gu, .int .i64 sn, .int .i64 bu, .int .i64 rk, .string ⟨cl.toArray⟩] 46 W → Calls Tryz.prog 33 #[.slice A k c, .func (.func 36) #[] #[.pointer (some ⟨wr.heap.size, 0, none⟩)]] W (BoolR (decide (cl ∈ T.classes.map ClassD.name)) W)) := fun W hW => by
              have := contains_22 cl wr.heap.size T.classes A c W (by unfold maxLen; have := Hn.out; omega) ((Hs1.out.below hW.below).more hW.below.size) (cell_at hW.x5 5 rfl).1
              rw [any_name, ← Hn.out] at this
              exact this
            obtain ⟨y0, y1, y2, y3, y4, y5, -⟩ := six_cells HS.out.x5
            cases hc1 : nameB tn with
            | false =>
              have HE : Hid (checkB T = (k + j, 4)) := HBAD.out 4 (by unfold ctrErr; rw [if_neg h16, if_pos (.inl hc1)]) (by decide)
              have HV1 := Lib.hid hc1
              clear hc1
              go_wp2_with (first | (go_at_call 32; refine (HNA.out _ _ (by first | exact Hfit.out.1 | exact Hfit.out.2)).mono ?_; rw [HV1.out]; rintro e w1 ⟨rfl, hb1⟩; have S1 := Lib.hid (HS.out.call hb1); obtain ⟨y10, y11, y12, y13, y14, y15, -⟩ := six_cells S1.out.x5; obtain ⟨z10, -⟩ := cell_at S1.out.x1 0 (u := .slice A k c) rfl; obtain ⟨z11, -⟩ := cell_at S1.out.x1 1 (u := .slice (some ⟨b, o, none⟩) m d) rfl; clear hb1))
              go_ret2
              exact ⟨by rw [HE.out] <;> rfl, S1.out.below⟩
            | true =>
              have HV1 := Lib.hid hc1
              clear hc1
              cases hc2 : nameB cl with
              | false =>
                have HE : Hid (checkB T = (k + j, 4)) := HBAD.out 4 (by unfold ctrErr; rw [if_neg h16, if_pos (.inr (.inl hc2))]) (by decide)
                have HV2 := Lib.hid hc2
                clear hc2
                go_wp2_with (first | (go_at_call 32; refine (HNA.out _ _ (by first | exact Hfit.out.1 | exact Hfit.out.2)).mono ?_; rw [HV1.out]; rintro e w1 ⟨rfl, hb1⟩; have S1 := Lib.hid (HS.out.call hb1); obtain ⟨y10, y11, y12, y13, y14, y15, -⟩ := six_cells S1.out.x5; obtain ⟨z10, -⟩ := cell_at S1.out.x1 0 (u := .slice A k c) rfl; obtain ⟨z11, -⟩ := cell_at S1.out.x1 1 (u := .slice (some ⟨b, o, none⟩) m d) rfl; clear hb1) | (go_at_call 32; refine (HNA.out _ _ (by first | exact Hfit.out.1 | exact Hfit.out.2)).mono ?_; rw [HV2.out]; rintro e w2 ⟨rfl, hb2⟩; have S2 := Lib.hid (S1.out.call hb2); obtain ⟨y20, y21, y22, y23, y24, y25, -⟩ := six_cells S2.out.x5; obtain ⟨z20, -⟩ := cell_at S2.out.x1 0 (u := .slice A k c) rfl; obtain ⟨z21, -⟩ := cell_at S2.out.x1 1 (u := .slice (some ⟨b, o, none⟩) m d) rfl; clear hb2))
                go_ret2
                exact ⟨by rw [HE.out] <;> rfl, S2.out.below⟩
              | true =>
                have HV2 := Lib.hid hc2
                clear hc2
                cases hc3 : decide (tn ∈ (T.contracts.take j).map ContrD.tenant) with
                | true =>
                  have HE : Hid (checkB T = (k + j, 4)) := HBAD.out 4 (by unfold ctrErr; rw [if_neg h16, if_pos (.inr (.inr (.inl (of_decide_eq_true hc3))))]) (by decide)
                  have HV3 := Lib.hid hc3
                  clear hc3
                  go_wp2_with (first | (go_at_call 32; refine (HNA.out _ _ (by first | exact Hfit.out.1 | exact Hfit.out.2)).mono ?_; rw [HV1.out]; rintro e w1 ⟨rfl, hb1⟩; have S1 := Lib.hid (HS.out.call hb1); obtain ⟨y10, y11, y12, y13, y14, y15, -⟩ := six_cells S1.out.x5; obtain ⟨z10, -⟩ := cell_at S1.out.x1 0 (u := .slice A k c) rfl; obtain ⟨z11, -⟩ := cell_at S1.out.x1 1 (u := .slice (some ⟨b, o, none⟩) m d) rfl; clear hb1) | (go_at_call 32; refine (HNA.out _ _ (by first | exact Hfit.out.1 | exact Hfit.out.2)).mono ?_; rw [HV2.out]; rintro e w2 ⟨rfl, hb2⟩; have S2 := Lib.hid (S1.out.call hb2); obtain ⟨y20, y21, y22, y23, y24, y25, -⟩ := six_cells S2.out.x5; obtain ⟨z20, -⟩ := cell_at S2.out.x1 0 (u := .slice A k c) rfl; obtain ⟨z21, -⟩ := cell_at S2.out.x1 1 (u := .slice (some ⟨b, o, none⟩) m d) rfl; clear hb2) | (go_at_call 37; refine (HDU.out _ S2.out).mono ?_; rw [HV3.out]; rintro e w3 ⟨rfl, hb3⟩; have S3 := Lib.hid (S2.out.call hb3); obtain ⟨y30, y31, y32, y33, y34, y35, -⟩ := six_cells S3.out.x5; obtain ⟨z30, -⟩ := cell_at S3.out.x1 0 (u := .slice A k c) rfl; obtain ⟨z31, -⟩ := cell_at S3.out.x1 1 (u := .slice (some ⟨b, o, none⟩) m d) rfl; clear hb3))
                  go_ret2
                  exact ⟨by rw [HE.out] <;> rfl, S3.out.below⟩
                | false =>
                  have HV3 := Lib.hid hc3
                  clear hc3
                  cases hc4 : decide (cl ∈ T.classes.map ClassD.name) with
                  | false =>
                    have HE : Hid (checkB T = (k + j, 4)) := HBAD.out 4 (by unfold ctrErr; rw [if_neg h16, if_pos (.inr (.inr (.inr (of_decide_eq_false hc4))))]) (by decide)
                    have HV4 := Lib.hid hc4
                    clear hc4
                    go_wp2_with (first | (go_at_call 32; refine (HNA.out _ _ (by first | exact Hfit.out.1 | exact Hfit.out.2)).mono ?_; rw [HV1.out]; rintro e w1 ⟨rfl, hb1⟩; have S1 := Lib.hid (HS.out.call hb1); obtain ⟨y10, y11, y12, y13, y14, y15, -⟩ := six_cells S1.out.x5; obtain ⟨z10, -⟩ := cell_at S1.out.x1 0 (u := .slice A k c) rfl; obtain ⟨z11, -⟩ := cell_at S1.out.x1 1 (u := .slice (some ⟨b, o, none⟩) m d) rfl; clear hb1) | (go_at_call 32; refine (HNA.out _ _ (by first | exact Hfit.out.1 | exact Hfit.out.2)).mono ?_; rw [HV2.out]; rintro e w2 ⟨rfl, hb2⟩; have S2 := Lib.hid (S1.out.call hb2); obtain ⟨y20, y21, y22, y23, y24, y25, -⟩ := six_cells S2.out.x5; obtain ⟨z20, -⟩ := cell_at S2.out.x1 0 (u := .slice A k c) rfl; obtain ⟨z21, -⟩ := cell_at S2.out.x1 1 (u := .slice (some ⟨b, o, none⟩) m d) rfl; clear hb2) | (go_at_call 37; refine (HDU.out _ S2.out).mono ?_; rw [HV3.out]; rintro e w3 ⟨rfl, hb3⟩; have S3 := Lib.hid (S2.out.call hb3); obtain ⟨y30, y31, y32, y33, y34, y35, -⟩ := six_cells S3.out.x5; obtain ⟨z30, -⟩ := cell_at S3.out.x1 0 (u := .slice A k c) rfl; obtain ⟨z31, -⟩ := cell_at S3.out.x1 1 (u := .slice (some ⟨b, o, none⟩) m d) rfl; clear hb3) | (go_at_call 33; refine (HCL.out _ S3.out).mono ?_; rw [HV4.out]; rintro e w4 ⟨rfl, hb4⟩; have S4 := Lib.hid (S3.out.call hb4); obtain ⟨y40, y41, y42, y43, y44, y45, -⟩ := six_cells S4.out.x5; clear hb4))
                    go_ret2
                    exact ⟨by rw [HE.out] <;> rfl, S4.out.below⟩
                  | true =>
                    have HV4 := Lib.hid hc4
                    clear hc4
                    cases hc5 : permB [103, 117, 97, 114, 97, 110, 116, 101, 101] gu with
                    | false =>
                      have HE : Hid (checkB T = (k + j, 1)) := HBAD.out 1 (by unfold ctrErr; rw [if_neg h16, if_neg (by rintro (h | h | h | h); rw [HV1.out] at h; cases h; rw [HV2.out] at h; cases h; exact of_decide_eq_false HV3.out h; exact h (of_decide_eq_true HV4.out)), if_pos (.inl hc5)]) (by decide)
                      have HV5 := Lib.hid hc5
                      clear hc5
                      go_wp2_with (first | (go_at_call 32; refine (HNA.out _ _ (by first | exact Hfit.out.1 | exact Hfit.out.2)).mono ?_; rw [HV1.out]; rintro e w1 ⟨rfl, hb1⟩; have S1 := Lib.hid (HS.out.call hb1); obtain ⟨y10, y11, y12, y13, y14, y15, -⟩ := six_cells S1.out.x5; obtain ⟨z10, -⟩ := cell_at S1.out.x1 0 (u := .slice A k c) rfl; obtain ⟨z11, -⟩ := cell_at S1.out.x1 1 (u := .slice (some ⟨b, o, none⟩) m d) rfl; clear hb1) | (go_at_call 32; refine (HNA.out _ _ (by first | exact Hfit.out.1 | exact Hfit.out.2)).mono ?_; rw [HV2.out]; rintro e w2 ⟨rfl, hb2⟩; have S2 := Lib.hid (S1.out.call hb2); obtain ⟨y20, y21, y22, y23, y24, y25, -⟩ := six_cells S2.out.x5; obtain ⟨z20, -⟩ := cell_at S2.out.x1 0 (u := .slice A k c) rfl; obtain ⟨z21, -⟩ := cell_at S2.out.x1 1 (u := .slice (some ⟨b, o, none⟩) m d) rfl; clear hb2) | (go_at_call 37; refine (HDU.out _ S2.out).mono ?_; rw [HV3.out]; rintro e w3 ⟨rfl, hb3⟩; have S3 := Lib.hid (S2.out.call hb3); obtain ⟨y30, y31, y32, y33, y34, y35, -⟩ := six_cells S3.out.x5; obtain ⟨z30, -⟩ := cell_at S3.out.x1 0 (u := .slice A k c) rfl; obtain ⟨z31, -⟩ := cell_at S3.out.x1 1 (u := .slice (some ⟨b, o, none⟩) m d) rfl; clear hb3) | (go_at_call 33; refine (HCL.out _ S3.out).mono ?_; rw [HV4.out]; rintro e w4 ⟨rfl, hb4⟩; have S4 := Lib.hid (S3.out.call hb4); obtain ⟨y40, y41, y42, y43, y44, y45, -⟩ := six_cells S4.out.x5; clear hb4) | (go_at_call 34; refine (HPA.out _ _ _ S4.out.below).mono ?_; rw [HV5.out]; rintro e w5 ⟨rfl, hb5⟩; have S5 := Lib.hid (S4.out.call hb5); obtain ⟨y50, y51, y52, y53, y54, y55, -⟩ := six_cells S5.out.x5; clear hb5))
                      go_ret2
                      exact ⟨by rw [HE.out] <;> rfl, S5.out.below⟩
                    | true =>
                      have HV5 := Lib.hid hc5
                      clear hc5
                      cases hc6 : permB [115, 110, 97, 112, 115, 104, 111, 116, 115] sn with
                      | false =>
                        have HE : Hid (checkB T = (k + j, 1)) := HBAD.out 1 (by unfold ctrErr; rw [if_neg h16, if_neg (by rintro (h | h | h | h); rw [HV1.out] at h; cases h; rw [HV2.out] at h; cases h; exact of_decide_eq_false HV3.out h; exact h (of_decide_eq_true HV4.out)), if_pos (.inr (.inl hc6))]) (by decide)
                        have HV6 := Lib.hid hc6
                        clear hc6
                        go_wp2_with (first | (go_at_call 32; refine (HNA.out _ _ (by first | exact Hfit.out.1 | exact Hfit.out.2)).mono ?_; rw [HV1.out]; rintro e w1 ⟨rfl, hb1⟩; have S1 := Lib.hid (HS.out.call hb1); obtain ⟨y10, y11, y12, y13, y14, y15, -⟩ := six_cells S1.out.x5; obtain ⟨z10, -⟩ := cell_at S1.out.x1 0 (u := .slice A k c) rfl; obtain ⟨z11, -⟩ := cell_at S1.out.x1 1 (u := .slice (some ⟨b, o, none⟩) m d) rfl; clear hb1) | (go_at_call 32; refine (HNA.out _ _ (by first | exact Hfit.out.1 | exact Hfit.out.2)).mono ?_; rw [HV2.out]; rintro e w2 ⟨rfl, hb2⟩; have S2 := Lib.hid (S1.out.call hb2); obtain ⟨y20, y21, y22, y23, y24, y25, -⟩ := six_cells S2.out.x5; obtain ⟨z20, -⟩ := cell_at S2.out.x1 0 (u := .slice A k c) rfl; obtain ⟨z21, -⟩ := cell_at S2.out.x1 1 (u := .slice (some ⟨b, o, none⟩) m d) rfl; clear hb2) | (go_at_call 37; refine (HDU.out _ S2.out).mono ?_; rw [HV3.out]; rintro e w3 ⟨rfl, hb3⟩; have S3 := Lib.hid (S2.out.call hb3); obtain ⟨y30, y31, y32, y33, y34, y35, -⟩ := six_cells S3.out.x5; obtain ⟨z30, -⟩ := cell_at S3.out.x1 0 (u := .slice A k c) rfl; obtain ⟨z31, -⟩ := cell_at S3.out.x1 1 (u := .slice (some ⟨b, o, none⟩) m d) rfl; clear hb3) | (go_at_call 33; refine (HCL.out _ S3.out).mono ?_; rw [HV4.out]; rintro e w4 ⟨rfl, hb4⟩; have S4 := Lib.hid (S3.out.call hb4); obtain ⟨y40, y41, y42, y43, y44, y45, -⟩ := six_cells S4.out.x5; clear hb4) | (go_at_call 34; refine (HPA.out _ _ _ S4.out.below).mono ?_; rw [HV5.out]; rintro e w5 ⟨rfl, hb5⟩; have S5 := Lib.hid (S4.out.call hb5); obtain ⟨y50, y51, y52, y53, y54, y55, -⟩ := six_cells S5.out.x5; clear hb5) | (go_at_call 34; refine (HPA.out _ _ _ S5.out.below).mono ?_; rw [HV6.out]; rintro e w6 ⟨rfl, hb6⟩; have S6 := Lib.hid (S5.out.call hb6); obtain ⟨y60, y61, y62, y63, y64, y65, -⟩ := six_cells S6.out.x5; clear hb6))
                        go_ret2
                        exact ⟨by rw [HE.out] <;> rfl, S6.out.below⟩
                      | true =>
                        have HV6 := Lib.hid hc6
                        clear hc6
                        cases hc7 : permB [98, 117, 114, 115, 116] bu with
                        | false =>
                          have HE : Hid (checkB T = (k + j, 1)) := HBAD.out 1 (by unfold ctrErr; rw [if_neg h16, if_neg (by rintro (h | h | h | h); rw [HV1.out] at h; cases h; rw [HV2.out] at h; cases h; exact of_decide_eq_false HV3.out h; exact h (of_decide_eq_true HV4.out)), if_pos (.inr (.inr (.inl hc7)))]) (by decide)
                          have HV7 := Lib.hid hc7
                          clear hc7
                          go_wp2_with (first | (go_at_call 32; refine (HNA.out _ _ (by first | exact Hfit.out.1 | exact Hfit.out.2)).mono ?_; rw [HV1.out]; rintro e w1 ⟨rfl, hb1⟩; have S1 := Lib.hid (HS.out.call hb1); obtain ⟨y10, y11, y12, y13, y14, y15, -⟩ := six_cells S1.out.x5; obtain ⟨z10, -⟩ := cell_at S1.out.x1 0 (u := .slice A k c) rfl; obtain ⟨z11, -⟩ := cell_at S1.out.x1 1 (u := .slice (some ⟨b, o, none⟩) m d) rfl; clear hb1) | (go_at_call 32; refine (HNA.out _ _ (by first | exact Hfit.out.1 | exact Hfit.out.2)).mono ?_; rw [HV2.out]; rintro e w2 ⟨rfl, hb2⟩; have S2 := Lib.hid (S1.out.call hb2); obtain ⟨y20, y21, y22, y23, y24, y25, -⟩ := six_cells S2.out.x5; obtain ⟨z20, -⟩ := cell_at S2.out.x1 0 (u := .slice A k c) rfl; obtain ⟨z21, -⟩ := cell_at S2.out.x1 1 (u := .slice (some ⟨b, o, none⟩) m d) rfl; clear hb2) | (go_at_call 37; refine (HDU.out _ S2.out).mono ?_; rw [HV3.out]; rintro e w3 ⟨rfl, hb3⟩; have S3 := Lib.hid (S2.out.call hb3); obtain ⟨y30, y31, y32, y33, y34, y35, -⟩ := six_cells S3.out.x5; obtain ⟨z30, -⟩ := cell_at S3.out.x1 0 (u := .slice A k c) rfl; obtain ⟨z31, -⟩ := cell_at S3.out.x1 1 (u := .slice (some ⟨b, o, none⟩) m d) rfl; clear hb3) | (go_at_call 33; refine (HCL.out _ S3.out).mono ?_; rw [HV4.out]; rintro e w4 ⟨rfl, hb4⟩; have S4 := Lib.hid (S3.out.call hb4); obtain ⟨y40, y41, y42, y43, y44, y45, -⟩ := six_cells S4.out.x5; clear hb4) | (go_at_call 34; refine (HPA.out _ _ _ S4.out.below).mono ?_; rw [HV5.out]; rintro e w5 ⟨rfl, hb5⟩; have S5 := Lib.hid (S4.out.call hb5); obtain ⟨y50, y51, y52, y53, y54, y55, -⟩ := six_cells S5.out.x5; clear hb5) | (go_at_call 34; refine (HPA.out _ _ _ S5.out.below).mono ?_; rw [HV6.out]; rintro e w6 ⟨rfl, hb6⟩; have S6 := Lib.hid (S5.out.call hb6); obtain ⟨y60, y61, y62, y63, y64, y65, -⟩ := six_cells S6.out.x5; clear hb6) | (go_at_call 34; refine (HPA.out _ _ _ S6.out.below).mono ?_; rw [HV7.out]; rintro e w7 ⟨rfl, hb7⟩; have S7 := Lib.hid (S6.out.call hb7); obtain ⟨y70, y71, y72, y73, y74, y75, -⟩ := six_cells S7.out.x5; clear hb7))
                          go_ret2
                          exact ⟨by rw [HE.out] <;> rfl, S7.out.below⟩
                        | true =>
                          have HV7 := Lib.hid hc7
                          clear hc7
                          cases hc8 : permB [114, 97, 110, 107] rk with
                          | false =>
                            have HE : Hid (checkB T = (k + j, 1)) := HBAD.out 1 (by unfold ctrErr; rw [if_neg h16, if_neg (by rintro (h | h | h | h); rw [HV1.out] at h; cases h; rw [HV2.out] at h; cases h; exact of_decide_eq_false HV3.out h; exact h (of_decide_eq_true HV4.out)), if_pos (.inr (.inr (.inr (.inl hc8))))]) (by decide)
                            have HV8 := Lib.hid hc8
                            clear hc8
                            go_wp2_with (first | (go_at_call 32; refine (HNA.out _ _ (by first | exact Hfit.out.1 | exact Hfit.out.2)).mono ?_; rw [HV1.out]; rintro e w1 ⟨rfl, hb1⟩; have S1 := Lib.hid (HS.out.call hb1); obtain ⟨y10, y11, y12, y13, y14, y15, -⟩ := six_cells S1.out.x5; obtain ⟨z10, -⟩ := cell_at S1.out.x1 0 (u := .slice A k c) rfl; obtain ⟨z11, -⟩ := cell_at S1.out.x1 1 (u := .slice (some ⟨b, o, none⟩) m d) rfl; clear hb1) | (go_at_call 32; refine (HNA.out _ _ (by first | exact Hfit.out.1 | exact Hfit.out.2)).mono ?_; rw [HV2.out]; rintro e w2 ⟨rfl, hb2⟩; have S2 := Lib.hid (S1.out.call hb2); obtain ⟨y20, y21, y22, y23, y24, y25, -⟩ := six_cells S2.out.x5; obtain ⟨z20, -⟩ := cell_at S2.out.x1 0 (u := .slice A k c) rfl; obtain ⟨z21, -⟩ := cell_at S2.out.x1 1 (u := .slice (some ⟨b, o, none⟩) m d) rfl; clear hb2) | (go_at_call 37; refine (HDU.out _ S2.out).mono ?_; rw [HV3.out]; rintro e w3 ⟨rfl, hb3⟩; have S3 := Lib.hid (S2.out.call hb3); obtain ⟨y30, y31, y32, y33, y34, y35, -⟩ := six_cells S3.out.x5; obtain ⟨z30, -⟩ := cell_at S3.out.x1 0 (u := .slice A k c) rfl; obtain ⟨z31, -⟩ := cell_at S3.out.x1 1 (u := .slice (some ⟨b, o, none⟩) m d) rfl; clear hb3) | (go_at_call 33; refine (HCL.out _ S3.out).mono ?_; rw [HV4.out]; rintro e w4 ⟨rfl, hb4⟩; have S4 := Lib.hid (S3.out.call hb4); obtain ⟨y40, y41, y42, y43, y44, y45, -⟩ := six_cells S4.out.x5; clear hb4) | (go_at_call 34; refine (HPA.out _ _ _ S4.out.below).mono ?_; rw [HV5.out]; rintro e w5 ⟨rfl, hb5⟩; have S5 := Lib.hid (S4.out.call hb5); obtain ⟨y50, y51, y52, y53, y54, y55, -⟩ := six_cells S5.out.x5; clear hb5) | (go_at_call 34; refine (HPA.out _ _ _ S5.out.below).mono ?_; rw [HV6.out]; rintro e w6 ⟨rfl, hb6⟩; have S6 := Lib.hid (S5.out.call hb6); obtain ⟨y60, y61, y62, y63, y64, y65, -⟩ := six_cells S6.out.x5; clear hb6) | (go_at_call 34; refine (HPA.out _ _ _ S6.out.below).mono ?_; rw [HV7.out]; rintro e w7 ⟨rfl, hb7⟩; have S7 := Lib.hid (S6.out.call hb7); obtain ⟨y70, y71, y72, y73, y74, y75, -⟩ := six_cells S7.out.x5; clear hb7) | (go_at_call 34; refine (HPA.out _ _ _ S7.out.below).mono ?_; rw [HV8.out]; rintro e w8 ⟨rfl, hb8⟩; have S8 := Lib.hid (S7.out.call hb8); obtain ⟨y80, y81, y82, y83, y84, y85, -⟩ := six_cells S8.out.x5; clear hb8))
                            go_ret2
                            exact ⟨by rw [HE.out] <;> rfl, S8.out.below⟩
                          | true =>
                            have HV8 := Lib.hid hc8
                            clear hc8
                            by_cases hb0 : bu = 0
                            · by_cases hr0 : rk = 0
                              · have HQ2 : Hid (∀ (i : Nat) (D : ContrD), i < j + 1 → T.contracts[i]? = some D → ctrErr T.classes T.contracts i D = 0) := fun i D hi hD => by
                                  rcases Nat.lt_or_ge i j with h | h
                                  · exact HQ.out i D h hD
                                  · obtain rfl : i = j := by omega
                                    rw [HD.out] at hD
                                    injection hD with hD
                                    subst hD
                                    unfold ctrErr
                                    rw [if_neg h16, if_neg (by rintro (h | h | h | h); rw [HV1.out] at h; cases h; rw [HV2.out] at h; cases h; exact of_decide_eq_false HV3.out h; exact h (of_decide_eq_true HV4.out)), if_neg (by rintro (h | h | h | h | h); exact absurd (HV5.out.symm.trans h) (by decide); exact absurd (HV6.out.symm.trans h) (by decide); exact absurd (HV7.out.symm.trans h) (by decide); exact absurd (HV8.out.symm.trans h) (by decide); exact h.2 hr0)]
                                subst hb0 hr0
                                go_wp2_with (first | (go_at_call 32; refine (HNA.out _ _ (by first | exact Hfit.out.1 | exact Hfit.out.2)).mono ?_; rw [HV1.out]; rintro e w1 ⟨rfl, hb1⟩; have S1 := Lib.hid (HS.out.call hb1); obtain ⟨y10, y11, y12, y13, y14, y15, -⟩ := six_cells S1.out.x5; obtain ⟨z10, -⟩ := cell_at S1.out.x1 0 (u := .slice A k c) rfl; obtain ⟨z11, -⟩ := cell_at S1.out.x1 1 (u := .slice (some ⟨b, o, none⟩) m d) rfl; clear hb1) | (go_at_call 32; refine (HNA.out _ _ (by first | exact Hfit.out.1 | exact Hfit.out.2)).mono ?_; rw [HV2.out]; rintro e w2 ⟨rfl, hb2⟩; have S2 := Lib.hid (S1.out.call hb2); obtain ⟨y20, y21, y22, y23, y24, y25, -⟩ := six_cells S2.out.x5; obtain ⟨z20, -⟩ := cell_at S2.out.x1 0 (u := .slice A k c) rfl; obtain ⟨z21, -⟩ := cell_at S2.out.x1 1 (u := .slice (some ⟨b, o, none⟩) m d) rfl; clear hb2) | (go_at_call 37; refine (HDU.out _ S2.out).mono ?_; rw [HV3.out]; rintro e w3 ⟨rfl, hb3⟩; have S3 := Lib.hid (S2.out.call hb3); obtain ⟨y30, y31, y32, y33, y34, y35, -⟩ := six_cells S3.out.x5; obtain ⟨z30, -⟩ := cell_at S3.out.x1 0 (u := .slice A k c) rfl; obtain ⟨z31, -⟩ := cell_at S3.out.x1 1 (u := .slice (some ⟨b, o, none⟩) m d) rfl; clear hb3) | (go_at_call 33; refine (HCL.out _ S3.out).mono ?_; rw [HV4.out]; rintro e w4 ⟨rfl, hb4⟩; have S4 := Lib.hid (S3.out.call hb4); obtain ⟨y40, y41, y42, y43, y44, y45, -⟩ := six_cells S4.out.x5; clear hb4) | (go_at_call 34; refine (HPA.out _ _ _ S4.out.below).mono ?_; rw [HV5.out]; rintro e w5 ⟨rfl, hb5⟩; have S5 := Lib.hid (S4.out.call hb5); obtain ⟨y50, y51, y52, y53, y54, y55, -⟩ := six_cells S5.out.x5; clear hb5) | (go_at_call 34; refine (HPA.out _ _ _ S5.out.below).mono ?_; rw [HV6.out]; rintro e w6 ⟨rfl, hb6⟩; have S6 := Lib.hid (S5.out.call hb6); obtain ⟨y60, y61, y62, y63, y64, y65, -⟩ := six_cells S6.out.x5; clear hb6) | (go_at_call 34; refine (HPA.out _ _ _ S6.out.below).mono ?_; rw [HV7.out]; rintro e w7 ⟨rfl, hb7⟩; have S7 := Lib.hid (S6.out.call hb7); obtain ⟨y70, y71, y72, y73, y74, y75, -⟩ := six_cells S7.out.x5; clear hb7) | (go_at_call 34; refine (HPA.out _ _ _ S7.out.below).mono ?_; rw [HV8.out]; rintro e w8 ⟨rfl, hb8⟩; have S8 := Lib.hid (S7.out.call hb8); obtain ⟨y80, y81, y82, y83, y84, y85, -⟩ := six_cells S8.out.x5; clear hb8))
                                go_roundg (m - (j + 1))
                                case measure => rw [Hg2.out]; omega
                                case rel => exact ⟨j + 1, by go_num, rfl, by omega, S8.out.below, S8.out.x1, HQ2.out⟩
                              · have HE : Hid (checkB T = (k + j, 1)) := HBAD.out 1 (by unfold ctrErr; rw [if_neg h16, if_neg (by rintro (h | h | h | h); rw [HV1.out] at h; cases h; rw [HV2.out] at h; cases h; exact of_decide_eq_false HV3.out h; exact h (of_decide_eq_true HV4.out)), if_pos (.inr (.inr (.inr (.inr ⟨hb0, hr0⟩))))]) (by decide)
                                have hrk : (rk != 0) = true := by rw [bne_iff_ne]; exact hr0
                                subst hb0
                                go_wp2_with (first | (go_at_call 32; refine (HNA.out _ _ (by first | exact Hfit.out.1 | exact Hfit.out.2)).mono ?_; rw [HV1.out]; rintro e w1 ⟨rfl, hb1⟩; have S1 := Lib.hid (HS.out.call hb1); obtain ⟨y10, y11, y12, y13, y14, y15, -⟩ := six_cells S1.out.x5; obtain ⟨z10, -⟩ := cell_at S1.out.x1 0 (u := .slice A k c) rfl; obtain ⟨z11, -⟩ := cell_at S1.out.x1 1 (u := .slice (some ⟨b, o, none⟩) m d) rfl; clear hb1) | (go_at_call 32; refine (HNA.out _ _ (by first | exact Hfit.out.1 | exact Hfit.out.2)).mono ?_; rw [HV2.out]; rintro e w2 ⟨rfl, hb2⟩; have S2 := Lib.hid (S1.out.call hb2); obtain ⟨y20, y21, y22, y23, y24, y25, -⟩ := six_cells S2.out.x5; obtain ⟨z20, -⟩ := cell_at S2.out.x1 0 (u := .slice A k c) rfl; obtain ⟨z21, -⟩ := cell_at S2.out.x1 1 (u := .slice (some ⟨b, o, none⟩) m d) rfl; clear hb2) | (go_at_call 37; refine (HDU.out _ S2.out).mono ?_; rw [HV3.out]; rintro e w3 ⟨rfl, hb3⟩; have S3 := Lib.hid (S2.out.call hb3); obtain ⟨y30, y31, y32, y33, y34, y35, -⟩ := six_cells S3.out.x5; obtain ⟨z30, -⟩ := cell_at S3.out.x1 0 (u := .slice A k c) rfl; obtain ⟨z31, -⟩ := cell_at S3.out.x1 1 (u := .slice (some ⟨b, o, none⟩) m d) rfl; clear hb3) | (go_at_call 33; refine (HCL.out _ S3.out).mono ?_; rw [HV4.out]; rintro e w4 ⟨rfl, hb4⟩; have S4 := Lib.hid (S3.out.call hb4); obtain ⟨y40, y41, y42, y43, y44, y45, -⟩ := six_cells S4.out.x5; clear hb4) | (go_at_call 34; refine (HPA.out _ _ _ S4.out.below).mono ?_; rw [HV5.out]; rintro e w5 ⟨rfl, hb5⟩; have S5 := Lib.hid (S4.out.call hb5); obtain ⟨y50, y51, y52, y53, y54, y55, -⟩ := six_cells S5.out.x5; clear hb5) | (go_at_call 34; refine (HPA.out _ _ _ S5.out.below).mono ?_; rw [HV6.out]; rintro e w6 ⟨rfl, hb6⟩; have S6 := Lib.hid (S5.out.call hb6); obtain ⟨y60, y61, y62, y63, y64, y65, -⟩ := six_cells S6.out.x5; clear hb6) | (go_at_call 34; refine (HPA.out _ _ _ S6.out.below).mono ?_; rw [HV7.out]; rintro e w7 ⟨rfl, hb7⟩; have S7 := Lib.hid (S6.out.call hb7); obtain ⟨y70, y71, y72, y73, y74, y75, -⟩ := six_cells S7.out.x5; clear hb7) | (go_at_call 34; refine (HPA.out _ _ _ S7.out.below).mono ?_; rw [HV8.out]; rintro e w8 ⟨rfl, hb8⟩; have S8 := Lib.hid (S7.out.call hb8); obtain ⟨y80, y81, y82, y83, y84, y85, -⟩ := six_cells S8.out.x5; clear hb8))
                                go_ret2
                                exact ⟨by rw [HE.out] <;> rfl, S8.out.below⟩
                            · have hbu : (bu == 0) = false := by rw [beq_eq_false_iff_ne]; exact hb0
                              have HQ2 : Hid (∀ (i : Nat) (D : ContrD), i < j + 1 → T.contracts[i]? = some D → ctrErr T.classes T.contracts i D = 0) := fun i D hi hD => by
                                rcases Nat.lt_or_ge i j with h | h
                                · exact HQ.out i D h hD
                                · obtain rfl : i = j := by omega
                                  rw [HD.out] at hD
                                  injection hD with hD
                                  subst hD
                                  unfold ctrErr
                                  rw [if_neg h16, if_neg (by rintro (h | h | h | h); rw [HV1.out] at h; cases h; rw [HV2.out] at h; cases h; exact of_decide_eq_false HV3.out h; exact h (of_decide_eq_true HV4.out)), if_neg (by rintro (h | h | h | h | h); exact absurd (HV5.out.symm.trans h) (by decide); exact absurd (HV6.out.symm.trans h) (by decide); exact absurd (HV7.out.symm.trans h) (by decide); exact absurd (HV8.out.symm.trans h) (by decide); exact hb0 h.1)]
                              go_wp2_with (first | (go_at_call 32; refine (HNA.out _ _ (by first | exact Hfit.out.1 | exact Hfit.out.2)).mono ?_; rw [HV1.out]; rintro e w1 ⟨rfl, hb1⟩; have S1 := Lib.hid (HS.out.call hb1); obtain ⟨y10, y11, y12, y13, y14, y15, -⟩ := six_cells S1.out.x5; obtain ⟨z10, -⟩ := cell_at S1.out.x1 0 (u := .slice A k c) rfl; obtain ⟨z11, -⟩ := cell_at S1.out.x1 1 (u := .slice (some ⟨b, o, none⟩) m d) rfl; clear hb1) | (go_at_call 32; refine (HNA.out _ _ (by first | exact Hfit.out.1 | exact Hfit.out.2)).mono ?_; rw [HV2.out]; rintro e w2 ⟨rfl, hb2⟩; have S2 := Lib.hid (S1.out.call hb2); obtain ⟨y20, y21, y22, y23, y24, y25, -⟩ := six_cells S2.out.x5; obtain ⟨z20, -⟩ := cell_at S2.out.x1 0 (u := .slice A k c) rfl; obtain ⟨z21, -⟩ := cell_at S2.out.x1 1 (u := .slice (some ⟨b, o, none⟩) m d) rfl; clear hb2) | (go_at_call 37; refine (HDU.out _ S2.out).mono ?_; rw [HV3.out]; rintro e w3 ⟨rfl, hb3⟩; have S3 := Lib.hid (S2.out.call hb3); obtain ⟨y30, y31, y32, y33, y34, y35, -⟩ := six_cells S3.out.x5; obtain ⟨z30, -⟩ := cell_at S3.out.x1 0 (u := .slice A k c) rfl; obtain ⟨z31, -⟩ := cell_at S3.out.x1 1 (u := .slice (some ⟨b, o, none⟩) m d) rfl; clear hb3) | (go_at_call 33; refine (HCL.out _ S3.out).mono ?_; rw [HV4.out]; rintro e w4 ⟨rfl, hb4⟩; have S4 := Lib.hid (S3.out.call hb4); obtain ⟨y40, y41, y42, y43, y44, y45, -⟩ := six_cells S4.out.x5; clear hb4) | (go_at_call 34; refine (HPA.out _ _ _ S4.out.below).mono ?_; rw [HV5.out]; rintro e w5 ⟨rfl, hb5⟩; have S5 := Lib.hid (S4.out.call hb5); obtain ⟨y50, y51, y52, y53, y54, y55, -⟩ := six_cells S5.out.x5; clear hb5) | (go_at_call 34; refine (HPA.out _ _ _ S5.out.below).mono ?_; rw [HV6.out]; rintro e w6 ⟨rfl, hb6⟩; have S6 := Lib.hid (S5.out.call hb6); obtain ⟨y60, y61, y62, y63, y64, y65, -⟩ := six_cells S6.out.x5; clear hb6) | (go_at_call 34; refine (HPA.out _ _ _ S6.out.below).mono ?_; rw [HV7.out]; rintro e w7 ⟨rfl, hb7⟩; have S7 := Lib.hid (S6.out.call hb7); obtain ⟨y70, y71, y72, y73, y74, y75, -⟩ := six_cells S7.out.x5; clear hb7) | (go_at_call 34; refine (HPA.out _ _ _ S7.out.below).mono ?_; rw [HV8.out]; rintro e w8 ⟨rfl, hb8⟩; have S8 := Lib.hid (S7.out.call hb8); obtain ⟨y80, y81, y82, y83, y84, y85, -⟩ := six_cells S8.out.x5; clear hb8))
                              go_roundg (m - (j + 1))
                              case measure => rw [Hg2.out]; omega
                              case rel => exact ⟨j + 1, by go_num, rfl, by omega, S8.out.below, S8.out.x1, HQ2.out⟩
        · have hjm : j = m := by omega
          have hJ4 : ¬ (j : Int) < (m : Int) := by omega
          have HE : Hid (checkB T = (0, 0)) := by
            have h2 : badFrom (ctrErr T.classes T.contracts) 0 T.contracts = none := badFrom_none.2 fun i D hi => by
              rw [Nat.zero_add]
              exact HQ.out i D (by have := (List.getElem?_eq_some_iff.1 hi).1; have := Hm.out; omega) hi
            show _ = _
            rw [HCB.out]
            unfold ctrB
            rw [h2]
          go_wp2_with fail
          go_ret2
          exact ⟨by rw [HE.out] <;> rfl, HB2.out⟩
end Go.Proofs.YtimmffncfkcpfaaGreatDoor
