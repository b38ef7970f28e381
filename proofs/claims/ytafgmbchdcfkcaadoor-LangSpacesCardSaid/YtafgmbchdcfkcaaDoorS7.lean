/-
  The walk of the program's Check.
-/
import Derived.Test.YtafgmbchdcfkcaaDoorS5
import Derived.Deep.DeepCutAuto
namespace Go.Proofs.YtafgmbchdcfkcaaDoor
open Go Go.RowKit Go.Walks

def widthI (C : Code) : Int := wrap64 (C.data + (C.par.length : Int))
def rowOkB (d f : Int) (row : List Int) : Bool := decide ((row.length : Int) = d) && row.all (fun x => decide (0 ≤ x) && decide (x ≤ (topN f.toNat : Int))) && row.any (fun x => decide (1 ≤ x))
def checkB (C : Code) : Nat :=
  if wordB C.name = false then 4 else if 12 < C.name.length then 2 else if ¬ (C.field = 8 ∨ C.field = 16) then 1 else if C.data < 1 ∨ 31 < C.data ∨ C.par = [] then 1
  else if 32 < widthI C then 2 else if C.par.all (rowOkB C.data C.field) = false then 1 else if C.dom < 1 ∨ widthI C < C.dom then 1 else 0
theorem foldl_max_le : ∀ (l : List Int) (a : Int), a ≤ l.foldl max a ∧ (∀ x ∈ l, x ≤ l.foldl max a) ∧ (l.foldl max a = a ∨ l.foldl max a ∈ l)
  | [], a => ⟨Int.le_refl _, (fun x h => by cases h), .inl rfl⟩
  | y :: l, a => by
    obtain ⟨h1, h2, h3⟩ := foldl_max_le l (max a y)
    rw [List.foldl_cons]
    refine ⟨Int.le_trans (Int.le_max_left _ _) h1, fun x hx => ?_, ?_⟩
    · rcases List.mem_cons.1 hx with rfl | hx
      · exact Int.le_trans (Int.le_max_right _ _) h1
      · exact h2 x hx
    · rcases h3 with h3 | h3
      · rcases Int.le_total a y with h | h
        · right; rw [h3, Int.max_eq_right h]; simp
        · left; rw [h3, Int.max_eq_left h]
      · right; simp [h3]
theorem foldl_min_le : ∀ (l : List Int) (a : Int), l.foldl min a ≤ a ∧ (∀ x ∈ l, l.foldl min a ≤ x) ∧ (l.foldl min a = a ∨ l.foldl min a ∈ l)
  | [], a => ⟨Int.le_refl _, (fun x h => by cases h), .inl rfl⟩
  | y :: l, a => by
    obtain ⟨h1, h2, h3⟩ := foldl_min_le l (min a y)
    rw [List.foldl_cons]
    refine ⟨Int.le_trans h1 (Int.min_le_left _ _), fun x hx => ?_, ?_⟩
    · rcases List.mem_cons.1 hx with rfl | hx
      · exact Int.le_trans h1 (Int.min_le_right _ _)
      · exact h2 x hx
    · rcases h3 with h3 | h3
      · rcases Int.le_total a y with h | h
        · left; rw [h3, Int.min_eq_left h]
        · right; rw [h3, Int.min_eq_right h]; simp
      · right; simp [h3]
theorem maxOf_mem {l : List Int} (h : l ≠ []) : Lib.maxOf l ∈ l ∧ ∀ x ∈ l, x ≤ Lib.maxOf l := by
  cases l with
  | nil => exact absurd rfl h
  | cons a r =>
    obtain ⟨h1, h2, h3⟩ := foldl_max_le (a :: r) a
    refine ⟨?_, h2⟩
    rcases h3 with h3 | h3
    · show (a :: r).foldl max a ∈ _; rw [h3]; simp
    · exact h3
theorem minOf_mem {l : List Int} (h : l ≠ []) : Lib.minOf l ∈ l ∧ ∀ x ∈ l, Lib.minOf l ≤ x := by
  cases l with
  | nil => exact absurd rfl h
  | cons a r =>
    obtain ⟨h1, h2, h3⟩ := foldl_min_le (a :: r) a
    refine ⟨?_, h2⟩
    rcases h3 with h3 | h3
    · show (a :: r).foldl min a ∈ _; rw [h3]; simp
    · exact h3
theorem rowOk_mm {d f : Int} {row : List Int} (h : row ≠ []) (hl : (row.length : Int) = d) : rowOkB d f row = (decide (0 ≤ Lib.minOf row) && decide (1 ≤ Lib.maxOf row) && decide (Lib.maxOf row ≤ (topN f.toNat : Int))) := by
  obtain ⟨m1, m2⟩ := maxOf_mem h
  obtain ⟨n1, n2⟩ := minOf_mem h
  rw [Bool.eq_iff_iff]
  unfold rowOkB
  simp only [hl, decide_true, Bool.true_and, Bool.and_eq_true, List.all_eq_true, List.any_eq_true, decide_eq_true_eq]
  constructor
  · rintro ⟨h1, x, hx, h2⟩
    exact ⟨⟨(h1 _ n1).1, Int.le_trans h2 (m2 x hx)⟩, (h1 _ m1).2⟩
  · rintro ⟨⟨h1, h2⟩, h3⟩
    exact ⟨fun x hx => ⟨Int.le_trans h1 (n2 x hx), Int.le_trans (m2 x hx) h3⟩, _, m1, h2⟩
theorem rowOk_len {d f : Int} {row : List Int} (hl : (row.length : Int) ≠ d) : rowOkB d f row = false := by
  unfold rowOkB; rw [decide_eq_false hl]; rfl
theorem all_no {α : Type} {l : List α} {p : α → Bool} {k : Nat} {x : α} (hx : l[k]? = some x) (h : p x = false) : l.all p = false := by
  rw [List.all_eq_false]
  exact ⟨x, List.mem_of_getElem? hx, by simp [h]⟩
theorem all_yes {α : Type} {l : List α} {p : α → Bool} (h : ∀ (k : Nat) (x : α), k < l.length → l[k]? = some x → p x = true) : l.all p = true := by
  rw [List.all_eq_true]
  intro x hx
  obtain ⟨k, hk⟩ := List.mem_iff_getElem?.1 hx
  exact h k x (List.getElem?_eq_some_iff.1 hk).1 hk
/-- slices.Min and slices.Max at a row. -/
theorem min_any {xs : List Int} {A : Option Addr} {c : Nat} {w : World} (h1 : Sl w w.heap.size A (xs.map intC)) (hx : xs.length ≤ maxLen) (hne : xs ≠ []) : Calls Tryd.prog 35 #[.slice A xs.length c] w fun e w' => e = .returned (.int .i64 (Lib.minOf xs)) ∧ w' = w := by
  unfold maxLen at hx
  have h0 := List.length_pos_iff.2 hne
  rcases h1 with he | ⟨b1, o1, rfl, -, k1⟩
  · rw [List.map_eq_nil_iff] at he; exact absurd he hne
  have := Tryd.slices_Min_int b1 o1 xs.length c xs w h0 (Nat.le_refl _) (by omega) (fun j hj => k1 j _ (by rw [List.getElem?_map, List.getElem?_eq_getElem hj]; simp [List.getD, List.getElem?_eq_getElem hj]))
  rw [List.take_length] at this
  exact this
theorem max_any {xs : List Int} {A : Option Addr} {c : Nat} {w : World} (h1 : Sl w w.heap.size A (xs.map intC)) (hx : xs.length ≤ maxLen) (hne : xs ≠ []) : Calls Tryd.prog 36 #[.slice A xs.length c] w fun e w' => e = .returned (.int .i64 (Lib.maxOf xs)) ∧ w' = w := by
  unfold maxLen at hx
  have h0 := List.length_pos_iff.2 hne
  rcases h1 with he | ⟨b1, o1, rfl, -, k1⟩
  · rw [List.map_eq_nil_iff] at he; exact absurd he hne
  have := Tryd.slices_Max_int b1 o1 xs.length c xs w h0 (Nat.le_refl _) (by omega) (fun j hj => k1 j _ (by rw [List.getElem?_map, List.getElem?_eq_getElem hj]; simp [List.getD, List.getElem?_eq_getElem hj]))
  rw [List.take_length] at this
  exact this
/-- In Check: the code's block. -/
structure CW (w : World) (ca : Array Value) (W : World) : Prop where
  below : Below w.heap.size w W
  x : W.heap[w.heap.size]? = some (.cells ca 24)
theorem CW.start (w : World) (ca : Array Value) : CW w ca (w.alloc (.cells ca 24)) := ⟨(Below.refl _ _).alloc (Nat.le_refl _) _, heap_new _ _⟩
theorem CW.drewN {w W : World} {ca : Array Value} (h : CW w ca W) (q : Nat) : CW w ca (W.drewN q) := ⟨below_drewN h.below q, h.x⟩
def NatR (n : Nat) (w : World) (e : Ending) (w' : World) : Prop := e = .returned (.int .i64 (n : Int)) ∧ Below w.heap.size w w'

set_option maxRecDepth 100000 in
set_option maxHeartbeats 8000000 in
theorem check_any (a : Code) (ca : List Value) (w : World) (Ha : Hid (CodeS w a ca)) (La : Hid (CodeL a)) (hn : a.name.length ≤ maxLen) : Calls Tryd.prog 14 #[.agg ca.toArray] w (NatR (checkB a) w) := by
  obtain ⟨A, c, mc, rfl, h1, h2⟩ := Ha.out
  have Hs1 := Lib.hid h1
  have Hs2 := Lib.hid h2
  have S0 := Lib.hid (CW.start w (codeV a A c))
  obtain ⟨nm, f, d, par, dom⟩ := a
  have hla := La.out.par
  unfold intC
  dsimp only at hla Hs1 Hs2 S0 hn ⊢
  have hword := isWord_any ⟨nm.toArray⟩ (w.alloc (.cells (codeV ⟨nm, f, d, par, dom⟩ A c) 24)) (by show nm.toArray.size ≤ maxLen; simpa using hn)
  unfold maxLen at hla hn
  obtain ⟨x0, -⟩ := cell_at S0.out.x 0 rfl
  obtain ⟨x1, -⟩ := cell_at S0.out.x 1 rfl
  obtain ⟨x2, -⟩ := cell_at S0.out.x 2 rfl
  obtain ⟨x3, -⟩ := cell_at S0.out.x 3 rfl
  obtain ⟨x4, -⟩ := cell_at S0.out.x 4 rfl
  clear h1 h2 Ha
  obtain ⟨W, hW⟩ : ∃ W, W = widthI ⟨nm, f, d, par, dom⟩ := ⟨_, rfl⟩
  cases hwd : wordB nm with
  | false =>
    have hw0 : wordB (⟨nm.toArray⟩ : ByteArray).data.toList = false := hwd
    rw [hw0] at hword
    have Hword := Lib.hid hword
    have Hc : Hid (checkB ⟨nm, f, d, par, dom⟩ = 4) := by show _ = _; unfold checkB; rw [if_pos hwd]
    clear hword hw0 hwd
    go_enter Tryd.func14, Tryd.ntmps14
    go_wp2_with (go_at_call 33; refine Hword.out.mono ?_; rintro e w' ⟨rfl, hw'⟩; subst hw')
    go_ret
    exact ⟨by rw [Hc.out] <;> rfl, S0.out.below⟩
  | true =>
    have hw0 : wordB (⟨nm.toArray⟩ : ByteArray).data.toList = true := hwd
    rw [hw0] at hword
    have Hword := Lib.hid hword
    clear hword hw0
    by_cases hl : 12 < nm.length
    · have q1 : (12 : Int) < (nm.length : Int) := by omega
      have Hc : Hid (checkB ⟨nm, f, d, par, dom⟩ = 2) := by show _ = _; unfold checkB; rw [if_neg (by simp [hwd]), if_pos hl]
      clear hwd
      go_enter Tryd.func14, Tryd.ntmps14
      go_wp2_with (go_at_call 33; refine Hword.out.mono ?_; rintro e w' ⟨rfl, hw'⟩; subst hw')
      go_ret
      exact ⟨by rw [Hc.out] <;> rfl, S0.out.below⟩
    · have q1 : ¬ (12 : Int) < (nm.length : Int) := by omega
      have hfld := isFieldI f (w.alloc (.cells (codeV ⟨nm, f, d, par, dom⟩ A c) 24))
      by_cases hf : f = 8 ∨ f = 16
      · rw [decide_eq_true hf] at hfld
        have Hfld := Lib.hid hfld
        have Hf := Lib.hid hf
        have Hc : Hid (checkB ⟨nm, f, d, par, dom⟩ = if d < 1 ∨ 31 < d ∨ par = [] then 1 else if 32 < W then 2 else if par.all (rowOkB d f) = false then 1 else if dom < 1 ∨ W < dom then 1 else 0) := by show _ = _; unfold checkB; rw [if_neg (by simp [hwd]), if_neg hl, if_neg (fun h => h hf), hW]
        clear hfld hf hwd
        have hWv : wrap64 (d + (par.length : Int)) = W := hW.symm
        clear hW
        by_cases hdr : d < 1 ∨ 31 < d ∨ par = []
        · have Hc2 : Hid (checkB ⟨nm, f, d, par, dom⟩ = 1) := by show _ = _; rw [Hc.out, if_pos hdr]
          rcases hdr with h1 | h1 | h1
          · have e1 : decide (d < 1) = true := decide_eq_true h1
            go_enter Tryd.func14, Tryd.ntmps14
            go_wp2_with (first | (go_at_call 33; refine Hword.out.mono ?_; rintro e w' ⟨rfl, hw'⟩; subst hw') | (go_at_call 34; refine Hfld.out.mono ?_; rintro e w' ⟨rfl, hw'⟩; subst hw'))
            go_ret
            exact ⟨by rw [Hc2.out] <;> rfl, S0.out.below⟩
          · have e1 : ¬ d < 1 := by omega
            go_enter Tryd.func14, Tryd.ntmps14
            go_wp2_with (first | (go_at_call 33; refine Hword.out.mono ?_; rintro e w' ⟨rfl, hw'⟩; subst hw') | (go_at_call 34; refine Hfld.out.mono ?_; rintro e w' ⟨rfl, hw'⟩; subst hw'))
            go_ret
            exact ⟨by rw [Hc2.out] <;> rfl, S0.out.below⟩
          · subst h1
            go_enter Tryd.func14, Tryd.ntmps14
            go_wp2_with (first | (go_at_call 33; refine Hword.out.mono ?_; rintro e w' ⟨rfl, hw'⟩; subst hw') | (go_at_call 34; refine Hfld.out.mono ?_; rintro e w' ⟨rfl, hw'⟩; subst hw'))
            all_goals
              go_ret
              exact ⟨by rw [Hc2.out] <;> rfl, S0.out.below⟩
        · have e1 : ¬ d < 1 := fun h => hdr (.inl h)
          have e2 : ¬ 31 < d := fun h => hdr (.inr (.inl h))
          have e3 : ((par.length : Int) == 0) = false := by
            rw [beq_eq_false_iff_ne]
            intro h
            exact hdr (.inr (.inr (List.eq_nil_of_length_eq_zero (by omega))))
          have Hc2 : Hid (checkB ⟨nm, f, d, par, dom⟩ = if 32 < W then 2 else if par.all (rowOkB d f) = false then 1 else if dom < 1 ∨ W < dom then 1 else 0) := by show _ = _; rw [Hc.out, if_neg hdr]
          clear hdr Hc
          by_cases hw32 : 32 < W
          · have Hc3 : Hid (checkB ⟨nm, f, d, par, dom⟩ = 2) := by show _ = _; rw [Hc2.out, if_pos hw32]
            go_enter Tryd.func14, Tryd.ntmps14
            go_wp2_with (first | (go_at_call 33; refine Hword.out.mono ?_; rintro e w' ⟨rfl, hw'⟩; subst hw') | (go_at_call 34; refine Hfld.out.mono ?_; rintro e w' ⟨rfl, hw'⟩; subst hw'))
            go_ret
            exact ⟨by rw [Hc3.out] <;> rfl, S0.out.below⟩
          · have Hc3 : Hid (checkB ⟨nm, f, d, par, dom⟩ = if par.all (rowOkB d f) = false then 1 else if dom < 1 ∨ W < dom then 1 else 0) := by show _ = _; rw [Hc2.out, if_neg hw32]
            clear Hc2
            go_enter Tryd.func14, Tryd.ntmps14
            go_wp2_with (first | (go_at_call 33; refine Hword.out.mono ?_; rintro e w' ⟨rfl, hw'⟩; subst hw') | (go_at_call 34; refine Hfld.out.mono ?_; rintro e w' ⟨rfl, hw'⟩; subst hw'))
            clear hWv e3 x0 x1 x2 x3 x4 hw32
            go_loopg [49] par.length (fun g s49 wr => ∃ k : Nat, s49 = .int .i64 (k : Int) ∧ g = par.length - k ∧ k ≤ par.length ∧ Hid (CW w (codeV ⟨nm, f, d, par, dom⟩ A c) wr) ∧ Hid (∀ (j : Nat) (r : List Int), j < k → par[j]? = some r → rowOkB d f r = true))
            case atStart => exact ⟨0, rfl, rfl, by omega, S0.out, fun j r h => absurd h (by omega)⟩
            case round =>
              obtain ⟨k, rfl, hg, hk, HS, HQ⟩ := hrel
              have Hg := Lib.hid hg
              clear hg S0
              obtain ⟨x1, -⟩ := cell_at HS.out.x 1 rfl
              obtain ⟨x2, -⟩ := cell_at HS.out.x 2 rfl
              obtain ⟨x4, -⟩ := cell_at HS.out.x 4 rfl
              by_cases hlt : k < par.length
              · obtain ⟨row, hrow⟩ : ∃ r, par[k]? = some r := ⟨_, List.getElem?_eq_getElem hlt⟩
                obtain ⟨b1, o1, A1, q1, hA, m1, t1⟩ := rowS Hs1.out Hs2.out HS.out.below hrow
                subst hA
                have Hrow := Lib.hid hrow
                have hrl := La.out.row row (List.mem_of_getElem? hrow)
                have hI1 : (0 : Int) ≤ (k : Int) := by omega
                have hI2 : (k : Int) < (par.length : Int) := by omega
                clear hrow
                by_cases hlen : (row.length : Int) = d
                · have g1 : ((row.length : Int) != d) = false := by rw [bne_eq_false_iff_eq]; exact hlen
                  have hne : row ≠ [] := by intro h; rw [h] at hlen; simp at hlen; omega
                  have Hmin : Hid (∀ q, Calls Tryd.prog 35 #[.slice A1 row.length q1] (wr.drewN q) fun e w' => e = .returned (.int .i64 (Lib.minOf row)) ∧ w' = wr.drewN q) := fun q => min_any (show Sl (wr.drewN q) (wr.drewN q).heap.size A1 _ from t1) hrl hne
                  have Hmax : Hid (∀ q, Calls Tryd.prog 36 #[.slice A1 row.length q1] (wr.drewN q) fun e w' => e = .returned (.int .i64 (Lib.maxOf row)) ∧ w' = wr.drewN q) := fun q => max_any (show Sl (wr.drewN q) (wr.drewN q).heap.size A1 _ from t1) hrl hne
                  have Hmm := Lib.hid (rowOk_mm (f := f) hne hlen)
                  clear t1 hlen hne
                  generalize Lib.minOf row = mn at Hmin Hmm
                  generalize Lib.maxOf row = mx at Hmax Hmm
                  go_upto_region 13 with fail
                  go_cut [75] (fun s75 wx => s75 = .bool (!rowOkB d f row) ∧ ∃ q, wx = wr.drewN q)
                  case first =>
                    by_cases hmn : mn < 0
                    · have Hv : Hid (rowOkB d f row = false) := by show _ = _; rw [Hmm.out]; simp; intro h; omega
                      have p1 : decide (mn < 0) = true := decide_eq_true hmn
                      go_quiet (first | (go_at_call 35; exact Calls.quiet_of_same (Hmin.out _)) | (go_at_call 36; exact Calls.quiet_of_same (Hmax.out _)))
                      go_wp2_with fail
                      go_meet
                      exact ⟨by rw [Hv.out]; rfl, _, rfl⟩
                    · have p1 : decide (mn < 0) = false := decide_eq_false hmn
                      by_cases hmx : mx < 1
                      · have Hv : Hid (rowOkB d f row = false) := by show _ = _; rw [Hmm.out]; simp; intro _ h; omega
                        have p2 : decide (mx < 1) = true := decide_eq_true hmx
                        go_quiet (first | (go_at_call 35; exact Calls.quiet_of_same (Hmin.out _)) | (go_at_call 36; exact Calls.quiet_of_same (Hmax.out _)))
                        go_wp2_with fail
                        go_meet
                        exact ⟨by rw [Hv.out]; rfl, _, rfl⟩
                      · have p2 : decide (mx < 1) = false := decide_eq_false hmx
                        rcases Hf.out with hf | hf
                        · subst hf
                          have Hv : Hid (Value.bool (decide (0 < mx / 256)) = Value.bool (!rowOkB d 8 row)) := by
                            show _ = _
                            have ht : (topN (8 : Int).toNat : Int) = 255 := rfl
                            rw [Hmm.out, ht, decide_eq_true (show 0 ≤ mn by omega), decide_eq_true (show 1 ≤ mx by omega)]
                            by_cases h : mx ≤ 255
                            · rw [decide_eq_true h, decide_eq_false (by omega)]; rfl
                            · rw [decide_eq_false h, decide_eq_true (by omega)]; rfl
                          go_quiet (first | (go_at_call 35; exact Calls.quiet_of_same (Hmin.out _)) | (go_at_call 36; exact Calls.quiet_of_same (Hmax.out _)))
                          go_wp2_with fail
                          go_meet
                          exact ⟨Hv.out, _, rfl⟩
                        · subst hf
                          have Hv : Hid (Value.bool (decide (0 < mx / 65536)) = Value.bool (!rowOkB d 16 row)) := by
                            show _ = _
                            have ht : (topN (16 : Int).toNat : Int) = 65535 := rfl
                            rw [Hmm.out, ht, decide_eq_true (show 0 ≤ mn by omega), decide_eq_true (show 1 ≤ mx by omega)]
                            by_cases h : mx ≤ 65535
                            · rw [decide_eq_true h, decide_eq_false (by omega)]; rfl
                            · rw [decide_eq_false h, decide_eq_true (by omega)]; rfl
                          go_quiet (first | (go_at_call 35; exact Calls.quiet_of_same (Hmin.out _)) | (go_at_call 36; exact Calls.quiet_of_same (Hmax.out _)))
                          go_wp2_with fail
                          go_meet
                          exact ⟨Hv.out, _, rfl⟩
                  case rest =>
                  obtain ⟨rfl, q, hwc⟩ := hcut
                  have hS1 := HS.out.drewN q
                  rw [← hwc] at hS1
                  have HS1 := Lib.hid hS1
                  clear hwc hS1 Hmm
                  cases hok : rowOkB d f row with
                  | true =>
                    have HQ3 : Hid (∀ (j : Nat) (r : List Int), j < k + 1 → par[j]? = some r → rowOkB d f r = true) := by
                      intro j r hj hr
                      rcases Nat.lt_or_ge j k with h | h
                      · exact HQ.out j r h hr
                      · have : j = k := by omega
                        subst this
                        rw [Hrow.out] at hr
                        injection hr with hr
                        rw [← hr]; exact hok
                    clear hok
                    go_wp2_with fail
                    go_roundg (par.length - (k + 1))
                    case measure => rw [Hg.out]; omega
                    case rel => exact ⟨k + 1, by go_num, rfl, by omega, HS1.out, HQ3.out⟩
                  | false =>
                    have Hno : Hid (checkB ⟨nm, f, d, par, dom⟩ = 1) := by show _ = _; rw [Hc3.out, if_pos (all_no Hrow.out hok)]
                    clear hok
                    go_wp2_with fail
                    go_ret
                    exact ⟨by rw [Hno.out] <;> rfl, HS1.out.below⟩
                · have g1 : ((row.length : Int) != d) = true := by rw [bne_iff_ne]; exact hlen
                  have Hno : Hid (checkB ⟨nm, f, d, par, dom⟩ = 1) := by show _ = _; rw [Hc3.out, if_pos (all_no Hrow.out (rowOk_len hlen))]
                  clear hlen t1
                  go_wp2_with fail
                  go_quiet (fail)
                  go_wp2_with fail
                  go_ret
                  exact ⟨by rw [Hno.out] <;> rfl, (HS.out.drewN _).below⟩
              · have Hc4 : Hid (checkB ⟨nm, f, d, par, dom⟩ = if dom < 1 ∨ W < dom then 1 else 0) := by
                  show _ = _
                  rw [Hc3.out, if_neg]
                  rw [all_yes (fun j r h1 h2 => HQ.out j r (by omega) h2)]; simp
                by_cases hd1 : dom < 1
                · have Hc5 : Hid (checkB ⟨nm, f, d, par, dom⟩ = 1) := by show _ = _; rw [Hc4.out, if_pos (.inl hd1)]
                  go_wp2_with fail
                  go_ret
                  exact ⟨by rw [Hc5.out] <;> rfl, HS.out.below⟩
                · by_cases hd2 : W < dom
                  · have Hc5 : Hid (checkB ⟨nm, f, d, par, dom⟩ = 1) := by show _ = _; rw [Hc4.out, if_pos (.inr hd2)]
                    go_wp2_with fail
                    go_ret
                    exact ⟨by rw [Hc5.out] <;> rfl, HS.out.below⟩
                  · have Hc5 : Hid (checkB ⟨nm, f, d, par, dom⟩ = 0) := by show _ = _; rw [Hc4.out, if_neg (fun h => h.elim hd1 hd2)]
                    go_wp2_with fail
                    go_ret
                    exact ⟨by rw [Hc5.out] <;> rfl, HS.out.below⟩
      · rw [decide_eq_false hf] at hfld
        have Hfld := Lib.hid hfld
        have Hc : Hid (checkB ⟨nm, f, d, par, dom⟩ = 1) := by show _ = _; unfold checkB; rw [if_neg (by simp [hwd]), if_neg hl, if_pos hf]
        clear hfld hf hwd
        go_enter Tryd.func14, Tryd.ntmps14
        go_wp2_with (first | (go_at_call 33; refine Hword.out.mono ?_; rintro e w' ⟨rfl, hw'⟩; subst hw') | (go_at_call 34; refine Hfld.out.mono ?_; rintro e w' ⟨rfl, hw'⟩; subst hw'))
        go_ret
        exact ⟨by rw [Hc.out] <;> rfl, S0.out.below⟩
end Go.Proofs.YtafgmbchdcfkcaaDoor
