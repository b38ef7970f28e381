/-
  The walks of the closures of Check and of the searches that call them; slices.Min and Max of six numbers.
-/
import Derived.Test.YtdfhbnfhkckkbaaGreatDoorW7
import Derived.Test.YtdfhbnfhkckkbaaGreatDoorS1
namespace Go.Proofs.YtdfhbnfhkckkbaaGreatDoor
open Go Go.RowKit Go.Walks

theorem long_any (t : Bytes) (w : World) : Calls Tryz.prog 37 #[.string ⟨t.toArray⟩] w (ValR (.bool (decide (2000 < t.length))) w) := by
  have hss := strBytes_size t
  by_cases h : 2000 < t.length
  · have q : (2000 : Int) < (t.length : Int) := by omega
    have hd := Lib.hid (decide_eq_true h)
    go_enter Tryz.func37, Tryz.ntmps37
    go_wp2_with fail
    go_ret
    exact ⟨by rw [hd.out]; rfl, rfl⟩
  · have q : ¬ (2000 : Int) < (t.length : Int) := by omega
    have hd := Lib.hid (decide_eq_false h)
    go_enter Tryz.func37, Tryz.ntmps37
    go_wp2_with fail
    go_ret
    exact ⟨by first | rfl | (rw [hd.out]; rfl), rfl⟩
def wrongB (top n : Int) : Bool := decide (n < 0) || decide (n > top)
theorem wrong_arg (top n : Int) : wrongB top n = !argB top n := by
  unfold wrongB argB
  by_cases h1 : n < 0
  · have h2 : ¬ 0 ≤ n := by omega
    simp [h1, h2]
  · have h2 : 0 ≤ n := by omega
    by_cases h3 : n > top
    · have h4 : ¬ n ≤ top := by omega
      simp [h1, h2, h3, h4]
    · have h4 : n ≤ top := by omega
      simp [h1, h2, h3, h4]
theorem wrong_any (n top : Int) (g : Nat) (w : World) (Hc : Hid (w.cell? ⟨g, 0, none⟩ = some (.int .i64 top))) : Calls Tryz.prog 41 #[.int .i64 n, .pointer (some ⟨g, 0, none⟩)] w (ValR (.bool (wrongB top n)) w) := by
  obtain ⟨v, hv⟩ : ∃ v, v = wrongB top n := ⟨_, rfl⟩
  rw [← hv]
  have hc := Hc.out
  unfold wrongB at hv
  by_cases h1 : n < 0
  · rw [decide_eq_true h1, Bool.true_or] at hv
    have Hv := Lib.hid hv
    clear hv
    go_enter Tryz.func41, Tryz.ntmps41
    go_wp2_with fail
    go_ret
    exact ⟨by rw [Hv.out]; rfl, rfl⟩
  · rw [decide_eq_false h1, Bool.false_or] at hv
    have Hv := Lib.hid hv
    clear hv
    go_enter Tryz.func41, Tryz.ntmps41
    go_wp2_with fail
    go_ret
    exact ⟨by rw [Hv.out]; rfl, rfl⟩
/-- What a search with a predicate hands back: an index, not negative just if some element fits. -/
def FindR (b : Bool) (w : World) (e : Ending) (w' : World) : Prop := w' = w ∧ ∃ r : Int, e = .returned (.int .i64 r) ∧ decide (0 ≤ r) = b
theorem any_take_step {α : Type} (p : α → Bool) {l : List α} {k : Nat} {x : α} (h : l[k]? = some x) (h0 : (l.take k).any p = false) (hx : p x = false) : (l.take (k + 1)).any p = false := by
  rw [List.take_add_one, h, List.any_append, h0]
  simp [hx]
set_option maxRecDepth 100000 in
set_option maxHeartbeats 400000 in
theorem findLong_any (l : List Bytes) (A : Option Addr) (c : Nat) (w : World) (hl : l.length ≤ maxLen) (Hs : Hid (Sl w w.heap.size A (l.map strV))) : Calls Tryz.prog 92 #[.slice A l.length c, .func (.func 37) #[] #[]] w (FindR (l.any fun t => decide (2000 < t.length)) w) := by
  obtain ⟨m, hm⟩ : ∃ m, m = l.length := ⟨_, rfl⟩
  obtain ⟨v, hv⟩ : ∃ v, v = l.any fun t => decide (2000 < t.length) := ⟨_, rfl⟩
  rw [← hm] at hl ⊢
  rw [← hv]
  unfold maxLen at hl
  have Hm := Lib.hid hm
  have Hv := Lib.hid hv
  clear hm hv
  go_enter Tryz.func92, Tryz.ntmps92
  go_wp2_with fail
  go_loopg [8] m (fun g s8 wr => ∃ k : Nat, s8 = .int .i64 (k : Int) ∧ g = m - k ∧ k ≤ m ∧ w = wr ∧ Hid ((l.take k).any (fun t => decide (2000 < t.length)) = false))
  case atStart => exact ⟨0, rfl, rfl, Nat.zero_le _, rfl, rfl⟩
  case round =>
    obtain ⟨k, rfl, hg, hk, hwr, HN⟩ := hrel
    subst hwr
    by_cases hlt : k < m
    · have hI1 : (0 : Int) ≤ (k : Int) := by omega
      have hI2 : (k : Int) < (m : Int) := by omega
      obtain ⟨x, hx⟩ : ∃ x, l[k]? = some x := ⟨l[k]'(by rw [← Hm.out]; exact hlt), List.getElem?_eq_getElem _⟩
      obtain ⟨b, o, hA, hb, hcell⟩ := str_at Hs.out hx
      subst hA
      have Hx := Lib.hid hx
      have HC := Lib.hid (long_any x w)
      clear hx
      cases hp : decide (2000 < x.length) with
      | true =>
        have HV : Hid (v = true) := by
          show _ = _
          rw [Hv.out]
          exact List.any_eq_true.2 ⟨x, List.mem_of_getElem? Hx.out, hp⟩
        rw [hp] at HC
        clear hp
        go_wp2_with fail
        refine HC.out.mono ?_
        rintro e w1 ⟨rfl, hw⟩
        obtain rfl := hw.symm
        go_wp2_with fail
        go_ret
        exact ⟨rfl, _, rfl, by rw [HV.out]; exact decide_eq_true (by omega)⟩
      | false =>
        have HN2 := Lib.hid (any_take_step _ Hx.out HN.out hp)
        rw [hp] at HC
        clear hp
        go_wp2_with fail
        refine HC.out.mono ?_
        rintro e w1 ⟨rfl, hw⟩
        obtain rfl := hw.symm
        go_wp2_with fail
        go_roundg (m - (k + 1))
        case measure => omega
        case rel => exact ⟨k + 1, by go_num, rfl, by omega, rfl, HN2⟩
    · have hke : k = m := by omega
      have hI3 : ¬ (k : Int) < (m : Int) := by omega
      have HV : Hid (v = false) := by
        show _ = _
        have := HN.out
        rw [hke, Hm.out, List.take_length] at this
        rw [Hv.out, this]
      clear hke hlt
      go_wp2_with fail
      go_ret
      exact ⟨rfl, _, rfl, by rw [HV.out]; rfl⟩
set_option maxRecDepth 100000 in
set_option maxHeartbeats 400000 in
theorem findWrong_any (top : Int) (gt : Nat) (l : List Int) (A : Option Addr) (c : Nat) (w : World) (hl : l.length ≤ maxLen) (Hs : Hid (Sl w w.heap.size A (l.map intC))) (Hc : Hid (w.cell? ⟨gt, 0, none⟩ = some (.int .i64 top))) : Calls Tryz.prog 93 #[.slice A l.length c, .func (.func 41) #[] #[.pointer (some ⟨gt, 0, none⟩)]] w (FindR (l.any (wrongB top)) w) := by
  obtain ⟨m, hm⟩ : ∃ m, m = l.length := ⟨_, rfl⟩
  obtain ⟨v, hv⟩ : ∃ v, v = l.any (wrongB top) := ⟨_, rfl⟩
  rw [← hm] at hl ⊢
  rw [← hv]
  unfold maxLen at hl
  have Hm := Lib.hid hm
  have Hv := Lib.hid hv
  clear hm hv
  go_enter Tryz.func93, Tryz.ntmps93
  go_wp2_with fail
  go_loopg [8] m (fun g s8 wr => ∃ k : Nat, s8 = .int .i64 (k : Int) ∧ g = m - k ∧ k ≤ m ∧ w = wr ∧ Hid ((l.take k).any (wrongB top) = false))
  case atStart => exact ⟨0, rfl, rfl, Nat.zero_le _, rfl, rfl⟩
  case round =>
    obtain ⟨k, rfl, hg, hk, hwr, HN⟩ := hrel
    subst hwr
    by_cases hlt : k < m
    · have hI1 : (0 : Int) ≤ (k : Int) := by omega
      have hI2 : (k : Int) < (m : Int) := by omega
      obtain ⟨x, hx⟩ : ∃ x, l[k]? = some x := ⟨l[k]'(by rw [← Hm.out]; exact hlt), List.getElem?_eq_getElem _⟩
      obtain ⟨b, o, hA, hb, hcell⟩ := int_at Hs.out hx
      subst hA
      have Hx := Lib.hid hx
      have HC := Lib.hid (wrong_any x top gt w Hc)
      clear hx
      cases hp : wrongB top x with
      | true =>
        have HV : Hid (v = true) := by
          show _ = _
          rw [Hv.out]
          exact List.any_eq_true.2 ⟨x, List.mem_of_getElem? Hx.out, hp⟩
        rw [hp] at HC
        clear hp
        go_wp2_with fail
        refine HC.out.mono ?_
        rintro e w1 ⟨rfl, hw⟩
        obtain rfl := hw.symm
        go_wp2_with fail
        go_ret
        exact ⟨rfl, _, rfl, by rw [HV.out]; exact decide_eq_true (by omega)⟩
      | false =>
        have HN2 := Lib.hid (any_take_step _ Hx.out HN.out hp)
        rw [hp] at HC
        clear hp
        go_wp2_with fail
        refine HC.out.mono ?_
        rintro e w1 ⟨rfl, hw⟩
        obtain rfl := hw.symm
        go_wp2_with fail
        go_roundg (m - (k + 1))
        case measure => omega
        case rel => exact ⟨k + 1, by go_num, rfl, by omega, rfl, HN2⟩
    · have hke : k = m := by omega
      have hI3 : ¬ (k : Int) < (m : Int) := by omega
      have HV : Hid (v = false) := by
        show _ = _
        have := HN.out
        rw [hke, Hm.out, List.take_length] at this
        rw [Hv.out, this]
      clear hke hlt
      go_wp2_with fail
      go_ret
      exact ⟨rfl, _, rfl, by rw [HV.out]; rfl⟩
theorem hasLong_any (l : List Bytes) (A : Option Addr) (c : Nat) (w : World) (hl : l.length ≤ maxLen) (Hs : Hid (Sl w w.heap.size A (l.map strV))) : Calls Tryz.prog 40 #[.slice A l.length c, .func (.func 37) #[] #[]] w (ValR (.bool (l.any fun t => decide (2000 < t.length))) w) := by
  have HF := Lib.hid (findLong_any l A c w hl Hs)
  obtain ⟨v, hv⟩ : ∃ v, v = l.any fun t => decide (2000 < t.length) := ⟨_, rfl⟩
  rw [← hv] at HF ⊢
  obtain ⟨m, hm⟩ : ∃ m, m = l.length := ⟨_, rfl⟩
  rw [← hm] at HF ⊢
  clear hm hv hl
  go_enter Tryz.func40, Tryz.ntmps40
  go_wp2_with fail
  refine HF.out.mono ?_
  rintro e w1 ⟨hw, r, rfl, hr⟩
  obtain rfl := hw.symm
  have Hr := Lib.hid hr
  clear hr
  go_wp2_with fail
  go_ret
  exact ⟨by rw [← Hr.out]; rfl, rfl⟩
theorem hasWrong_any (top : Int) (gt : Nat) (l : List Int) (A : Option Addr) (c : Nat) (w : World) (hl : l.length ≤ maxLen) (Hs : Hid (Sl w w.heap.size A (l.map intC))) (Hc : Hid (w.cell? ⟨gt, 0, none⟩ = some (.int .i64 top))) : Calls Tryz.prog 43 #[.slice A l.length c, .func (.func 41) #[] #[.pointer (some ⟨gt, 0, none⟩)]] w (ValR (.bool (l.any (wrongB top))) w) := by
  have HF := Lib.hid (findWrong_any top gt l A c w hl Hs Hc)
  obtain ⟨v, hv⟩ : ∃ v, v = l.any (wrongB top) := ⟨_, rfl⟩
  rw [← hv] at HF ⊢
  obtain ⟨m, hm⟩ : ∃ m, m = l.length := ⟨_, rfl⟩
  rw [← hm] at HF ⊢
  clear hm hv hl
  go_enter Tryz.func43, Tryz.ntmps43
  go_wp2_with fail
  refine HF.out.mono ?_
  rintro e w1 ⟨hw, r, rfl, hr⟩
  obtain rfl := hw.symm
  have Hr := Lib.hid hr
  clear hr
  go_wp2_with fail
  go_ret
  exact ⟨by rw [← Hr.out]; rfl, rfl⟩
end Go.Proofs.YtdfhbnfhkckkbaaGreatDoor
