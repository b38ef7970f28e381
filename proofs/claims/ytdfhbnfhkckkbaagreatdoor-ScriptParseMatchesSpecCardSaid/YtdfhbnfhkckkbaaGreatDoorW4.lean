/-
  The walks of the wire's GetInt at every slice, count and GetBytes.
-/
import Derived.Test.YtdfhbnfhkckkbaaGreatDoorW3
import Derived.Laws.IdiomStrings
import Derived.Laws.BytesArg
namespace Go.Proofs.YtdfhbnfhkckkbaaGreatDoor
open Go Go.RowKit Go.Walks

theorem conv_bytes {W : World} {B c : Nat} {A : Option Addr} {l : Bytes} (h : Sl W B A (Lib.byteCells l)) : (convert 38 9 (.slice A l.length c)).run Tryz.prog W = .ok (.string ⟨l.toArray⟩) W := by
  cases A with
  | none =>
    rcases h with h | ⟨b, o, hA, -⟩
    · have hl : l = [] := by unfold Lib.byteCells at h; exact List.map_eq_nil_iff.1 h
      subst hl
      exact run_convert_bytes_nil W 38 5 Tryz.underlying38 Tryz.underlying5 _ _ 9 Tryz.underlying9
    · cases hA
  | some a =>
    refine run_convert_bytes_back W 38 9 5 a c l Tryz.underlying38 Tryz.underlying5 Tryz.underlying9 fun j hj => ?_
    obtain ⟨b, o, hA, -, hc⟩ := byte_at h (List.getElem?_eq_getElem hj)
    obtain rfl := Option.some.inj hA
    have e : (⟨b, o, none⟩ : Addr).add j = ⟨b, o + j, none⟩ := by unfold Addr.add; split <;> simp_all
    rw [e]
    exact hc
theorem getInt_err {l : Bytes} {e : Nat} (h : getIntB l = .error e) : e = 5 ∨ e = 6 := by
  cases l with
  | nil => exact .inl (by simpa [getIntB] using h.symm)
  | cons c r =>
    rw [getIntB] at h
    split at h
    · injection h with h; exact .inr h.symm
    split at h
    · injection h with h; exact .inl h.symm
    split at h
    · injection h with h; exact .inr h.symm
    split at h
    · injection h with h; exact .inr h.symm
    · cases h
theorem count_err {l : Bytes} {e : Nat} (h : countB l = .error e) : e = 5 ∨ e = 6 := by
  rw [countB] at h
  split at h
  · rename_i e' he
    injection h with h
    subst h
    exact getInt_err he
  · split at h
    · injection h with h; exact .inr h.symm
    · split at h
      · injection h with h; exact .inl h.symm
      · cases h
set_option maxRecDepth 100000 in
theorem getint_nil (A : Option Addr) (c : Nat) (w : World) : Calls Tryz.prog 72 #[.slice A 0 c] w (GetIntR (getIntB []) w) := by
  go_enter Tryz.func72, Tryz.ntmps72
  go_wp2_with fail
  go_ret3
  exact ⟨rfl, rfl⟩
theorem getint_any (l : Bytes) (A : Option Addr) (c : Nat) (w : World) (hl : l.length ≤ 1000000000) (hc : l.length ≤ c) (Hs : Hid (Sl w w.heap.size A (Lib.byteCells l))) : Calls Tryz.prog 72 #[.slice A l.length c] w (GetIntR (getIntB l) w) := by
  cases l with
  | nil => exact getint_nil A c w
  | cons c0 r =>
    obtain ⟨b, o, rfl, -, -⟩ := byte_at Hs.out (k := 0) rfl
    rw [List.length_cons] at hl hc ⊢
    cases hf : decide (c0.toNat < 128) with
    | true => exact getint_neg c0 r b o c w (by omega) hc hf Hs
    | false => exact getint_pos c0 r b o c w (by omega) hc hf Hs
/-- What count hands back: with an error, two numbers that nobody reads. -/
def CountR (x : Except Nat (Nat × Nat)) (w : World) (e : Ending) (w' : World) : Prop := w' = w ∧ match x with
  | .ok (n, k) => e = .returned (.tuple #[.int .i64 (n : Int), .int .i64 (k : Int), .int .i64 0])
  | .error er => ∃ a b, e = .returned (.tuple #[.int .i64 a, .int .i64 b, errI er])

set_option maxRecDepth 100000 in
set_option maxHeartbeats 4000000 in
theorem count_any (l : Bytes) (A : Option Addr) (c : Nat) (w : World) (hl : l.length ≤ 1000000000) (hc : l.length ≤ c) (Hs : Hid (Sl w w.heap.size A (Lib.byteCells l))) : Calls Tryz.prog 97 #[.slice A l.length c, .int .i64 1] w (CountR (countB l) w) := by
  have Hg := Lib.hid (getint_any l A c w hl hc Hs)
  obtain ⟨m, hm⟩ : ∃ m, m = l.length := ⟨_, rfl⟩
  have hcnt : countB l = match getIntB l with
    | .error e => .error e
    | .ok (n, k) => if n < 0 then .error 6 else if n > (m : Int) - k then .error 5 else .ok (n.toNat, k) := by rw [countB, hm]; rfl
  obtain ⟨x, hx0⟩ : ∃ x, x = countB l := ⟨_, rfl⟩
  rw [← hx0]
  rw [← hx0] at hcnt
  rw [← hm] at Hg ⊢
  cases hx : getIntB l with
  | error e =>
    rw [hx] at Hg hcnt
    have he := getInt_err hx
    have q1 : ((e : Int) != 0) = true := by rw [bne_iff_ne]; omega
    have HX := Lib.hid hcnt
    clear hm hcnt hx hl hc hx0
    go_enter Tryz.func97, Tryz.ntmps97
    go_wp2_with fail
    refine Hg.out.mono ?_
    unfold GetIntR gotV errI
    rintro _ _ ⟨rfl, rfl⟩
    go_wp2_with fail
    go_ret3
    refine ⟨rfl, ?_⟩
    rw [HX.out]
    exact ⟨_, _, rfl⟩
  | ok nk =>
    obtain ⟨n, k⟩ := nk
    rw [hx] at Hg hcnt
    obtain ⟨-, -, hk, h1, h2⟩ := int_getB hx
    rw [← hm] at hk hl
    dsimp only at hcnt
    clear hm hx hc hx0
    by_cases hn0 : n < 0
    · rw [if_pos hn0] at hcnt
      have HX := Lib.hid hcnt
      clear hcnt
      go_enter Tryz.func97, Tryz.ntmps97
      go_wp2_with fail
      refine Hg.out.mono ?_
      unfold GetIntR gotV
      rintro _ _ ⟨rfl, rfl⟩
      go_wp2_with fail
      go_ret3
      refine ⟨rfl, ?_⟩
      rw [HX.out]
      exact ⟨_, _, rfl⟩
    · rw [if_neg hn0] at hcnt
      by_cases hn1 : n > (m : Int) - k
      · rw [if_pos hn1] at hcnt
        have HX := Lib.hid hcnt
        have q1 : (m : Int) - k < n := hn1
        clear hcnt hn1
        go_enter Tryz.func97, Tryz.ntmps97
        go_wp2_with fail
        refine Hg.out.mono ?_
        unfold GetIntR gotV
        rintro _ _ ⟨rfl, rfl⟩
        go_wp2_with fail
        go_ret3
        refine ⟨rfl, ?_⟩
        rw [HX.out]
        exact ⟨_, _, rfl⟩
      · rw [if_neg hn1] at hcnt
        have q1 : ¬ (m : Int) - k < n := by omega
        have HX := Lib.hid hcnt
        have Hn0 : Hid ((n.toNat : Int) = n) := by show _ = _; omega
        clear hcnt hn1
        go_enter Tryz.func97, Tryz.ntmps97
        go_wp2_with fail
        refine Hg.out.mono ?_
        unfold GetIntR gotV
        rintro _ _ ⟨rfl, rfl⟩
        go_wp2_with fail
        go_ret3
        refine ⟨rfl, ?_⟩
        rw [HX.out]
        show _ = Ending.returned (.tuple #[.int .i64 (n.toNat : Int), .int .i64 (k : Int), .int .i64 0])
        rw [Hn0.out]
        rfl
end Go.Proofs.YtdfhbnfhkckkbaaGreatDoor
