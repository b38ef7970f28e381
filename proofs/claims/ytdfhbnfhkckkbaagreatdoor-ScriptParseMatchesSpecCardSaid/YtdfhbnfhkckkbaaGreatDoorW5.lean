/-
  The walks of the wire's GetBytes, reader and GetInts.
-/
import Derived.Test.YtdfhbnfhkckkbaaGreatDoorW4
namespace Go.Proofs.YtdfhbnfhkckkbaaGreatDoor
open Go Go.RowKit Go.Walks

def gotS : Except Nat (Bytes × Nat) → Value
  | .ok (s, k) => .tuple #[strV s, .int .i64 (k : Int), .int .i64 0]
  | .error e => .tuple #[.string ⟨#[]⟩, .int .i64 0, errI e]
def GetBytesR (x : Except Nat (Bytes × Nat)) (w : World) (e : Ending) (w' : World) : Prop := e = .returned (gotS x) ∧ w' = w
theorem byteCells_drop (l : Bytes) (k : Nat) : (Lib.byteCells l).drop k = Lib.byteCells (l.drop k) := by simp [Lib.byteCells]
theorem byteCells_take (l : Bytes) (k : Nat) : (Lib.byteCells l).take k = Lib.byteCells (l.take k) := by simp [Lib.byteCells]
/-- The bytes from k on, where there is room behind. -/
theorem sl_from {w : World} {B b o k c : Nat} {l : Bytes} (h : Sl w B (some ⟨b, o, none⟩) (Lib.byteCells l)) (hk : k ≤ l.length) (hc : l.length ≤ c) : Sl w B (some ⟨b, if c = k then o else o + k, none⟩) (Lib.byteCells (l.drop k)) := by
  have := h.drop (k := k) hk hc 1 (by rw [byteCells_length, Nat.mul_one])
  rw [Nat.mul_one, byteCells_drop] at this
  split at this
  · rename_i e; rw [if_pos e]; exact this
  · rename_i e
    rw [if_neg e]
    have e2 : (⟨b, o, none⟩ : Addr).add k = ⟨b, o + k, none⟩ := by unfold Addr.add; split <;> simp_all
    rw [← e2]
    exact this

set_option maxRecDepth 100000 in
set_option maxHeartbeats 400000 in
theorem getbytes_any (l : Bytes) (A : Option Addr) (c : Nat) (w : World) (hl : l.length ≤ 1000000000) (hc : l.length ≤ c) (hcm : c ≤ 9223372036854775807) (Hs : Hid (Sl w w.heap.size A (Lib.byteCells l))) : Calls Tryz.prog 70 #[.slice A l.length c] w (GetBytesR (getBytesB l) w) := by
  have Hg := Lib.hid (count_any l A c w hl hc Hs)
  obtain ⟨y, hy0⟩ : ∃ y, y = getBytesB l := ⟨_, rfl⟩
  rw [← hy0]
  have hcnt : y = match countB l with
    | .error e => .error e
    | .ok (n, k) => .ok ((l.drop k).take n, k + n) := by rw [hy0, getBytesB]; rfl
  obtain ⟨m, hm⟩ : ∃ m, m = l.length := ⟨_, rfl⟩
  rw [← hm] at Hg ⊢
  cases hx : countB l with
  | error e =>
    rw [hx] at Hg hcnt
    have he := count_err hx
    have q1 : ((e : Int) != 0) = true := by rw [bne_iff_ne]; omega
    have HX := Lib.hid hcnt
    clear hm hcnt hx hl hc hy0
    go_enter Tryz.func70, Tryz.ntmps70
    go_wp2_with fail
    refine Hg.out.mono ?_
    unfold CountR errI
    rintro _ _ ⟨rfl, a, b, rfl⟩
    go_wp2_with fail
    go_ret3
    exact ⟨by rw [HX.out]; rfl, rfl⟩
  | ok nk =>
    obtain ⟨n, k⟩ := nk
    rw [hx] at Hg hcnt
    obtain ⟨h1, h2, h3, h4⟩ := count_can hx
    dsimp only at hcnt
    have hk1 : 1 ≤ k := by rw [h2, intB_length]; omega
    rw [← hm] at h3 hl hc
    obtain ⟨x0, hx0⟩ : ∃ x, l[0]? = some x := ⟨l[0]'(by omega), List.getElem?_eq_getElem _⟩
    obtain ⟨b, o, hA, -, -⟩ := byte_at Hs.out hx0
    clear hx0 x0
    subst hA
    have hsl := sl_from (c := c) Hs.out (k := k) (by omega) (by omega)
    obtain ⟨s, hs⟩ : ∃ s, s = (l.drop k).take n := ⟨_, rfl⟩
    rw [← hs] at hcnt
    have hslt : s.length = n := by rw [hs, List.length_take, List.length_drop]; omega
    have hsl2 := hsl.take n
    rw [byteCells_take, ← hs] at hsl2
    have hconv : ∀ c', (convert 38 9 (.slice (some ⟨b, if c = k then o else o + k, none⟩) n c')).run Tryz.prog w = .ok (.string ⟨s.toArray⟩) w := fun c' => by
      have := conv_bytes (c := c') hsl2
      rw [hslt] at this
      exact this
    have HX := Lib.hid hcnt
    clear hm hcnt hx hy0 h1 h2 h4 hsl hsl2 hs hslt
    by_cases hck : c = k
    · subst hck
      obtain rfl : n = 0 := by omega
      rw [if_pos rfl] at hconv
      go_enter Tryz.func70, Tryz.ntmps70
      go_wp2_with fail
      refine Hg.out.mono ?_
      unfold CountR
      rintro _ _ ⟨rfl, rfl⟩
      go_wp2_with fail
      go_ret3
      exact ⟨by rw [HX.out]; rfl, rfl⟩
    · rw [if_neg hck] at hconv
      go_enter Tryz.func70, Tryz.ntmps70
      go_wp2_with fail
      refine Hg.out.mono ?_
      unfold CountR
      rintro _ _ ⟨rfl, rfl⟩
      go_wp2_with fail
      go_ret3
      exact ⟨by rw [HX.out]; rfl, rfl⟩
/-- What a reader has captured: a slice's block and a position's block. -/
structure RdAt (gb ga : Nat) (A : Option Addr) (n c at_ : Nat) (W : World) : Prop where
  b : W.heap[gb]? = some (.cells #[.slice A n c] 38)
  a : W.heap[ga]? = some (.cells #[.int .i64 (at_ : Int)] 3)

set_option maxRecDepth 100000 in
set_option maxHeartbeats 400000 in
theorem reader_any (A : Option Addr) (n c at_ : Nat) (w : World) : Calls Tryz.prog 98 #[.slice A n c, .int .i64 (at_ : Int)] w fun e w' => e = .returned (.func (.func 119) #[] #[.pointer (some ⟨w.heap.size, 0, none⟩), .pointer (some ⟨w.heap.size + 1, 0, none⟩)]) ∧ Below w.heap.size w w' ∧ RdAt w.heap.size (w.heap.size + 1) A n c at_ w' := by
  go_enter Tryz.func98, Tryz.ntmps98
  go_wp2_with fail
  go_ret
  have h1 : Below w.heap.size w (w.alloc (.cells #[.slice A n c] 38)) := (Below.refl _ _).alloc (Nat.le_refl _) _
  refine ⟨rfl, h1.alloc h1.size _, ?_, ?_⟩
  · exact (Below.heap_alloc _ _ _ (by simp)).trans (heap_new _ _)
  · rw [show w.heap.size + 1 = (w.alloc (.cells #[.slice A n c] 38)).heap.size by simp]
    exact heap_new _ _
/-- What the reader's function hands back, and the position behind it. -/
def NextR (x : Except Nat (Int × Nat)) (at_ gb ga : Nat) (A : Option Addr) (n c : Nat) (w : World) (e : Ending) (w' : World) : Prop := RB ga w w' ∧ match x with
  | .ok (v, k) => e = .returned (.tuple #[.int .i64 v, .int .i64 ((at_ + k : Nat) : Int), .int .i64 0]) ∧ RdAt gb ga A n c (at_ + k) w'
  | .error er => ∃ a, e = .returned (.tuple #[.int .i64 0, a, errI er])
theorem RdAt.set {w : World} {gb ga n c at_ : Nat} {A : Option Addr} (h : RdAt gb ga A n c at_ w) (k : Nat) : RdAt gb ga A n c k (w.setCell ⟨ga, 0, none⟩ (.int .i64 (k : Int))) := by
  have hne : gb ≠ ga := cells_other h.b h.a (by decide)
  exact ⟨(Below.heap_setCell _ _ _ _ hne).trans h.b, set_at h.a 0 _⟩
theorem RdAt.drewN {w : World} {gb ga n c at_ : Nat} {A : Option Addr} (h : RdAt gb ga A n c at_ w) (k : Nat) : RdAt gb ga A n c at_ (w.drewN k) := ⟨h.b, h.a⟩

set_option maxRecDepth 100000 in
set_option maxHeartbeats 400000 in
theorem next_any (l : Bytes) (b o c at_ gb ga : Nat) (w : World) (hl : l.length ≤ 1000000000) (hc : l.length ≤ c) (hat : at_ ≤ l.length) (Hs : Hid (Sl w w.heap.size (some ⟨b, o, none⟩) (Lib.byteCells l))) (Hr : Hid (RdAt gb ga (some ⟨b, o, none⟩) l.length c at_ w)) :
    Calls Tryz.prog 119 #[.pointer (some ⟨gb, 0, none⟩), .pointer (some ⟨ga, 0, none⟩)] w (NextR (getIntB (l.drop at_)) at_ gb ga (some ⟨b, o, none⟩) l.length c w) := by
  obtain ⟨x0, f0⟩ := cell_at Hr.out.b 0 (u := .slice (some ⟨b, o, none⟩) l.length c) rfl
  obtain ⟨x1, f1⟩ := cell_at Hr.out.a 0 (u := .int .i64 (at_ : Int)) rfl
  have hsl := sl_from Hs.out hat hc
  have hg := fun c' (h : l.length - at_ ≤ c') => getint_any (l.drop at_) _ c' w (by rw [List.length_drop]; omega) (by rw [List.length_drop]; exact h) hsl
  rw [List.length_drop] at hg
  obtain ⟨x, hx⟩ : ∃ x, x = getIntB (l.drop at_) := ⟨_, rfl⟩
  rw [← hx] at hg ⊢
  obtain ⟨m, hm⟩ : ∃ m, m = l.length := ⟨_, rfl⟩
  rw [← hm] at x0 hg Hr hl hc hat ⊢
  have Hx : Hid (∀ n k, x = .ok (n, k) → at_ + k ≤ m) := fun n k h => by
    have := (int_getB (hx.symm.trans h)).2.2.1
    rw [List.length_drop] at this
    omega
  have Hg := Lib.hid hg
  clear hm hx hsl hg
  go_enter Tryz.func119, Tryz.ntmps119
  by_cases hck : c = at_
  · subst hck
    obtain rfl : m = c := by omega
    simp only [if_true, Nat.sub_self] at Hg
    go_wp2_with fail
    refine (Hg.out _ (by omega)).mono ?_
    cases x with
    | error er =>
      unfold GetIntR gotV
      rintro e w1 ⟨rfl, rfl⟩
      go_upto_region 3 with fail
      go_quiet (fail)
      go_wp2_with fail
      go_ret3
      exact ⟨((RB.refl _ _).setCell 0 _).drewN nq, _, rfl⟩
    | ok nk =>
      obtain ⟨v, k⟩ := nk
      unfold GetIntR gotV
      rintro e w1 ⟨rfl, rfl⟩
      have hxk := Hx.out v k rfl
      go_upto_region 3 with fail
      go_quiet (fail)
      go_wp2_with fail
      go_ret3
      exact ⟨((RB.refl _ _).setCell 0 _).drewN nq, rfl, (Hr.out.set _).drewN nq⟩
  · rw [if_neg hck] at Hg
    go_wp2_with fail
    refine (Hg.out _ (by omega)).mono ?_
    cases x with
    | error er =>
      unfold GetIntR gotV
      rintro e w1 ⟨rfl, rfl⟩
      go_upto_region 3 with fail
      go_quiet (fail)
      go_wp2_with fail
      go_ret3
      exact ⟨((RB.refl _ _).setCell 0 _).drewN nq, _, rfl⟩
    | ok nk =>
      obtain ⟨v, k⟩ := nk
      unfold GetIntR gotV
      rintro e w1 ⟨rfl, rfl⟩
      have hxk := Hx.out v k rfl
      go_upto_region 3 with fail
      go_quiet (fail)
      go_wp2_with fail
      go_ret3
      exact ⟨((RB.refl _ _).setCell 0 _).drewN nq, rfl, (Hr.out.set _).drewN nq⟩
end Go.Proofs.YtdfhbnfhkckkbaaGreatDoor
