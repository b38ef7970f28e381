/-
  The walks of the reader's take (at three types), demand and count (printed by genW13.py).
-/
import Derived.Test.YtdfhbnfhkckkbaaGreatDoorW6
import Derived.Test.YtdfhbnfhkckkbaaGreatDoorW12
import Derived.BigRegion
namespace Go.Proofs.YtdfhbnfhkckkbaaGreatDoor
open Go Go.RowKit Go.Walks

/-- The reader in memory: the bytes that are left, and its error. -/
def RdM (r : Nat) (l : Bytes) (e : Nat) (W : World) : Prop := ∃ A c, W.heap[r]? = some (.cells #[.slice A l.length c, errI e] 95) ∧ Sl W r A (Lib.byteCells l) ∧ l.length ≤ c ∧ l.length ≤ 1000000000 ∧ c ≤ 9223372036854775807
theorem RdM.lt {r e : Nat} {l : Bytes} {W : World} (h : RdM r l e W) : r < W.heap.size := by obtain ⟨A, c, h, -⟩ := h; exact (Array.getElem?_eq_some_iff.1 h).1
theorem RdM.below {r e : Nat} {l : Bytes} {W W' : World} (h : RdM r l e W) (hb : Below W.heap.size W W') : RdM r l e W' := by
  obtain ⟨A, c, h1, h2, h3⟩ := h
  have hlt := (Array.getElem?_eq_some_iff.1 h1).1
  exact ⟨A, c, (hb.block _ hlt).trans h1, h2.keep fun p hp => hb.cell (Nat.lt_trans hp hlt), h3⟩
theorem sl_setR {w : World} {r : Nat} {A : Option Addr} {xs : List Value} (h : Sl w r A xs) (o : Nat) (u : Value) : Sl (w.setCell ⟨r, o, none⟩ u) r A xs :=
  h.keep fun p hp => World.cell?_setCell_far _ _ _ _ (by show r ≠ p.block; omega)
theorem two_set1 {w : World} {g : Nat} {t : TypeId} {a b : Value} (h : w.heap[g]? = some (.cells #[a, b] t)) (u : Value) : (w.setCell ⟨g, 1, none⟩ u).heap[g]? = some (.cells #[a, u] t) := set_two1 h u
theorem two_set0 {w : World} {g : Nat} {t : TypeId} {a b : Value} (h : w.heap[g]? = some (.cells #[a, b] t)) (u : Value) : (w.setCell ⟨g, 0, none⟩ u).heap[g]? = some (.cells #[u, b] t) := set_at h 0 u
theorem getBytes_err {l : Bytes} {e : Nat} (h : getBytesB l = .error e) : e = 5 ∨ e = 6 := by
  rw [getBytesB] at h
  split at h
  · rename_i e' he; injection h with h; subst h; exact count_err he
  · cases h
theorem getN_err : ∀ (n : Nat) (l : Bytes) (e : Nat), getN n l = .error e → e = 5 ∨ e = 6
  | 0, l, e, h => by cases h
  | n + 1, l, e, h => by
    rw [getN] at h
    split at h
    · rename_i e' he; injection h with h; subst h; exact getInt_err he
    · split at h
      · rename_i e' he; injection h with h; subst h; exact getN_err n _ _ he
      · cases h
theorem getInts_err {l : Bytes} {e : Nat} (h : getIntsB l = .error e) : e = 5 ∨ e = 6 := by
  rw [getIntsB] at h
  split at h
  · rename_i e' he; injection h with h; subst h; exact count_err he
  · split at h
    · rename_i e' he; injection h with h; subst h; exact getN_err _ _ _ he
    · cases h
theorem getInt_pos {l : Bytes} {x : Int} {k : Nat} (h : getIntB l = .ok (x, k)) : 1 ≤ k ∧ k ≤ l.length := by
  obtain ⟨-, h2, h3, -⟩ := int_getB h
  rw [intB_length] at h2
  omega
theorem count_pos {l : Bytes} {n k : Nat} (h : countB l = .ok (n, k)) : 1 ≤ k := by
  obtain ⟨-, h2, -⟩ := count_can h
  rw [intB_length] at h2
  omega
theorem getBytes_pos {l x : Bytes} {k : Nat} (h : getBytesB l = .ok (x, k)) : 1 ≤ k ∧ k ≤ l.length := by
  refine ⟨?_, (bytes_can h).2⟩
  rw [getBytesB] at h
  split at h
  · cases h
  · rename_i n j hc
    injection h with h
    injection h with h1 h2
    have := count_pos hc
    omega
theorem getInts_pos {l : Bytes} {x : List Int} {k : Nat} (h : getIntsB l = .ok (x, k)) : 1 ≤ k ∧ k ≤ l.length := by
  refine ⟨?_, (ints_can h).2.1⟩
  rw [getIntsB] at h
  split at h
  · cases h
  · rename_i n j hc
    split at h
    · cases h
    · injection h with h
      injection h with h1 h2
      have := count_pos hc
      omega

set_option maxRecDepth 100000 in
set_option maxHeartbeats 400000 in
theorem takeI_skip (r e0 : Nat) (l : Bytes) (w : World) (he : e0 ≠ 0) (Hr : Hid (RdM r l e0 w)) : Calls Tryz.prog 71 #[.pointer (some ⟨r, 0, none⟩), .func (.func 72) #[] #[]] w (ValR (.int .i64 0) w) := by
  obtain ⟨A, c, hrow, -⟩ := Hr.out
  obtain ⟨z0, z1, -⟩ := two_cells hrow
  have q1 : ((e0 : Int) != 0) = true := by rw [bne_iff_ne]; omega
  unfold errI at z1
  clear hrow he
  go_enter Tryz.func71, Tryz.ntmps71
  go_wp2_with fail
  go_ret
  exact ⟨rfl, rfl⟩
set_option maxRecDepth 100000 in
set_option maxHeartbeats 400000 in
theorem takeI_bad (r er : Nat) (l : Bytes) (w : World) (hx : getIntB l = .error er) (Hr : Hid (RdM r l 0 w)) : Calls Tryz.prog 71 #[.pointer (some ⟨r, 0, none⟩), .func (.func 72) #[] #[]] w fun e w' => e = .returned (.int .i64 0) ∧ RB r w w' ∧ RdM r l er w' := by
  obtain ⟨A, c, hrow, hsl, hc, hl, hcm⟩ := Hr.out
  obtain ⟨z0, z1, y0, y1⟩ := two_cells hrow
  have hlt := (Array.getElem?_eq_some_iff.1 hrow).1
  have hg := getint_any l A c w hl hc (hsl.more (Nat.le_of_lt hlt))
  rw [hx] at hg
  have Hg := Lib.hid hg
  have he := getInt_err hx
  have q1 : ((er : Int) == 0) = false := bne_int (by omega)
  have Hrow := Lib.hid hrow
  have Hsl := Lib.hid hsl
  have Hcl := Lib.hid (And.intro hc (And.intro hl hcm))
  obtain ⟨m, hm⟩ : ∃ m, m = l.length := ⟨_, rfl⟩
  rw [← hm] at z0 Hg Hrow Hcl
  have Hm := Lib.hid hm
  unfold errI at z1
  clear hrow hg he hsl hc hl hm hx hcm
  go_enter Tryz.func71, Tryz.ntmps71
  go_wp2_with fail
  refine Hg.out.mono ?_
  unfold GetIntR gotV errI
  rintro e w1 ⟨rfl, hw⟩
  obtain rfl := hw.symm
  go_wp2_with fail
  go_ret
  refine ⟨rfl, (RB.refl _ _).setCell 1 _, A, c, ?_, sl_setR Hsl.out 1 _, ?_, ?_⟩
  · rw [← Hm.out]; exact two_set1 Hrow.out _
  · rw [← Hm.out]; exact Hcl.out.1
  · rw [← Hm.out]; exact Hcl.out.2

set_option maxRecDepth 100000 in
set_option maxHeartbeats 1000000 in
theorem takeI_ok (r : Nat) (l : Bytes) (x : Int) (k : Nat) (w : World) (hx : getIntB l = .ok (x, k)) (Hr : Hid (RdM r l 0 w)) : Calls Tryz.prog 71 #[.pointer (some ⟨r, 0, none⟩), .func (.func 72) #[] #[]] w fun e w' => RB r w w' ∧ RdM r (l.drop k) 0 w' ∧ e = .returned (.int .i64 x) := by
  obtain ⟨A, c, hrow, hsl, hc, hl, hcm⟩ := Hr.out
  have hlt := (Array.getElem?_eq_some_iff.1 hrow).1
  have hg := getint_any l A c w hl hc (hsl.more (Nat.le_of_lt hlt))
  rw [hx] at hg
  have Hg := Lib.hid hg
  obtain ⟨hk1, hkl⟩ := getInt_pos hx
  obtain ⟨c0, hc0⟩ : ∃ y, l[0]? = some y := ⟨l[0]'(by omega), List.getElem?_eq_getElem _⟩
  obtain ⟨b, o, hA, -, -⟩ := byte_at hsl hc0
  subst hA
  have hdr := sl_from hsl hkl hc
  have Hdr := Lib.hid hdr
  have Hrow := Lib.hid hrow
  obtain ⟨m, hm⟩ : ∃ m, m = l.length := ⟨_, rfl⟩
  have Hdl : Hid ((l.drop k).length = m - k) := by show _ = _; rw [List.length_drop, hm]
  rw [← hm] at Hg Hrow hc hl hkl
  obtain ⟨z0, z1, y0, y1⟩ := two_cells Hrow.out
  unfold errI at z1
  clear hrow hg hsl hx hm hdr hc0 c0
  go_enter Tryz.func71, Tryz.ntmps71
  go_wp2_with fail
  refine Hg.out.mono ?_
  unfold GetIntR gotV
  rintro e w1 ⟨rfl, hw⟩
  obtain rfl := hw.symm
  obtain ⟨W2, hW2⟩ : ∃ W, W = w.setCell ⟨r, 1, none⟩ (.int .i64 0) := ⟨_, rfl⟩
  have HR2 : Hid (W2.heap[r]? = some (.cells #[.slice (some ⟨b, o, none⟩) m c, .int .i64 0] 95)) := by rw [hW2]; exact two_set1 Hrow.out _
  have HB2 : Hid (RB r w W2) := by rw [hW2]; exact (RB.refl _ _).setCell 1 _
  have Hdr2 : Hid (Sl W2 r (some ⟨b, if c = k then o else o + k, none⟩) (Lib.byteCells (l.drop k))) := by rw [hW2]; exact sl_setR Hdr.out 1 _
  by_cases hck : c = k
  · subst hck
    obtain rfl : m = c := by omega
    go_upto_region 6 with fail
    rw [← hW2]
    clear hW2 z0 z1 y0 y1
    obtain ⟨z0, z1, y0, y1⟩ := two_cells HR2.out
    go_region
    clear z0 z1 y0 y1
    go_wp2_with fail
    go_ret
    refine ⟨(HB2.out.drew.setCell 0 _), ⟨some ⟨b, o, none⟩, 0, ?_, ?_, ?_, ?_⟩, rfl⟩
    · rw [Hdl.out, Nat.sub_self]; exact two_set0 HR2.out _
    · have := Hdr2.out
      simp only [if_true] at this
      exact sl_setR this 0 _
    · rw [Hdl.out, Nat.sub_self]; exact Nat.le_refl _
    · rw [Hdl.out]; exact ⟨by omega, by omega⟩
  · go_upto_region 6 with fail
    rw [← hW2]
    clear hW2 z0 z1 y0 y1
    obtain ⟨z0, z1, y0, y1⟩ := two_cells HR2.out
    go_region
    clear z0 z1 y0 y1
    go_wp2_with fail
    go_ret
    refine ⟨(HB2.out.drew.setCell 0 _), ⟨some ⟨b, o + k, none⟩, c - k, ?_, ?_, ?_, ?_⟩, rfl⟩
    · rw [Hdl.out]; exact two_set0 HR2.out _
    · have := Hdr2.out
      rw [if_neg hck] at this
      exact sl_setR this 0 _
    · rw [Hdl.out]; omega
    · rw [Hdl.out]; exact ⟨by omega, by omega⟩

set_option maxRecDepth 100000 in
set_option maxHeartbeats 400000 in
theorem takeS_skip (r e0 : Nat) (l : Bytes) (w : World) (he : e0 ≠ 0) (Hr : Hid (RdM r l e0 w)) : Calls Tryz.prog 69 #[.pointer (some ⟨r, 0, none⟩), .func (.func 70) #[] #[]] w (ValR (.string ⟨#[]⟩) w) := by
  obtain ⟨A, c, hrow, -⟩ := Hr.out
  obtain ⟨z0, z1, -⟩ := two_cells hrow
  have q1 : ((e0 : Int) != 0) = true := by rw [bne_iff_ne]; omega
  unfold errI at z1
  clear hrow he
  go_enter Tryz.func69, Tryz.ntmps69
  go_wp2_with fail
  go_ret
  exact ⟨rfl, rfl⟩
set_option maxRecDepth 100000 in
set_option maxHeartbeats 400000 in
theorem takeS_bad (r er : Nat) (l : Bytes) (w : World) (hx : getBytesB l = .error er) (Hr : Hid (RdM r l 0 w)) : Calls Tryz.prog 69 #[.pointer (some ⟨r, 0, none⟩), .func (.func 70) #[] #[]] w fun e w' => e = .returned (.string ⟨#[]⟩) ∧ RB r w w' ∧ RdM r l er w' := by
  obtain ⟨A, c, hrow, hsl, hc, hl, hcm⟩ := Hr.out
  obtain ⟨z0, z1, y0, y1⟩ := two_cells hrow
  have hlt := (Array.getElem?_eq_some_iff.1 hrow).1
  have hg := getbytes_any l A c w hl hc hcm (hsl.more (Nat.le_of_lt hlt))
  rw [hx] at hg
  have Hg := Lib.hid hg
  have he := getBytes_err hx
  have q1 : ((er : Int) == 0) = false := bne_int (by omega)
  have Hrow := Lib.hid hrow
  have Hsl := Lib.hid hsl
  have Hcl := Lib.hid (And.intro hc (And.intro hl hcm))
  obtain ⟨m, hm⟩ : ∃ m, m = l.length := ⟨_, rfl⟩
  rw [← hm] at z0 Hg Hrow Hcl
  have Hm := Lib.hid hm
  unfold errI at z1
  clear hrow hg he hsl hc hl hm hx hcm
  go_enter Tryz.func69, Tryz.ntmps69
  go_wp2_with fail
  refine Hg.out.mono ?_
  unfold GetBytesR gotS strV errI
  rintro e w1 ⟨rfl, hw⟩
  obtain rfl := hw.symm
  go_wp2_with fail
  go_ret
  refine ⟨rfl, (RB.refl _ _).setCell 1 _, A, c, ?_, sl_setR Hsl.out 1 _, ?_, ?_⟩
  · rw [← Hm.out]; exact two_set1 Hrow.out _
  · rw [← Hm.out]; exact Hcl.out.1
  · rw [← Hm.out]; exact Hcl.out.2

set_option maxRecDepth 100000 in
set_option maxHeartbeats 1000000 in
theorem takeS_ok (r : Nat) (l : Bytes) (x : Bytes) (k : Nat) (w : World) (hx : getBytesB l = .ok (x, k)) (Hr : Hid (RdM r l 0 w)) : Calls Tryz.prog 69 #[.pointer (some ⟨r, 0, none⟩), .func (.func 70) #[] #[]] w fun e w' => RB r w w' ∧ RdM r (l.drop k) 0 w' ∧ e = .returned (.string ⟨x.toArray⟩) := by
  obtain ⟨A, c, hrow, hsl, hc, hl, hcm⟩ := Hr.out
  have hlt := (Array.getElem?_eq_some_iff.1 hrow).1
  have hg := getbytes_any l A c w hl hc hcm (hsl.more (Nat.le_of_lt hlt))
  rw [hx] at hg
  have Hg := Lib.hid hg
  obtain ⟨hk1, hkl⟩ := getBytes_pos hx
  obtain ⟨c0, hc0⟩ : ∃ y, l[0]? = some y := ⟨l[0]'(by omega), List.getElem?_eq_getElem _⟩
  obtain ⟨b, o, hA, -, -⟩ := byte_at hsl hc0
  subst hA
  have hdr := sl_from hsl hkl hc
  have Hdr := Lib.hid hdr
  have Hrow := Lib.hid hrow
  obtain ⟨m, hm⟩ : ∃ m, m = l.length := ⟨_, rfl⟩
  have Hdl : Hid ((l.drop k).length = m - k) := by show _ = _; rw [List.length_drop, hm]
  rw [← hm] at Hg Hrow hc hl hkl
  obtain ⟨z0, z1, y0, y1⟩ := two_cells Hrow.out
  unfold errI at z1
  clear hrow hg hsl hx hm hdr hc0 c0
  go_enter Tryz.func69, Tryz.ntmps69
  go_wp2_with fail
  refine Hg.out.mono ?_
  unfold GetBytesR gotS strV
  rintro e w1 ⟨rfl, hw⟩
  obtain rfl := hw.symm
  obtain ⟨W2, hW2⟩ : ∃ W, W = w.setCell ⟨r, 1, none⟩ (.int .i64 0) := ⟨_, rfl⟩
  have HR2 : Hid (W2.heap[r]? = some (.cells #[.slice (some ⟨b, o, none⟩) m c, .int .i64 0] 95)) := by rw [hW2]; exact two_set1 Hrow.out _
  have HB2 : Hid (RB r w W2) := by rw [hW2]; exact (RB.refl _ _).setCell 1 _
  have Hdr2 : Hid (Sl W2 r (some ⟨b, if c = k then o else o + k, none⟩) (Lib.byteCells (l.drop k))) := by rw [hW2]; exact sl_setR Hdr.out 1 _
  by_cases hck : c = k
  · subst hck
    obtain rfl : m = c := by omega
    go_upto_region 6 with fail
    rw [← hW2]
    clear hW2 z0 z1 y0 y1
    obtain ⟨z0, z1, y0, y1⟩ := two_cells HR2.out
    go_region
    clear z0 z1 y0 y1
    go_wp2_with fail
    go_ret
    refine ⟨(HB2.out.drew.setCell 0 _), ⟨some ⟨b, o, none⟩, 0, ?_, ?_, ?_, ?_⟩, rfl⟩
    · rw [Hdl.out, Nat.sub_self]; exact two_set0 HR2.out _
    · have := Hdr2.out
      simp only [if_true] at this
      exact sl_setR this 0 _
    · rw [Hdl.out, Nat.sub_self]; exact Nat.le_refl _
    · rw [Hdl.out]; exact ⟨by omega, by omega⟩
  · go_upto_region 6 with fail
    rw [← hW2]
    clear hW2 z0 z1 y0 y1
    obtain ⟨z0, z1, y0, y1⟩ := two_cells HR2.out
    go_region
    clear z0 z1 y0 y1
    go_wp2_with fail
    go_ret
    refine ⟨(HB2.out.drew.setCell 0 _), ⟨some ⟨b, o + k, none⟩, c - k, ?_, ?_, ?_, ?_⟩, rfl⟩
    · rw [Hdl.out]; exact two_set0 HR2.out _
    · have := Hdr2.out
      rw [if_neg hck] at this
      exact sl_setR this 0 _
    · rw [Hdl.out]; omega
    · rw [Hdl.out]; exact ⟨by omega, by omega⟩

set_option maxRecDepth 100000 in
set_option maxHeartbeats 400000 in
theorem takeL_skip (r e0 : Nat) (l : Bytes) (w : World) (he : e0 ≠ 0) (Hr : Hid (RdM r l e0 w)) : Calls Tryz.prog 64 #[.pointer (some ⟨r, 0, none⟩), .func (.func 65) #[] #[]] w (ValR (.slice none 0 0) w) := by
  obtain ⟨A, c, hrow, -⟩ := Hr.out
  obtain ⟨z0, z1, -⟩ := two_cells hrow
  have q1 : ((e0 : Int) != 0) = true := by rw [bne_iff_ne]; omega
  unfold errI at z1
  clear hrow he
  go_enter Tryz.func64, Tryz.ntmps64
  go_wp2_with fail
  go_ret
  exact ⟨rfl, rfl⟩
set_option maxRecDepth 100000 in
set_option maxHeartbeats 400000 in
theorem takeL_bad (r er : Nat) (l : Bytes) (w : World) (hx : getIntsB l = .error er) (Hr : Hid (RdM r l 0 w)) : Calls Tryz.prog 64 #[.pointer (some ⟨r, 0, none⟩), .func (.func 65) #[] #[]] w fun e w' => e = .returned (.slice none 0 0) ∧ RB r w w' ∧ RdM r l er w' := by
  obtain ⟨A, c, hrow, hsl, hc, hl, hcm⟩ := Hr.out
  obtain ⟨z0, z1, y0, y1⟩ := two_cells hrow
  have hlt := (Array.getElem?_eq_some_iff.1 hrow).1
  have hg := getints_any l A c w hl hc (hsl.more (Nat.le_of_lt hlt))
  rw [hx] at hg
  have Hg := Lib.hid hg
  have he := getInts_err hx
  have q1 : ((er : Int) == 0) = false := bne_int (by omega)
  have Hrow := Lib.hid hrow
  have Hsl := Lib.hid hsl
  have Hcl := Lib.hid (And.intro hc (And.intro hl hcm))
  obtain ⟨m, hm⟩ : ∃ m, m = l.length := ⟨_, rfl⟩
  rw [← hm] at z0 Hg Hrow Hcl
  have Hm := Lib.hid hm
  unfold errI at z1
  clear hrow hg he hsl hc hl hm hx hcm
  go_enter Tryz.func64, Tryz.ntmps64
  go_wp2_with fail
  refine Hg.out.mono ?_
  unfold GetIntsR errI
  rintro e w1 ⟨hb1, rfl⟩
  have hrow1 : w1.heap[r]? = _ := (hb1.block r hlt).trans Hrow.out
  obtain ⟨z0', z1', y0', y1'⟩ := two_cells hrow1
  have HB1 := Lib.hid hb1
  have Hrow1 := Lib.hid hrow1
  clear hb1 hrow1 z0 z1 y0 y1
  go_wp2_with fail
  go_ret
  refine ⟨rfl, (RB.of_below HB1.out).setCell 1 _, A, c, ?_, sl_setR (Hsl.out.keep fun p hp => HB1.out.cell (Nat.lt_trans hp hlt)) 1 _, ?_, ?_⟩
  · rw [← Hm.out]; exact two_set1 Hrow1.out _
  · rw [← Hm.out]; exact Hcl.out.1
  · rw [← Hm.out]; exact Hcl.out.2

set_option maxRecDepth 100000 in
set_option maxHeartbeats 1000000 in
theorem takeL_ok (r : Nat) (l : Bytes) (x : List Int) (k : Nat) (w : World) (hx : getIntsB l = .ok (x, k)) (Hr : Hid (RdM r l 0 w)) : Calls Tryz.prog 64 #[.pointer (some ⟨r, 0, none⟩), .func (.func 65) #[] #[]] w fun e w' => RB r w w' ∧ RdM r (l.drop k) 0 w' ∧ ∃ A2 c2, e = .returned (.slice A2 x.length c2) ∧ w'.ownsRow w.heap.size 3 1 (.slice A2 x.length c2) x.length (x.map intC) := by
  obtain ⟨A, c, hrow, hsl, hc, hl, hcm⟩ := Hr.out
  have hlt := (Array.getElem?_eq_some_iff.1 hrow).1
  have hg := getints_any l A c w hl hc (hsl.more (Nat.le_of_lt hlt))
  rw [hx] at hg
  have Hg := Lib.hid hg
  obtain ⟨hk1, hkl⟩ := getInts_pos hx
  obtain ⟨c0, hc0⟩ : ∃ y, l[0]? = some y := ⟨l[0]'(by omega), List.getElem?_eq_getElem _⟩
  obtain ⟨b, o, hA, -, -⟩ := byte_at hsl hc0
  subst hA
  have hdr := sl_from hsl hkl hc
  have Hdr := Lib.hid hdr
  have Hrow := Lib.hid hrow
  obtain ⟨m, hm⟩ : ∃ m, m = l.length := ⟨_, rfl⟩
  have Hdl : Hid ((l.drop k).length = m - k) := by show _ = _; rw [List.length_drop, hm]
  rw [← hm] at Hg Hrow hc hl hkl
  obtain ⟨z0, z1, y0, y1⟩ := two_cells Hrow.out
  unfold errI at z1
  clear hrow hg hsl hx hm hdr hc0 c0
  go_enter Tryz.func64, Tryz.ntmps64
  go_wp2_with fail
  refine Hg.out.mono ?_
  unfold GetIntsR
  rintro e w1 ⟨hb1, A2, c2, rfl, hown⟩
  have hrow1 : w1.heap[r]? = _ := (hb1.block r hlt).trans Hrow.out
  obtain ⟨z0', z1', y0', y1'⟩ := two_cells hrow1
  obtain ⟨W2, hW2⟩ : ∃ W, W = w1.setCell ⟨r, 1, none⟩ (.int .i64 0) := ⟨_, rfl⟩
  have HR2 : Hid (W2.heap[r]? = some (.cells #[.slice (some ⟨b, o, none⟩) m c, .int .i64 0] 95)) := by rw [hW2]; exact two_set1 hrow1 _
  have HB2 : Hid (RB r w W2) := by rw [hW2]; exact (RB.of_below hb1).setCell 1 _
  have Hdr2 : Hid (Sl W2 r (some ⟨b, if c = k then o else o + k, none⟩) (Lib.byteCells (l.drop k))) := by rw [hW2]; exact sl_setR (Hdr.out.keep fun p hp => hb1.cell (Nat.lt_trans hp hlt)) 1 _
  have HO2 : Hid (W2.ownsRow w.heap.size 3 1 (.slice A2 x.length c2) x.length (x.map intC)) := by rw [hW2]; exact own_rb_lt hown ((RB.refl _ _).setCell 1 _) hlt
  obtain ⟨nx, hnx⟩ : ∃ n, n = x.length := ⟨_, rfl⟩
  rw [← hnx] at HO2 ⊢
  have Hnx := Lib.hid hnx
  clear hb1 hown hrow1 z0 z1 y0 y1 hnx
  by_cases hck : c = k
  · subst hck
    obtain rfl : m = c := by omega
    go_upto_region 6 with fail
    rw [← hW2]
    clear hW2 z0' z1' y0' y1'
    obtain ⟨z0, z1, y0, y1⟩ := two_cells HR2.out
    go_region
    clear z0 z1 y0 y1
    go_wp2_with fail
    go_ret
    refine ⟨(HB2.out.drew.setCell 0 _), ⟨some ⟨b, o, none⟩, 0, ?_, ?_, ?_, ?_⟩, by rw [Hnx.out] at HO2 ⊢; exact ⟨A2, c2, rfl, own_rb_lt HO2.out ((RB.refl _ _).setCell 0 _).drew hlt⟩⟩
    · rw [Hdl.out, Nat.sub_self]; exact two_set0 HR2.out _
    · have := Hdr2.out
      simp only [if_true] at this
      exact sl_setR this 0 _
    · rw [Hdl.out, Nat.sub_self]; exact Nat.le_refl _
    · rw [Hdl.out]; exact ⟨by omega, by omega⟩
  · go_upto_region 6 with fail
    rw [← hW2]
    clear hW2 z0' z1' y0' y1'
    obtain ⟨z0, z1, y0, y1⟩ := two_cells HR2.out
    go_region
    clear z0 z1 y0 y1
    go_wp2_with fail
    go_ret
    refine ⟨(HB2.out.drew.setCell 0 _), ⟨some ⟨b, o + k, none⟩, c - k, ?_, ?_, ?_, ?_⟩, by rw [Hnx.out] at HO2 ⊢; exact ⟨A2, c2, rfl, own_rb_lt HO2.out ((RB.refl _ _).setCell 0 _).drew hlt⟩⟩
    · rw [Hdl.out]; exact two_set0 HR2.out _
    · have := Hdr2.out
      rw [if_neg hck] at this
      exact sl_setR this 0 _
    · rw [Hdl.out]; omega
    · rw [Hdl.out]; exact ⟨by omega, by omega⟩

set_option maxRecDepth 100000 in
theorem demand_any (r e0 : Nat) (l : Bytes) (p : Bool) (w : World) (he : e0 ≤ 100) (Hr : Hid (RdM r l e0 w)) : Calls Tryz.prog 66 #[.pointer (some ⟨r, 0, none⟩), .bool p] w fun e w' => e = .returned (.tuple #[]) ∧ RB r w w' ∧ RdM r l (if e0 = 0 ∧ p = false then 6 else e0) w' := by
  obtain ⟨A, c, hrow, hsl, hc⟩ := Hr.out
  obtain ⟨z0, z1, y0, y1⟩ := two_cells hrow
  have Hrow := Lib.hid hrow
  have Hsl := Lib.hid hsl
  have Hc := Lib.hid hc
  obtain ⟨m, hm⟩ : ∃ m, m = l.length := ⟨_, rfl⟩
  rw [← hm] at z0 Hrow Hc
  have Hm := Lib.hid hm
  unfold errI at z1
  by_cases h0 : e0 = 0
  · subst h0
    cases p with
    | false =>
      clear hrow hsl hc hm
      go_enter Tryz.func66, Tryz.ntmps66
      go_wp2_with fail
      go_end0
      refine ⟨rfl, (RB.refl _ _).setCell 1 _, A, c, ?_, sl_setR Hsl.out 1 _, ?_⟩
      · rw [← Hm.out]; exact two_set1 Hrow.out _
      · rw [← Hm.out]; exact Hc.out
    | true =>
      clear hrow hsl hc hm
      go_enter Tryz.func66, Tryz.ntmps66
      go_wp2_with fail
      go_end0
      exact ⟨rfl, RB.refl _ _, by first | exact Hr.out | (rw [if_neg (by simp)]; exact Hr.out)⟩
  · have q1 : ((e0 : Int) == 0) = false := bne_int (by omega)
    clear hrow hsl hc hm
    go_enter Tryz.func66, Tryz.ntmps66
    go_wp2_with fail
    go_end0
    exact ⟨rfl, RB.refl _ _, by first | exact Hr.out | (rw [if_neg (fun h => h0 h.1)]; exact Hr.out)⟩
end Go.Proofs.YtdfhbnfhkckkbaaGreatDoor
