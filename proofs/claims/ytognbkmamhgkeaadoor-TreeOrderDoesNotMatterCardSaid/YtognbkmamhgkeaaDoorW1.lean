/-
  The walks of tree's valid, slot and node.set: what each call returns and what it leaves in memory, for every block in range and every level up to 2.
-/
import Derived.Test.YtognbkmamhgkeaaDoorMs
namespace Go.Proofs.YtognbkmamhgkeaaDoor
open Go Go.RowKit

theorem ret_int {k : IntKind} {a b : Int} (h : a = b) : Ending.returned (.int k a) = .returned (.int k b) := by rw [h]

def vldB (b : Int) : Bool := decide (0 ≤ b ∧ b < 4096)

set_option maxHeartbeats 400000 in
theorem valid_any (b : Int) (w : World) :
    Calls Tryd.prog 32 #[.int .i64 b] w fun e w' => e = .returned (.bool (vldB b)) ∧ w = w' := by
  by_cases h0 : 0 ≤ b
  · by_cases h1 : b < 4096
    · go_enter Tryd.func32, Tryd.ntmps32
      go_wp2
      go_ret
      exact ⟨by simp [vldB, h0, h1], rfl⟩
    · go_enter Tryd.func32, Tryd.ntmps32
      go_wp2
      go_ret
      exact ⟨by simp [vldB, h1], rfl⟩
  · go_enter Tryd.func32, Tryd.ntmps32
    go_wp2
    go_ret
    exact ⟨by simp only [vldB]; rw [decide_eq_false (by omega)]; rfl, rfl⟩

theorem and15 (x : Nat) (h : x < 4096) : bits .and .i64 (x : Int) 15 = ((x % 16 : Nat) : Int) := by
  have := bits_mask .i64 12 (by decide) (fun n h0 h1 => by rw [IntKind.wrap_i64]; omega) 4 (by decide) (x : Int) (by omega) (by omega)
  simpa using this

set_option maxHeartbeats 400000 in
theorem slot_any (l b : Nat) (w : World) (h2 : l ≤ 2) (hb2 : b < 4096) :
    Calls Tryd.prog 37 #[.int .i64 l, .int .i64 b] w fun e w' => e = .returned (.int .i64 ((b / 16 ^ l % 16 : Nat) : Int)) ∧ w = w' := by
  have hl : l = 0 ∨ l = 1 ∨ l = 2 := by omega
  rcases hl with rfl | rfl | rfl
  · go_enter Tryd.func37, Tryd.ntmps37
    go_wp2
    go_ret
    exact ⟨ret_int (by rw [and15 b hb2]; simp), rfl⟩
  · go_enter Tryd.func37, Tryd.ntmps37
    go_wp2
    go_ret
    exact ⟨ret_int (by rw [show ((b : Int) / 16) = ((b / 16 : Nat) : Int) by omega, and15 _ (by omega)]), rfl⟩
  · go_enter Tryd.func37, Tryd.ntmps37
    go_wp2
    go_ret
    exact ⟨ret_int (by rw [show ((b : Int) / 256) = ((b / 256 : Nat) : Int) by omega, and15 _ (by omega)]), rfl⟩

theorem wrap_pow (i : Nat) (hi : i < 16) : IntKind.u16.wrap (2 ^ i) = ((2 ^ i : Nat) : Int) := by
  have h1 : (2 : Nat) ^ i < 2 ^ 16 := Nat.pow_lt_pow_right (by omega) hi
  have e : (2 : Int) ^ i = ((2 ^ i : Nat) : Int) := by simp
  rw [e]
  have h2 : ((2 ^ i : Nat) : Int) < 65536 := by omega
  have h3 : (0 : Int) ≤ ((2 ^ i : Nat) : Int) := Int.natCast_nonneg _
  generalize ((2 ^ i : Nat) : Int) = z at *
  show z % 65536 = z
  omega

theorem or_bit (has i : Nat) (hl : has < 65536) (hi : i < 16) : bits .or .u16 (has : Int) (IntKind.u16.wrap (2 ^ i)) = ((has ||| 2 ^ i : Nat) : Int) := by
  rw [wrap_pow i hi]
  have h1 : (2 : Nat) ^ i < 2 ^ 16 := Nat.pow_lt_pow_right (by omega) hi
  have := bits_nat .u16 16 (by decide) (fun n h0 h1 => by simp [IntKind.wrap, IntKind.bits, IntKind.signed]; omega) has (2 ^ i) hl h1
  exact this.2

def SetPost (w : World) (T : TV) (L q b : Nat) (c : Int) (e : Ending) (w' : World) : Prop :=
  e = .returned (.pointer (some ⟨w.heap.size, 0, none⟩)) ∧ Below w.heap.size w w' ∧ w'.heap.size = w.heap.size + (L + 1) ∧ Sub w' (T.set w.heap.size L b c) L q

theorem hid_mod (b l : Nat) : ∃ i, i = b / 16 ^ l % 16 ∧ i < 16 := ⟨_, rfl, Nat.mod_lt _ (by omega)⟩

set_option maxHeartbeats 400000 in
theorem set0_none (T : TV) (q b has : Nat) (c : Int) (w : World) (hb2 : b < 4096) (hq : b / 16 = q) (Ho : Hid (OldRow T 0 q has zeroNode)) :
    Calls Tryd.prog 33 #[.pointer none, .int .i64 0, .int .i64 b, .int .i64 c] w (SetPost w T 0 q b c) := by
  have Hq := Lib.hid hq
  clear hq
  go_enter Tryd.func33, Tryd.ntmps33
  go_wp2_with (first | (refine wpList_build76 rfl rfl ?_) | (refine wpList_alloc76 rfl rfl ?_) | (refine wpList_store76 rfl _ _ rfl rfl _ rfl _ rfl _ _ (heap_alloc_new _ _) zeroNode_size zeroNode_size zeroNode_one ?_; rw [setRow_alloc _ _ _ _ _ rfl]))
  refine (slot_any 0 _ _ (by omega) (by omega)).mono ?_
  rintro e w' ⟨rfl, rfl⟩
  obtain ⟨i, hi, hi16⟩ := hid_mod b 0
  rw [← hi]
  have Hi := Lib.hid hi
  clear hi
  have h0 := Ho.out.1.c0
  go_wp2_with fail
  go_region
  rw [or_bit _ _ Ho.out.1.lt hi16]
  have hn1 := (Ho.out.1.setHas (or_lt has i Ho.out.1.lt hi16)).cc i hi16
  go_wp2_with fail
  go_ret
  exact ⟨rfl, ((Below.refl _ _).alloc (Nat.le_refl _) _).drew, by simp, set0_end _ Ho.out Hq.out Hi.out (heap_alloc_new _ _)⟩

set_option maxHeartbeats 400000 in
theorem set0_some (T : TV) (q b g has : Nat) (c : Int) (w : World) (cs : Array Value) (hb2 : b < 4096) (hq : b / 16 = q) (hlt : g < w.heap.size) (Hr : Hid (w.heap[g]? = some (.cells cs 76))) (Ho : Hid (OldRow T 0 q has cs)) :
    Calls Tryd.prog 33 #[.pointer (some ⟨g, 0, none⟩), .int .i64 0, .int .i64 b, .int .i64 c] w (SetPost w T 0 q b c) := by
  have Hq := Lib.hid hq
  clear hq
  go_enter Tryd.func33, Tryd.ntmps33
  go_wp2_with (first | (refine wpList_build76 rfl rfl ?_) | (refine wpList_alloc76 rfl rfl ?_) | (refine wpList_load76 rfl _ rfl _ rfl _ _ _ (heap_alloc_lt Hr.out hlt) Ho.out.1.size ?_) | (refine wpList_store76 rfl _ _ rfl rfl _ rfl _ rfl _ _ (heap_alloc_new _ _) zeroNode_size (by first | exact zeroNode_size | exact Ho.out.1.size) (by first | exact zeroNode_one | exact Ho.out.1.one) ?_; rw [setRow_alloc _ _ _ _ _ rfl]))
  refine (slot_any 0 _ _ (by omega) (by omega)).mono ?_
  rintro e w' ⟨rfl, rfl⟩
  obtain ⟨i, hi, hi16⟩ := hid_mod b 0
  rw [← hi]
  have Hi := Lib.hid hi
  clear hi
  have h0 := Ho.out.1.c0
  go_wp2_with fail
  go_region
  rw [or_bit _ _ Ho.out.1.lt hi16]
  have hn1 := (Ho.out.1.setHas (or_lt has i Ho.out.1.lt hi16)).cc i hi16
  go_wp2_with fail
  go_ret
  exact ⟨rfl, ((Below.refl _ _).alloc (Nat.le_refl _) _).drew, by simp, set0_end _ Ho.out Hq.out Hi.out (heap_alloc_new _ _)⟩

theorem set0_any (T : TV) (q b : Nat) (c : Int) (w : World) (hb2 : b < 4096) (hq : b / 16 = q) (hsub : Sub w T 0 q) :
    Calls Tryd.prog 33 #[ptrV (T.adr 0 q), .int .i64 0, .int .i64 b, .int .i64 c] w (SetPost w T 0 q b c) := by
  cases hadr : T.adr 0 q with
  | none => exact set0_none T q b 0 c w hb2 hq (oldRow_nil hsub.nd hadr)
  | some g =>
    obtain ⟨has, cs, hrow, hlt, hold⟩ := oldRow_some hsub.nd hadr
    exact set0_some T q b g has c w cs hb2 hq hlt hrow hold

set_option maxHeartbeats 400000 in
theorem setS_some (T : TV) (L q b g has : Nat) (c : Int) (w : World) (cs : Array Value) (hL : L < 2) (hb2 : b < 4096) (hq : b / 16 ^ (L + 2) = q) (hlt : g < w.heap.size) (Hr : Hid (w.heap[g]? = some (.cells cs 76))) (Ho : Hid (OldRow T (L + 1) q has cs))
    (Hk : Hid (∀ j, j < 16 → Sub w T L (16 * q + j)))
    (ih : Hid (∀ (w : World) (q : Nat), b / 16 ^ (L + 1) = q → Sub w T L q → Calls Tryd.prog 33 #[ptrV (T.adr L q), .int .i64 L, .int .i64 b, .int .i64 c] w (SetPost w T L q b c))) :
    Calls Tryd.prog 33 #[.pointer (some ⟨g, 0, none⟩), .int .i64 ((L + 1 : Nat) : Int), .int .i64 b, .int .i64 c] w (SetPost w T (L + 1) q b c) := by
  have Hq := Lib.hid hq
  clear hq
  have hL0 : (((L + 1 : Nat) : Int) == 0) = false := by simp; omega
  go_enter Tryd.func33, Tryd.ntmps33
  go_wp2_with (first | (refine wpList_build76 rfl rfl ?_) | (refine wpList_alloc76 rfl rfl ?_) | (refine wpList_load76 rfl _ rfl _ rfl _ _ _ (heap_alloc_lt Hr.out hlt) Ho.out.1.size ?_) | (refine wpList_store76 rfl _ _ rfl rfl _ rfl _ rfl _ _ (heap_alloc_new _ _) zeroNode_size (by first | exact zeroNode_size | exact Ho.out.1.size) (by first | exact zeroNode_one | exact Ho.out.1.one) ?_; rw [setRow_alloc _ _ _ _ _ rfl]))
  refine (slot_any (L + 1) _ _ (by omega) (by omega)).mono ?_
  rintro e w' ⟨rfl, rfl⟩
  obtain ⟨i, hi, hi16⟩ := hid_mod b (L + 1)
  rw [← hi]
  have Hi := Lib.hid hi
  clear hi
  have h0 := Ho.out.1.c0
  go_wp2_with fail
  go_region
  rw [or_bit _ _ Ho.out.1.lt hi16]
  have hn1 := (Ho.out.1.setHas (or_lt has i Ho.out.1.lt hi16)).ck i hi16
  go_wp2_with fail
  have hq1 : b / 16 ^ (L + 1) = 16 * q + i := by
    have h1 := Hq.out; have h2 := Hi.out
    rw [show L + 2 = (L + 1) + 1 by omega, div_succ] at h1; omega
  have hbl0 : Below w.heap.size w (w.alloc (Obj.cells (cs.setIfInBounds 0 (Value.int IntKind.u16 ↑(has ||| 2 ^ i))) 76)).drew := ((Below.refl _ _).alloc (Nat.le_refl _) _).drew
  refine (ih.out _ (16 * q + i) hq1 ((Hk.out i hi16).below hbl0)).mono ?_
  rintro e w2 ⟨rfl, hbl, hsz, hsub2⟩
  have hrow2 : w2.heap[w.heap.size]? = some (.cells (cs.setIfInBounds 0 (Value.int IntKind.u16 ↑(has ||| 2 ^ i))) 76) := (hbl.block _ (by simp)).trans (heap_alloc_new _ _)
  have hc2 : w2.cell? ⟨w.heap.size, 1 + i, none⟩ = some (ptrV (kid T (L + 1) (16 * q + i))) := by rw [cell_of_row _ _ _ _ _ _ hrow2]; exact hn1
  have hf2 : w2.frozen? ⟨w.heap.size, 1 + i, none⟩ = false := by simp [World.frozen?, hrow2]
  have Hbl := Lib.hid hbl
  have Hsz := Lib.hid hsz
  have Hsub2 := Lib.hid hsub2
  have Hrow2 := Lib.hid hrow2
  clear hbl hsz hsub2 hrow2 hbl0 hq1 hn1 h0
  go_wp2_with fail
  go_ret
  refine ⟨rfl, ?_, ?_, ?_⟩
  · exact ((((Below.refl _ _).alloc (Nat.le_refl _) _).drew).trans (Hbl.out.mono (by simp))).setCell (Nat.le_refl _) _
  · have := Hsz.out; simp at this ⊢; omega
  · have hs := Hsub2.out
    simp only [World.size_drew, World.size_alloc] at hs
    have hs2 : ∀ k, k ≠ w.heap.size → (w2.setCell ⟨w.heap.size, 1 + i, none⟩ (.pointer (some ⟨w.heap.size + 1, 0, none⟩))).heap[k]? = w2.heap[k]? := fun k hk => Below.heap_setCell _ _ _ _ hk
    refine setS_end rfl Ho.out Hq.out Hi.out Hk.out hs (fun k hk => ?_) (fun k hk => hs2 k (by omega)) (fun k hk => hs2 k (by omega)) ?_
    · rw [hs2 k (by omega), Hbl.out.block k (by simp; omega)]
      exact Below.heap_alloc _ _ _ hk
    · have := Hrow2.out
      simp [World.setCell, Array.getElem?_modify, this]; rfl
set_option maxHeartbeats 400000 in
theorem setS_none (T : TV) (L q b has : Nat) (c : Int) (w : World) (hL : L < 2) (hb2 : b < 4096) (hq : b / 16 ^ (L + 2) = q) (Ho : Hid (OldRow T (L + 1) q has zeroNode))
    (Hk : Hid (∀ j, j < 16 → Sub w T L (16 * q + j)))
    (ih : Hid (∀ (w : World) (q : Nat), b / 16 ^ (L + 1) = q → Sub w T L q → Calls Tryd.prog 33 #[ptrV (T.adr L q), .int .i64 L, .int .i64 b, .int .i64 c] w (SetPost w T L q b c))) :
    Calls Tryd.prog 33 #[.pointer none, .int .i64 ((L + 1 : Nat) : Int), .int .i64 b, .int .i64 c] w (SetPost w T (L + 1) q b c) := by
  have Hq := Lib.hid hq
  clear hq
  have hL0 : (((L + 1 : Nat) : Int) == 0) = false := by simp; omega
  go_enter Tryd.func33, Tryd.ntmps33
  go_wp2_with (first | (refine wpList_build76 rfl rfl ?_) | (refine wpList_alloc76 rfl rfl ?_) | (refine wpList_store76 rfl _ _ rfl rfl _ rfl _ rfl _ _ (heap_alloc_new _ _) zeroNode_size zeroNode_size zeroNode_one ?_; rw [setRow_alloc _ _ _ _ _ rfl]))
  refine (slot_any (L + 1) _ _ (by omega) (by omega)).mono ?_
  rintro e w' ⟨rfl, rfl⟩
  obtain ⟨i, hi, hi16⟩ := hid_mod b (L + 1)
  rw [← hi]
  have Hi := Lib.hid hi
  clear hi
  have h0 := Ho.out.1.c0
  go_wp2_with fail
  go_region
  rw [or_bit _ _ Ho.out.1.lt hi16]
  have hn1 := (Ho.out.1.setHas (or_lt has i Ho.out.1.lt hi16)).ck i hi16
  go_wp2_with fail
  have hq1 : b / 16 ^ (L + 1) = 16 * q + i := by
    have h1 := Hq.out; have h2 := Hi.out
    rw [show L + 2 = (L + 1) + 1 by omega, div_succ] at h1; omega
  have hbl0 : Below w.heap.size w (w.alloc (Obj.cells (zeroNode.setIfInBounds 0 (Value.int IntKind.u16 ↑(has ||| 2 ^ i))) 76)).drew := ((Below.refl _ _).alloc (Nat.le_refl _) _).drew
  refine (ih.out _ (16 * q + i) hq1 ((Hk.out i hi16).below hbl0)).mono ?_
  rintro e w2 ⟨rfl, hbl, hsz, hsub2⟩
  have hrow2 : w2.heap[w.heap.size]? = some (.cells (zeroNode.setIfInBounds 0 (Value.int IntKind.u16 ↑(has ||| 2 ^ i))) 76) := (hbl.block _ (by simp)).trans (heap_alloc_new _ _)
  have hc2 : w2.cell? ⟨w.heap.size, 1 + i, none⟩ = some (ptrV (kid T (L + 1) (16 * q + i))) := by rw [cell_of_row _ _ _ _ _ _ hrow2]; exact hn1
  have hf2 : w2.frozen? ⟨w.heap.size, 1 + i, none⟩ = false := by simp [World.frozen?, hrow2]
  have Hbl := Lib.hid hbl
  have Hsz := Lib.hid hsz
  have Hsub2 := Lib.hid hsub2
  have Hrow2 := Lib.hid hrow2
  clear hbl hsz hsub2 hrow2 hbl0 hq1 hn1 h0
  go_wp2_with fail
  go_ret
  refine ⟨rfl, ?_, ?_, ?_⟩
  · exact ((((Below.refl _ _).alloc (Nat.le_refl _) _).drew).trans (Hbl.out.mono (by simp))).setCell (Nat.le_refl _) _
  · have := Hsz.out; simp at this ⊢; omega
  · have hs := Hsub2.out
    simp only [World.size_drew, World.size_alloc] at hs
    have hs2 : ∀ k, k ≠ w.heap.size → (w2.setCell ⟨w.heap.size, 1 + i, none⟩ (.pointer (some ⟨w.heap.size + 1, 0, none⟩))).heap[k]? = w2.heap[k]? := fun k hk => Below.heap_setCell _ _ _ _ hk
    refine setS_end rfl Ho.out Hq.out Hi.out Hk.out hs (fun k hk => ?_) (fun k hk => hs2 k (by omega)) (fun k hk => hs2 k (by omega)) ?_
    · rw [hs2 k (by omega), Hbl.out.block k (by simp; omega)]
      exact Below.heap_alloc _ _ _ hk
    · have := Hrow2.out
      simp [World.setCell, Array.getElem?_modify, this]; rfl

theorem set_any : ∀ (L : Nat) (T : TV) (q b : Nat) (c : Int) (w : World), L ≤ 2 → b < 4096 → b / 16 ^ (L + 1) = q → Sub w T L q →
    Calls Tryd.prog 33 #[ptrV (T.adr L q), .int .i64 L, .int .i64 b, .int .i64 c] w (SetPost w T L q b c)
  | 0, T, q, b, c, w, _, hb2, hq, hsub => set0_any T q b c w hb2 (by simpa using hq) hsub
  | L + 1, T, q, b, c, w, hL, hb2, hq, hsub => by
    cases hadr : T.adr (L + 1) q with
    | none => exact setS_none T L q b 0 c w (by omega) hb2 hq (oldRow_nil hsub.nd hadr) hsub.2 (fun w' q' hq' hs' => set_any L T q' b c w' (by omega) hb2 hq' hs')
    | some g =>
      obtain ⟨has, cs, hrow, hlt, hold⟩ := oldRow_some hsub.nd hadr
      exact setS_some T L q b g has c w cs (by omega) hb2 hq hlt hrow hold hsub.2 (fun w' q' hq' hs' => set_any L T q' b c w' (by omega) hb2 hq' hs')
end Go.Proofs.YtognbkmamhgkeaaDoor
