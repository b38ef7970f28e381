/-
  The walk of tree's node.clear: what it returns and what it leaves in memory, for every mapped block and every level up to 2.
-/
import Derived.Test.YtognbkmamhgkeaaDoorW1
import Derived.Test.YtognbkmamhgkeaaDoorMc
namespace Go.Proofs.YtognbkmamhgkeaaDoor
open Go Go.RowKit

theorem andNot_bit (has i : Nat) (hl : has < 65536) (hi : i < 16) : bits .andNot .u16 (has : Int) (IntKind.u16.wrap (2 ^ i)) = ((without has i : Nat) : Int) := by
  rw [wrap_pow i hi]
  have h1 : (2 : Nat) ^ i < 2 ^ 16 := Nat.pow_lt_pow_right (by omega) hi
  have ha : has % 2 ^ 16 = has := Nat.mod_eq_of_lt hl
  have hb : 2 ^ i % 2 ^ 16 = 2 ^ i := Nat.mod_eq_of_lt h1
  have hw := without_lt has i hl
  have e : bits .andNot .u16 (has : Int) ((2 ^ i : Nat) : Int) = IntKind.u16.wrap ((without has i : Nat) : Int) := by
    have e2 : (BitVec.ofNat IntKind.u16.bits has &&& ~~~BitVec.ofNat IntKind.u16.bits (2 ^ i)).toNat = without has i := by
      rw [BitVec.toNat_and, BitVec.toNat_not, BitVec.toNat_ofNat, BitVec.toNat_ofNat]
      show has % 2 ^ 16 &&& (2 ^ 16 - 1 - 2 ^ i % 2 ^ 16) = _
      rw [ha, hb]; rfl
    simp only [bits, BitVec.ofInt_natCast, e2]
  rw [e]
  generalize without has i = z at hw
  show (z : Int) % 65536 = z
  omega


def ClrPost (w : World) (T : TV) (L q b : Nat) (e : Ending) (w' : World) : Prop :=
  e = .returned (ptrV ((T.clr w.heap.size L b).adr L q)) ∧ Below w.heap.size w w' ∧ w'.heap.size = w.heap.size + (L + 1) ∧ Sub w' (T.clr w.heap.size L b) L q

set_option maxHeartbeats 400000 in
theorem clr0_some (T : TV) (q b g has : Nat) (w : World) (cs : Array Value) (hb2 : b < 4096) (hq : b / 16 = q) (Hr : Hid (w.heap[g]? = some (.cells cs 76))) (Ho : Hid (OldRow T 0 q has cs)) :
    Calls Tryd.prog 34 #[.pointer (some ⟨g, 0, none⟩), .int .i64 0, .int .i64 b] w (ClrPost w T 0 q b) := by
  have Hq := Lib.hid hq
  clear hq
  go_enter Tryd.func34, Tryd.ntmps34
  go_wp2_with (first | (refine wpList_alloc76 rfl rfl ?_) | (refine wpList_load76 rfl _ rfl _ rfl _ _ _ Hr.out Ho.out.1.size ?_) | (refine wpList_store76 rfl _ _ rfl rfl _ rfl _ rfl _ _ (heap_alloc_new _ _) zeroNode_size Ho.out.1.size Ho.out.1.one ?_; rw [setRow_alloc _ _ _ _ _ rfl]))
  refine (slot_any 0 _ _ (by omega) (by omega)).mono ?_
  rintro e w' ⟨rfl, rfl⟩
  obtain ⟨i, hi, hi16⟩ := hid_mod b 0
  rw [← hi]
  have Hi := Lib.hid hi
  clear hi
  have hc := Ho.out.1.cc i hi16
  have h0 := (Ho.out.1.setCh i hi16 0).c0
  go_wp2_with fail
  go_region
  rw [andNot_bit _ _ Ho.out.1.lt hi16]
  have h0' := ((Ho.out.1.setCh i hi16 0).setHas (without_lt has i Ho.out.1.lt)).c0
  have hend := Lib.hid (clr0_end (w' := (w.alloc (.cells ((cs.setIfInBounds (17 + i) (.int .i64 0)).setIfInBounds 0 (.int .u16 ((without has i : Nat) : Int))) 76)).drew) Ho.out Hq.out Hi.out (fun _ => heap_alloc_new _ _))
  by_cases hz : without has i = 0
  · have hz' : (((without has i : Nat) : Int) == 0) = true := by simp [hz]
    have Hz := Lib.hid hz
    clear hz
    go_wp2_with fail
    go_ret
    exact ⟨by rw [hend.out.1, if_pos Hz.out]; rfl, ((Below.refl _ _).alloc (Nat.le_refl _) _).drew, by simp, hend.out.2⟩
  · have hz' : (((without has i : Nat) : Int) == 0) = false := by simp [hz]
    have Hz := Lib.hid hz
    clear hz
    go_wp2_with fail
    go_ret
    exact ⟨by rw [hend.out.1, if_neg Hz.out]; rfl, ((Below.refl _ _).alloc (Nat.le_refl _) _).drew, by simp, hend.out.2⟩

theorem clr0_any (T : TV) (q b : Nat) (w : World) (hb2 : b < 4096) (hq : b / 16 = q) (hsub : Sub w T 0 q) (hm : (T.m b).isSome = true) :
    Calls Tryd.prog 34 #[ptrV (T.adr 0 q), .int .i64 0, .int .i64 b] w (ClrPost w T 0 q b) := by
  have hs := hsub.iff.2 ⟨b, by simpa using hq, hm⟩
  cases hadr : T.adr 0 q with
  | none => rw [hadr] at hs; cases hs
  | some g =>
    obtain ⟨has, cs, hrow, _, hold⟩ := oldRow_some hsub.nd hadr
    exact clr0_some T q b g has w cs hb2 hq hrow hold

set_option maxHeartbeats 600000 in
theorem clrS_some (T : TV) (L q b g has : Nat) (w : World) (cs : Array Value) (hL : L < 2) (hb2 : b < 4096) (hq : b / 16 ^ (L + 2) = q) (Hr : Hid (w.heap[g]? = some (.cells cs 76))) (Ho : Hid (OldRow T (L + 1) q has cs))
    (Hk : Hid (∀ j, j < 16 → Sub w T L (16 * q + j))) (Hm : Hid (ne T.m L (b / 16 ^ (L + 1))))
    (ih : Hid (∀ (w : World) (q : Nat), b / 16 ^ (L + 1) = q → Sub w T L q → Calls Tryd.prog 34 #[ptrV (T.adr L q), .int .i64 L, .int .i64 b] w (ClrPost w T L q b))) :
    Calls Tryd.prog 34 #[.pointer (some ⟨g, 0, none⟩), .int .i64 ((L + 1 : Nat) : Int), .int .i64 b] w (ClrPost w T (L + 1) q b) := by
  have Hq := Lib.hid hq
  clear hq
  have hL0 : (((L + 1 : Nat) : Int) == 0) = false := by simp; omega
  go_enter Tryd.func34, Tryd.ntmps34
  go_wp2_with (first | (refine wpList_alloc76 rfl rfl ?_) | (refine wpList_load76 rfl _ rfl _ rfl _ _ _ Hr.out Ho.out.1.size ?_) | (refine wpList_store76 rfl _ _ rfl rfl _ rfl _ rfl _ _ (heap_alloc_new _ _) zeroNode_size Ho.out.1.size Ho.out.1.one ?_; rw [setRow_alloc _ _ _ _ _ rfl]))
  refine (slot_any (L + 1) _ _ (by omega) (by omega)).mono ?_
  rintro e w' ⟨rfl, rfl⟩
  obtain ⟨i, hi, hi16⟩ := hid_mod b (L + 1)
  rw [← hi]
  have Hi := Lib.hid hi
  clear hi
  have hk := Ho.out.1.ck i hi16
  go_wp2_with fail
  have hq1 : b / 16 ^ (L + 1) = 16 * q + i := by
    have h1 := Hq.out; have h2 := Hi.out
    rw [show L + 2 = (L + 1) + 1 by omega, div_succ] at h1; omega
  have hbl0 : Below w.heap.size w (w.alloc (.cells cs 76)) := (Below.refl _ _).alloc (Nat.le_refl _) _
  refine (ih.out _ (16 * q + i) hq1 ((Hk.out i hi16).below hbl0)).mono ?_
  rintro e w2 ⟨rfl, hbl, hsz, hsub2⟩
  simp only [World.size_alloc] at hsz hsub2 ⊢
  have hrow2 : w2.heap[w.heap.size]? = some (.cells cs 76) := (hbl.block _ (by simp)).trans (heap_alloc_new _ _)
  have hc2 : w2.cell? ⟨w.heap.size, 1 + i, none⟩ = some (ptrV (kid T (L + 1) (16 * q + i))) := by rw [cell_of_row _ _ _ _ _ _ hrow2]; exact hk
  have hf2 : w2.frozen? ⟨w.heap.size, 1 + i, none⟩ = false := by simp [World.frozen?, hrow2]
  have hocc : occ T (L + 1) (16 * q + i) = true := (Hk.out i hi16).iff.2 (by have := Hm.out; rw [hq1] at this; exact this)
  have hs2 : ∀ u k, k ≠ w.heap.size → (w2.setCell ⟨w.heap.size, 1 + i, none⟩ u).heap[k]? = w2.heap[k]? := fun u k hk => Below.heap_setCell _ _ _ _ hk
  have hbelow : Below w.heap.size w w2 := hbl0.trans (hbl.mono (by simp))
  have hrow3 : ∀ u, (w2.setCell ⟨w.heap.size, 1 + i, none⟩ u).heap[w.heap.size]? = some (.cells (cs.setIfInBounds (1 + i) u) 76) := by
    intro u; simp [World.setCell, Array.getElem?_modify, hrow2]
  have hkids : ∀ w3 : World, (∀ k, k ≠ w.heap.size → w3.heap[k]? = w2.heap[k]?) → ∀ j, j < 16 → Sub w3 (T.clr w.heap.size (L + 1) b) L (16 * q + j) :=
    fun w3 h3 => clrS_kids rfl hq1 Hk.out hsub2 (fun k hk => by rw [h3 k (by omega)]; exact hbelow.block k hk) (fun k hk => h3 k (by omega)) (fun k hk => h3 k (by omega))
  have hc3 : ∀ u, (w2.setCell ⟨w.heap.size, 1 + i, none⟩ u).cell? ⟨w.heap.size, 1 + i, none⟩ = some u := fun u => World.cell?_setCell_same _ _ _ hc2
  cases hx : (T.clr (w.heap.size + 1) L b).adr L (16 * q + i) with
  | some x =>
    have hend := Lib.hid (clrS_end_kid Ho.out Hq.out hq1 hi16 hocc (hkids _ (hs2 _)) x hx (hrow3 _))
    have hc4 := hc3 (.pointer (some ⟨x, 0, none⟩))
    have Hbelow := Lib.hid hbelow
    have Hsz := Lib.hid hsz
    clear hbl hsz hsub2 hrow2 hbl0 hq1 hk hocc hs2 hrow3 hkids hc3 hx hbelow
    simp only [ptrV, padr_some]
    go_wp2_with fail
    go_ret
    exact ⟨by rw [hend.out.1]; rfl, Hbelow.out.setCell (Nat.le_refl _) _, by rw [World.size_setCell, Hsz.out]; omega, hend.out.2⟩
  | none =>
    have hc4 := hc3 (.pointer none)
    have h0 := (Ho.out.1.setKid i hi16 none).c0
    have hrow4 := hrow3 (.pointer none)
    have hc5 : (w2.setCell ⟨w.heap.size, 1 + i, none⟩ (.pointer none)).cell? ⟨w.heap.size, 0, none⟩ = some (.int .u16 has) := by rw [cell_of_row _ _ _ _ _ _ hrow4]; exact h0
    have hf5 : (w2.setCell ⟨w.heap.size, 1 + i, none⟩ (.pointer none)).frozen? ⟨w.heap.size, 0, none⟩ = false := by simp [World.frozen?, hrow4]
    have Hbelow := Lib.hid hbelow
    have Hsz := Lib.hid hsz
    have Hrow4 := Lib.hid hrow4
    have Hkids := Lib.hid hkids
    have Hs2 := Lib.hid (hs2 (.pointer none))
    have Hx := Lib.hid hx
    have Hq1 := Lib.hid hq1
    clear hbl hsz hsub2 hrow2 hbl0 hq1 hk hocc hs2 hrow3 hkids hc3 hx hbelow hrow4 h0
    simp only [ptrV, padr_none]
    go_wp2_with fail
    generalize hw4 : w2.setCell ⟨w.heap.size, 1 + i, none⟩ (.pointer none) = w4 at *
    go_region
    rw [andNot_bit _ _ Ho.out.1.lt hi16]
    have h0' := ((Ho.out.1.setKid i hi16 none).setHas (without_lt has i Ho.out.1.lt)).c0
    have hrow5 : (w4.setCell ⟨w.heap.size, 0, none⟩ (.int .u16 ((without has i : Nat) : Int))).heap[w.heap.size]? = some (.cells ((cs.setIfInBounds (1 + i) (.pointer none)).setIfInBounds 0 (.int .u16 ((without has i : Nat) : Int))) 76) := by
      have := Hrow4.out
      simp [World.setCell, Array.getElem?_modify, this]
    have hs5 : ∀ u k, k ≠ w.heap.size → (w4.setCell ⟨w.heap.size, 0, none⟩ u).heap[k]? = w4.heap[k]? := fun u k hk => Below.heap_setCell _ _ _ _ hk
    have hc6 : (w4.setCell ⟨w.heap.size, 0, none⟩ (.int .u16 ((without has i : Nat) : Int))).cell? ⟨w.heap.size, 0, none⟩ = some (.int .u16 ((without has i : Nat) : Int)) := by rw [cell_of_row _ _ _ _ _ _ hrow5]; exact h0'
    have hend := Lib.hid (clrS_end (w3 := (w4.setCell ⟨w.heap.size, 0, none⟩ (.int .u16 ((without has i : Nat) : Int))).drew) Ho.out Hq.out Hq1.out hi16 (Hkids.out _ (fun k hk => (hs5 _ k hk).trans (Hs2.out k hk))) Hx.out (fun _ => hrow5))
    have Hbel : Hid (Below w.heap.size w (w4.setCell ⟨w.heap.size, 0, none⟩ (.int .u16 ((without has i : Nat) : Int))).drew) := by
      have h4 : Below w.heap.size w w4 := by rw [← hw4]; exact Hbelow.out.setCell (Nat.le_refl _) _
      exact (h4.setCell (p := ⟨w.heap.size, 0, none⟩) (Nat.le_refl _) _).drew
    have Hsize : Hid (w4.heap.size = w.heap.size + 1 + (L + 1)) := by
      rw [← hw4, World.size_setCell]; exact Hsz.out
    clear hrow5 hs5 h0' hw4 hc2 hf2 hc4 hc5 hf5
    by_cases hz : without has i = 0
    · have hz' : (((without has i : Nat) : Int) == 0) = true := by simp [hz]
      have Hz := Lib.hid hz
      clear hz
      go_wp2_with fail
      go_ret
      exact ⟨by rw [hend.out.1, if_pos Hz.out]; rfl, Hbel.out, by simp only [World.size_drew, World.size_setCell]; rw [Hsize.out]; omega, hend.out.2⟩
    · have hz' : (((without has i : Nat) : Int) == 0) = false := by simp [hz]
      have Hz := Lib.hid hz
      clear hz
      go_wp2_with fail
      go_ret
      exact ⟨by rw [hend.out.1, if_neg Hz.out]; rfl, Hbel.out, by simp only [World.size_drew, World.size_setCell]; rw [Hsize.out]; omega, hend.out.2⟩

theorem clr_any : ∀ (L : Nat) (T : TV) (q b : Nat) (w : World), L ≤ 2 → b < 4096 → b / 16 ^ (L + 1) = q → Sub w T L q → (T.m b).isSome = true →
    Calls Tryd.prog 34 #[ptrV (T.adr L q), .int .i64 L, .int .i64 b] w (ClrPost w T L q b)
  | 0, T, q, b, w, _, hb2, hq, hsub, hm => clr0_any T q b w hb2 (by simpa using hq) hsub hm
  | L + 1, T, q, b, w, hL, hb2, hq, hsub, hm => by
    have hs := hsub.iff.2 ⟨b, hq, hm⟩
    cases hadr : T.adr (L + 1) q with
    | none => rw [hadr] at hs; cases hs
    | some g =>
      obtain ⟨has, cs, hrow, _, hold⟩ := oldRow_some hsub.nd hadr
      exact clrS_some T L q b g has w cs (by omega) hb2 hq hrow hold hsub.2 ⟨b, rfl, hm⟩ (fun w' q' hq' hs' => clr_any L T q' b w' (by omega) hb2 hq' hs' hm)
end Go.Proofs.YtognbkmamhgkeaaDoor
