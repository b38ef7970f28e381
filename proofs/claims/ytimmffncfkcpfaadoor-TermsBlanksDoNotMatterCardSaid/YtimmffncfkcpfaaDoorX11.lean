/-
  The walk of spaced: other gaps in a text.
-/
import Derived.Test.YtimmffncfkcpfaaDoorX2
import Derived.Test.YtimmffncfkcpfaaDoorV4
namespace Go.Proofs.YtimmffncfkcpfaaDoor
open Go Go.RowKit Go.Walks

theorem weave_snoc1 {pk : Nat → Nat} {n k : Nat} {s : Bytes} {c : UInt8} (hk : s[k]? = some c) (hc : ¬ (c = 32 ∨ c = 10)) : weaveB pk n (s.drop k) = c :: weaveB pk n (s.drop (k + 1)) := by
  obtain ⟨h, rfl⟩ := List.getElem?_eq_some_iff.1 hk
  rw [List.drop_eq_getElem_cons h, weaveB, if_neg hc]
theorem weave_snoc2 {pk : Nat → Nat} {n k : Nat} {s : Bytes} {c : UInt8} (hk : s[k]? = some c) (hc : c = 32 ∨ c = 10) : weaveB pk n (s.drop k) = sepB (pk n) ++ weaveB pk (n + 1) (s.drop (k + 1)) := by
  obtain ⟨h, rfl⟩ := List.getElem?_eq_some_iff.1 hk
  rw [List.drop_eq_getElem_cons h, weaveB, if_pos hc]
theorem sep_len (k : Nat) : (sepB k).length ≤ 13 := by
  unfold sepB
  split <;> simp
theorem weave_len {pk : Nat → Nat} : ∀ (s : Bytes) (n : Nat), (weaveB pk n s).length ≤ 13 * s.length
  | [], n => Nat.zero_le _
  | c :: s, n => by
    rw [weaveB]
    split
    · have h1 := weave_len (pk := pk) s (n + 1)
      have h2 := sep_len (pk n)
      rw [List.length_append, List.length_cons]
      omega
    · have h1 := weave_len (pk := pk) s n
      rw [List.length_cons, List.length_cons]
      omega
def sn1 (l : Bytes) (c : UInt8) : Bytes := l ++ [c]
def sn2 (l : Bytes) (k : Nat) : Bytes := l ++ sepB k
def pickN (ch : List Nat) (n : Nat) : Nat := ch[n]?.getD 0 % 6
def seps6 : Array Value := #[strV (sepB 0), strV (sepB 1), strV (sepB 2), strV (sepB 3), strV (sepB 4), strV (sepB 5)]
theorem sep_cell {w : World} {g : Nat} {fz : TypeId} (h : w.heap[g]? = some (.cells seps6 fz)) (k : Nat) (hk : k < 6) : w.cell? ⟨g, k, none⟩ = some (strV (sepB k)) := by
  have : k = 0 ∨ k = 1 ∨ k = 2 ∨ k = 3 ∨ k = 4 ∨ k = 5 := by omega
  rcases this with rfl | rfl | rfl | rfl | rfl | rfl <;> simp [World.cell?, h, seps6]

set_option maxRecDepth 100000 in
set_option maxHeartbeats 4000000 in
theorem spaced_any (tx : Bytes) (ch : List Nat) (B : Option Addr) (c0 : Nat) (w : World) (htx : tx.length ≤ 2000) (Hch : Hid (Sl w w.heap.size B (ch.map fun n : Nat => .int .u8 (n : Int)))) (H255 : Hid (∀ n ∈ ch, n ≤ 255)) :
    Calls Tryd.prog 16 #[.string ⟨tx.toArray⟩, .slice B ch.length c0] w fun e w' => e = .returned (strV (weaveB (pickN ch) 0 tx)) ∧ Below w.heap.size w w' := by
  obtain ⟨t, ht⟩ : ∃ t : ByteArray, t = ⟨tx.toArray⟩ := ⟨_, rfl⟩
  have htl : t.data.toList = tx := by rw [ht]
  have hts : t.size = tx.length := by rw [Lib.size_eq, htl]
  rw [← ht]
  have HWL := Lib.hid (weave_len (pk := pickN ch) tx 0)
  have HTL := Lib.hid htl
  have HTS := Lib.hid hts
  have HTX := Lib.hid htx
  obtain ⟨W1, hW1⟩ : ∃ W, W = w.alloc (.cells seps6 9) := ⟨_, rfl⟩
  have HB1 : Hid (Below w.heap.size w W1) := by rw [hW1]; exact (Below.refl _ _).alloc (Nat.le_refl _) _
  have HR1 : Hid (W1.heap[w.heap.size]? = some (.cells seps6 9)) := by rw [hW1]; exact heap_new _ _
  have htz : t.size ≤ 2000 := by omega
  clear ht htl hts htx
  go_enter Tryd.func16, Tryd.ntmps16
  go_wp2_with fail
  go_loopg [6, 7, 8] tx.length (fun g s6 s7 s8 wr => ∃ (k n : Nat) (l : Bytes), s6 = .string ⟨l.toArray⟩ ∧ s7 = .int .i64 (n : Int) ∧ s8 = .int .i64 (k : Int) ∧ g = tx.length - k ∧ k ≤ tx.length ∧ n ≤ k ∧ wr = W1 ∧ Hid (weaveB (pickN ch) 0 tx = l ++ weaveB (pickN ch) n (tx.drop k)))
  case atStart => exact ⟨0, 0, [], rfl, rfl, rfl, rfl, Nat.zero_le _, Nat.le_refl _, hW1.symm, rfl⟩
  case round =>
    obtain ⟨k, n, l, rfl, rfl, rfl, hg, hk, hnk, rfl, HW⟩ := hrel
    have Hgk := Lib.hid hg
    have HTX2 := HTX.out
    have HTS2 := HTS.out
    clear hg hW1
    by_cases hlt : k < tx.length
    · have hI1 : (0 : Int) ≤ (k : Int) := by omega
      have hI2 : (k : Int) < (t.size : Int) := by omega
      have hks : k < t.size := by omega
      obtain ⟨c, hc⟩ : ∃ c, t[k] = c := ⟨_, rfl⟩
      have hget : tx[k]? = some c := by rw [← HTL.out, byte_get hks, hc]
      have Hget := Lib.hid hget
      have hll : l.length ≤ 26000 := by
        have h1 := HWL.out
        rw [HW.out, List.length_append] at h1
        omega
      have hsl : t.extract k (k + 1) = ⟨#[c]⟩ := by
        apply bytes_ext
        rw [Lib.extract_data, HTL.out, show k + 1 - k = 1 by omega]
        obtain ⟨h, hh⟩ := List.getElem?_eq_some_iff.1 hget
        rw [List.drop_eq_getElem_cons h, hh]; rfl
      have c1 : (⟨l.toArray⟩ : ByteArray) ++ t.extract k (k + 1) = ⟨(sn1 l c).toArray⟩ := by rw [hsl]; exact cat_eq l [c]
      by_cases hb : c = 32 ∨ c = 10
      · have hp6 : pickN ch n < 6 := Nat.mod_lt _ (by omega)
        obtain ⟨j, hj⟩ : ∃ j, j = pickN ch n := ⟨_, rfl⟩
        rw [← hj] at hp6
        have hcell := sep_cell HR1.out j hp6
        have hsepl := sep_len j
        obtain ⟨sp, hsp⟩ : ∃ x, x = sepB j := ⟨_, rfl⟩
        have HW2 : Hid (weaveB (pickN ch) 0 tx = (l ++ sp) ++ weaveB (pickN ch) (n + 1) (tx.drop (k + 1))) := by
          show _ = _
          rw [HW.out, weave_snoc2 hget hb, ← hj, hsp, List.append_assoc]
        rw [← hsp] at hcell hsepl
        unfold strV at hcell
        obtain ⟨l2, hl2⟩ : ∃ x, x = l ++ sp := ⟨_, rfl⟩
        have c2 : (⟨l.toArray⟩ : ByteArray) ++ ⟨sp.toArray⟩ = ⟨l2.toArray⟩ := by rw [hl2]; exact cat_eq l sp
        rw [← hl2] at HW2
        have HL2 := Lib.hid hl2
        have q1 : ¬ 9223372036854775807 < l.length + sp.length := by omega
        have hJ1 : (0 : Int) ≤ (j : Int) := by omega
        have hJ2 : (j : Int) < 6 := by omega
        have HJ := Lib.hid hj
        clear hsp hl2 hj hget hsl c1
        have hor : ((c.toNat : Int) != 32) = false ∨ (((c.toNat : Int) != 32) = true ∧ ((c.toNat : Int) != 10) = false) := by
          rcases hb with rfl | rfl
          · exact .inl rfl
          · exact .inr ⟨rfl, rfl⟩
        clear hb
        by_cases hnc : n < ch.length
        · obtain ⟨m, hm⟩ : ∃ m, ch[n]? = some m := ⟨_, List.getElem?_eq_getElem hnc⟩
          have hjm : j = m % 6 := by rw [HJ.out]; unfold pickN; rw [hm]; rfl
          have hm255 := H255.out m (List.mem_of_getElem? hm)
          have hcv : (ch.map fun n : Nat => Value.int .u8 (n : Int))[n]? = some (.int .u8 (m : Int)) := by rw [List.getElem?_map, hm]; rfl
          rcases Hch.out with he | ⟨cb, co, hBe, hcb, hcc⟩
          · rw [he] at hcv; simp at hcv
          · subst hBe
            have hce := (HB1.out.cell (p := ⟨cb, co + n, none⟩) hcb).trans (hcc _ _ hcv)
            have hN1 : (0 : Int) ≤ (n : Int) := by omega
            have hN2 : (n : Int) < (ch.length : Int) := by omega
            have hM0 : (0 : Int) ≤ (m : Int) := by omega
            have hM1 : (m : Int) ≤ 255 := by omega
            clear hcc hcv hm
            subst hjm
            rcases hor with n1 | ⟨n1, n2⟩
            · go_wp2_with fail
              go_roundg (tx.length - (k + 1))
              case measure => rw [Hgk.out]; omega
              case rel => exact ⟨k + 1, n + 1, l2, rfl, by go_num, by go_num, rfl, by omega, by omega, rfl, HW2.out⟩
            · go_wp2_with fail
              go_roundg (tx.length - (k + 1))
              case measure => rw [Hgk.out]; omega
              case rel => exact ⟨k + 1, n + 1, l2, rfl, by go_num, by go_num, rfl, by omega, by omega, rfl, HW2.out⟩
        · have hN2 : ¬ (n : Int) < (ch.length : Int) := by omega
          have hj0 : j = 0 := by rw [HJ.out]; unfold pickN; rw [List.getElem?_eq_none (by omega)]; rfl
          subst hj0
          rcases hor with n1 | ⟨n1, n2⟩
          · go_wp2_with fail
            go_roundg (tx.length - (k + 1))
            case measure => rw [Hgk.out]; omega
            case rel => exact ⟨k + 1, n + 1, l2, rfl, by go_num, by go_num, rfl, by omega, by omega, rfl, HW2.out⟩
          · go_wp2_with fail
            go_roundg (tx.length - (k + 1))
            case measure => rw [Hgk.out]; omega
            case rel => exact ⟨k + 1, n + 1, l2, rfl, by go_num, by go_num, rfl, by omega, by omega, rfl, HW2.out⟩
      · have n1 : ((c.toNat : Int) != 32) = true := by
          rw [bne_iff_ne]; intro h; exact hb (.inl (UInt8.toNat_inj.1 (by rw [show (32 : UInt8).toNat = 32 from rfl]; omega)))
        have n2 : ((c.toNat : Int) != 10) = true := by
          rw [bne_iff_ne]; intro h; exact hb (.inr (UInt8.toNat_inj.1 (by rw [show (10 : UInt8).toNat = 10 from rfl]; omega)))
        have HW2 : Hid (weaveB (pickN ch) 0 tx = sn1 l c ++ weaveB (pickN ch) n (tx.drop (k + 1))) := by
          show _ = _
          rw [HW.out, weave_snoc1 hget hb, sn1, List.append_assoc]; rfl
        have q1 : ¬ 9223372036854775807 < l.length + 1 := by omega
        clear hget hb hsl
        go_wp2_with fail
        go_roundg (tx.length - (k + 1))
        case measure => rw [Hgk.out]; omega
        case rel => exact ⟨k + 1, n, sn1 l c, rfl, rfl, by go_num, rfl, by omega, by omega, rfl, HW2.out⟩
    · have hke : ¬ (k : Int) < (t.size : Int) := by omega
      have HWe : Hid (weaveB (pickN ch) 0 tx = l) := by
        show _ = _
        rw [HW.out, List.drop_of_length_le (by omega)]
        simp [weaveB]
      clear hlt
      go_wp2_with fail
      go_ret
      exact ⟨by rw [HWe.out] <;> rfl, HB1.out⟩
end Go.Proofs.YtimmffncfkcpfaaDoor
