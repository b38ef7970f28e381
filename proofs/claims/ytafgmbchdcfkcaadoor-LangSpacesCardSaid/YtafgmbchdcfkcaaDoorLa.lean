/-
  The library's variables that the walks lean on; how they stay; what Atoi makes of a token.
-/
import Derived.Test.YtafgmbchdcfkcaaDoorLx
import Derived.Test.YtafgmbchdcfkcaaDoorSl
import Derived.Test.YtafgmbchdcfkcaaDoorShelf
import Derived.WalkSmall
import Derived.Lib.AtoiAll
import Derived.Lib.LaidTab
import Derived.KernelRfl
namespace Go.Proofs.YtafgmbchdcfkcaaDoor
open Go Go.RowKit Go.Walks

theorem powG : Tryd.prog.globalNamed "internal/strconv.uint64pow10" = some 2 := by kernel_rfl

/-- The library's variables lie as the program's text lays them. -/
structure Gl (w : World) : Prop where
  err : ∃ ev, w.cell? ⟨5, 0, none⟩ = some ev ∧ (ev = .nilIface ∨ ∃ te pe, ev = .iface te pe)
  pow : Lib.TabIs Tryd.prog w "internal/strconv.uint64pow10" .u64 Lib.pow10Tab
  size : 7 ≤ w.heap.size

theorem Gl.keep {w w' : World} (h : Gl w) (hs : w.heap.size ≤ w'.heap.size) (hb : ∀ k : Nat, k < 7 → w'.heap[k]? = w.heap[k]?) : Gl w' := by
  refine ⟨?_, ?_, Nat.le_trans h.size hs⟩
  · obtain ⟨ev, h1, h2⟩ := h.err
    refine ⟨ev, ?_, h2⟩
    have := hb 5 (by omega)
    simp only [World.cell?] at h1 ⊢
    rw [this]; exact h1
  · have hp := h.pow
    unfold Lib.TabIs at hp ⊢
    unfold World.var? at hp ⊢
    simp only [powG, Option.bind_some] at hp ⊢
    rw [hb 2 (by omega)]; exact hp
theorem Gl.below {w w' : World} (h : Gl w) (hb : Below w.heap.size w w') : Gl w' := h.keep hb.size (fun k hk => hb.block k (by have := h.size; omega))
theorem Gl.rb {w w' : World} {r : Nat} (h : Gl w) (hb : RB r w w') (hr : 7 ≤ r) : Gl w' := h.keep hb.size (fun k hk => hb.block k (by have := h.size; omega) (by omega))

theorem isD_iff (c : UInt8) : isD c = true ↔ 48 ≤ c.toNat ∧ c.toNat ≤ 57 := by simp [isD]

theorem parse10 : ∀ (l : Bytes) (n B : Nat), (∀ c ∈ l, isD c = true) → n < B → B * 10 ^ l.length ≤ 1000000000000 → Lib.parseUint10 n l = .ok (l.foldl (fun n c => 10 * n + (c.toNat - 48)) n) ∧ l.foldl (fun n c => 10 * n + (c.toNat - 48)) n < B * 10 ^ l.length
  | [], n, B, _, hn, hB => by simpa [Lib.parseUint10] using hn
  | c :: l, n, B, h, hn, hB => by
    have hc := (isD_iff c).1 (h c (by simp))
    have hp : 0 < 10 ^ l.length := Nat.pow_pos (by omega)
    have hB' : B * 10 * 10 ^ l.length ≤ 1000000000000 := by
      rw [List.length_cons, Nat.pow_succ] at hB
      rw [Nat.mul_assoc, Nat.mul_comm 10]; exact hB
    have hb10 : B * 10 ≤ 1000000000000 := Nat.le_trans (Nat.le_mul_of_pos_right _ hp) hB'
    obtain ⟨h1, h2⟩ := parse10 l (10 * n + (c.toNat - 48)) (B * 10) (fun d hd => h d (List.mem_cons_of_mem _ hd)) (by omega) hB'
    rw [Lib.parseUint10, if_pos hc, if_neg (by omega), if_neg (by omega), show n * 10 + (c.toNat - 48) = 10 * n + (c.toNat - 48) by omega, List.foldl_cons, h1]
    refine ⟨rfl, ?_⟩
    rw [List.length_cons, Nat.pow_succ, Nat.mul_comm (10 ^ l.length), ← Nat.mul_assoc]
    exact h2

theorem atoi_digits {l : Bytes} (h0 : l ≠ []) (h : ∀ c ∈ l, isD c = true) (hl : l.length ≤ 5) : Lib.atoiAll l = .ok (valD l : Int) ∧ valD l < 100000 := by
  cases l with
  | nil => exact absurd rfl h0
  | cons c r =>
    have hc := (isD_iff c).1 (h c (by simp))
    have hB : 1 * 10 ^ (c :: r).length ≤ 100000 := by
      have : 10 ^ (c :: r).length ≤ 10 ^ 5 := Nat.pow_le_pow_right (by omega) hl
      simpa using this
    obtain ⟨h1, h2⟩ := parse10 (c :: r) 0 1 h (by omega) (by omega)
    have hv : valD (c :: r) < 100000 := Nat.lt_of_lt_of_le h2 hB
    refine ⟨?_, hv⟩
    have hmag : Lib.parseMag (c :: r) = .ok (valD (c :: r)) := by unfold Lib.parseMag; rw [if_neg (by simp)]; exact h1
    unfold Lib.atoiAll
    simp only
    rw [if_neg (by omega), hmag]
    simp only
    rw [if_neg (by omega), if_neg (by omega), if_neg (by omega)]

theorem atoi_word {c : UInt8} {r : Bytes} (h : isL c = true) : Lib.atoiAll (c :: r) = Lib.atoiAll [] := by
  have hc : 97 ≤ c.toNat ∧ c.toNat ≤ 122 := by simpa [isL] using h
  have hmag : Lib.parseMag (c :: r) = Lib.parseMag [] := by
    rw [show Lib.parseMag (c :: r) = Lib.parseUint10 0 (c :: r) from if_neg (by simp), Lib.parseUint10, if_neg (by omega)]
    first | done | rfl
  conv => lhs; unfold Lib.atoiAll
  simp only
  rw [if_neg (by omega), hmag]
  first | done | rfl

/-- The number that Atoi makes of a token's text. -/
def numD (s : Bytes) : Nat := if (s.head?.any isD) then valD s else 0
end Go.Proofs.YtafgmbchdcfkcaaDoor
