/-
  A good tree: its nodes lie in memory, each at one place alone, and its number is that of the mapped blocks; it stays good when a block is set or cleared. No program is run here.
-/
import Derived.Test.YtognbkmamhgkeaaDoorMc
namespace Go.Proofs.YtognbkmamhgkeaaDoor
open Go Go.RowKit

def cnt (m : Nat → Option Int) : Nat := (List.range 4096).countP fun x => (m x).isSome

theorem countP_one (p q : Nat → Bool) (k : Nat) (hk : p k = false) (hq : q k = true) (h : ∀ x, x ≠ k → p x = q x) : ∀ n, (List.range n).countP q = (List.range n).countP p + if k < n then 1 else 0
  | 0 => by simp
  | n + 1 => by
    rw [List.range_succ, List.countP_append, List.countP_append, countP_one p q k hk hq h n]
    by_cases e : n = k
    · subst e; simp [hk, hq]
    · rw [show List.countP q [n] = List.countP p [n] by simp [h n e]]
      by_cases hlt : k < n
      · rw [if_pos hlt, if_pos (by omega)]; omega
      · rw [if_neg hlt, if_neg (by omega)]; omega

theorem countP_same (p q : Nat → Bool) (n : Nat) (h : ∀ x, p x = q x) : (List.range n).countP q = (List.range n).countP p := by
  have : q = p := funext fun x => (h x).symm
  rw [this]

/-- What is mapped when a block is set. -/
def putM (m : Nat → Option Int) (k : Nat) (c : Int) : Nat → Option Int := fun x => if x = k then some c else m x
def setM (m : Nat → Option Int) (b c : Int) : Nat → Option Int := if 0 ≤ b ∧ b < 4096 then putM m b.toNat c else m
def delM (m : Nat → Option Int) (b : Int) : Nat → Option Int := if 0 ≤ b then clrM m b.toNat else m

theorem cnt_put_new {m : Nat → Option Int} {k : Nat} {c : Int} (hk : k < 4096) (h : m k = none) : cnt (putM m k c) = cnt m + 1 := by
  unfold cnt
  rw [countP_one (fun x => (m x).isSome) (fun x => (putM m k c x).isSome) k (by simp [h]) (by simp [putM]) (fun x hx => by simp [putM, hx]), if_pos hk]
theorem cnt_put_old {m : Nat → Option Int} {k : Nat} {c : Int} (h : (m k).isSome = true) : cnt (putM m k c) = cnt m := by
  unfold cnt
  refine countP_same _ _ _ fun x => ?_
  by_cases e : x = k
  · subst e; simp [putM, h]
  · simp [putM, e]
theorem cnt_clr {m : Nat → Option Int} {k : Nat} (hk : k < 4096) (h : (m k).isSome = true) : cnt m = cnt (clrM m k) + 1 := by
  unfold cnt
  rw [countP_one (fun x => (clrM m k x).isSome) (fun x => (m x).isSome) k (by simp [clrM]) h (fun x hx => by simp [clrM, hx]), if_pos hk]
theorem cnt_le (m : Nat → Option Int) : cnt m ≤ 4096 := by
  unfold cnt
  have := List.countP_le_length (p := fun x => (m x).isSome) (l := List.range 4096)
  simpa using this

/-- Each node lies at one place alone. -/
def Inj (T : TV) : Prop := ∀ l x l' x' b, l ≤ 2 → l' ≤ 2 → x / 16 ^ (2 - l) = 0 → x' / 16 ^ (2 - l') = 0 → T.adr l x = some b → T.adr l' x' = some b → l = l' ∧ x = x'

structure Good (w : World) (T : TV) (n : Int) : Prop where
  sub : Sub w T 2 0
  out : ∀ x, 4096 ≤ x → T.m x = none
  inj : Inj T
  num : n = (cnt T.m : Nat)

theorem Good.below {w w' : World} {T : TV} {n : Int} (h : Good w T n) (hb : Below w.heap.size w w') : Good w' T n := ⟨h.sub.below hb, h.out, h.inj, h.num⟩

theorem inj_set {w : World} {T : TV} {B k : Nat} {c : Int} (hs : Sub w T 2 0) (hi : Inj T) (hB : w.heap.size ≤ B) : Inj (T.set B 2 k c) := by
  intro l x l' x' b hl hl' hx hx' h h'
  have hw := hs.within
  simp only [TV.set] at h h'
  by_cases e : l ≤ 2 ∧ x = k / 16 ^ (l + 1) <;> by_cases e' : l' ≤ 2 ∧ x' = k / 16 ^ (l' + 1)
  · rw [if_pos e] at h; rw [if_pos e'] at h'
    injection h with h; injection h' with h'
    have : l = l' := by omega
    subst this
    exact ⟨rfl, by rw [e.2, e'.2]⟩
  · rw [if_pos e] at h; rw [if_neg e'] at h'
    injection h with h
    have : b < w.heap.size := hw l' hl' x' hx' b h'
    omega
  · rw [if_neg e] at h; rw [if_pos e'] at h'
    injection h' with h'
    have : b < w.heap.size := hw l hl x hx b h
    omega
  · rw [if_neg e] at h; rw [if_neg e'] at h'
    exact hi l x l' x' b hl hl' hx hx' h h'

theorem inj_clr {w : World} {T : TV} {B k : Nat} (hs : Sub w T 2 0) (hi : Inj T) (hB : w.heap.size ≤ B) : Inj (T.clr B 2 k) := by
  intro l x l' x' b hl hl' hx hx' h h'
  have hw := hs.within
  simp only [TV.clr] at h h'
  by_cases e : l ≤ 2 ∧ x = k / 16 ^ (l + 1) <;> by_cases e' : l' ≤ 2 ∧ x' = k / 16 ^ (l' + 1)
  · rw [if_pos e] at h; rw [if_pos e'] at h'
    split at h
    · split at h'
      · injection h with h; injection h' with h'
        have : l = l' := by omega
        subst this
        exact ⟨rfl, by rw [e.2, e'.2]⟩
      · cases h'
    · cases h
  · rw [if_pos e] at h; rw [if_neg e'] at h'
    split at h
    · injection h with h
      have : b < w.heap.size := hw l' hl' x' hx' b h'
      omega
    · cases h
  · rw [if_neg e] at h; rw [if_pos e'] at h'
    split at h'
    · injection h' with h'
      have : b < w.heap.size := hw l hl x hx b h
      omega
    · cases h'
  · rw [if_neg e] at h; rw [if_neg e'] at h'
    exact hi l x l' x' b hl hl' hx hx' h h'

theorem Good.set {w w' : World} {T : TV} {n : Int} {B k : Nat} {c : Int} (h : Good w T n) (hB : w.heap.size ≤ B) (hk : k < 4096) (hs : Sub w' (T.set B 2 k c) 2 0) : Good w' (T.set B 2 k c) (if (T.m k).isSome then n else n + 1) := by
  refine ⟨hs, fun x hx => ?_, inj_set h.sub h.inj hB, ?_⟩
  · simp only [TV.set]; rw [if_neg (by omega)]; exact h.out x hx
  · show _ = ((cnt (putM T.m k c) : Nat) : Int)
    rw [h.num]
    cases e : T.m k with
    | none => rw [cnt_put_new hk e]; simp
    | some o => rw [cnt_put_old (by rw [e]; rfl)]; simp

theorem Good.clr {w w' : World} {T : TV} {n : Int} {B k : Nat} (h : Good w T n) (hB : w.heap.size ≤ B) (hk : k < 4096) (hm : (T.m k).isSome = true) (hs : Sub w' (T.clr B 2 k) 2 0) : Good w' (T.clr B 2 k) (n - 1) := by
  refine ⟨hs, fun x hx => ?_, inj_clr h.sub h.inj hB, ?_⟩
  · simp only [TV.clr, clrM]; rw [if_neg (by omega)]; exact h.out x hx
  · show _ = ((cnt (clrM T.m k) : Nat) : Int)
    rw [h.num, cnt_clr hk hm]; omega

def TV.empty : TV := ⟨fun _ _ => none, fun _ => none⟩
theorem sub_empty (w : World) : ∀ L q, Sub w TV.empty L q
  | 0, _ => ⟨fun _ _ _ => rfl, fun _ h => by cases h⟩
  | L + 1, q => ⟨⟨fun _ _ _ => rfl, fun _ h => by cases h⟩, fun i _ => sub_empty w L (16 * q + i)⟩
theorem cnt_empty : cnt TV.empty.m = 0 := by
  unfold cnt
  rw [List.countP_eq_zero]
  intro x _
  simp [TV.empty]
theorem good_empty (w : World) : Good w TV.empty 0 := ⟨sub_empty w 2 0, fun _ _ => rfl, (fun _ _ _ _ _ _ _ _ _ h => by cases h), by rw [cnt_empty]; rfl⟩

end Go.Proofs.YtognbkmamhgkeaaDoor
