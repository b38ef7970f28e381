/-
  The blocks that two trees do not map alike, range by range; nodes that stay where they lie. No program is run here.
-/
import Derived.Test.YtognbkmamhgkeaaDoorLm
import Derived.Test.YtognbkmamhgkeaaDoorMc
import Derived.Test.YtognbkmamhgkeaaDoorBt
namespace Go.Proofs.YtognbkmamhgkeaaDoor
open Go Go.RowKit Go.Walks

/-- The blocks of [lo, lo + n) that two maps do not map alike. -/
def diffR (m1 m2 : Nat → Option Int) (lo n : Nat) : List Nat := ((List.range n).map (lo + ·)).filter fun x => decide (m1 x ≠ m2 x)

theorem diffR_zero (m1 m2 : Nat → Option Int) (lo : Nat) : diffR m1 m2 lo 0 = [] := rfl

theorem diffR_add (m1 m2 : Nat → Option Int) (lo n k : Nat) : diffR m1 m2 lo (n + k) = diffR m1 m2 lo n ++ diffR m1 m2 (lo + n) k := by
  unfold diffR
  rw [List.range_add, List.map_append, List.filter_append, List.map_map]
  congr 2
  apply List.map_congr_left
  intro x _
  simp [Nat.add_assoc]

theorem diffR_nil {m1 m2 : Nat → Option Int} {lo n : Nat} (h : ∀ x, lo ≤ x → x < lo + n → m1 x = m2 x) : diffR m1 m2 lo n = [] := by
  unfold diffR
  apply List.filter_eq_nil_iff.2
  intro x hx
  obtain ⟨i, hi, rfl⟩ := List.mem_map.1 hx
  have := List.mem_range.1 hi
  simp [h (lo + i) (by omega) (by omega)]

theorem diffR_one (m1 m2 : Nat → Option Int) (lo : Nat) : diffR m1 m2 lo 1 = if m1 lo ≠ m2 lo then [lo] else [] := by
  unfold diffR
  by_cases h : m1 lo = m2 lo <;> simp [h, List.range_succ]

theorem mem_diffR {m1 m2 : Nat → Option Int} {lo n x : Nat} : x ∈ diffR m1 m2 lo n ↔ lo ≤ x ∧ x < lo + n ∧ m1 x ≠ m2 x := by
  unfold diffR
  rw [List.mem_filter, List.mem_map]
  constructor
  · rintro ⟨⟨i, hi, rfl⟩, h⟩
    have := List.mem_range.1 hi
    exact ⟨by omega, by omega, of_decide_eq_true h⟩
  · rintro ⟨h1, h2, h3⟩
    exact ⟨⟨x - lo, List.mem_range.2 (by omega), by omega⟩, decide_eq_true h3⟩

/-- The blocks of the range q of level L. -/
theorem range_iff (L q x : Nat) : x / 16 ^ (L + 1) = q ↔ q * 16 ^ (L + 1) ≤ x ∧ x < q * 16 ^ (L + 1) + 16 ^ (L + 1) := by
  have hp : 0 < 16 ^ (L + 1) := Nat.pow_pos (by omega)
  rw [Nat.div_eq_iff hp]
  constructor
  · rintro ⟨h1, h2⟩; omega
  · rintro ⟨h1, h2⟩; omega

theorem padr_inj {a b : Option Nat} (h : padr a = padr b) : a = b := by
  cases a <;> cases b <;> simp_all [padr]
theorem none_none {a b : Option Nat} (ha : a.isSome = false) (hb : b.isSome = false) : a = b := by
  cases a <;> cases b <;> simp_all

/-- One node, one content. -/
theorem same_node {w : World} {T1 T2 : TV} : ∀ {L q : Nat}, Sub w T1 L q → Sub w T2 L q → T1.adr L q = T2.adr L q → ∀ x, x / 16 ^ (L + 1) = q → T1.m x = T2.m x := by
  intro L
  induction L with
  | zero =>
    intro q h1 h2 he x hx
    have hxq : 16 * q + x % 16 = x := by simp at hx; omega
    have hi : x % 16 < 16 := by omega
    cases ha : T1.adr 0 q with
    | none =>
      have o1 := h1.1 ha _ hi
      have o2 := h2.1 (he ▸ ha) _ hi
      rw [hxq] at o1 o2
      simp only [occ] at o1 o2
      cases e1 : T1.m x <;> cases e2 : T2.m x <;> simp_all
    | some b =>
      obtain ⟨⟨n1, ⟨c1, r1, k1⟩, b1⟩, _⟩ := h1.2 b ha
      obtain ⟨⟨n2, ⟨c2, r2, k2⟩, b2⟩, _⟩ := h2.2 b (he ▸ ha)
      rw [r1] at r2
      injection r2 with r2; injection r2 with r2; subst r2
      have hh := k1.c0.symm.trans k2.c0
      have hn : n1 = n2 := by injection hh with hh; injection hh with _ hh; omega
      subst hn
      have hb := (b1 _ hi).symm.trans (b2 _ hi)
      have hc := (k1.cc _ hi).symm.trans (k2.cc _ hi)
      rw [hxq] at hb hc
      simp only [occ] at hb
      simp only [chv] at hc
      injection hc with hc; injection hc with _ hc
      cases e1 : T1.m x <;> cases e2 : T2.m x <;> simp_all
  | succ L ih =>
    intro q h1 h2 he x hx
    have hi : x / 16 ^ (L + 1) % 16 < 16 := Nat.mod_lt _ (by omega)
    have hxq : x / 16 ^ (L + 1) = 16 * q + x / 16 ^ (L + 1) % 16 := by rw [div_succ] at hx; omega
    refine ih (h1.2 _ hi) (h2.2 _ hi) ?_ x hxq
    cases ha : T1.adr (L + 1) q with
    | none =>
      have o1 := h1.1.1 ha _ hi
      have o2 := h2.1.1 (he ▸ ha) _ hi
      simp only [occ] at o1 o2
      exact none_none o1 o2
    | some b =>
      obtain ⟨⟨n1, ⟨c1, r1, k1⟩, b1⟩, _⟩ := h1.1.2 b ha
      obtain ⟨⟨n2, ⟨c2, r2, k2⟩, b2⟩, _⟩ := h2.1.2 b (he ▸ ha)
      rw [r1] at r2
      injection r2 with r2; injection r2 with r2; subst r2
      have hc := (k1.ck _ hi).symm.trans (k2.ck _ hi)
      simp only [kid] at hc
      injection hc with hc; injection hc with hc
      exact padr_inj hc

/-- What a round of a loop over an iterator keeps: every node, and the library's table. -/
structure Keeps76 (W W' : World) : Prop where
  size : W.heap.size ≤ W'.heap.size
  node : ∀ (k : Nat) (cs : Array Value), W.heap[k]? = some (Obj.cells cs 76) → W'.heap[k]? = some (Obj.cells cs 76)
  tab : W'.heap[(0 : Nat)]? = W.heap[(0 : Nat)]?

theorem Keeps76.refl (W : World) : Keeps76 W W := ⟨Nat.le_refl _, fun _ _ h => h, rfl⟩
theorem Keeps76.trans {A B C : World} (h : Keeps76 A B) (k : Keeps76 B C) : Keeps76 A C := ⟨Nat.le_trans h.size k.size, fun i cs hi => k.node i cs (h.node i cs hi), k.tab.trans h.tab⟩
theorem Keeps76.of_below {W W' : World} (h : Below W.heap.size W W') (h0 : 0 < W.heap.size) : Keeps76 W W' := by
  refine ⟨h.size, fun k cs hk => ?_, h.block 0 h0⟩
  have : k < W.heap.size := by
    rcases Nat.lt_or_ge k W.heap.size with h | h
    · exact h
    · rw [Array.getElem?_eq_none h] at hk; cases hk
  exact (h.block k this).trans hk

theorem Sub.keep {W W' : World} {T : TV} (hk : Keeps76 W W') : ∀ {L q : Nat}, Sub W T L q → Sub W' T L q := by
  have nd : ∀ {L q : Nat}, Nd W T L q → Nd W' T L q := by
    intro L q h
    refine ⟨h.1, fun b e => ?_⟩
    obtain ⟨⟨has, ⟨cs, hr, hn⟩, hbit⟩, hi⟩ := h.2 b e
    exact ⟨⟨has, ⟨cs, hk.node b cs hr, hn⟩, hbit⟩, hi⟩
  intro L
  induction L with
  | zero => intro q h; exact nd h
  | succ L ih => intro q h; exact ⟨nd h.1, fun i hi => ih (h.2 i hi)⟩

end Go.Proofs.YtognbkmamhgkeaaDoor
