/-
  The mapped blocks of a range with their chunks, in increasing order, range by range; and as the reference's list has them. No program is run here.
-/
import Derived.Test.YtognbkmamhgkeaaDoorMe
import Derived.Test.YtognbkmamhgkeaaDoorMr
import Derived.Test.YtognbkmamhgkeaaDoorW21
namespace Go.Proofs.YtognbkmamhgkeaaDoor
open Go Go.RowKit Go.Walks

def entAt (m : Nat → Option Int) (f t : Int) (x : Nat) : Option (Nat × Int) := if f ≤ (x : Int) ∧ (x : Int) < t then (m x).map fun c => (x, c) else none
/-- The mapped blocks of [lo, lo + n) that lie in [f, t), with their chunks. -/
def entR (m : Nat → Option Int) (f t : Int) (lo n : Nat) : List (Nat × Int) := ((List.range n).map (lo + ·)).filterMap (entAt m f t)

theorem entR_zero (m : Nat → Option Int) (f t : Int) (lo : Nat) : entR m f t lo 0 = [] := rfl
theorem entR_add (m : Nat → Option Int) (f t : Int) (lo n k : Nat) : entR m f t lo (n + k) = entR m f t lo n ++ entR m f t (lo + n) k := by
  unfold entR
  rw [List.range_add, List.map_append, List.filterMap_append, List.map_map]
  congr 2
  apply List.map_congr_left
  intro x _
  simp [Nat.add_assoc]
theorem entR_nil {m : Nat → Option Int} {f t : Int} {lo n : Nat} (h : ∀ x, lo ≤ x → x < lo + n → m x = none ∨ (x : Int) < f ∨ t ≤ (x : Int)) : entR m f t lo n = [] := by
  unfold entR
  apply List.filterMap_eq_nil_iff.2
  intro x hx
  obtain ⟨i, hi, rfl⟩ := List.mem_map.1 hx
  have := List.mem_range.1 hi
  unfold entAt
  rcases h (lo + i) (by omega) (by omega) with h | h | h
  · rw [h]; simp
  · rw [if_neg (by omega)]
  · rw [if_neg (by omega)]
theorem entR_one {m : Nat → Option Int} {f t : Int} {lo : Nat} {c : Int} (h : m lo = some c) (h1 : f ≤ (lo : Int)) (h2 : (lo : Int) < t) : entR m f t lo 1 = [(lo, c)] := by
  have e : entAt m f t lo = some (lo, c) := by unfold entAt; rw [if_pos ⟨h1, h2⟩, h]; rfl
  simp [entR, List.range_succ, e]
theorem ent_len_le {m : Nat → Option Int} {f t : Int} {lo n k : Nat} (h : n ≤ k) : (entR m f t lo n).length ≤ (entR m f t lo k).length := by
  obtain ⟨d, rfl⟩ := Nat.exists_eq_add_of_le h
  rw [entR_add]; simp
theorem ent_prefix {m : Nat → Option Int} {f t : Int} {lo n k : Nat} (h : n ≤ k) : entR m f t lo n <+: entR m f t lo k := by
  obtain ⟨d, rfl⟩ := Nat.exists_eq_add_of_le h
  rw [entR_add]; exact List.prefix_append _ _
theorem ent_len (m : Nat → Option Int) (f t : Int) (lo n : Nat) : (entR m f t lo n).length ≤ n := by
  unfold entR
  have := List.length_filterMap_le (entAt m f t) ((List.range n).map (lo + ·))
  simpa using this
/-- A child that brings nothing. -/
theorem ent_skip {m : Nat → Option Int} {f t : Int} {lo d i : Nat} (h : ∀ x, lo + i * d ≤ x → x < lo + (i + 1) * d → m x = none ∨ (x : Int) < f ∨ t ≤ (x : Int)) : entR m f t lo ((i + 1) * d) = entR m f t lo (i * d) := by
  rw [Nat.add_mul, Nat.one_mul, entR_add, entR_nil (lo := lo + i * d) (fun x h1 h2 => h x h1 (by rw [Nat.add_mul, Nat.one_mul]; omega)), List.append_nil]
theorem ent_step {m : Nat → Option Int} {f t : Int} {lo d i : Nat} : entR m f t lo ((i + 1) * d) = entR m f t lo (i * d) ++ entR m f t (lo + i * d) d := by
  rw [Nat.add_mul, Nat.one_mul, entR_add]
theorem child_none {w : World} {T : TV} {L q lo i : Nat} (h : Sub w T L q) (hi : i < 16) (ho : occ T L (16 * q + i) = false) (hlo : lo = q * 16 ^ (L + 1)) : ∀ x, lo + i * 16 ^ L ≤ x → x < lo + (i + 1) * 16 ^ L → T.m x = none := by
  intro x h1 h2
  apply occ_none h hi ho
  have hp : 0 < 16 ^ L := Nat.pow_pos (by omega)
  have e : lo = 16 * q * 16 ^ L := by rw [hlo, Nat.pow_succ, Nat.mul_comm (16 ^ L) 16, ← Nat.mul_assoc, Nat.mul_comm q 16]
  have h3 : (16 * q + i) * 16 ^ L ≤ x := by rw [Nat.add_mul]; omega
  have h4 : x < (16 * q + i + 1) * 16 ^ L := by rw [Nat.add_mul] at h2; rw [Nat.add_mul, Nat.add_mul]; omega
  have h5 : 16 * q + i ≤ x / 16 ^ L := (Nat.le_div_iff_mul_le hp).2 h3
  have h6 : x / 16 ^ L < 16 * q + i + 1 := (Nat.div_lt_iff_lt_mul hp).2 h4
  omega

theorem mem_entR {m : Nat → Option Int} {f t : Int} {lo n : Nat} {x : Nat} {c : Int} : (x, c) ∈ entR m f t lo n ↔ lo ≤ x ∧ x < lo + n ∧ f ≤ (x : Int) ∧ (x : Int) < t ∧ m x = some c := by
  unfold entR
  rw [List.mem_filterMap]
  constructor
  · rintro ⟨y, hy, he⟩
    obtain ⟨i, hi, rfl⟩ := List.mem_map.1 hy
    have := List.mem_range.1 hi
    unfold entAt at he
    split at he
    · rename_i hf
      obtain ⟨c', hc, e⟩ := Option.map_eq_some_iff.1 he
      injection e with e1 e2
      subst e1; subst e2
      exact ⟨by omega, by omega, hf.1, hf.2, hc⟩
    · cases he
  · rintro ⟨h1, h2, h3, h4, h5⟩
    exact ⟨x, List.mem_map.2 ⟨x - lo, List.mem_range.2 (by omega), by omega⟩, by unfold entAt; rw [if_pos ⟨h3, h4⟩, h5]; rfl⟩

theorem up_ext2 : ∀ {a b : List (Int × Int)}, Up a → Up b → (∀ x, x ∈ a ↔ x ∈ b) → a = b
  | [], [], _, _, _ => rfl
  | [], y :: b, _, _, h => by have := (h y).2 (by simp); cases this
  | x :: a, [], _, _, h => by have := (h x).1 (by simp); cases this
  | x :: a, y :: b, ha, hb, h => by
    have e : x = y := by
      have h1 := (h x).1 (by simp)
      have h2 := (h y).2 (by simp)
      rcases List.mem_cons.1 h1 with h1 | h1
      · exact h1
      · rcases List.mem_cons.1 h2 with h2 | h2
        · exact h2.symm
        · have := hb.head x.1 x.2 h1
          have := ha.head y.1 y.2 h2
          omega
    subst e
    have hab : ∀ z, z ∈ a ↔ z ∈ b := by
      intro z
      constructor
      · intro hz
        rcases List.mem_cons.1 ((h z).1 (List.mem_cons_of_mem _ hz)) with rfl | hz'
        · have := ha.head z.1 z.2 hz; omega
        · exact hz'
      · intro hz
        rcases List.mem_cons.1 ((h z).2 (List.mem_cons_of_mem _ hz)) with rfl | hz'
        · have := hb.head z.1 z.2 hz; omega
        · exact hz'
    rw [up_ext2 ha.tail hb.tail hab]

def entI (l : List (Nat × Int)) : List (Int × Int) := l.map fun x => ((x.1 : Int), x.2)

theorem up_entR (m : Nat → Option Int) (f t : Int) (lo n : Nat) : Up (entI (entR m f t lo n)) := by
  induction n with
  | zero => exact List.Pairwise.nil
  | succ n ih =>
    rw [entR_add]
    unfold entI at ih ⊢
    rw [List.map_append]
    refine List.pairwise_append.2 ⟨ih, ?_, ?_⟩
    · by_cases h : ∃ c, m (lo + n) = some c ∧ f ≤ ((lo + n : Nat) : Int) ∧ ((lo + n : Nat) : Int) < t
      · obtain ⟨c, h0, h1, h2⟩ := h
        rw [entR_one h0 h1 h2]; simp
      · rw [entR_nil]
        · simp
        · intro x h1 h2
          obtain rfl : x = lo + n := by omega
          cases hc : m (lo + n) with
          | none => exact .inl rfl
          | some c =>
            by_cases hf : f ≤ ((lo + n : Nat) : Int)
            · exact .inr (.inr (Int.not_lt.1 fun h2 => h ⟨c, hc, hf, h2⟩))
            · exact .inr (.inl (by omega))
    · intro a ha b hb
      obtain ⟨⟨x, c⟩, hx, rfl⟩ := List.mem_map.1 ha
      obtain ⟨⟨y, d⟩, hy, rfl⟩ := List.mem_map.1 hb
      have := (mem_entR.1 hx)
      have := (mem_entR.1 hy)
      simp only; omega

/-- What the reference's Range has of a list is what the map has. -/
theorem rangeL_eq {l : List (Int × Int)} (h : Srt l) (f t : Int) : rangeL l f t = entI (entR (mOf l) f t 0 4096) := by
  refine up_ext2 (h.filter _).lt (up_entR _ _ _ _ _) ?_
  rintro ⟨z, c⟩
  constructor
  · intro hz
    obtain ⟨hm, hp⟩ := List.mem_filter.1 hz
    simp at hp
    have hr := h.rng _ hm
    simp only at hr
    refine List.mem_map.2 ⟨(z.toNat, c), mem_entR.2 ⟨by omega, by omega, by omega, by omega, ?_⟩, ?_⟩
    · unfold mOf
      rw [show ((z.toNat : Nat) : Int) = z by omega]
      exact (getL_some h z c).2 hm
    · simp only [Prod.mk.injEq, and_true]; omega
  · intro hz
    obtain ⟨⟨x, d⟩, hx, e⟩ := List.mem_map.1 hz
    simp only [Prod.mk.injEq] at e
    obtain ⟨rfl, rfl⟩ := e
    obtain ⟨_, _, h3, h4, h5⟩ := mem_entR.1 hx
    exact List.mem_filter.2 ⟨(getL_some h _ _).1 h5, by simp [h3, h4]⟩
end Go.Proofs.YtognbkmamhgkeaaDoor
