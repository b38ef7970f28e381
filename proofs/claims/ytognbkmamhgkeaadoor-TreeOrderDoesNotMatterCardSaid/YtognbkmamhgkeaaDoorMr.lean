/-
  The reference's Diff ps a merge of two lists of entries; for sorted lists it is the list of the blocks at which the two maps part. No program is run here.
-/
import Derived.Test.YtognbkmamhgkeaaDoorMl
import Derived.Test.YtognbkmamhgkeaaDoorMd
namespace Go.Proofs.YtognbkmamhgkeaaDoor
open Go Go.RowKit

def diffL : List (Int × Int) → List (Int × Int) → List Int
  | [], qs => qs.map (·.1)
  | a :: ps, [] => (a :: ps).map (·.1)
  | a :: ps, b :: qs =>
    if a.1 < b.1 then a.1 :: diffL ps (b :: qs)
    else if b.1 < a.1 then b.1 :: diffL (a :: ps) qs
    else if a.2 = b.2 then diffL ps qs else a.1 :: diffL ps qs
termination_by l k => l.length + k.length

theorem diffL_nil_r (ps : List (Int × Int)) : diffL ps [] = ps.map (·.1) := by cases ps <;> simp [diffL]
theorem diffL_nil_l (qs : List (Int × Int)) : diffL [] qs = qs.map (·.1) := by rw [diffL]

section
variable {l1 l2 : List (Int × Int)} {i k : Nat} {x y : Int × Int}
theorem drop_cons {l : List (Int × Int)} {i : Nat} {x : Int × Int} (h : l[i]? = some x) : l.drop i = x :: l.drop (i + 1) := by
  obtain ⟨hlt, e⟩ := List.getElem?_eq_some_iff.1 h
  rw [List.drop_eq_getElem_cons hlt, e]
theorem drop_none {l : List (Int × Int)} {i : Nat} (h : l.length ≤ i) : l.drop i = [] := List.drop_of_length_le h
theorem diffL_one (hx : l1[i]? = some x) (hk : l2.length ≤ k) : diffL (l1.drop i) (l2.drop k) = x.1 :: diffL (l1.drop (i + 1)) (l2.drop k) := by
  rw [drop_cons hx, drop_none hk, diffL_nil_r, diffL_nil_r]; rfl
theorem diffL_two (hi : l1.length ≤ i) (hy : l2[k]? = some y) : diffL (l1.drop i) (l2.drop k) = y.1 :: diffL (l1.drop i) (l2.drop (k + 1)) := by
  rw [drop_cons hy, drop_none hi, diffL_nil_l, diffL_nil_l]; rfl
theorem diffL_lt (hx : l1[i]? = some x) (hy : l2[k]? = some y) (h : x.1 < y.1) : diffL (l1.drop i) (l2.drop k) = x.1 :: diffL (l1.drop (i + 1)) (l2.drop k) := by
  rw [drop_cons hx, drop_cons hy, diffL, if_pos h]
theorem diffL_gt (hx : l1[i]? = some x) (hy : l2[k]? = some y) (h : y.1 < x.1) : diffL (l1.drop i) (l2.drop k) = y.1 :: diffL (l1.drop i) (l2.drop (k + 1)) := by
  rw [drop_cons hx, drop_cons hy, diffL, if_neg (by omega), if_pos h]
theorem diffL_same (hx : l1[i]? = some x) (hy : l2[k]? = some y) (h : x.1 = y.1) (h2 : x.2 = y.2) : diffL (l1.drop i) (l2.drop k) = diffL (l1.drop (i + 1)) (l2.drop (k + 1)) := by
  rw [drop_cons hx, drop_cons hy, diffL, if_neg (by omega), if_neg (by omega), if_pos h2]
theorem diffL_other (hx : l1[i]? = some x) (hy : l2[k]? = some y) (h : x.1 = y.1) (h2 : x.2 ≠ y.2) : diffL (l1.drop i) (l2.drop k) = x.1 :: diffL (l1.drop (i + 1)) (l2.drop (k + 1)) := by
  rw [drop_cons hx, drop_cons hy, diffL, if_neg (by omega), if_neg (by omega), if_neg h2]
theorem diffL_end (hi : l1.length ≤ i) (hk : l2.length ≤ k) : diffL (l1.drop i) (l2.drop k) = [] := by
  rw [drop_none hi, drop_none hk, diffL_nil_r]; rfl
end

def Up (l : List (Int × Int)) : Prop := l.Pairwise fun a b => a.1 < b.1
theorem Up.head {x : Int × Int} {l : List (Int × Int)} (h : Up (x :: l)) : ∀ z c, (z, c) ∈ l → x.1 < z := fun z c hm => (List.pairwise_cons.1 h).1 (z, c) hm
theorem Up.tail {x : Int × Int} {l : List (Int × Int)} (h : Up (x :: l)) : Up l := (List.pairwise_cons.1 h).2

def Part (l k : List (Int × Int)) (z : Int) : Prop := ¬ ∀ c, (z, c) ∈ l ↔ (z, c) ∈ k

theorem mem_cons_pair {z c : Int} {x : Int × Int} {l : List (Int × Int)} : (z, c) ∈ x :: l ↔ (z = x.1 ∧ c = x.2) ∨ (z, c) ∈ l := by
  obtain ⟨a, b⟩ := x
  simp

theorem mem_diffL : ∀ (l k : List (Int × Int)) (z : Int), Up l → Up k → (z ∈ diffL l k ↔ Part l k z)
  | [], qs, z, _, _ => by
    rw [diffL_nil_l]
    unfold Part
    simp only [List.mem_map, List.not_mem_nil, false_iff]
    constructor
    · rintro ⟨e, he, rfl⟩ h; exact h e.2 he
    · intro h
      have : ∃ c, (z, c) ∈ qs := Classical.byContradiction fun hn => h fun c hc => hn ⟨c, hc⟩
      obtain ⟨c, hc⟩ := this
      exact ⟨_, hc, rfl⟩
  | p :: ps, [], z, _, _ => by
    rw [diffL_nil_r]
    unfold Part
    simp only [List.mem_map, List.not_mem_nil, iff_false]
    constructor
    · rintro ⟨e, he, rfl⟩ h; exact h e.2 he
    · intro h
      have : ∃ c, (z, c) ∈ p :: ps := Classical.byContradiction fun hn => h fun c hc => hn ⟨c, hc⟩
      obtain ⟨c, hc⟩ := this
      exact ⟨_, hc, rfl⟩
  | p :: ps, q :: qs, z, hp, hq => by
    rw [diffL]
    by_cases h1 : p.1 < q.1
    · rw [if_pos h1, List.mem_cons, mem_diffL ps (q :: qs) z hp.tail hq]
      by_cases hz : z = p.1
      · refine ⟨fun _ h => ?_, fun _ => .inl hz⟩
        have := (h p.2).1 (mem_cons_pair.2 (.inl ⟨hz, rfl⟩))
        rcases mem_cons_pair.1 this with ⟨h2, _⟩ | h2
        · omega
        · have := hq.head _ _ h2; omega
      · unfold Part
        simp only [hz, false_or, mem_cons_pair, false_and]
    · by_cases h2 : q.1 < p.1
      · rw [if_neg h1, if_pos h2, List.mem_cons, mem_diffL (p :: ps) qs z hp hq.tail]
        by_cases hz : z = q.1
        · refine ⟨fun _ h => ?_, fun _ => .inl hz⟩
          have := (h q.2).2 (mem_cons_pair.2 (.inl ⟨hz, rfl⟩))
          rcases mem_cons_pair.1 this with ⟨h2, _⟩ | h2
          · omega
          · have := hp.head _ _ h2; omega
        · unfold Part
          simp only [hz, false_or, mem_cons_pair, false_and]
      · have he : p.1 = q.1 := by omega
        rw [if_neg h1, if_neg h2]
        have hno : ∀ c, z = p.1 → ¬ (z, c) ∈ ps ∧ ¬ (z, c) ∈ qs := fun c hz => ⟨fun h => by have := hp.head _ _ h; omega, fun h => by have := hq.head _ _ h; omega⟩
        have ih := mem_diffL ps qs z hp.tail hq.tail
        by_cases h3 : p.2 = q.2
        · rw [if_pos h3, ih]
          unfold Part
          by_cases hz : z = p.1
          · have : ∀ c, ((z, c) ∈ ps ↔ (z, c) ∈ qs) ∧ ((z, c) ∈ p :: ps ↔ (z, c) ∈ q :: qs) := fun c => by
              have := hno c hz
              simp only [mem_cons_pair, this.1, this.2, he, h3, and_self]
            simp only [fun c => (this c).1, fun c => (this c).2]
          · have hz' : ¬ z = q.1 := by omega
            simp only [mem_cons_pair, hz, hz', false_and, false_or]
        · rw [if_neg h3, List.mem_cons, ih]
          by_cases hz : z = p.1
          · refine ⟨fun _ h => ?_, fun _ => .inl hz⟩
            have := (h p.2).1 (mem_cons_pair.2 (.inl ⟨hz, rfl⟩))
            rcases mem_cons_pair.1 this with ⟨_, h4⟩ | h4
            · exact h3 h4
            · exact (hno _ hz).2 h4
          · have hz' : ¬ z = q.1 := by omega
            unfold Part
            simp only [mem_cons_pair, hz, hz', false_and, false_or]
termination_by l k => l.length + k.length

theorem part_mem {l k : List (Int × Int)} {z : Int} (h : Part l k z) : ∃ c, (z, c) ∈ l ∨ (z, c) ∈ k := by
  refine Classical.byContradiction fun hn => h fun c => ?_
  have h1 : ¬ (z, c) ∈ l := fun hm => hn ⟨c, .inl hm⟩
  have h2 : ¬ (z, c) ∈ k := fun hm => hn ⟨c, .inr hm⟩
  simp only [h1, h2]

theorem up_map {l : List (Int × Int)} (h : Up l) : (l.map (·.1)).Pairwise (· < ·) := List.pairwise_map.2 h

theorem up_diffL : ∀ (l k : List (Int × Int)), Up l → Up k → (diffL l k).Pairwise (· < ·)
  | [], qs, _, hq => by rw [diffL_nil_l]; exact up_map hq
  | p :: ps, [], hp, _ => by rw [diffL_nil_r]; exact up_map hp
  | p :: ps, q :: qs, hp, hq => by
    have key : ∀ {l k : List (Int × Int)} {b : Int}, Up l → Up k → (∀ z c, (z, c) ∈ l → b < z) → (∀ z c, (z, c) ∈ k → b < z) → ∀ z, z ∈ diffL l k → b < z := by
      intro l k b hl hk h1 h2 z hz
      obtain ⟨c, h | h⟩ := part_mem ((mem_diffL l k z hl hk).1 hz)
      · exact h1 z c h
      · exact h2 z c h
    rw [diffL]
    by_cases h1 : p.1 < q.1
    · rw [if_pos h1]
      refine List.pairwise_cons.2 ⟨key hp.tail hq hp.head (fun z c hm => ?_), up_diffL ps (q :: qs) hp.tail hq⟩
      rcases mem_cons_pair.1 hm with ⟨h, _⟩ | h
      · omega
      · have := hq.head _ _ h; omega
    · rw [if_neg h1]
      by_cases h2 : q.1 < p.1
      · rw [if_pos h2]
        refine List.pairwise_cons.2 ⟨key hp hq.tail (fun z c hm => ?_) hq.head, up_diffL (p :: ps) qs hp hq.tail⟩
        rcases mem_cons_pair.1 hm with ⟨h, _⟩ | h
        · omega
        · have := hp.head _ _ h; omega
      · rw [if_neg h2]
        have ih := up_diffL ps qs hp.tail hq.tail
        by_cases h3 : p.2 = q.2
        · rw [if_pos h3]; exact ih
        · rw [if_neg h3]
          exact List.pairwise_cons.2 ⟨key hp.tail hq.tail hp.head (fun z c hm => by have := hq.head _ _ hm; omega), ih⟩
termination_by l k => l.length + k.length

theorem up_ext : ∀ {a b : List Int}, a.Pairwise (· < ·) → b.Pairwise (· < ·) → (∀ x, x ∈ a ↔ x ∈ b) → a = b
  | [], [], _, _, _ => rfl
  | [], y :: b, _, _, h => by have := (h y).2 (by simp); cases this
  | x :: a, [], _, _, h => by have := (h x).1 (by simp); cases this
  | x :: a, y :: b, ha, hb, h => by
    have ha' := List.pairwise_cons.1 ha
    have hb' := List.pairwise_cons.1 hb
    have e : x = y := by
      have h1 := (h x).1 (by simp)
      have h2 := (h y).2 (by simp)
      rcases List.mem_cons.1 h1 with rfl | h1
      · rfl
      · rcases List.mem_cons.1 h2 with rfl | h2
        · rfl
        · have := ha'.1 _ h2; have := hb'.1 _ h1; omega
    subst e
    rw [up_ext ha'.2 hb'.2 fun z => ?_]
    have := h z
    constructor
    · intro hz
      rcases List.mem_cons.1 (this.1 (List.mem_cons_of_mem _ hz)) with rfl | h
      · have := ha'.1 _ hz; omega
      · exact h
    · intro hz
      rcases List.mem_cons.1 (this.2 (List.mem_cons_of_mem _ hz)) with rfl | h
      · have := hb'.1 _ hz; omega
      · exact h

theorem part_mOf {l k : List (Int × Int)} (hl : Srt l) (hk : Srt k) (x : Nat) : Part l k (x : Int) ↔ mOf l x ≠ mOf k x := by
  unfold Part
  constructor
  · intro h e
    refine h fun c => ?_
    rw [← getL_some hl, ← getL_some hk]
    have e' : getL l (x : Int) = getL k (x : Int) := e
    rw [e']
  · intro h hn
    refine h (opt_ext fun c => ?_)
    show getL l (x : Int) = some c ↔ getL k (x : Int) = some c
    rw [getL_some hl, getL_some hk]
    exact hn c

theorem diffL_eq {l k : List (Int × Int)} (hl : Srt l) (hk : Srt k) : diffL l k = (diffR (mOf l) (mOf k) 0 4096).map fun x : Nat => (x : Int) := by
  refine up_ext (up_diffL l k hl.lt hk.lt) ?_ fun z => ?_
  · refine List.pairwise_map.2 ?_
    have h0 : (List.range 4096).Pairwise (· < ·) := List.pairwise_lt_range
    have h1 : ((List.range 4096).map (0 + ·)).Pairwise (· < ·) := List.pairwise_map.2 (h0.imp fun h => by omega)
    exact (h1.filter _).imp fun h => by omega
  · rw [mem_diffL l k z hl.lt hk.lt, List.mem_map]
    constructor
    · intro h
      have hz : 0 ≤ z ∧ z ≤ 4095 := by
        obtain ⟨c, h1 | h1⟩ := part_mem h
        · exact hl.rng _ h1
        · exact hk.rng _ h1
      obtain ⟨x, rfl⟩ := Int.eq_ofNat_of_zero_le hz.1
      exact ⟨x, mem_diffR.2 ⟨by omega, by omega, (part_mOf hl hk x).1 h⟩, rfl⟩
    · rintro ⟨x, hx, rfl⟩
      exact (part_mOf hl hk x).2 (mem_diffR.1 hx).2.2
end Go.Proofs.YtognbkmamhgkeaaDoor
