/-
  How many nodes a change of a tree adds: none if it changes nothing, otherwise those of the new tree on the block's way: as the reference's Path counts them. No program is run here.
-/
import Derived.Test.YtognbkmamhgkeaaDoorW23
import Derived.Test.YtognbkmamhgkeaaDoorW18
import Derived.Test.YtognbkmamhgkeaaDoorW17
namespace Go.Proofs.YtognbkmamhgkeaaDoor
open Go Go.RowKit Go.Walks

/-- What a change of T leaves: the very tree, or new nodes on the block's way alone. -/
def Shares (B0 : Nat) (T T' : TV) (m' : Nat → Option Int) (k : Nat) : Prop :=
  (T' = T ∧ m' = T.m) ∨ (k < 4096 ∧ m' ≠ T.m ∧ ∃ B, B0 ≤ B ∧ ∀ l p, T'.adr l p = if l ≤ 2 ∧ p = k / 16 ^ (l + 1) then (if (T'.adr l p).isSome then some (B + (2 - l)) else none) else T.adr l p)

theorem Shares.less {B0 B1 : Nat} {T T' : TV} {m' : Nat → Option Int} {k : Nat} (h : Shares B1 T T' m' k) (hB : B0 ≤ B1) : Shares B0 T T' m' k := by
  rcases h with h | ⟨h1, h2, B, h3, h4⟩
  · exact .inl h
  · exact .inr ⟨h1, h2, B, by omega, h4⟩

theorem ne_range {l : List (Int × Int)} (h : Srt l) {L : Nat} (k d : Nat) (hd : d = 16 ^ (L + 1)) : (0 < (rangeL l ((k : Int) / d * d) ((k : Int) / d * d + d)).length) ↔ ne (mOf l) L (k / d) := by
  have hpos : 0 < d := by rw [hd]; exact Nat.pow_pos (by omega)
  have e1 : ((k : Int) / d * d) = ((k / d * d : Nat) : Int) := by simp
  rw [e1, List.length_pos_iff_exists_mem]
  unfold ne rangeL
  constructor
  · rintro ⟨⟨x, c⟩, hx⟩
    rw [List.mem_filter] at hx
    obtain ⟨hm, hc⟩ := hx
    simp only [Bool.and_eq_true, decide_eq_true_eq] at hc
    have hr := h.rng _ hm
    obtain ⟨z, rfl⟩ := Int.eq_ofNat_of_zero_le hr.1
    refine ⟨z, ?_, ?_⟩
    · rw [← hd]
      have h1 : k / d * d ≤ z := by omega
      have h2 : z < k / d * d + d := by omega
      refine (Nat.div_eq_iff hpos).2 ⟨?_, ?_⟩
      · exact h1
      · omega
    · have : mOf l z = some c := (getL_some h _ _).2 hm
      rw [this]; rfl
  · rintro ⟨x, hx, hs⟩
    rw [← hd] at hx
    obtain ⟨c, hc⟩ := Option.isSome_iff_exists.1 hs
    refine ⟨((x : Int), c), ?_⟩
    rw [List.mem_filter]
    refine ⟨(getL_some h _ _).1 hc, ?_⟩
    simp only [Bool.and_eq_true, decide_eq_true_eq]
    have := Nat.div_add_mod x d
    have hm := Nat.mod_lt x hpos
    have : x = k / d * d + x % d := by rw [← hx, Nat.mul_comm]; omega
    omega

theorem one_ne {w : World} {T : TV} {L q : Nat} (h : Sub w T L q) : one (T.adr L q) = 1 ↔ ne T.m L q := by
  rw [← h.iff]; unfold one; cases T.adr L q <;> simp
theorem one_le (x : Option Nat) : one x ≤ 1 := by unfold one; cases x <;> simp

theorem nil_of_mOf {l : List (Int × Int)} (h : Srt l) (hn : ∀ x, mOf l x = none) : l = [] := by
  cases l with
  | nil => rfl
  | cons e l =>
    obtain ⟨x, c⟩ := e
    have hr := h.rng (x, c) (by simp)
    obtain ⟨z, rfl⟩ := Int.eq_ofNat_of_zero_le hr.1
    have : mOf ((((z : Nat) : Int), c) :: l) z = some c := (getL_some h _ _).2 (by simp)
    rw [hn] at this; cases this

theorem path_count {w : World} {T : TV} {n : Int} {l : List (Int × Int)} (hg : Good w T n) (hm : T.m = mOf l) (hs : Srt l) {k : Nat} (hk : k < 4096) : pathL l (k : Int) = one (T.adr 2 0) + one (T.adr 1 (k / 256)) + one (T.adr 0 (k / 16)) := by
  have s1 : Sub w T 1 (k / 256) := by have := hg.sub.2 (k / 256) (by omega); rwa [show 16 * 0 + k / 256 = k / 256 by omega] at this
  have s0 : Sub w T 0 (k / 16) := by have := s1.2 (k / 16 % 16) (by omega); rwa [show 16 * (k / 256) + k / 16 % 16 = k / 16 by omega] at this
  have h1 : in1 l (k : Int) 256 = one (T.adr 1 (k / 256)) := by
    have a : 0 < (rangeL l ((k : Int) / 256 * 256) ((k : Int) / 256 * 256 + 256)).length ↔ ne (mOf l) 1 (k / 256) := ne_range hs (L := 1) k 256 (by decide)
    have b := one_ne s1
    have c := one_le (T.adr 1 (k / 256))
    rw [hm] at b
    unfold in1
    by_cases h : ne (mOf l) 1 (k / 256)
    · rw [if_pos (a.2 h)]; exact (b.2 h).symm
    · rw [if_neg fun h' => h (a.1 h')]
      have : one (T.adr 1 (k / 256)) ≠ 1 := fun e => h (b.1 e)
      omega
  have h0 : in1 l (k : Int) 16 = one (T.adr 0 (k / 16)) := by
    have a : 0 < (rangeL l ((k : Int) / 16 * 16) ((k : Int) / 16 * 16 + 16)).length ↔ ne (mOf l) 0 (k / 16) := ne_range hs (L := 0) k 16 (by decide)
    have b := one_ne s0
    have c := one_le (T.adr 0 (k / 16))
    rw [hm] at b
    unfold in1
    by_cases h : ne (mOf l) 0 (k / 16)
    · rw [if_pos (a.2 h)]; exact (b.2 h).symm
    · rw [if_neg fun h' => h (a.1 h')]
      have : one (T.adr 0 (k / 16)) ≠ 1 := fun e => h (b.1 e)
      omega
  have b2 := one_ne hg.sub
  have c2 := one_le (T.adr 2 0)
  unfold pathL
  by_cases hl : l.length = 0
  · rw [if_pos hl]
    have hl' : l = [] := List.eq_nil_of_length_eq_zero hl
    subst hl'
    have hz : ∀ L q, ¬ ne T.m L q := by
      rintro L q ⟨x, _, hx⟩
      rw [hm, mOf_nil] at hx; cases hx
    have z2 : one (T.adr 2 0) ≠ 1 := fun e => hz _ _ ((one_ne hg.sub).1 e)
    have z1 : one (T.adr 1 (k / 256)) ≠ 1 := fun e => hz _ _ ((one_ne s1).1 e)
    have z0 : one (T.adr 0 (k / 16)) ≠ 1 := fun e => hz _ _ ((one_ne s0).1 e)
    have := one_le (T.adr 1 (k / 256))
    have := one_le (T.adr 0 (k / 16))
    omega
  · rw [if_neg hl, h1, h0]
    have hr : one (T.adr 2 0) = 1 := by
      rw [b2, hm]
      refine Classical.byContradiction fun hn => hl ?_
      rw [nil_of_mOf hs fun x => ?_]; rfl
      cases hx : mOf l x with
      | none => rfl
      | some c =>
        refine absurd ⟨x, ?_, by rw [hx]; rfl⟩ hn
        have : x < 4096 := by
          rcases Nat.lt_or_ge x 4096 with h | h
          · exact h
          · rw [mOf_out hs x h] at hx; cases hx
        exact Nat.div_eq_of_lt this
    omega

def moreL (l l' : List (Int × Int)) (b : Int) : Nat := if (diffL l l').isEmpty then 0 else pathL l' b

theorem diffL_empty {l k : List (Int × Int)} (hl : Srt l) (hk : Srt k) : (diffL l k).isEmpty = true ↔ mOf l = mOf k := by
  rw [diffL_eq hl hk]
  constructor
  · intro h
    funext x
    by_cases hx : x < 4096
    · refine Classical.byContradiction fun hne => ?_
      have hm : x ∈ diffR (mOf l) (mOf k) 0 4096 := mem_diffR.2 ⟨by omega, by omega, hne⟩
      cases hd : diffR (mOf l) (mOf k) 0 4096 with
      | nil => rw [hd] at hm; cases hm
      | cons y r => rw [hd] at h; cases h
    · rw [mOf_out hl x (by omega), mOf_out hk x (by omega)]
  · intro h
    rw [diffR_nil fun x _ _ => by rw [h]]; rfl

theorem change_in {l : List (Int × Int)} (h : Srt l) (o : OpN) (hne : (diffL l (doL l o)).isEmpty = false) : 0 ≤ o.blk ∧ o.blk ≤ 4095 := by
  have hd : ¬ mOf l = mOf (doL l o) := fun e => by rw [(diffL_empty h (srt_doL h o)).2 e] at hne; cases hne
  rw [← opM_mOf h o] at hd
  unfold opM at hd
  by_cases hc : o.clr = true
  · rw [if_pos hc] at hd
    unfold delM at hd
    by_cases h0 : 0 ≤ o.blk
    · rw [if_pos h0] at hd
      refine ⟨h0, ?_⟩
      by_cases hlt : 4095 < o.blk
      · refine absurd ?_ hd
        funext x
        unfold clrM
        split
        · rename_i e
          rw [e, mOf_out h _ (by omega)]
        · rfl
      · omega
    · rw [if_neg h0] at hd; exact absurd rfl hd
  · rw [if_neg hc] at hd
    unfold setM at hd
    by_cases h0 : 0 ≤ o.blk ∧ o.blk < 4096
    · omega
    · rw [if_neg h0] at hd; exact absurd rfl hd

theorem more_le {w : World} {T' : TV} {n' : Int} {l l' : List (Int × Int)} {b : Int} (hg : Good w T' n') (hm : T'.m = mOf l') (hs : Srt l') (hb : (diffL l l').isEmpty = false → 0 ≤ b ∧ b ≤ 4095) : moreL l l' b ≤ 3 := by
  unfold moreL
  cases h : (diffL l l').isEmpty with
  | true => simp
  | false =>
    obtain ⟨h0, h1⟩ := hb h
    obtain ⟨k, rfl⟩ := Int.eq_ofNat_of_zero_le h0
    rw [if_neg (by simp), path_count hg hm hs (by omega)]
    have := one_le (T'.adr 2 0)
    have := one_le (T'.adr 1 (k / 256))
    have := one_le (T'.adr 0 (k / 16))
    omega

theorem shares_count {w W : World} {T T' : TV} {n n' : Int} {l l' : List (Int × Int)} {b : Int} (hg : Good w T n) (hg' : Good W T' n') (hm : T.m = mOf l) (hm' : T'.m = mOf l') (hs : Srt l) (hs' : Srt l')
    (h : Shares w.heap.size T T' T'.m b.toNat) (hb : (diffL l l').isEmpty = false → 0 ≤ b ∧ b ≤ 4095) : (gthAll [(T, n), (T', n')]).length = countL l + moreL l l' b := by
  unfold moreL
  rcases h with ⟨rfl, h⟩ | ⟨hk, hne, B, hB, hadr⟩
  · have e : mOf l = mOf l' := by rw [← hm, ← hm']
    rw [if_pos ((diffL_empty hs hs').2 e), nodes_same hg, count_al hg hm hs]; rfl
  · have e : (diffL l l').isEmpty = false := by
      cases hd : (diffL l l').isEmpty with
      | false => rfl
      | true => exact absurd (by rw [hm, hm']; exact ((diffL_empty hs hs').1 hd).symm) hne
    obtain ⟨h0, h1⟩ := hb e
    obtain ⟨k, rfl⟩ := Int.eq_ofNat_of_zero_le h0
    have e0 : ((k : Int)).toNat = k := rfl
    rw [e0] at hadr hk
    rw [e, if_neg (by simp), gth_path hg hg' hk hB hadr, count_al hg hm hs, path_count hg' hm' hs' hk]
end Go.Proofs.YtognbkmamhgkeaaDoor
