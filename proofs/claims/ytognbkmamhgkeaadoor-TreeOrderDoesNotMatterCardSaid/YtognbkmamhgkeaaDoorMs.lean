/-
  The plain words, second part: a tree in memory when a block is set: the new nodes lie on the block's way, all others are shared. No program is run here.
-/
import Derived.Test.YtognbkmamhgkeaaDoorMo
import Derived.Lib.Hide
namespace Go.Proofs.YtognbkmamhgkeaaDoor
open Go Go.RowKit

def OldRow (T : TV) (L q has : Nat) (cs : Array Value) : Prop :=
  NodeRow cs has (fun i => kid T L (16 * q + i)) (fun i => chv T L (16 * q + i)) ∧ ∀ i, i < 16 → has.testBit i = occ T L (16 * q + i)

theorem oldRow_nil {w : World} {T : TV} {L q : Nat} (h : Nd w T L q) (hn : T.adr L q = none) : OldRow T L q 0 zeroNode := by
  have ho := h.1 hn
  refine ⟨NodeRow.zero.congr (fun i hi => ?_) (fun i hi => ?_), fun i hi => by rw [ho i hi]; simp⟩
  · have := ho i hi
    cases L with
    | zero => rfl
    | succ L => simp only [occ] at this; simp only [kid]; cases hc : T.adr L (16 * q + i) <;> simp_all
  · have := ho i hi
    cases L with
    | zero => simp only [occ] at this; simp only [chv]; cases hc : T.m (16 * q + i) <;> simp_all
    | succ L => rfl
theorem oldRow_some {w : World} {T : TV} {L q g : Nat} (h : Nd w T L q) (hn : T.adr L q = some g) : ∃ has cs, w.heap[g]? = some (.cells cs 76) ∧ g < w.heap.size ∧ OldRow T L q has cs := by
  obtain ⟨⟨has, hat, hb⟩, _⟩ := h.2 g hn
  have hl := hat.lt
  obtain ⟨cs, hr, hr'⟩ := hat
  exact ⟨has, cs, hr, hl, hr', hb⟩
theorem heap_alloc_lt {w : World} {o x : Obj} {g : Nat} (h : w.heap[g]? = some x) (hl : g < w.heap.size) : (w.alloc o).heap[g]? = some x := (Below.heap_alloc w o g hl).trans h

/-- Every node below the range q of level L lies at an address of S. -/
def Within (T : TV) (L q : Nat) (S : Nat → Prop) : Prop := ∀ l, l ≤ L → ∀ x, x / 16 ^ (L - l) = q → ∀ b, T.adr l x = some b → S b

theorem Within.kid {T : TV} {L q i : Nat} {S : Nat → Prop} (h : Within T (L + 1) q S) (hi : i < 16) : Within T L (16 * q + i) S :=
  fun l hl x hx b hb => h l (by omega) x (by rw [show L + 1 - l = (L - l) + 1 by omega, div_succ, hx]; omega) b hb

theorem Sub.within {w : World} {T : TV} : ∀ {L q : Nat}, Sub w T L q → Within T L q (· < w.heap.size)
  | 0, q, h => fun l hl x hx b hb => by
    obtain rfl : l = 0 := by omega
    have hxq : x = q := by simpa using hx
    subst hxq
    obtain ⟨⟨has, hat, _⟩, _⟩ := h.2 b hb
    exact hat.lt
  | L + 1, q, h => fun l hl x hx b hb => by
    by_cases hlL : l = L + 1
    · subst hlL
      have hxq : x = q := by simpa using hx
      subst hxq
      obtain ⟨⟨has, hat, _⟩, _⟩ := h.1.2 b hb
      exact hat.lt
    · have hx' : x / 16 ^ (L - l) / 16 = q := by rw [← div_succ, show (L - l) + 1 = L + 1 - l by omega]; exact hx
      have hi : x / 16 ^ (L - l) % 16 < 16 := Nat.mod_lt _ (by omega)
      exact Sub.within (h.2 _ hi) l (by omega) x (by omega) b hb

theorem Nd.move {w w' : World} {T : TV} {L q : Nat} (h : Nd w T L q) (hm : ∀ b, T.adr L q = some b → w'.heap[b]? = w.heap[b]?) : Nd w' T L q := by
  refine ⟨h.1, fun b e => ?_⟩
  obtain ⟨⟨has, ⟨cs, hr, hn⟩, hbit⟩, hi⟩ := h.2 b e
  exact ⟨⟨has, ⟨cs, (hm b e).trans hr, hn⟩, hbit⟩, hi⟩

theorem Sub.move {w w' : World} {T : TV} {S : Nat → Prop} (hm : ∀ b, S b → w'.heap[b]? = w.heap[b]?) : ∀ {L q : Nat}, Sub w T L q → Within T L q S → Sub w' T L q
  | 0, q, h, hs => Nd.move h fun b hb => hm b (hs 0 (Nat.le_refl _) q (by simp) b hb)
  | L + 1, q, h, hs => ⟨Nd.move h.1 fun b hb => hm b (hs (L + 1) (Nat.le_refl _) q (by simp) b hb), fun i hi => Sub.move hm (h.2 i hi) (hs.kid hi)⟩

theorem Within.congr {T T' : TV} {L q : Nat} {S : Nat → Prop} (h : Within T L q S) (ha : Agree T T' L q) : Within T' L q S :=
  fun l hl x hx b hb => h l hl x hx b ((ha.1 l hl x hx).trans hb)

theorem Within.weaken {T : TV} {L q : Nat} {S S' : Nat → Prop} (h : Within T L q S) (hs : ∀ b, S b → S' b) : Within T L q S' :=
  fun l hl x hx b hb => hs b (h l hl x hx b hb)

def TV.set (T : TV) (B L b : Nat) (c : Int) : TV :=
  { adr := fun l p => if l ≤ L ∧ p = b / 16 ^ (l + 1) then some (B + (L - l)) else T.adr l p
    m := fun x => if x = b then some c else T.m x }

theorem bit_or (has i j : Nat) : (has ||| 2 ^ i).testBit j = (has.testBit j || decide (i = j)) := by rw [Nat.testBit_or, Nat.testBit_two_pow]

theorem or_lt (has i : Nat) (hl : has < 65536) (hi : i < 16) : has ||| 2 ^ i < 65536 := by
  have h1 : (2 : Nat) ^ i < 2 ^ 16 := Nat.pow_lt_pow_right (by omega) hi
  exact Nat.or_lt_two_pow (n := 16) hl h1

theorem set0_end {T : TV} {q b : Nat} {c : Int} {w' : World} {cs : Array Value} {has i : Nat} (B : Nat) (hold : OldRow T 0 q has cs) (hq : b / 16 = q) (hi : i = b / 16 ^ 0 % 16)
    (hw : w'.heap[B]? = some (.cells ((cs.setIfInBounds 0 (.int .u16 ((has ||| 2 ^ i : Nat) : Int))).setIfInBounds (17 + i) (.int .i64 c)) 76)) :
    Sub w' (T.set B 0 b c) 0 q := by
  have hi' : i = b % 16 := by simpa using hi
  have hi16 : i < 16 := by omega
  have hadr : (T.set B 0 b c).adr 0 q = some B := by
    have e : q = b / 16 ^ (0 + 1) := by rw [← hq]
    simp only [TV.set]; rw [if_pos ⟨Nat.le_refl _, e⟩]; rfl
  have hm : ∀ j, j < 16 → (T.set B 0 b c).m (16 * q + j) = if j = i then some c else T.m (16 * q + j) := by
    intro j hj
    simp only [TV.set]
    by_cases e : j = i
    · rw [if_pos e, if_pos (by omega)]
    · rw [if_neg e, if_neg (by omega)]
  refine ⟨(fun hn => by rw [hadr] at hn; cases hn), fun b' hb' => ?_⟩
  rw [hadr] at hb'; injection hb' with hb'; subst hb'
  refine ⟨⟨has ||| 2 ^ i, ⟨_, hw, ((hold.1.setHas (or_lt has i hold.1.lt hi16)).setCh i hi16 c).congr (fun j hj => rfl) (fun j hj => ?_)⟩, fun j hj => ?_⟩, i, hi16, ?_⟩
  · simp only [chv]; rw [hm j hj]
    by_cases e : j = i
    · simp [e]
    · simp [e]
  · rw [bit_or, hold.2 j hj]; simp only [occ]; rw [hm j hj]
    by_cases e : j = i
    · simp [e]
    · simp [e, Ne.symm e]
  · simp only [occ]; rw [hm i hi16, if_pos rfl]; rfl

theorem set_within {T : TV} {B L b : Nat} {c : Int} {q : Nat} {S : Nat → Prop} (h : Within T L q S) : Within (T.set B L b c) L q (fun x => S x ∨ B ≤ x) := by
  intro l hl x hx y hy
  simp only [TV.set] at hy
  split at hy
  · injection hy with hy; exact .inr (by omega)
  · exact .inl (h l hl x hx y hy)

theorem set_agree_up {T : TV} {B L b : Nat} {c : Int} {q : Nat} : Agree (T.set (B + 1) L b c) (T.set B (L + 1) b c) L q := by
  refine ⟨fun l hl x hx => ?_, fun x hx => rfl⟩
  simp only [TV.set]
  by_cases e : x = b / 16 ^ (l + 1)
  · rw [if_pos ⟨hl, e⟩, if_pos ⟨by omega, e⟩]; congr 1; omega
  · rw [if_neg (fun h => e h.2), if_neg (fun h => e h.2)]

theorem set_agree_off {T : TV} {B L M b : Nat} {c : Int} {q : Nat} (hq : b / 16 ^ (L + 1) ≠ q) : Agree T (T.set B M b c) L q := by
  refine ⟨fun l hl x hx => ?_, fun x hx => ?_⟩
  · simp only [TV.set]
    rw [if_neg]
    rintro ⟨_, rfl⟩
    apply hq
    rw [← hx, Nat.div_div_eq_div_mul, ← Nat.pow_add]
    congr 2; omega
  · simp only [TV.set]; rw [if_neg]; rintro rfl; exact hq hx

theorem setS_end {T : TV} {L q b : Nat} {c : Int} {w w2 w3 : World} {cs : Array Value} {has i B : Nat} (hB : B = w.heap.size) (hold : OldRow T (L + 1) q has cs) (hq : b / 16 ^ (L + 2) = q) (hi : i = b / 16 ^ (L + 1) % 16)
    (hsub : ∀ j, j < 16 → Sub w T L (16 * q + j)) (hkid : Sub w2 (T.set (B + 1) L b c) L (16 * q + i))
    (hold2 : ∀ k, k < B → w3.heap[k]? = w.heap[k]?) (hnew : ∀ k, B + 1 ≤ k → w3.heap[k]? = w2.heap[k]?) (hold3 : ∀ k, k < B → w3.heap[k]? = w2.heap[k]?)
    (hw : w3.heap[B]? = some (.cells ((cs.setIfInBounds 0 (.int .u16 ((has ||| 2 ^ i : Nat) : Int))).setIfInBounds (1 + i) (ptrV (some (B + 1)))) 76)) :
    Sub w3 (T.set B (L + 1) b c) (L + 1) q := by
  have hi16 : i < 16 := by omega
  have hq' : b / 16 ^ (L + 1) = 16 * q + i := by
    rw [show L + 2 = (L + 1) + 1 by omega, div_succ] at hq; omega
  have hadr : (T.set B (L + 1) b c).adr (L + 1) q = some B := by
    simp only [TV.set]; rw [if_pos ⟨Nat.le_refl _, hq.symm⟩]; simp
  have hm : ∀ j, j < 16 → (T.set B (L + 1) b c).adr L (16 * q + j) = if j = i then some (B + 1) else T.adr L (16 * q + j) := by
    intro j hj
    simp only [TV.set]
    by_cases e : j = i
    · rw [if_pos e, if_pos ⟨by omega, by omega⟩]; congr 1; omega
    · rw [if_neg e, if_neg (by omega)]
  refine ⟨⟨(fun hn => by rw [hadr] at hn; cases hn), fun b' hb' => ?_⟩, fun j hj => ?_⟩
  · rw [hadr] at hb'; injection hb' with hb'; subst hb'
    refine ⟨⟨has ||| 2 ^ i, ⟨_, hw, ((hold.1.setHas (or_lt has i hold.1.lt hi16)).setKid i hi16 _).congr (fun j hj => ?_) (fun j hj => rfl)⟩, fun j hj => ?_⟩, i, hi16, ?_⟩
    · simp only [kid]; rw [hm j hj]
    · rw [bit_or, hold.2 j hj]; simp only [occ]; rw [hm j hj]
      by_cases e : j = i
      · simp [e]
      · simp [e, Ne.symm e]
    · simp only [occ]; rw [hm i hi16, if_pos rfl]; rfl
  · by_cases e : j = i
    · subst e
      refine Sub.congr ?_ set_agree_up
      exact Sub.move (S := fun x => x < B ∨ B + 1 ≤ x) (fun x hx => by rcases hx with hx | hx; exact hold3 x hx; exact hnew x hx) hkid (set_within ((hsub j hj).within.weaken fun x hx => by omega))
    · have ha : Agree T (T.set B (L + 1) b c) L (16 * q + j) := set_agree_off (by omega)
      refine Sub.congr ?_ ha
      exact Sub.move (S := fun x => x < B) (fun x hx => hold2 x hx) (hsub j hj) ((hsub j hj).within.weaken fun x hx => by omega)

end Go.Proofs.YtognbkmamhgkeaaDoor
