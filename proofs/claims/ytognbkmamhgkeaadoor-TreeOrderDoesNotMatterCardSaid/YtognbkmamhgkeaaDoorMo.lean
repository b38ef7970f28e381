/-
  The plain words for a tree in memory: which node lies where, and what the tree maps; how they change when a block is set or cleared. No program is run here.
-/
import Derived.Test.YtognbkmamhgkeaaDoorLa
namespace Go.Proofs.YtognbkmamhgkeaaDoor
open Go Go.RowKit

structure NodeRow (cs : Array Value) (has : Nat) (kid : Nat → Option Nat) (ch : Nat → Int) : Prop where
  lt : has < 65536
  size : cs.size = 33
  c0 : cs[0]? = some (.int .u16 has)
  ck : ∀ i, i < 16 → cs[1 + i]? = some (ptrV (kid i))
  cc : ∀ i, i < 16 → cs[17 + i]? = some (.int .i64 (ch i))

theorem ptrV_one (x : Option Nat) : (ptrV x).oneCell' = true := by cases x <;> rfl

theorem NodeRow.one {cs : Array Value} {has : Nat} {kid : Nat → Option Nat} {ch : Nat → Int} (h : NodeRow cs has kid ch) : ∀ v, v ∈ cs.toList → v.oneCell' = true := by
  intro v hv
  obtain ⟨i, hi, rfl⟩ := List.mem_iff_getElem.1 hv
  have hi' : i < cs.size := by simpa using hi
  have hs := h.size
  have e : cs[i]? = some cs[i] := Array.getElem?_eq_getElem hi'
  have e' : cs.toList[i] = cs[i] := by simp
  rw [e']
  by_cases h0 : i = 0
  · subst h0; rw [h.c0] at e; injection e with e; rw [← e]; rfl
  · by_cases h1 : i < 17
    · have := h.ck (i - 1) (by omega)
      rw [show 1 + (i - 1) = i by omega, e] at this; injection this with this; rw [this]; exact ptrV_one _
    · have := h.cc (i - 17) (by omega)
      rw [show 17 + (i - 17) = i by omega, e] at this; injection this with this; rw [this]; rfl

theorem NodeRow.zero : NodeRow zeroNode 0 (fun _ => none) (fun _ => 0) := by
  refine ⟨by omega, zeroNode_size, rfl, fun i hi => ?_, fun i hi => ?_⟩
  · match i, hi with
    | 0, _ | 1, _ | 2, _ | 3, _ | 4, _ | 5, _ | 6, _ | 7, _ | 8, _ | 9, _ | 10, _ | 11, _ | 12, _ | 13, _ | 14, _ | 15, _ => rfl
    | n + 16, h => omega
  · match i, hi with
    | 0, _ | 1, _ | 2, _ | 3, _ | 4, _ | 5, _ | 6, _ | 7, _ | 8, _ | 9, _ | 10, _ | 11, _ | 12, _ | 13, _ | 14, _ | 15, _ => rfl
    | n + 16, h => omega

theorem NodeRow.congr {cs : Array Value} {has : Nat} {kid kid' : Nat → Option Nat} {ch ch' : Nat → Int} (h : NodeRow cs has kid ch) (hk : ∀ i, i < 16 → kid i = kid' i) (hc : ∀ i, i < 16 → ch i = ch' i) :
    NodeRow cs has kid' ch' :=
  ⟨h.lt, h.size, h.c0, fun i hi => by rw [← hk i hi]; exact h.ck i hi, fun i hi => by rw [← hc i hi]; exact h.cc i hi⟩

theorem NodeRow.setHas {cs : Array Value} {has has' : Nat} {kid : Nat → Option Nat} {ch : Nat → Int} (h : NodeRow cs has kid ch) (hl : has' < 65536) :
    NodeRow (cs.setIfInBounds 0 (.int .u16 has')) has' kid ch := by
  have hs := h.size
  refine ⟨hl, by simpa using hs, by rw [Array.getElem?_setIfInBounds_self_of_lt (by omega)], fun i hi => ?_, fun i hi => ?_⟩
  · rw [Array.getElem?_setIfInBounds_ne (by omega)]; exact h.ck i hi
  · rw [Array.getElem?_setIfInBounds_ne (by omega)]; exact h.cc i hi

theorem NodeRow.setKid {cs : Array Value} {has : Nat} {kid : Nat → Option Nat} {ch : Nat → Int} (h : NodeRow cs has kid ch) (j : Nat) (hj : j < 16) (x : Option Nat) :
    NodeRow (cs.setIfInBounds (1 + j) (ptrV x)) has (fun i => if i = j then x else kid i) ch := by
  have hs := h.size
  refine ⟨h.lt, by simpa using hs, by rw [Array.getElem?_setIfInBounds_ne (by omega)]; exact h.c0, fun i hi => ?_, fun i hi => ?_⟩
  · by_cases e : i = j
    · subst e; rw [Array.getElem?_setIfInBounds_self_of_lt (by omega), if_pos rfl]
    · rw [Array.getElem?_setIfInBounds_ne (by omega), if_neg e]; exact h.ck i hi
  · rw [Array.getElem?_setIfInBounds_ne (by omega)]; exact h.cc i hi

theorem NodeRow.setCh {cs : Array Value} {has : Nat} {kid : Nat → Option Nat} {ch : Nat → Int} (h : NodeRow cs has kid ch) (j : Nat) (hj : j < 16) (x : Int) :
    NodeRow (cs.setIfInBounds (17 + j) (.int .i64 x)) has kid (fun i => if i = j then x else ch i) := by
  have hs := h.size
  refine ⟨h.lt, by simpa using hs, by rw [Array.getElem?_setIfInBounds_ne (by omega)]; exact h.c0, fun i hi => ?_, fun i hi => ?_⟩
  · rw [Array.getElem?_setIfInBounds_ne (by omega)]; exact h.ck i hi
  · by_cases e : i = j
    · subst e; rw [Array.getElem?_setIfInBounds_self_of_lt (by omega), if_pos rfl]
    · rw [Array.getElem?_setIfInBounds_ne (by omega), if_neg e]; exact h.cc i hi

/-- Who lies where (level and range ↦ block of memory), and what is mapped (block ↦ chunk). -/
structure TV where
  adr : Nat → Nat → Option Nat
  m : Nat → Option Int

def occ (T : TV) : Nat → Nat → Bool
  | 0, j => (T.m j).isSome
  | L + 1, j => (T.adr L j).isSome
def kid (T : TV) : Nat → Nat → Option Nat
  | 0, _ => none
  | L + 1, j => T.adr L j
def chv (T : TV) : Nat → Nat → Int
  | 0, j => (T.m j).getD 0
  | _ + 1, _ => 0

def NodeAt (w : World) (b has : Nat) (kd : Nat → Option Nat) (ch : Nat → Int) : Prop := ∃ cs, w.heap[b]? = some (.cells cs 76) ∧ NodeRow cs has kd ch

theorem NodeAt.lt {w : World} {b has : Nat} {kd : Nat → Option Nat} {ch : Nat → Int} (h : NodeAt w b has kd ch) : b < w.heap.size := by
  obtain ⟨cs, h, _⟩ := h
  rcases Nat.lt_or_ge b w.heap.size with hlt | hge
  · exact hlt
  · rw [Array.getElem?_eq_none hge] at h; cases h

theorem NodeAt.below {w w' : World} {b has : Nat} {kd : Nat → Option Nat} {ch : Nat → Int} (h : NodeAt w b has kd ch) (hb : Below w.heap.size w w') : NodeAt w' b has kd ch := by
  have hl := h.lt
  obtain ⟨cs, h, r⟩ := h
  exact ⟨cs, (hb.block b hl).trans h, r⟩

def Nd (w : World) (T : TV) (L q : Nat) : Prop :=
  (T.adr L q = none → ∀ i, i < 16 → occ T L (16 * q + i) = false) ∧
  ∀ b, T.adr L q = some b → (∃ has, NodeAt w b has (fun i => kid T L (16 * q + i)) (fun i => chv T L (16 * q + i)) ∧ ∀ i, i < 16 → has.testBit i = occ T L (16 * q + i)) ∧ ∃ i, i < 16 ∧ occ T L (16 * q + i) = true

def Sub (w : World) (T : TV) : Nat → Nat → Prop
  | 0, q => Nd w T 0 q
  | L + 1, q => Nd w T (L + 1) q ∧ ∀ i, i < 16 → Sub w T L (16 * q + i)

theorem Sub.nd {w : World} {T : TV} {L q : Nat} (h : Sub w T L q) : Nd w T L q := by cases L with | zero => exact h | succ L => exact h.1

theorem Nd.below {w w' : World} {T : TV} {L q : Nat} (h : Nd w T L q) (hb : Below w.heap.size w w') : Nd w' T L q := by
  refine ⟨h.1, fun b e => ?_⟩
  obtain ⟨⟨has, hn, hbit⟩, hi⟩ := h.2 b e
  exact ⟨⟨has, hn.below hb, hbit⟩, hi⟩

theorem Sub.below {w w' : World} {T : TV} (hb : Below w.heap.size w w') : ∀ {L q : Nat}, Sub w T L q → Sub w' T L q
  | 0, _, h => Nd.below h hb
  | _ + 1, _, h => ⟨Nd.below h.1 hb, fun i hi => Sub.below hb (h.2 i hi)⟩

/-- At the levels up to L, below the range q, two trees are one. -/
def Agree (T T' : TV) (L q : Nat) : Prop := (∀ l, l ≤ L → ∀ x, x / 16 ^ (L - l) = q → T.adr l x = T'.adr l x) ∧ ∀ x, x / 16 ^ (L + 1) = q → T.m x = T'.m x

theorem div_succ (x k : Nat) : x / 16 ^ (k + 1) = x / 16 ^ k / 16 := by rw [Nat.pow_succ, Nat.div_div_eq_div_mul]

theorem Agree.kid {T T' : TV} {L q i : Nat} (h : Agree T T' (L + 1) q) (hi : i < 16) : Agree T T' L (16 * q + i) := by
  refine ⟨fun l hl x hx => h.1 l (by omega) x ?_, fun x hx => h.2 x ?_⟩
  · rw [show L + 1 - l = (L - l) + 1 by omega, div_succ, hx]; omega
  · rw [div_succ, hx]; omega

theorem Agree.occ {T T' : TV} {L q i : Nat} (h : Agree T T' L q) (hi : i < 16) : occ T L (16 * q + i) = occ T' L (16 * q + i) := by
  cases L with
  | zero => simp only [YtognbkmamhgkeaaDoor.occ]; rw [h.2 (16 * q + i) (by omega)]
  | succ L => simp only [YtognbkmamhgkeaaDoor.occ]; rw [h.1 L (by omega) (16 * q + i) (by rw [show L + 1 - L = 0 + 1 by omega, div_succ]; omega)]
theorem Agree.kidE {T T' : TV} {L q i : Nat} (h : Agree T T' L q) (hi : i < 16) : YtognbkmamhgkeaaDoor.kid T L (16 * q + i) = YtognbkmamhgkeaaDoor.kid T' L (16 * q + i) := by
  cases L with
  | zero => rfl
  | succ L => simp only [YtognbkmamhgkeaaDoor.kid]; rw [h.1 L (by omega) (16 * q + i) (by rw [show L + 1 - L = 0 + 1 by omega, div_succ]; omega)]
theorem Agree.chE {T T' : TV} {L q i : Nat} (h : Agree T T' L q) (hi : i < 16) : chv T L (16 * q + i) = chv T' L (16 * q + i) := by
  cases L with
  | zero => simp only [chv]; rw [h.2 (16 * q + i) (by omega)]
  | succ L => rfl

theorem Nd.congr {w : World} {T T' : TV} {L q : Nat} (h : Nd w T L q) (ha : Agree T T' L q) : Nd w T' L q := by
  have e : T.adr L q = T'.adr L q := ha.1 L (Nat.le_refl _) q (by simp)
  refine ⟨fun hn i hi => by rw [← ha.occ hi]; exact h.1 (e.trans hn) i hi, fun b hb => ?_⟩
  obtain ⟨⟨has, ⟨cs, hr, hn⟩, hbit⟩, i, hi, ho⟩ := h.2 b (e.trans hb)
  exact ⟨⟨has, ⟨cs, hr, hn.congr (fun i hi => ha.kidE hi) (fun i hi => ha.chE hi)⟩, fun i hi => by rw [← ha.occ hi]; exact hbit i hi⟩, i, hi, by rw [← ha.occ hi]; exact ho⟩

theorem Sub.congr {w : World} {T T' : TV} : ∀ {L q : Nat}, Sub w T L q → Agree T T' L q → Sub w T' L q
  | 0, _, h, ha => Nd.congr h ha
  | _ + 1, _, h, ha => ⟨Nd.congr h.1 ha, fun i hi => Sub.congr (h.2 i hi) (ha.kid hi)⟩

/-- Something is mapped in the range q of level L. -/
def ne (m : Nat → Option Int) (L q : Nat) : Prop := ∃ x, x / 16 ^ (L + 1) = q ∧ (m x).isSome = true

theorem ne_kid {m : Nat → Option Int} {L q : Nat} : ne m (L + 1) q ↔ ∃ i, i < 16 ∧ ne m L (16 * q + i) := by
  constructor
  · rintro ⟨x, hx, h⟩
    refine ⟨x / 16 ^ (L + 1) % 16, Nat.mod_lt _ (by omega), x, ?_, h⟩
    rw [div_succ] at hx; omega
  · rintro ⟨i, hi, x, hx, h⟩
    exact ⟨x, by rw [div_succ, hx]; omega, h⟩

theorem Nd.iff {w : World} {T : TV} {L q : Nat} (h : Nd w T L q) : (T.adr L q).isSome = true ↔ ∃ i, i < 16 ∧ occ T L (16 * q + i) = true := by
  constructor
  · intro hs
    obtain ⟨b, hb⟩ := Option.isSome_iff_exists.1 hs
    exact (h.2 b hb).2
  · rintro ⟨i, hi, ho⟩
    cases hc : T.adr L q with
    | none => rw [h.1 hc i hi] at ho; cases ho
    | some b => rfl

theorem Sub.iff {w : World} {T : TV} : ∀ {L q : Nat}, Sub w T L q → ((T.adr L q).isSome = true ↔ ne T.m L q)
  | 0, q, h => by
    rw [Nd.iff h]
    constructor
    · rintro ⟨i, hi, ho⟩; exact ⟨16 * q + i, by omega, ho⟩
    · rintro ⟨x, hx, ho⟩
      refine ⟨x % 16, by omega, ?_⟩
      have : 16 * q + x % 16 = x := by omega
      rw [this]; exact ho
  | L + 1, q, h => by
    rw [Nd.iff h.1, ne_kid]
    constructor
    · rintro ⟨i, hi, ho⟩; exact ⟨i, hi, (Sub.iff (h.2 i hi)).1 ho⟩
    · rintro ⟨i, hi, ho⟩; exact ⟨i, hi, (Sub.iff (h.2 i hi)).2 ho⟩

end Go.Proofs.YtognbkmamhgkeaaDoor
