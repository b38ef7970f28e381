/-
  The laws of a set of nodes (a map from pointers to bool that the call made): look-up, store, length; and of pointers' equality. No condition but those of each theorem.
-/
import Derived.Test.YtognbkmamhgkeaaDoorMo
namespace Go.Proofs.YtognbkmamhgkeaaDoor
open Go Go.RowKit

/-- Block b holds a node: 33 cells, none frozen. -/
def NodeBlk (w : World) (b : Nat) : Prop := ∃ cs : Array Value, w.heap[b]? = some (.cells cs 76) ∧ cs.size = 33

theorem NodeAt.blk {w : World} {b has : Nat} {kd : Nat → Option Nat} {ch : Nat → Int} (h : NodeAt w b has kd ch) : NodeBlk w b := by
  obtain ⟨cs, h, r⟩ := h; exact ⟨cs, h, r.size⟩

theorem info76' : ∃ i, Tryd.prog.info? 76 = some i ∧ i.size = 33 := by
  have := info76
  cases h : Tryd.prog.info? 76 with
  | none => simp [h] at this
  | some i => exact ⟨i, rfl, by simpa [h] using this⟩

theorem equal_ptr {w : World} {a b : Nat} (ha : NodeBlk w a) (hb : NodeBlk w b) (d : Nat) :
    (Op.equalIn (d + 1) 29 (.pointer (some ⟨a, 0, none⟩)) (.pointer (some ⟨b, 0, none⟩))).run Tryd.prog w = .ok (decide (a = b)) w := by
  obtain ⟨ca, ha, sa⟩ := ha
  obtain ⟨cb, hb, sb⟩ := hb
  obtain ⟨i, hi, hz⟩ := info76'
  by_cases e : a = b
  · subst e
    simp [Op.equalIn, run_underlying Tryd.underlying29, sizeOf, typeInfo, hi, sameAddr]
  · have fa : ∀ o, w.frozen? ⟨a, o, none⟩ = false := fun o => by simp [World.frozen?, ha]
    have fb : ∀ o, w.frozen? ⟨b, o, none⟩ = false := fun o => by simp [World.frozen?, hb]
    have ga : w.shape? a = some (76, 33) := by simp [World.shape?, ha, sa]
    have gb : w.shape? b = some (76, 33) := by simp [World.shape?, hb, sb]
    simp [Op.equalIn, run_underlying Tryd.underlying29, sizeOf, typeInfo, hi, hz, sameAddr, e, frozen, noView, viewAt, mayBeOne, stringish, shape, Sem.run, fa, fb, ga, gb]

/-- Block M is a map that holds just the nodes of S, each with true. -/
def MapAt (w : World) (M : Nat) (S : List Nat) : Prop :=
  ∃ (es : Array MapEntry) (clock : Nat), w.heap[M]? = some (.map es clock) ∧ es.toList.map (fun e => (e.key, e.val)) = S.map (fun a => (Value.pointer (some ⟨a, 0, none⟩), Value.bool true)) ∧ ∀ a, a ∈ S → NodeBlk w a

theorem find_ptr {w : World} {a : Nat} (ha : NodeBlk w a) : ∀ (es : List MapEntry) (S : List Nat) (i : Nat), es.map (fun e => (e.key, e.val)) = S.map (fun a => (Value.pointer (some ⟨a, 0, none⟩), Value.bool true)) → (∀ a, a ∈ S → NodeBlk w a) →
    (Instr.findAsking 29 (.pointer (some ⟨a, 0, none⟩)) es i).run Tryd.prog w = .ok (if a ∈ S then some (i + S.idxOf a, .bool true) else none) w
  | [], [], i, _, _ => by simp [Instr.findAsking]
  | [], _ :: _, _, h, _ => by simp at h
  | _ :: _, [], _, h, _ => by simp at h
  | e :: es, s :: S, i, h, hn => by
    simp only [List.map_cons, List.cons.injEq, Prod.mk.injEq] at h
    obtain ⟨⟨hk, hv⟩, ht⟩ := h
    have ih := find_ptr ha es S (i + 1) ht (fun x hx => hn x (List.mem_cons_of_mem _ hx))
    have he := equal_ptr ha (hn s List.mem_cons_self) 9999
    have he' : (Op.equal 29 (.pointer (some ⟨a, 0, none⟩)) (.pointer (some ⟨s, 0, none⟩))).run Tryd.prog w = .ok (decide (a = s)) w := he
    unfold Instr.findAsking
    rw [Sem.run_bind, hk, he']
    by_cases hs : a = s
    · subst hs
      simp [hv]
    · simp only [Result.andThen_ok, decide_eq_false hs, Bool.false_eq_true, if_false]
      rw [ih]
      have hbeq : (s == a) = false := by simp; exact fun h => hs h.symm
      by_cases hm : a ∈ S
      · simp [hm, List.idxOf_cons, hbeq]; omega
      · simp [hm, hs]

theorem findNow_ptr (a : Addr) (es : List MapEntry) (t : TypeId) (hne : es ≠ []) : Instr.findNow (.pointer t) (.pointer (some a)) es 0 = none := by
  cases es with
  | nil => exact absurd rfl hne
  | cons e es => simp [Instr.findNow, Instr.sameNow]

theorem findKey_ptr {w : World} {a : Nat} (ha : NodeBlk w a) (es : List MapEntry) (S : List Nat) (h : es.map (fun e => (e.key, e.val)) = S.map (fun a => (Value.pointer (some ⟨a, 0, none⟩), Value.bool true))) (hn : ∀ a, a ∈ S → NodeBlk w a) :
    (Instr.findKey 29 (.pointer (some ⟨a, 0, none⟩)) es).run Tryd.prog w = .ok (if a ∈ S then some (S.idxOf a, .bool true) else none) w := by
  unfold Instr.findKey
  rw [Sem.run_bind, run_underlying Tryd.underlying29]
  simp only [Result.andThen_ok]
  cases es with
  | nil =>
    cases S with
    | nil => simp [Instr.findNow]
    | cons s S => simp at h
  | cons e es =>
    rw [findNow_ptr _ _ _ (by simp)]
    have := find_ptr ha (e :: es) S 0 h hn
    simpa using this

theorem lookup62 {w : World} {M a : Nat} {S : List Nat} (hm : MapAt w M S) (ha : NodeBlk w a) :
    (Instr.lookup 62 (.map (some M)) (.pointer (some ⟨a, 0, none⟩)) false).run Tryd.prog w = .ok (.bool (decide (a ∈ S))) w := by
  obtain ⟨es, clock, hh, he, hn⟩ := hm
  have hf := findKey_ptr ha es.toList S he hn
  have hz : (zeroValue 4).run Tryd.prog w = .ok (.bool false) w := by kernel_rfl
  have hg : (getObj M).run Tryd.prog w = .ok (.map es clock) w := by simp [getObj, Sem.run, hh]
  unfold Instr.lookup
  simp only [Sem.run_bind, run_underlying Tryd.underlying62, Result.andThen_ok, hg, Sem.run_pure]
  have hck : ∀ b, (Instr.checkKey b 10000 29 (.pointer (some ⟨a, 0, none⟩))).run Tryd.prog w = .ok () w := by
    intro b
    show (Instr.checkKey b (9999 + 1) 29 _).run Tryd.prog w = _
    unfold Instr.checkKey
    simp only [Sem.run_bind, run_underlying Tryd.underlying29, Result.andThen_ok, Sem.run_pure]
  rw [hck]
  simp only [Result.andThen_ok, hf]
  by_cases hs : a ∈ S
  · simp [hs]
  · simp [hs, hz]

/-- Only block M has changed, and no block has come. -/
structure Only (M : Nat) (w w' : World) : Prop where
  os : w'.os = w.os
  tape : w'.tape = w.tape
  output : w'.output = w.output
  size : w'.heap.size = w.heap.size
  block : ∀ k, k ≠ M → w'.heap[k]? = w.heap[k]?

theorem Only.refl (M : Nat) (w : World) : Only M w w := ⟨rfl, rfl, rfl, rfl, fun _ _ => rfl⟩
theorem Only.trans {M : Nat} {a b c : World} (h : Only M a b) (k : Only M b c) : Only M a c :=
  ⟨k.os.trans h.os, k.tape.trans h.tape, k.output.trans h.output, k.size.trans h.size, fun i hi => (k.block i hi).trans (h.block i hi)⟩
theorem Only.below {M : Nat} {w w' : World} (h : Only M w w') {B : Nat} (hB : B ≤ M) : Below B w w' := ⟨h.os, h.tape, h.output, Nat.le_of_eq h.size.symm, fun k hk => h.block k (by omega)⟩

theorem MapAt.ne {w : World} {M a : Nat} {S : List Nat} (hm : MapAt w M S) (ha : NodeBlk w a) : a ≠ M := by
  rintro rfl
  obtain ⟨es, clock, hh, _⟩ := hm
  obtain ⟨cs, h, _⟩ := ha
  rw [hh] at h; cases h

theorem NodeBlk.only {M : Nat} {w w' : World} {a : Nat} (h : NodeBlk w a) (ho : Only M w w') (hne : a ≠ M) : NodeBlk w' a := by
  obtain ⟨cs, h, hs⟩ := h
  exact ⟨cs, (ho.block a hne).trans h, hs⟩

theorem update62 {w : World} {M a : Nat} {S : List Nat} (hm : MapAt w M S) (ha : NodeBlk w a) (hs : a ∉ S) :
    ∃ w', (Instr.mapUpdate 62 (.map (some M)) (.pointer (some ⟨a, 0, none⟩)) (.bool true)).run Tryd.prog w = .ok () w' ∧ Only M w w' ∧ MapAt w' M (S ++ [a]) := by
  have hne := hm.ne ha
  have hmem := hm
  obtain ⟨es, clock, hh, he, hn⟩ := hm
  have hf := findKey_ptr ha es.toList S he hn
  have hg : (getObj M).run Tryd.prog w = .ok (.map es clock) w := by simp [getObj, Sem.run, hh]
  have hck : ∀ b, (Instr.checkKey b 10000 29 (.pointer (some ⟨a, 0, none⟩))).run Tryd.prog w = .ok () w := by
    intro b
    show (Instr.checkKey b (9999 + 1) 29 _).run Tryd.prog w = _
    unfold Instr.checkKey
    simp only [Sem.run_bind, run_underlying Tryd.underlying29, Result.andThen_ok, Sem.run_pure]
  rw [if_neg hs] at hf
  let w1 : World := { w with heap := w.heap.setIfInBounds M (.map (es.push { key := .pointer (some ⟨a, 0, none⟩), val := .bool true, born := clock }) (clock + 1)) }
  have hM : M < w.heap.size := by
    rcases Nat.lt_or_ge M w.heap.size with h | h
    · exact h
    · rw [Array.getElem?_eq_none h] at hh; cases hh
  have hset : (setObj M (.map (es.push { key := .pointer (some ⟨a, 0, none⟩), val := .bool true, born := clock }) (clock + 1))).run Tryd.prog w = .ok () w1 := by
    simp [setObj, Sem.run, hh, w1]
  have ho : Only M w w1 := ⟨rfl, rfl, rfl, by simp [w1], fun k hk => by simp only [w1]; rw [Array.getElem?_setIfInBounds_ne (Ne.symm hk)]⟩
  refine ⟨w1, ?_, ho, ?_⟩
  · unfold Instr.mapUpdate
    simp only [Sem.run_bind, run_underlying Tryd.underlying62, Result.andThen_ok, hg, hck, hf, hset]
  · refine ⟨es.push { key := .pointer (some ⟨a, 0, none⟩), val := .bool true, born := clock }, clock + 1, ?_, ?_, fun x hx => ?_⟩
    · simp only [w1]; rw [Array.getElem?_setIfInBounds_self_of_lt hM]
    · simp [he]
    · rcases List.mem_append.1 hx with hx | hx
      · exact (hn x hx).only ho (hmem.ne (hn x hx))
      · have : x = a := by simpa using hx
        subst this; exact ha.only ho hne

theorem len62 {w : World} {M : Nat} {S : List Nat} (hm : MapAt w M S) (ty : TypeId) : (Builtin.len_ #[62] ty #[.map (some M)]).run Tryd.prog w = .ok (.int .i64 S.length) w := by
  obtain ⟨es, clock, hh, he, hn⟩ := hm
  have hl : es.size = S.length := by
    have := congrArg List.length he
    simpa using this
  have hg : (getObj M).run Tryd.prog w = .ok (.map es clock) w := by simp [getObj, Sem.run, hh]
  simp [Builtin.len_, run_underlying Tryd.underlying62, hg, hl, goInt]

theorem info73 : (Tryd.prog.info? 73).map (·.size) = some 16 := by kernel_rfl
theorem info73' : ∃ i, Tryd.prog.info? 73 = some i ∧ i.size = 16 := by
  have := info73
  cases h : Tryd.prog.info? 73 with
  | none => simp [h] at this
  | some i => exact ⟨i, rfl, by simpa [h] using this⟩
theorem info29 : (Tryd.prog.info? 29).map (·.size) = some 1 := by kernel_rfl
theorem info29' : ∃ i, Tryd.prog.info? 29 = some i ∧ i.size = 1 := by
  have := info29
  cases h : Tryd.prog.info? 29 with
  | none => simp [h] at this
  | some i => exact ⟨i, rfl, by simpa [h] using this⟩

/-- The sixteen kids of a node, as a value. -/
def kidsV (kd : Nat → Option Nat) : Array Value := ((List.range 16).map fun i => ptrV (kd i)).toArray

theorem load73 {w : World} {b has : Nat} {kd : Nat → Option Nat} {ch : Nat → Int} (h : NodeAt w b has kd ch) :
    (Instr.loadAt 73 (.pointer (some ⟨b, 1, none⟩))).run Tryd.prog w = .ok (.agg (kidsV kd)) w := by
  obtain ⟨cs, hr, hn⟩ := h
  obtain ⟨i, hi, hz⟩ := info73'
  show (loadVar 73 ⟨b, 1, none⟩).run Tryd.prog w = _
  have hl : (loadCells ⟨b, 1, none⟩ 16).run Tryd.prog w = .ok (kidsV kd) w := by
    have := run_loadCells_list (P := Tryd.prog) w ⟨b, 1, none⟩ ((List.range 16).map fun i => ptrV (kd i)) (fun j v hv => by
      rw [List.getElem?_map] at hv
      have hj : j < 16 := by
        rcases Nat.lt_or_ge j 16 with h | h
        · exact h
        · rw [List.getElem?_eq_none (by simp; omega)] at hv; cases hv
      rw [List.getElem?_range hj] at hv
      have hadd : (⟨b, 1, none⟩ : Addr).add j = ⟨b, 1 + j, none⟩ := by unfold Addr.add; split <;> simp_all
      rw [hadd, cell_of_row _ _ _ _ _ _ hr, hn.ck j hj]
      simpa using hv)
    simpa [kidsV] using this
  simp [loadVar, isAgg, run_underlying Tryd.underlying73, sizeOf, typeInfo, hi, hz, hl]

theorem index73 (w : World) (kd : Nat → Option Nat) (i : Nat) (hi : i < 16) :
    (Instr.index 73 (.agg (kidsV kd)) (.int .i64 i)).run Tryd.prog w = .ok (ptrV (kd i)) w := by
  obtain ⟨j, hj, hz⟩ := info29'
  have hk : (kidsV kd)[i]? = some (ptrV (kd i)) := by
    simp [kidsV, hi]
  simp [Instr.index, asIntOf, run_underlying Tryd.underlying73, part, isAgg, run_underlying Tryd.underlying29, sizeOf, typeInfo, hj, hz, hk, hi]

end Go.Proofs.YtognbkmamhgkeaaDoor
