/-
  The walks of tree.differ (joined), tree.changes and its function value: an iterator over the blocks that two trees do not map alike.
-/
import Derived.Test.YtognbkmamhgkeaaDoorW9
import Derived.Test.YtognbkmamhgkeaaDoorW9b
namespace Go.Proofs.YtognbkmamhgkeaaDoor
open Go Go.RowKit Go.Walks Go.Shelf
attribute [local go_sem] Oper.semAt_some

theorem equal_nil_some (w : World) (a : Addr) (d : Nat) : (Op.equalIn (d + 1) 29 (.pointer none) (.pointer (some a))).run Tryd.prog w = .ok false w := by
  simp [Op.equalIn, run_underlying Tryd.underlying29]
theorem equal_some_nil (w : World) (a : Addr) (d : Nat) : (Op.equalIn (d + 1) 29 (.pointer (some a)) (.pointer none)).run Tryd.prog w = .ok false w := by
  simp [Op.equalIn, run_underlying Tryd.underlying29]
theorem eql_nil_some (w : World) (a : Addr) : (binOp .eql 29 (.pointer none) (.pointer (some a))).run Tryd.prog w = .ok (.bool false) w := by
  have h : (Op.equal 29 (.pointer none) (.pointer (some a))).run Tryd.prog w = .ok false w := equal_nil_some w a 9999
  simp [binOp, h]
theorem eql_some_nil (w : World) (a : Addr) : (binOp .eql 29 (.pointer (some a)) (.pointer none)).run Tryd.prog w = .ok (.bool false) w := by
  have h : (Op.equal 29 (.pointer (some a)) (.pointer none)).run Tryd.prog w = .ok false w := equal_some_nil w a 9999
  simp [binOp, h]

theorem differ_of_core {l L q lo n : Nat} {J Jx : List Nat → World → Prop} {T1 T2 : TV} {pre : List Nat} {W : World} {v : Value} (hn : n = 16 ^ (L + 1)) (hlo : lo = q * n) (Hj : J pre W) (Hs1 : Sub W T1 L q) (Hs2 : Sub W T2 L q)
    (core : ∀ (ga gb hasA hasB : Nat) (csA csB : Array Value) (pa pb : Option Addr), ((pa = none ∧ ga = W.heap.size) ∨ pa = some ⟨ga, 0, none⟩) → ((pb = none ∧ gb = W.heap.size) ∨ pb = some ⟨gb, 0, none⟩) →
      (binOp .eql 29 (.pointer pa) (.pointer pb)).run Tryd.prog W = .ok (.bool false) W → ¬ (pa = none ∧ pb = none) →
      (W.alloc (.cells zeroNode 76)).heap[ga]? = some (.cells csA 76) → (W.alloc (.cells zeroNode 76)).heap[gb]? = some (.cells csB 76) → OldRow T1 L q hasA csA → OldRow T2 L q hasB csB →
      Calls Tryd.prog 42 #[.pointer pa, .pointer pb, v, .int .i64 lo, .func (.yield l) #[] #[]] W (DPost J Jx W pre (diffR T1.m T2.m lo n))) :
    Calls Tryd.prog 42 #[ptrV (T1.adr L q), ptrV (T2.adr L q), v, .int .i64 lo, .func (.yield l) #[] #[]] W (DPost J Jx W pre (diffR T1.m T2.m lo n)) := by
  have hempty : T1.adr L q = T2.adr L q → diffR T1.m T2.m lo n = [] := fun he => diffR_nil fun x h1 h2 => same_node Hs1 Hs2 he x ((range_iff L q x).2 (by subst hn; subst hlo; exact ⟨h1, h2⟩))
  cases h1 : T1.adr L q with
  | none =>
    cases h2 : T2.adr L q with
    | none =>
      rw [hempty (h1.trans h2.symm)]
      exact differ_nil l J Jx W pre _ _ Hj
    | some b =>
      obtain ⟨hasB, csB, rB, ltB, oB⟩ := oldRow_some Hs2.nd h2
      exact core W.heap.size b 0 hasB zeroNode csB none (some ⟨b, 0, none⟩) (.inl ⟨rfl, rfl⟩) (.inr rfl) (eql_nil_some _ _) (fun h => by cases h.2) (heap_alloc_new _ _) (heap_alloc_lt rB ltB) (oldRow_nil Hs1.nd h1) oB
  | some a =>
    obtain ⟨hasA, csA, rA, ltA, oA⟩ := oldRow_some Hs1.nd h1
    cases h2 : T2.adr L q with
    | none =>
      exact core a W.heap.size hasA 0 csA zeroNode (some ⟨a, 0, none⟩) none (.inr rfl) (.inl ⟨rfl, rfl⟩) (eql_some_nil _ _) (fun h => by cases h.1) (heap_alloc_lt rA ltA) (heap_alloc_new _ _) oA (oldRow_nil Hs2.nd h2)
    | some b =>
      obtain ⟨hasB, csB, rB, ltB, oB⟩ := oldRow_some Hs2.nd h2
      by_cases he : a = b
      · subst he
        rw [hempty (h1.trans h2.symm)]
        exact differ_same l J Jx W pre _ _ a ⟨csA, rA, oA.1.size⟩ Hj
      · have hq := eql_some (w := W) (a := a) (b := b) ⟨csA, rA, oA.1.size⟩ ⟨csB, rB, oB.1.size⟩
        rw [decide_eq_false he] at hq
        exact core a b hasA hasB csA csB _ _ (.inr rfl) (.inr rfl) hq (fun h => by cases h.1) (heap_alloc_lt rA ltA) (heap_alloc_lt rB ltB) oA oB

theorem differ_any (l N B : Nat) (J Jx : List Nat → World → Prop) (Hy : Yields l N J Jx) (HJ : AbidesFrom B J) (T1 T2 : TV) (pre : List Nat) (W : World) (Ht : Tab W) (Hj : J pre W) (Hs1 : Sub W T1 2 0) (Hs2 : Sub W T2 2 0)
    (HN : pre.length + (diffR T1.m T2.m 0 4096).length ≤ N) :
    Calls Tryd.prog 42 #[ptrV (T1.adr 2 0), ptrV (T2.adr 2 0), .int .i64 2, .int .i64 0, .func (.yield l) #[] #[]] W (DPost J Jx W pre (diffR T1.m T2.m 0 4096)) := by
  have d0 : ∀ (q' lo' : Nat) (pre' : List Nat) (W' : World), lo' = q' * 16 → lo' + 16 ≤ 4096 → Tab W' → J pre' W' → Sub W' T1 0 q' → Sub W' T2 0 q' → pre'.length + (diffR T1.m T2.m lo' 16).length ≤ N →
      Calls Tryd.prog 42 #[ptrV (T1.adr 0 q'), ptrV (T2.adr 0 q'), .int .i64 0, .int .i64 lo', .func (.yield l) #[] #[]] W' (DPost J Jx W' pre' (diffR T1.m T2.m lo' 16)) :=
    fun q' lo' pre' W' h1 h2 h3 h4 h5 h6 h7 => differ_of_core (by rfl) h1 h4 h5 h6 fun ga gb hasA hasB csA csB pa pb hA hB heq hnn Ra Rb Oa Ob =>
      differ_core0 l N B J Jx Hy HJ T1 T2 q' lo' ga gb hasA hasB csA csB pa pb pre' W' h1 h2 h3 h4 h5 h6 h7 hA hB heq hnn Ra Rb Oa Ob
  have d1 : ∀ (q' lo' : Nat) (pre' : List Nat) (W' : World), lo' = q' * 256 → lo' + 256 ≤ 4096 → Tab W' → J pre' W' → Sub W' T1 1 q' → Sub W' T2 1 q' → pre'.length + (diffR T1.m T2.m lo' 256).length ≤ N →
      Calls Tryd.prog 42 #[ptrV (T1.adr 1 q'), ptrV (T2.adr 1 q'), .int .i64 1, .int .i64 lo', .func (.yield l) #[] #[]] W' (DPost J Jx W' pre' (diffR T1.m T2.m lo' 256)) :=
    fun q' lo' pre' W' h1 h2 h3 h4 h5 h6 h7 => differ_of_core (by rfl) h1 h4 h5 h6 fun ga gb hasA hasB csA csB pa pb hA hB heq hnn Ra Rb Oa Ob =>
      differ_core1 l N B J Jx HJ T1 T2 q' lo' ga gb hasA hasB csA csB pa pb pre' W' h1 h2 h3 h4 h5 h6 h7 d0 hA hB heq hnn Ra Rb Oa Ob
  exact differ_of_core (q := 0) (lo := 0) (by rfl) (by rfl) Hj Hs1 Hs2 fun ga gb hasA hasB csA csB pa pb hA hB heq hnn Ra Rb Oa Ob =>
      differ_core2 l N B J Jx HJ T1 T2 0 0 ga gb hasA hasB csA csB pa pb pre W (by rfl) (by omega) Ht Hj Hs1 Hs2 HN d1 hA hB heq hnn Ra Rb Oa Ob

theorem room_of_none {F : Fence} (hd : F.depth = none) (k : Nat) : F.room k := fun d h => by rw [hd] at h; cases h
theorem yieldAt_any {F : Fence} (hd : F.depth = none) {m : Nat} (m' : Nat) {P : Program} {l : Nat} {args : Array Value} {W : World} {R : Ending → World → Prop} (h : YieldAt F m P l args W R) : YieldAt F m' P l args W R := by
  obtain ⟨fn, tmps, assign, body, hy, hR⟩ := h
  exact ⟨fn, tmps, assign, body, hy, hR.1, fun c cs _ => hR.2 c cs (room_of_none hd _)⟩

def SeqPost (J Jx : List Nat → World → Prop) (D : List Nat) (e : Ending) (W' : World) : Prop :=
  (∃ v, e = .returned v) ∧ ((∃ xs, xs = D ∧ J xs W') ∨ (∃ pre, pre <+: D ∧ Jx pre W'))

set_option maxHeartbeats 400000 in
theorem changes1_any (l B b1 b2 : Nat) (J Jx : List Nat → World → Prop) (T1 T2 : TV) (n1 n2 : Int) (W : World) (Hy : Hid (Yields l (diffR T1.m T2.m 0 4096).length J Jx)) (HJ : Hid (AbidesFrom B J)) (Ht : Hid (Tab W)) (Hj : Hid (J [] W)) (Hs1 : Hid (Sub W T1 2 0)) (Hs2 : Hid (Sub W T2 2 0))
    (h1 : W.heap[b1]? = some (.cells #[ptrV (T1.adr 2 0), .int .i64 n1] 31)) (h2 : W.heap[b2]? = some (.cells #[ptrV (T2.adr 2 0), .int .i64 n2] 31)) :
    Calls Tryd.prog 41 #[.func (.yield l) #[] #[], .pointer (some ⟨b1, 0, none⟩), .pointer (some ⟨b2, 0, none⟩)] W (SeqPost J Jx (diffR T1.m T2.m 0 4096)) := by
  obtain ⟨c10, c11, f10, f11⟩ := two_cells h1
  obtain ⟨c20, c21, f20, f21⟩ := two_cells h2
  clear h1 h2 f10 f11 f20 f21 c11 c21
  go_enter Tryd.func41, Tryd.ntmps41
  go_wp2_with fail
  refine (differ_any l _ B J Jx Hy.out HJ.out T1 T2 [] W Ht.out Hj.out Hs1.out Hs2.out (by simp)).mono ?_
  rintro e W3 (⟨rfl, hJ3, hk3⟩ | ⟨rfl, p, hp, hx3⟩)
  · go_wp2_with fail
    go_end0
    rw [List.nil_append] at hJ3
    exact ⟨⟨_, rfl⟩, .inl ⟨diffR T1.m T2.m 0 4096, Eq.refl _, hJ3⟩⟩
  · go_wp2_with fail
    go_end0
    rw [List.nil_append] at hx3
    exact ⟨⟨_, rfl⟩, .inr ⟨p, hp, hx3⟩⟩

set_option maxHeartbeats 400000 in
theorem changes_any (v1 v2 : Value) (n1 n2 : Int) (w : World) :
    Calls Tryd.prog 36 #[.agg #[v1, .int .i64 n1], .agg #[v2, .int .i64 n2]] w fun e w' => e = .returned (.func (.func 41) #[] #[.pointer (some ⟨w.heap.size, 0, none⟩), .pointer (some ⟨w.heap.size + 1, 0, none⟩)]) ∧
      (w.alloc (.cells #[v1, .int .i64 n1] 31)).alloc (.cells #[v2, .int .i64 n2] 31) = w' := by
  go_enter Tryd.func36, Tryd.ntmps36
  go_wp2_with fail
  go_ret
  exact ⟨rfl, rfl⟩

/-- The function value of changes, as an iterator. -/
theorem changes_stops (n b1 b2 : Nat) (T1 T2 : TV) (n1 n2 : Int) (w : World) (Ht : Tab w) (Hs1 : Sub w T1 2 0) (Hs2 : Sub w T2 2 0)
    (h1 : w.heap[b1]? = some (.cells #[ptrV (T1.adr 2 0), .int .i64 n1] 31)) (h2 : w.heap[b2]? = some (.cells #[ptrV (T2.adr 2 0), .int .i64 n2] 31)) (l1 : b1 < w.heap.size) (l2 : b2 < w.heap.size) :
    SeqStopsK Fence.wide n Tryd.prog 41 #[.pointer (some ⟨b1, 0, none⟩), .pointer (some ⟨b2, 0, none⟩)] (fun x : Nat => #[Value.int .i64 (x : Int)]) Keeps76 (fun ys => ys = diffR T1.m T2.m 0 4096) (fun pre => pre <+: diffR T1.m T2.m 0 4096) (diffR T1.m T2.m 0 4096).length w :=
  fun l J Jx W hW hJ _ hY h0 => by
    have hk := Keeps76.of_below hW Ht.1
    have ht : Tab W := Ht.below hW Ht.1
    exact callsIn_wide.2 (changes1_any l W.heap.size b1 b2 J Jx T1 T2 n1 n2 W (fun pre x W1 hj hl => yieldAt_any rfl 0 (hY pre x W1 hj hl)) hJ ht h0 (Sub.keep hk Hs1) (Sub.keep hk Hs2) ((hW.block b1 l1).trans h1) ((hW.block b2 l2).trans h2))
end Go.Proofs.YtognbkmamhgkeaaDoor
