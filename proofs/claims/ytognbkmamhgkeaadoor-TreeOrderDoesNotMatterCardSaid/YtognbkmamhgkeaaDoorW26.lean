/-
  The walks of tree.walk (joined), of the function value of Range, of Range, All and Len: an iterator over the mapped blocks of a range.
-/
import Derived.Test.YtognbkmamhgkeaaDoorW25
import Derived.Test.YtognbkmamhgkeaaDoorW25b
import Derived.Test.YtognbkmamhgkeaaDoorW11
namespace Go.Proofs.YtognbkmamhgkeaaDoor
open Go Go.RowKit Go.Walks Go.Shelf
attribute [local go_sem] Oper.semAt_some

theorem walk_of_core {l L q lo n : Nat} {J Jx : List (Nat × Int) → World → Prop} {T : TV} {f t : Int} {pre : List (Nat × Int)} {W : World} {v : Value} (hn : n = 16 ^ (L + 1)) (hlo : lo = q * n) (Hj : J pre W) (Hs : Sub W T L q)
    (core : ∀ (g has : Nat) (cs : Array Value), W.heap[g]? = some (.cells cs 76) → OldRow T L q has cs →
      Calls Tryd.prog 44 #[.pointer (some ⟨g, 0, none⟩), v, .int .i64 lo, .int .i64 f, .int .i64 t, .func (.yield l) #[] #[]] W (WPost J Jx W pre (entR T.m f t lo n))) :
    Calls Tryd.prog 44 #[ptrV (T.adr L q), v, .int .i64 lo, .int .i64 f, .int .i64 t, .func (.yield l) #[] #[]] W (WPost J Jx W pre (entR T.m f t lo n)) := by
  cases h : T.adr L q with
  | none =>
    have he : entR T.m f t lo n = [] := entR_nil fun x h1 h2 => .inl (by
      cases hx : T.m x with
      | none => rfl
      | some c =>
        have := Hs.iff.2 ⟨x, (range_iff L q x).2 (by subst hn; subst hlo; exact ⟨h1, h2⟩), by rw [hx]; rfl⟩
        rw [h] at this; cases this)
    rw [he]
    exact walk_nil l J Jx W pre _ _ _ _ Hj
  | some g =>
    obtain ⟨has, cs, r, _, o⟩ := oldRow_some Hs.nd h
    exact core g has cs r o

theorem walk_any (l N : Nat) (J Jx : List (Nat × Int) → World → Prop) (Hy : YieldsE l N J Jx) (T : TV) (f t : Int) (pre : List (Nat × Int)) (W : World) (Hj : J pre W) (Hs : Sub W T 2 0)
    (HN : pre.length + (entR T.m f t 0 4096).length ≤ N) :
    Calls Tryd.prog 44 #[ptrV (T.adr 2 0), .int .i64 2, .int .i64 0, .int .i64 f, .int .i64 t, .func (.yield l) #[] #[]] W (WPost J Jx W pre (entR T.m f t 0 4096)) := by
  have d0 : ∀ (q' lo' : Nat) (pre' : List (Nat × Int)) (W' : World), lo' = q' * 16 → lo' + 16 ≤ 4096 → J pre' W' → Sub W' T 0 q' → pre'.length + (entR T.m f t lo' 16).length ≤ N →
      Calls Tryd.prog 44 #[ptrV (T.adr 0 q'), .int .i64 0, .int .i64 lo', .int .i64 f, .int .i64 t, .func (.yield l) #[] #[]] W' (WPost J Jx W' pre' (entR T.m f t lo' 16)) :=
    fun q' lo' pre' W' h1 h2 h4 h5 h7 => walk_of_core (by rfl) h1 h4 h5 fun g has cs r o =>
      walk_core0 l N J Jx Hy T q' lo' g has cs f t pre' W' h1 h2 h4 h5 h7 r o
  have d1 : ∀ (q' lo' : Nat) (pre' : List (Nat × Int)) (W' : World), lo' = q' * 256 → lo' + 256 ≤ 4096 → J pre' W' → Sub W' T 1 q' → pre'.length + (entR T.m f t lo' 256).length ≤ N →
      Calls Tryd.prog 44 #[ptrV (T.adr 1 q'), .int .i64 1, .int .i64 lo', .int .i64 f, .int .i64 t, .func (.yield l) #[] #[]] W' (WPost J Jx W' pre' (entR T.m f t lo' 256)) :=
    fun q' lo' pre' W' h1 h2 h4 h5 h7 => walk_of_core (by rfl) h1 h4 h5 fun g has cs r o =>
      walk_core1 l N J Jx T q' lo' g has cs f t pre' W' h1 h2 h4 h5 h7 d0 r o
  exact walk_of_core (q := 0) (lo := 0) (by rfl) (by rfl) Hj Hs fun g has cs r o =>
      walk_core2 l N J Jx T 0 0 g has cs f t pre W (by rfl) (by omega) Hj Hs HN d1 r o

def SeqPostE (J Jx : List (Nat × Int) → World → Prop) (D : List (Nat × Int)) (e : Ending) (W' : World) : Prop :=
  (∃ v, e = .returned v) ∧ ((∃ xs, xs = D ∧ J xs W') ∨ (∃ pre, pre <+: D ∧ Jx pre W'))

set_option maxHeartbeats 400000 in
theorem range1_any (l b1 b2 b3 : Nat) (J Jx : List (Nat × Int) → World → Prop) (T : TV) (n f t : Int) (W : World) (Hy : Hid (YieldsE l (entR T.m f t 0 4096).length J Jx)) (Hj : Hid (J [] W)) (Hs : Hid (Sub W T 2 0))
    (h1 : W.heap[b1]? = some (.cells #[ptrV (T.adr 2 0), .int .i64 n] 31)) (h2 : Boxed W b2 3 (.int .i64 f)) (h3 : Boxed W b3 3 (.int .i64 t)) :
    Calls Tryd.prog 43 #[.func (.yield l) #[] #[], .pointer (some ⟨b1, 0, none⟩), .pointer (some ⟨b2, 0, none⟩), .pointer (some ⟨b3, 0, none⟩)] W (SeqPostE J Jx (entR T.m f t 0 4096)) := by
  obtain ⟨c10, c11, f10, f11⟩ := two_cells h1
  have c2 := h2.cell
  have c3 := h3.cell
  clear h1 h2 h3 f10 f11 c11
  go_enter Tryd.func43, Tryd.ntmps43
  go_wp2_with fail
  refine (walk_any l _ J Jx Hy.out T f t [] W Hj.out Hs.out (by simp)).mono ?_
  rintro e W3 (⟨rfl, hJ3, hk3⟩ | ⟨rfl, p, hp, hx3⟩)
  · go_wp2_with fail
    go_end0
    rw [List.nil_append] at hJ3
    exact ⟨⟨_, rfl⟩, .inl ⟨_, Eq.refl _, hJ3⟩⟩
  · go_wp2_with fail
    go_end0
    rw [List.nil_append] at hx3
    exact ⟨⟨_, rfl⟩, .inr ⟨p, hp, hx3⟩⟩

/-- The function value of Range, as an iterator. -/
theorem range_stops (n b1 b2 b3 : Nat) (T : TV) (n1 f t : Int) (w : World) (h0 : 0 < w.heap.size) (Hs : Sub w T 2 0)
    (h1 : w.heap[b1]? = some (.cells #[ptrV (T.adr 2 0), .int .i64 n1] 31)) (h2 : Boxed w b2 3 (.int .i64 f)) (h3 : Boxed w b3 3 (.int .i64 t)) :
    SeqStopsK Fence.wide n Tryd.prog 43 #[.pointer (some ⟨b1, 0, none⟩), .pointer (some ⟨b2, 0, none⟩), .pointer (some ⟨b3, 0, none⟩)] encE Keeps76 (fun ys => ys = entR T.m f t 0 4096) (fun pre => pre <+: entR T.m f t 0 4096) (entR T.m f t 0 4096).length w :=
  fun l J Jx W hW _ _ hY hj => by
    have hk := Keeps76.of_below hW h0
    have lt : ∀ {g : Nat} {x : Obj}, w.heap[g]? = some x → g < w.heap.size := fun {g x} hx => (Array.getElem?_eq_some_iff.1 hx).1
    exact callsIn_wide.2 (range1_any l b1 b2 b3 J Jx T n1 f t W (fun pre x W1 hj hl => yieldAt_any rfl 0 (hY pre x W1 hj hl)) hj (Sub.keep hk Hs) ((hW.block b1 (lt h1)).trans h1) ((hW.block b2 h2.lt).trans h2) ((hW.block b3 h3.lt).trans h3))

/-- A value that is an iterator over the entries D of a tree, from the world w on. -/
def IterV (w : World) (v : Value) (D : List (Nat × Int)) : Prop :=
  ∃ b1 b2 b3 : Nat, v = .func (.func 43) #[] #[.pointer (some ⟨b1, 0, none⟩), .pointer (some ⟨b2, 0, none⟩), .pointer (some ⟨b3, 0, none⟩)] ∧
    ∃ (T : TV) (n f t : Int), D = entR T.m f t 0 4096 ∧ 0 < w.heap.size ∧ Sub w T 2 0 ∧ w.heap[b1]? = some (.cells #[ptrV (T.adr 2 0), .int .i64 n] 31) ∧ Boxed w b2 3 (.int .i64 f) ∧ Boxed w b3 3 (.int .i64 t)

def IterP (w : World) (D : List (Nat × Int)) (e : Ending) (w' : World) : Prop := ∃ v, e = .returned v ∧ IterV w' v D ∧ Below w.heap.size w w'

set_option maxHeartbeats 400000 in
theorem range_any (T : TV) (n f t : Int) (w : World) (Hs : Hid (Sub w T 2 0)) :
    Calls Tryd.prog 38 #[.agg #[ptrV (T.adr 2 0), .int .i64 n], .int .i64 f, .int .i64 t] w (IterP w (entR T.m f t 0 4096)) := by
  go_enter Tryd.func38, Tryd.ntmps38
  go_wp2_with fail
  go_ret
  have hb : Below w.heap.size w (((w.alloc (.cells #[ptrV (T.adr 2 0), .int .i64 n] 31)).alloc (.cells #[.int .i64 f] 3)).alloc (.cells #[.int .i64 t] 3)) := (((Below.refl _ _).alloc (Nat.le_refl _) _).alloc (by simp) _).alloc (by simp; omega) _
  refine ⟨_, rfl, ⟨w.heap.size, w.heap.size + 1, w.heap.size + 1 + 1, rfl, T, n, f, t, rfl, by simp, Hs.out.below hb, ?_, ?_, ?_⟩, hb⟩
  · exact (Below.heap_alloc _ _ _ (by simp; omega)).trans ((Below.heap_alloc _ _ _ (by simp)).trans (World.alloc_heap_new w _))
  · have := Boxed.new (w.alloc (.cells #[ptrV (T.adr 2 0), .int .i64 n] 31)) 3 (.int .i64 f)
    simp only [World.size_alloc] at this
    exact this.alloc _
  · have := Boxed.new ((w.alloc (.cells #[ptrV (T.adr 2 0), .int .i64 n] 31)).alloc (.cells #[.int .i64 f] 3)) 3 (.int .i64 t)
    simp only [World.size_alloc] at this
    exact this

set_option maxHeartbeats 400000 in
theorem all_any (T : TV) (n : Int) (w : World) (Hs : Hid (Sub w T 2 0)) :
    Calls Tryd.prog 39 #[.agg #[ptrV (T.adr 2 0), .int .i64 n]] w (IterP w (entR T.m 0 4096 0 4096)) := by
  have hb0 : Below w.heap.size w (w.alloc (.cells #[ptrV (T.adr 2 0), .int .i64 n] 31)) := (Below.refl _ _).alloc (Nat.le_refl _) _
  have Hb0 := Lib.hid hb0
  clear hb0
  go_enter Tryd.func39, Tryd.ntmps39
  go_wp2_with (go_at_call 38; refine (range_any T n 0 4096 _ (Hs.out.below Hb0.out)).mono ?_; rintro e w1 ⟨v, rfl, hv, hb⟩; obtain ⟨b1, b2, b3, rfl, hv⟩ := hv; have Hv := Lib.hid hv; have Hb := Lib.hid hb; clear hv hb)
  go_ret
  exact ⟨_, rfl, ⟨b1, b2, b3, rfl, Hv.out⟩, Hb0.out.trans (Hb.out.mono (by simp))⟩

theorem tlen_any (v : Value) (n : Int) (w : World) :
    Calls Tryd.prog 27 #[.agg #[v, .int .i64 n]] w (fun e w' => e = .returned (.int .i64 n) ∧ Below w.heap.size w w') := by
  go_enter Tryd.func27, Tryd.ntmps27
  go_wp2_with fail
  go_ret
  exact ⟨rfl, (Below.refl _ _).alloc (Nat.le_refl _) _⟩
end Go.Proofs.YtognbkmamhgkeaaDoor
