/-
  The versions as they are read behind play and Play; they stay while memory grows.
-/
import Derived.Test.YtognbkmamhgkeaaDoorW19
import Derived.Test.YtognbkmamhgkeaaDoorW18
namespace Go.Proofs.YtognbkmamhgkeaaDoor
open Go Go.RowKit Go.Walks

/-- The slice of trees, read: each is good and maps what the reference's list maps. -/
structure TRead (w : World) (A : Option Addr) (Ls : List (List (Int × Int))) (Ts : List (TV × Int)) : Prop where
  sl : Sl w w.heap.size A (treeCells Ts)
  len : Ts.length = Ls.length
  good : ∀ (j : Nat) (x : TV × Int) (l : List (Int × Int)), Ts[j]? = some x → Ls[j]? = some l → Good w x.1 x.2 ∧ x.1.m = mOf l

theorem TRead.below {w w' : World} {A : Option Addr} {Ls : List (List (Int × Int))} {Ts : List (TV × Int)} (h : TRead w A Ls Ts) (hb : Below w.heap.size w w') : TRead w' A Ls Ts :=
  ⟨(h.sl.below hb).more hb.size, h.len, fun j x l hx hl => ⟨(h.good j x l hx hl).1.below hb, (h.good j x l hx hl).2⟩⟩

theorem TVers.read {w wr : World} {v : Value} {Ls : List (List (Int × Int))} {Ts : List (TV × Int)} (h : TVers w wr v Ls Ts) : ∃ A c, v = .slice A Ls.length c ∧ TRead wr A Ls Ts := by
  obtain ⟨A, c, e, hs, _, _⟩ := Sl.of_own h.own
  exact ⟨A, c, by rw [← h.len]; exact e, hs, h.len, h.good⟩

theorem TRead.at_ {w : World} {A : Option Addr} {Ls : List (List (Int × Int))} {Ts : List (TV × Int)} (h : TRead w A Ls Ts) {j : Nat} (hj : j < Ls.length) :
    ∃ (g o : Nat) (T : TV) (n : Int) (l : List (Int × Int)), A = some ⟨g, o, none⟩ ∧ g < w.heap.size ∧ Ts[j]? = some (T, n) ∧ Ls[j]? = some l ∧ w.cell? ⟨g, o + j * 2, none⟩ = some (ptrV (T.adr 2 0)) ∧ w.cell? ⟨g, o + j * 2 + 1, none⟩ = some (.int .i64 n) ∧ Good w T n ∧ T.m = mOf l := by
  have hl := h.len
  obtain ⟨x, hx⟩ : ∃ x, Ts[j]? = some x := ⟨_, List.getElem?_eq_getElem (by omega)⟩
  obtain ⟨l, hL⟩ : ∃ l, Ls[j]? = some l := ⟨_, List.getElem?_eq_getElem hj⟩
  obtain ⟨h0, h1⟩ := treeCells_at Ts j x hx
  obtain ⟨g, o, e, hg, hc⟩ := h.sl.at_ (k := 2 * j) (by rw [treeCells_len]; omega)
  rw [Nat.mul_comm] at h0 h1
  exact ⟨g, o, x.1, x.2, l, e, hg, hx, hL, hc _ _ h0, hc _ _ h1, h.good j x l hx hL⟩

/-- The slice of reference trees, read. -/
structure VRead (w : World) (A : Option Addr) (Ls : List (List (Int × Int))) : Prop where
  ex : ∃ vs : List Value, Sl w w.heap.size A vs ∧ vs.length = Ls.length ∧ ∀ (j : Nat) (u : Value) (l : List (Int × Int)), vs[j]? = some u → Ls[j]? = some l → RefAt w (.agg #[u]) l

theorem VRead.below {w w' : World} {A : Option Addr} {Ls : List (List (Int × Int))} (h : VRead w A Ls) (hb : Below w.heap.size w w') : VRead w' A Ls := by
  obtain ⟨vs, hs, hl, hr⟩ := h.ex
  exact ⟨vs, (hs.below hb).more hb.size, hl, fun j u l hu hL => (hr j u l hu hL).below hb⟩

theorem Vers.read {w wr : World} {B : Nat} {v : Value} {Ls : List (List (Int × Int))} (h : Vers w wr B v Ls) : ∃ A c, v = .slice A Ls.length c ∧ VRead wr A Ls := by
  obtain ⟨vs, ho, hl, hr⟩ := h.ex
  obtain ⟨A, c, e, hs, _, _⟩ := Sl.of_own ho
  exact ⟨A, c, e, vs, hs, hl, hr⟩

theorem VRead.at_ {w : World} {A : Option Addr} {Ls : List (List (Int × Int))} (h : VRead w A Ls) {j : Nat} (hj : j < Ls.length) :
    ∃ (g o : Nat) (A' : Option Addr) (c' : Nat) (l : List (Int × Int)), A = some ⟨g, o, none⟩ ∧ g < w.heap.size ∧ Ls[j]? = some l ∧ w.cell? ⟨g, o + j, none⟩ = some (.slice A' l.length c') ∧ SlT w w.heap.size 59 A' (entCells l) ∧ l.length ≤ c' ∧ c' ≤ maxLen := by
  obtain ⟨vs, hs, hl, hr⟩ := h.ex
  obtain ⟨u, hu⟩ : ∃ u, vs[j]? = some u := ⟨_, List.getElem?_eq_getElem (by omega)⟩
  obtain ⟨l, hL⟩ : ∃ l, Ls[j]? = some l := ⟨_, List.getElem?_eq_getElem hj⟩
  obtain ⟨g, o, e, hg, hc⟩ := hs.at_ (k := j) (by omega)
  obtain ⟨A', c', e2, hs2, h1, h2⟩ := (hr j u l hu hL).ex
  injection e2 with e2
  have e3 : u = .slice A' l.length c' := by simpa using e2
  subst e3
  exact ⟨g, o, A', c', l, e, hg, hL, hc _ _ hu, hs2, h1, h2⟩

end Go.Proofs.YtognbkmamhgkeaaDoor
