/-
  Codes in memory as a reader sees them; what Same comes to. No program is run here.
-/
import Derived.Test.YtafgmbchdcfkcaaDoorKs
namespace Go.Proofs.YtafgmbchdcfkcaaDoor
open Go Go.RowKit Go.Walks

def MatS (w : World) : List (List Int) → List Value → Prop
  | [], cs => cs = []
  | row :: rows, cs => ∃ A c cs', cs = .slice A row.length c :: cs' ∧ Sl w w.heap.size A (row.map intC) ∧ MatS w rows cs'
theorem MatS.below {w w' : World} (hb : Below w.heap.size w w') : ∀ {rows : List (List Int)} {cs : List Value}, MatS w rows cs → MatS w' rows cs
  | [], _, h => h
  | _ :: _, _, ⟨A, c, cs', e, h1, h2⟩ => ⟨A, c, cs', e, (h1.below hb).more hb.size, h2.below hb⟩
theorem MatT.s {w : World} : ∀ {rows : List (List Int)} {cs : List Value}, MatT w rows cs → MatS w rows cs
  | [], _, h => h
  | _ :: _, _, ⟨A, c, cs', e, h1, h2⟩ => ⟨A, c, cs', e, h1.sl, h2.s⟩
theorem MatS.at_ {w : World} : ∀ {rows : List (List Int)} {cs : List Value} {k : Nat} {row : List Int}, MatS w rows cs → rows[k]? = some row → ∃ A c, cs[k]? = some (.slice A row.length c) ∧ Sl w w.heap.size A (row.map intC)
  | [], _, k, row, _, hk => by simp at hk
  | row' :: rows, cs, 0, row, ⟨A, c, cs', e, h1, h2⟩, hk => by
    have : row' = row := by simpa using hk
    subst this
    exact ⟨A, c, by rw [e]; rfl, h1⟩
  | row' :: rows, cs, k + 1, row, ⟨A, c, cs', e, h1, h2⟩, hk => by
    obtain ⟨A', c', k1, k2⟩ := h2.at_ (k := k) (row := row) (by simpa using hk)
    exact ⟨A', c', by rw [e]; simpa using k1, k2⟩
/-- A code in memory, for a reader. -/
def CodeS (w : World) (C : Code) (cs : List Value) : Prop := ∃ A c mc, cs = [strV C.name, intC C.field, intC C.data, .slice A C.par.length c, intC C.dom] ∧ Sl w w.heap.size A mc ∧ MatS w C.par mc
theorem CodeT.s {w : World} {C : Code} {cs : List Value} (h : CodeT w C cs) : CodeS w C cs := by
  obtain ⟨A, c, mc, e, h1, h2⟩ := h
  exact ⟨A, c, mc, e, h1.sl, h2.s⟩
theorem CodeS.below {w w' : World} {C : Code} {cs : List Value} (h : CodeS w C cs) (hb : Below w.heap.size w w') : CodeS w' C cs := by
  obtain ⟨A, c, mc, e, h1, h2⟩ := h
  exact ⟨A, c, mc, e, (h1.below hb).more hb.size, h2.below hb⟩
structure CodeL (C : Code) : Prop where
  par : C.par.length ≤ maxLen
  row : ∀ r ∈ C.par, r.length ≤ maxLen
def sameB (a b : Code) : Bool := decide (a.name = b.name) && decide (a.field = b.field) && decide (a.data = b.data) && decide (a.dom = b.dom) && decide (a.par = b.par)
theorem sameB_self (a : Code) : sameB a a = true := by simp [sameB]
/-- A row of a code, in a later world. -/
theorem rowS {w W : World} {A : Option Addr} {mc : List Value} {rows : List (List Int)} (h1 : Sl w w.heap.size A mc) (h2 : MatS w rows mc) (hb : Below w.heap.size w W) {k : Nat} {row : List Int} (hk : rows[k]? = some row) :
    ∃ b o A' c', A = some ⟨b, o, none⟩ ∧ W.cell? ⟨b, o + k, none⟩ = some (.slice A' row.length c') ∧ Sl W W.heap.size A' (row.map intC) := by
  obtain ⟨A', c', e, hs⟩ := h2.at_ hk
  rcases h1 with he | ⟨b, o, ea, hlt, hc⟩
  · rw [he] at e; simp at e
  · exact ⟨b, o, A', c', ea, (hb.cell (p := ⟨b, o + k, none⟩) hlt).trans (hc _ _ e), (hs.below hb).more hb.size⟩
theorem intS {W : World} {A : Option Addr} {row : List Int} (h : Sl W W.heap.size A (row.map intC)) {j : Nat} {x : Int} (hj : row[j]? = some x) : ∃ b o, A = some ⟨b, o, none⟩ ∧ b < W.heap.size ∧ W.cell? ⟨b, o + j, none⟩ = some (.int .i64 x) := by
  have e : (row.map intC)[j]? = some (.int .i64 x) := by rw [List.getElem?_map, hj]; rfl
  rcases h with he | ⟨b, o, ea, hlt, hc⟩
  · rw [he] at e; simp at e
  · exact ⟨b, o, ea, hlt, hc _ _ e⟩
theorem below_cells {w W : World} {g : Nat} {t : TypeId} {cs : Array Value} {fz : Nat × Nat} (h : w.heap[g]? = some (.cells cs t fz)) (hb : Below w.heap.size w W) : W.heap[g]? = some (.cells cs t fz) := (hb.block _ (Array.getElem?_eq_some_iff.1 h).1).trans h
end Go.Proofs.YtafgmbchdcfkcaaDoor
