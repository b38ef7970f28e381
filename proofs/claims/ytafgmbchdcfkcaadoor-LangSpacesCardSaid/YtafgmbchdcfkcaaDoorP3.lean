/-
  A slice of bytes among a law's arguments, opened; the listed variables of LangSpaces, the gaps among them.
-/
import Derived.Test.YtafgmbchdcfkcaaDoorP1
import Derived.Test.YtafgmbchdcfkcaaDoorV4
import Derived.OpenShut
import Derived.ChangeSlices
namespace Go.Proofs.YtafgmbchdcfkcaaDoor
open Go Go.ChangeShapes Go.WideShapes Go.ChangeAt Go.RowKit Go.Walks

def laidL6 : List (String × DataW Unit) := [("math/bits.deBruijn32tab", Rows.laid_math_bits_deBruijn32tab), ("math/bits.deBruijn64tab", Rows.laid_math_bits_deBruijn64tab), ("internal/strconv.uint64pow10", Rows.laid_internal_strconv_uint64pow10), ("strconv.ErrRange", Rows.laid_strconv_ErrRange), ("strconv.ErrSyntax", Rows.laid_strconv_ErrSyntax), ("solvent/solventlaw07.gaps", Rows.laid_solvent_solventlaw07_gaps)]
theorem door_met6 (os : Os) (args : Array Value) : laidMetH Tryd.prog laidL6 ((World.doorLaid Tryd.prog 400 os).forCall (fun _ _ => 0) ⟨#[], args, []⟩).memory :=
  laidMetH_of_parts3 (fuel := 8) (laidMet_of_run' 8 (by kernel_rfl) (by kernel_rfl)) (by kernel_rfl) (by kernel_rfl)
theorem gapsG : Tryd.prog.globalNamed "solvent/solventlaw07.gaps" = some 0 := by kernel_rfl
theorem gl_of_laid6 {W : World} (h : laidMetH Tryd.prog laidL6 W) : Gl W := by
  rw [MakeChecks.laidMetH_plain _ _ _ (by kernel_rfl)] at h
  have h1 := Lib.laidMet.reads h (n := "strconv.ErrSyntax") (d := Rows.laid_strconv_ErrSyntax) (by simp [laidL6])
  have h2 := Lib.laidMet.reads h (n := "strconv.ErrRange") (d := Rows.laid_strconv_ErrRange) (by simp [laidL6])
  have h3 := Lib.laidMet.reads h (n := "internal/strconv.uint64pow10") (d := Rows.laid_internal_strconv_uint64pow10) (by simp [laidL6])
  refine ⟨?_, ?_, ?_⟩
  · obtain ⟨g, t, cs, fuel, p, hg, ht, hv, hd⟩ := h1
    obtain rfl := Option.some.inj (errG.symm.trans hg)
    obtain rfl := Option.some.inj ((show (Tryd.prog.globals[5]?).map (·.type) = some 48 by kernel_rfl).symm.trans ht)
    obtain ⟨fuel', u, v, hcs, -, -⟩ := iface_of_trod Tryd.underlying48 hd
    refine ⟨.iface u v, ?_, .inr ⟨u, v, rfl⟩⟩
    rw [World.var?_cell errG hv 0]
    have : cs[0]? = cs.toList[0]? := by simp
    rw [this, hcs]; rfl
  · obtain ⟨g, t, cs, fuel, p, hg, ht, hv, hd⟩ := h3
    obtain rfl := Option.some.inj (powG.symm.trans hg)
    obtain rfl := Option.some.inj ((show (Tryd.prog.globals[2]?).map (·.type) = some 128 by kernel_rfl).symm.trans ht)
    have hc := Lib.cells_of_tab (k := .u64) (zs := Lib.pow10Tab) (n := 20) (e := 121) Tryd.underlying128 Tryd.underlying121 (by kernel_rfl) (by kernel_rfl) (show DataW.trod _ _ _ _ _ _ _ _ _ = some (Lib.tabData .u64 Lib.pow10Tab, p) from hd)
    unfold Lib.TabIs
    rw [hv, ← hc]
  · obtain ⟨g, t, cs, fuel, p, hg, ht, hv, hd⟩ := h2
    obtain rfl := Option.some.inj (rngG.symm.trans hg)
    obtain rfl := Option.some.inj ((show (Tryd.prog.globals[6]?).map (·.type) = some 48 by kernel_rfl).symm.trans ht)
    obtain ⟨fuel', u, v, hcs, -, -⟩ := iface_of_trod Tryd.underlying48 hd
    have hc := World.var?_cell rngG hv 0
    have : cs[0]? = cs.toList[0]? := by simp
    rw [this, hcs] at hc
    rcases Nat.lt_or_ge 6 W.heap.size with h | h
    · exact h
    · simp only [World.cell?] at hc
      rw [Array.getElem?_eq_none h] at hc
      cases hc
/-- The gaps in memory. -/
def Gaps (w : World) : Prop := ∀ (j : Nat) (g : Bytes), gapsL[j]? = some g → w.cell? ⟨0, j, none⟩ = some (strV g)
theorem Gaps.pos {w : World} (h : Gaps w) : 0 < w.heap.size := by
  have := h 0 [32] rfl
  rcases Nat.lt_or_ge 0 w.heap.size with h1 | h1
  · exact h1
  · simp only [World.cell?] at this
    rw [Array.getElem?_eq_none h1] at this
    cases this
theorem Gaps.below {w w' : World} (h : Gaps w) (hb : Below w.heap.size w w') : Gaps w' := fun j g hj => (hb.cell (p := ⟨0, j, none⟩) h.pos).trans (h j g hj)
set_option maxRecDepth 100000 in
theorem gaps_of_laid {W : World} (h : laidMetH Tryd.prog laidL6 W) : Gaps W := by
  rw [MakeChecks.laidMetH_plain _ _ _ (by kernel_rfl)] at h
  obtain ⟨g, t, cs, fuel, p, hg, ht, hv, hd⟩ := Lib.laidMet.reads h (n := "solvent/solventlaw07.gaps") (d := Rows.laid_solvent_solventlaw07_gaps) (by simp [laidL6])
  obtain rfl := Option.some.inj (gapsG.symm.trans hg)
  obtain rfl := Option.some.inj ((show (Tryd.prog.globals[0]?).map (·.type) = some 51 by kernel_rfl).symm.trans ht)
  obtain ⟨xs, m, -, hx, -, hl, hat⟩ := DataW.trod_array Tryd.underlying51 hd
  have c9 : Tryd.prog.cellsOf 9 = 1 := by kernel_rfl
  rw [c9] at hat
  intro j u hj
  have hj5 : j < 5 := (List.getElem?_eq_some_iff.1 hj).1
  have h1 := hat j hj5
  have hxs : xs.map (·.1) = gapsL.map fun g => DataW.lit (.string g) := by
    have := congrArg Prod.fst hx
    injection this with this
    exact this.symm
  have hxj : (xs[j]?).map (·.1) = some (.lit (.string u)) := by
    rw [← List.getElem?_map, hxs, List.getElem?_map, hj]; rfl
  obtain ⟨y, hy, he⟩ := Option.map_eq_some_iff.1 hxj
  rw [hy] at h1
  obtain ⟨s, q, e2, -⟩ := DataW.trod_string Tryd.underlying9 h1
  have hs : s.data.toList = u := by
    rw [e2] at he
    injection he with he
    injection he
  have hcj : cs[j]? = some (.string s) := by
    have h2 : cs.toList[j]? = some (.string s) := by
      have h3 : ((cs.toList.drop (j * 1)).take 1)[0]? = some (.string s) := by rw [q]; rfl
      rw [List.getElem?_take_of_lt (by omega), List.getElem?_drop] at h3
      simpa using h3
    simpa using h2
  rw [World.var?_cell gapsG hv j, hcj, ← hs]
section
variable {H : Type} {enc : TypeId × Value → H}
/-- A slice of bytes, opened. -/
theorem open_choice {W : World} {fuel len cap : Nat} {a : Option Addr} {x : DataW H × List MemPlace} (h : DataW.trod enc Tryd.prog W 0 (fun _ => true) true fuel 39 [.slice a len cap] = some x) :
    ∃ ch : List Nat, len = ch.length ∧ Sl W W.heap.size a (ch.map fun n : Nat => .int .u8 (n : Int)) ∧ (∀ n ∈ ch, n ≤ 255) ∧ ch.length ≤ maxLen := by
  rcases open_ints Tryd.underlying39 Tryd.underlying5 (by kernel_rfl) h with ⟨h0, _⟩ | ⟨a', len', cap', zs, hcs, _, hl, hm, hz, _, hat, hwf⟩
  · simp only [List.cons.injEq, Value.slice.injEq] at h0
    obtain ⟨⟨rfl, rfl, rfl⟩, -⟩ := h0
    exact ⟨[], rfl, .inl rfl, (fun n hn => by cases hn), Nat.zero_le _⟩
  · simp only [List.cons.injEq, Value.slice.injEq] at hcs
    obtain ⟨⟨rfl, rfl, rfl⟩, -⟩ := hcs
    simp only [if_true] at hz
    have hr : ∀ z ∈ zs, 0 ≤ z ∧ z ≤ 255 := fun z hz => by
      have := hwf z hz
      unfold Lit.wf at this
      rw [Bool.and_eq_true, decide_eq_true_eq, decide_eq_true_eq] at this
      have e1 : IntKind.min .u8 = 0 := rfl
      have e2 : IntKind.max .u8 = 255 := rfl
      rw [e1, e2] at this
      exact this
    refine ⟨(zs.take len).map Int.toNat, by simp; omega, sl_of_cells fun j u hu => ?_, fun n hn => ?_, by simp; omega⟩
    · rw [List.map_map, List.getElem?_map] at hu
      obtain ⟨z, hz1, rfl⟩ := Option.map_eq_some_iff.1 hu
      rw [List.getElem?_take] at hz1
      split at hz1
      · have hjz := (List.getElem?_eq_some_iff.1 hz1).1
        have := hat j hjz
        rw [this]
        have h0 := hr z (List.mem_of_getElem? hz1)
        have e1 : zs.getD j 0 = z := by simp [List.getD, hz1]
        rw [e1]
        show _ = some (Value.int .u8 ((z.toNat : Nat) : Int))
        rw [Int.toNat_of_nonneg h0.1]
      · cases hz1
    · obtain ⟨z, hz1, rfl⟩ := List.mem_map.1 hn
      have := hr z (List.mem_of_mem_take hz1)
      omega
end
end Go.Proofs.YtafgmbchdcfkcaaDoor
