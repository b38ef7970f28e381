/-
  The walks of the reference's Same and SameAll.
-/
import Derived.Test.YtafgmbchdcfkcaaDoorS1
import Derived.Test.YtafgmbchdcfkcaaDoorKt
import Derived.Deep.QuietTactic
import Derived.BigQuiet
import Derived.Deep.DeepCutAuto
import Derived.Deep.LoopGhost
namespace Go.Proofs.YtafgmbchdcfkcaaDoor
open Go Go.RowKit Go.Walks

abbrev codeV (C : Code) (A : Option Addr) (c : Nat) : Array Value := #[strV C.name, .int .i64 C.field, .int .i64 C.data, .slice A C.par.length c, .int .i64 C.dom]
/-- In Same: the two codes' blocks. -/
structure S2W (w : World) (ca cb : Array Value) (W : World) : Prop where
  below : Below w.heap.size w W
  x : W.heap[w.heap.size]? = some (.cells ca 24)
  y : W.heap[w.heap.size + 1]? = some (.cells cb 24)
theorem S2W.start (w : World) (ca cb : Array Value) : S2W w ca cb ((w.alloc (.cells ca 24)).alloc (.cells cb 24)) :=
  ⟨((Below.refl _ _).alloc (Nat.le_refl _) _).alloc (by simp) _, (Below.heap_alloc _ _ _ (by simp)).trans (heap_new w _), (by have := heap_new (w.alloc (.cells ca 24)) (.cells cb 24); rwa [World.size_alloc] at this)⟩
theorem S2W.drewN {w W : World} {ca cb : Array Value} (h : S2W w ca cb W) (q : Nat) : S2W w ca cb (W.drewN q) := ⟨below_drewN h.below q, h.x, h.y⟩
def BoolR (b : Bool) (w : World) (e : Ending) (w' : World) : Prop := e = .returned (.bool b) ∧ Below w.heap.size w w'
theorem sameB_no {a b : Code} (h : ¬ (a.name = b.name ∧ a.field = b.field ∧ a.data = b.data ∧ a.dom = b.dom ∧ a.par = b.par)) : sameB a b = false := by
  unfold sameB
  by_cases h1 : a.name = b.name
  · by_cases h2 : a.field = b.field
    · by_cases h3 : a.data = b.data
      · by_cases h4 : a.dom = b.dom
        · by_cases h5 : a.par = b.par
          · exact absurd ⟨h1, h2, h3, h4, h5⟩ h
          · simp [h5]
        · simp [h4]
      · simp [h3]
    · simp [h2]
  · simp [h1]
theorem neq_of {a b : Int} (h : a ≠ b) : (a != b) = true := by rw [bne_iff_ne]; exact h
theorem eq_of {a b : Int} (h : a = b) : (a != b) = false := by rw [h]; simp

set_option maxRecDepth 100000 in
set_option maxHeartbeats 8000000 in
theorem sameR_any (a b : Code) (ca cb : List Value) (w : World) (Ha : Hid (CodeS w a ca)) (Hb : Hid (CodeS w b cb)) (La : Hid (CodeL a)) (Lb : Hid (CodeL b)) : Calls Tryd.prog 17 #[.agg ca.toArray, .agg cb.toArray] w (BoolR (sameB a b) w) := by
  obtain ⟨A, c, mc, rfl, h1, h2⟩ := Ha.out
  obtain ⟨B, d, md, rfl, k1, k2⟩ := Hb.out
  have Hs1 := Lib.hid h1
  have Hs2 := Lib.hid h2
  have Hk1 := Lib.hid k1
  have Hk2 := Lib.hid k2
  have S0 := Lib.hid (S2W.start w (codeV a A c) (codeV b B d))
  obtain ⟨an, af, ad, ap, ao⟩ := a
  obtain ⟨bn, bf, bd, bp, bo⟩ := b
  have hla := La.out.par
  have hlb := Lb.out.par
  unfold maxLen at hla hlb
  unfold intC
  dsimp only at h1 h2 k1 k2 hla hlb Hs1 Hs2 Hk1 Hk2 S0 ⊢
  obtain ⟨x0, -⟩ := cell_at S0.out.x 0 rfl
  obtain ⟨x1, -⟩ := cell_at S0.out.x 1 rfl
  obtain ⟨x2, -⟩ := cell_at S0.out.x 2 rfl
  obtain ⟨x3, -⟩ := cell_at S0.out.x 3 rfl
  obtain ⟨x4, -⟩ := cell_at S0.out.x 4 rfl
  obtain ⟨y0, -⟩ := cell_at S0.out.y 0 rfl
  obtain ⟨y1, -⟩ := cell_at S0.out.y 1 rfl
  obtain ⟨y2, -⟩ := cell_at S0.out.y 2 rfl
  obtain ⟨y3, -⟩ := cell_at S0.out.y 3 rfl
  obtain ⟨y4, -⟩ := cell_at S0.out.y 4 rfl
  clear h1 h2 k1 k2 Ha Hb
  by_cases e0 : an = bn
  · subst e0
    by_cases e1 : af = bf
    · subst e1
      by_cases e2 : ad = bd
      · subst e2
        by_cases e3 : ao = bo
        · subst e3
          by_cases e4 : ap.length = bp.length
          · have f4 : ((ap.length : Int) != (bp.length : Int)) = false := by rw [bne_eq_false_iff_eq]; omega
            have He : Hid (sameB ⟨an, af, ad, ap, ao⟩ ⟨an, af, ad, bp, ao⟩ = decide (ap = bp)) := by show _ = _; unfold sameB; simp
            have He4 := Lib.hid e4
            clear e4
            go_enter Tryd.func17, Tryd.ntmps17
            go_wp2_with fail
            clear f4 x0 x1 x2 x3 x4 y0 y1 y2 y3 y4
            go_loopg [5] ap.length (fun g s5 wr => ∃ i : Nat, s5 = .int .i64 (i : Int) ∧ g = ap.length - i ∧ i ≤ ap.length ∧ Hid (S2W w (codeV ⟨an, af, ad, ap, ao⟩ A c) (codeV ⟨an, af, ad, bp, ao⟩ B d) wr) ∧ Hid (∀ k, k < i → ap[k]? = bp[k]?))
            case atStart => exact ⟨0, rfl, rfl, by omega, S0.out, fun k h => absurd h (by omega)⟩
            case round =>
              obtain ⟨i, rfl, hg, hi, HS, HQ⟩ := hrel
              have Hg := Lib.hid hg
              clear hg S0
              obtain ⟨x3, -⟩ := cell_at HS.out.x 3 rfl
              obtain ⟨y3, -⟩ := cell_at HS.out.y 3 rfl
              by_cases hlt : i < ap.length
              · obtain ⟨ra, hra⟩ : ∃ r, ap[i]? = some r := ⟨_, List.getElem?_eq_getElem hlt⟩
                obtain ⟨rb, hrb⟩ : ∃ r, bp[i]? = some r := ⟨_, List.getElem?_eq_getElem (by rw [← He4.out]; exact hlt)⟩
                obtain ⟨b1, o1, A1, q1, hA, m1, t1⟩ := rowS Hs1.out Hs2.out HS.out.below hra
                obtain ⟨b2, o2, A2, q2, hB, m2, t2⟩ := rowS Hk1.out Hk2.out HS.out.below hrb
                subst hA; subst hB
                have Hra := Lib.hid hra
                have Hrb := Lib.hid hrb
                have Ht1 := Lib.hid t1
                have Ht2 := Lib.hid t2
                have hlr := La.out.row ra (List.mem_of_getElem? hra)
                have hlr2 := Lb.out.row rb (List.mem_of_getElem? hrb)
                unfold maxLen at hlr hlr2
                have hI1 : (0 : Int) ≤ (i : Int) := by omega
                have hI2 : (i : Int) < (ap.length : Int) := by omega
                have hI3 : (i : Int) < (bp.length : Int) := by have := He4.out; omega
                clear hra hrb t1 t2
                by_cases hlen : ra.length = rb.length
                · have g1 : ((ra.length : Int) != (rb.length : Int)) = false := by rw [bne_eq_false_iff_eq]; omega
                  have Hlen := Lib.hid hlen
                  clear hlen
                  go_wp2_with fail
                  go_quiet (fail)
                  go_wp2_with fail
                  clear g1 x3 y3 m1 m2
                  go_loopg [6] ra.length (fun g s6 wr => ∃ j : Nat, s6 = .int .i64 (j : Int) ∧ g = ra.length - j ∧ j ≤ ra.length ∧ Hid (S2W w (codeV ⟨an, af, ad, ap, ao⟩ (some ⟨b1, o1, none⟩) c) (codeV ⟨an, af, ad, bp, ao⟩ (some ⟨b2, o2, none⟩) d) wr) ∧ Hid (∀ k, k < j → ra[k]? = rb[k]?))
                  case atStart => exact ⟨0, rfl, rfl, by omega, HS.out.drewN _, fun k h => absurd h (by omega)⟩
                  case round =>
                    obtain ⟨j, rfl, hgj, hj, HS2, HQ2⟩ := hrel
                    have Hgj := Lib.hid hgj
                    clear hgj
                    obtain ⟨x3, -⟩ := cell_at HS2.out.x 3 rfl
                    obtain ⟨y3, -⟩ := cell_at HS2.out.y 3 rfl
                    obtain ⟨b1', o1', A1', q1', hA', m1, t1⟩ := rowS Hs1.out Hs2.out HS2.out.below Hra.out
                    injection hA' with hA'
                    injection hA' with ee1 ee2
                    subst ee1; subst ee2
                    obtain ⟨b2', o2', A2', q2', hB', m2, t2⟩ := rowS Hk1.out Hk2.out HS2.out.below Hrb.out
                    injection hB' with hB'
                    injection hB' with ee1 ee2
                    subst ee1; subst ee2
                    by_cases hjl : j < ra.length
                    · obtain ⟨u, hu⟩ : ∃ u, ra[j]? = some u := ⟨_, List.getElem?_eq_getElem hjl⟩
                      obtain ⟨v, hv⟩ : ∃ v, rb[j]? = some v := ⟨_, List.getElem?_eq_getElem (by rw [← Hlen.out]; exact hjl)⟩
                      obtain ⟨b3, o3, h3, -, n1⟩ := intS t1 hu
                      obtain ⟨b4, o4, h4, -, n2⟩ := intS t2 hv
                      subst h3; subst h4
                      have hJ1 : (0 : Int) ≤ (j : Int) := by omega
                      have hJ2 : (j : Int) < (ra.length : Int) := by omega
                      have hJ3 : (j : Int) < (rb.length : Int) := by have := Hlen.out; omega
                      clear t1 t2
                      by_cases huv : u = v
                      · subst huv
                        have HQ3 : Hid (∀ k, k < j + 1 → ra[k]? = rb[k]?) := by
                          intro k hk
                          rcases Nat.lt_or_ge k j with h | h
                          · exact HQ2.out k h
                          · have : k = j := by omega
                            subst this
                            rw [hu, hv]
                        clear hu hv
                        go_wp2_with fail
                        go_quiet (fail)
                        go_wp2_with fail
                        go_roundg (ra.length - (j + 1))
                        case measure => rw [Hgj.out]; omega
                        case rel => exact ⟨j + 1, by go_num, rfl, by omega, HS2.out.drewN _, HQ3.out⟩
                      · have g2 : (u != v) = true := by rw [bne_iff_ne]; exact huv
                        have Hno : Hid (sameB ⟨an, af, ad, ap, ao⟩ ⟨an, af, ad, bp, ao⟩ = false) := by
                          show _ = _
                          rw [He.out, decide_eq_false]
                          intro h
                          rw [h, Hrb.out] at Hra
                          have := Hra.out
                          injection this with this
                          subst this
                          rw [hu] at hv
                          injection hv with hv
                          exact huv hv
                        clear hu hv huv
                        go_wp2_with fail
                        go_quiet (fail)
                        go_wp2_with fail
                        go_ret
                        exact ⟨by rw [Hno.out] <;> rfl, (HS2.out.drewN _).below⟩
                    · have HQ3 : Hid (∀ k, k < i + 1 → ap[k]? = bp[k]?) := by
                        have hje : j = ra.length := by omega
                        have hrr : ra = rb := by
                          apply List.ext_getElem?
                          intro k
                          rcases Nat.lt_or_ge k ra.length with h | h
                          · exact HQ2.out k (by omega)
                          · rw [List.getElem?_eq_none h, List.getElem?_eq_none (by rw [← Hlen.out]; exact h)]
                        intro k hk
                        rcases Nat.lt_or_ge k i with h | h
                        · exact HQ.out k h
                        · have : k = i := by omega
                          subst this
                          rw [Hra.out, Hrb.out, hrr]
                      clear t1 t2
                      go_wp2_with fail
                      go_roundg (ap.length - (i + 1))
                      case measure => rw [Hg.out]; omega
                      case rel => exact ⟨i + 1, by go_num, rfl, by omega, HS2.out, HQ3.out⟩
                · have g1 : ((ra.length : Int) != (rb.length : Int)) = true := by rw [bne_iff_ne]; omega
                  have Hno : Hid (sameB ⟨an, af, ad, ap, ao⟩ ⟨an, af, ad, bp, ao⟩ = false) := by
                    show _ = _
                    rw [He.out, decide_eq_false]
                    intro h
                    rw [h, Hrb.out] at Hra
                    have := Hra.out
                    injection this with this
                    exact hlen (by rw [this])
                  clear hlen
                  go_wp2_with fail
                  go_quiet (fail)
                  go_wp2_with fail
                  go_ret
                  exact ⟨by rw [Hno.out] <;> rfl, (HS.out.drewN _).below⟩
              · have Hyes : Hid (sameB ⟨an, af, ad, ap, ao⟩ ⟨an, af, ad, bp, ao⟩ = true) := by
                  show _ = _
                  rw [He.out, decide_eq_true]
                  apply List.ext_getElem?
                  intro k
                  rcases Nat.lt_or_ge k ap.length with h | h
                  · exact HQ.out k (by omega)
                  · rw [List.getElem?_eq_none h, List.getElem?_eq_none (by rw [← He4.out]; exact h)]
                go_wp2_with fail
                go_ret
                exact ⟨by rw [Hyes.out] <;> rfl, HS.out.below⟩
          · have f4 : ((ap.length : Int) != (bp.length : Int)) = true := by rw [bne_iff_ne]; omega
            have Hno := Lib.hid (sameB_no (a := ⟨an, af, ad, ap, ao⟩) (b := ⟨an, af, ad, bp, ao⟩) fun h => e4 (congrArg List.length h.2.2.2.2))
            clear e4
            go_enter Tryd.func17, Tryd.ntmps17
            go_wp2_with fail
            go_ret
            exact ⟨by rw [Hno.out] <;> rfl, S0.out.below⟩
        · have f3 := neq_of e3
          have Hno := Lib.hid (sameB_no (a := ⟨an, af, ad, ap, ao⟩) (b := ⟨an, af, ad, bp, bo⟩) fun h => e3 h.2.2.2.1)
          clear e3
          go_enter Tryd.func17, Tryd.ntmps17
          go_wp2_with fail
          go_ret
          exact ⟨by rw [Hno.out] <;> rfl, S0.out.below⟩
      · have f2 := neq_of e2
        have Hno := Lib.hid (sameB_no (a := ⟨an, af, ad, ap, ao⟩) (b := ⟨an, af, bd, bp, bo⟩) fun h => e2 h.2.2.1)
        clear e2
        go_enter Tryd.func17, Tryd.ntmps17
        go_wp2_with fail
        go_ret
        exact ⟨by rw [Hno.out] <;> rfl, S0.out.below⟩
    · have f1 := neq_of e1
      have Hno := Lib.hid (sameB_no (a := ⟨an, af, ad, ap, ao⟩) (b := ⟨an, bf, bd, bp, bo⟩) fun h => e1 h.2.1)
      clear e1
      go_enter Tryd.func17, Tryd.ntmps17
      go_wp2_with fail
      go_ret
      exact ⟨by rw [Hno.out] <;> rfl, S0.out.below⟩
  · have f0 : (an == bn) = false := by simpa using e0
    have Hno := Lib.hid (sameB_no (a := ⟨an, af, ad, ap, ao⟩) (b := ⟨bn, bf, bd, bp, bo⟩) fun h => e0 h.1)
    clear e0
    go_enter Tryd.func17, Tryd.ntmps17
    go_wp2_with fail
    go_ret
    exact ⟨by rw [Hno.out] <;> rfl, S0.out.below⟩
end Go.Proofs.YtafgmbchdcfkcaaDoor
