/-
  The walk of the reference's SameAll.
-/
import Derived.Test.YtafgmbchdcfkcaaDoorS2
import Derived.Deep.RegionHeld3
namespace Go.Proofs.YtafgmbchdcfkcaaDoor
open Go Go.RowKit Go.Walks

def CodesS (w : World) : List Code → List Value → Prop
  | [], cs => cs = []
  | C :: Cs, cs => ∃ c1 c2, cs = c1 ++ c2 ∧ CodeS w C c1 ∧ CodesS w Cs c2
theorem CodesT.s {w : World} : ∀ {Cs : List Code} {cs : List Value}, CodesT w Cs cs → CodesS w Cs cs
  | [], _, h => h
  | _ :: _, _, ⟨c1, c2, e, h1, h2⟩ => ⟨c1, c2, e, h1.s, h2.s⟩
theorem CodesS.below {w w' : World} (hb : Below w.heap.size w w') : ∀ {Cs : List Code} {cs : List Value}, CodesS w Cs cs → CodesS w' Cs cs
  | [], _, h => h
  | _ :: _, _, ⟨c1, c2, e, h1, h2⟩ => ⟨c1, c2, e, h1.below hb, h2.below hb⟩
theorem CodesS.at_ {w : World} : ∀ {Cs : List Code} {cs : List Value} {k : Nat} {C : Code}, CodesS w Cs cs → Cs[k]? = some C → ∃ c, CodeS w C c ∧ ∀ (j : Nat) (u : Value), c[j]? = some u → cs[k * 5 + j]? = some u
  | [], _, k, C, _, hk => by simp at hk
  | C' :: Cs, cs, 0, C, ⟨c1, c2, e, h1, h2⟩, hk => by
    have : C' = C := by simpa using hk
    subst this
    refine ⟨c1, h1, fun j u hu => ?_⟩
    rw [e, Nat.zero_mul, Nat.zero_add, List.getElem?_append_left (List.getElem?_eq_some_iff.1 hu).1]
    exact hu
  | C' :: Cs, cs, k + 1, C, ⟨c1, c2, e, h1, h2⟩, hk => by
    obtain ⟨c, hc, hj⟩ := CodesS.at_ h2 (k := k) (C := C) (by simpa using hk)
    refine ⟨c, hc, fun j u hu => ?_⟩
    have hl : c1.length = 5 := by obtain ⟨_, _, _, rfl, _⟩ := h1; rfl
    have := hj j u hu
    rw [e, List.getElem?_append_right (by rw [hl]; omega), hl, show (k + 1) * 5 + j - 5 = k * 5 + j by omega]
    exact this
/-- A code of a slice of codes, in a later world. -/
theorem codeS_at {w W : World} {A : Option Addr} {cs : List Value} {Cs : List Code} (h : Sl w w.heap.size A cs) (hs : CodesS w Cs cs) (hb : Below w.heap.size w W) {k : Nat} {C : Code} (hk : Cs[k]? = some C) :
    ∃ b o A2 c2, A = some ⟨b, o, none⟩ ∧ b < w.heap.size ∧ (w.cell? ⟨b, o + k * 5, none⟩ = some (strV C.name) ∧ w.cell? ⟨b, o + k * 5 + 1, none⟩ = some (.int .i64 C.field) ∧ w.cell? ⟨b, o + k * 5 + 2, none⟩ = some (.int .i64 C.data) ∧ w.cell? ⟨b, o + k * 5 + 3, none⟩ = some (.slice A2 C.par.length c2) ∧ w.cell? ⟨b, o + k * 5 + 4, none⟩ = some (.int .i64 C.dom)) ∧ CodeS W C (codeV C A2 c2).toList := by
  obtain ⟨c, hc, hat⟩ := hs.at_ hk
  obtain ⟨A2, c2, mc, rfl, h1, h2⟩ := id hc
  have g := fun j u hu => hat j u hu
  rcases h with he | ⟨b, o, e, hlt, hcell⟩
  · have := hat 0 _ rfl
    rw [he] at this
    simp at this
  · have k0 := hcell _ _ (hat 0 _ rfl)
    have k1 := hcell _ _ (hat 1 _ rfl)
    have k2 := hcell _ _ (hat 2 _ rfl)
    have k3 := hcell _ _ (hat 3 _ rfl)
    have k4 := hcell _ _ (hat 4 _ rfl)
    rw [← Nat.add_assoc] at k0 k1 k2 k3 k4
    exact ⟨b, o, A2, c2, e, hlt, ⟨k0, k1, k2, k3, k4⟩, hc.below hb⟩
def sameAllB (xs ys : List Code) : Bool := decide (xs.length = ys.length) && (xs.zip ys).all fun p => sameB p.1 p.2
theorem sameAllB_self (xs : List Code) : sameAllB xs xs = true := by
  unfold sameAllB
  simp only [decide_true, Bool.true_and, List.all_eq_true]
  intro p hp
  have : p.1 = p.2 := by
    obtain ⟨i, hi⟩ := List.mem_iff_getElem?.1 hp
    rw [List.getElem?_zip_eq_some] at hi
    exact Option.some.inj (hi.1.symm.trans hi.2)
  rw [this]
  exact sameB_self _
set_option maxRecDepth 100000 in
set_option maxHeartbeats 8000000 in
theorem sameAllR_any (xs ys : List Code) (A B : Option Addr) (c d : Nat) (ca cb : List Value) (w : World) (Ha : Hid (Sl w w.heap.size A ca)) (Hb : Hid (Sl w w.heap.size B cb)) (Hca : Hid (CodesS w xs ca)) (Hcb : Hid (CodesS w ys cb)) (La : Hid (∀ C ∈ xs, CodeL C)) (Lb : Hid (∀ C ∈ ys, CodeL C)) (hla : xs.length ≤ maxLen) :
    Calls Tryd.prog 22 #[.slice A xs.length c, .slice B ys.length d] w (BoolR (sameAllB xs ys) w) := by
  unfold maxLen at hla
  by_cases hlen : xs.length = ys.length
  · have g1 : ((xs.length : Int) != (ys.length : Int)) = false := by rw [bne_eq_false_iff_eq]; omega
    have Hlen := Lib.hid hlen
    clear hlen
    go_enter Tryd.func22, Tryd.ntmps22
    go_wp2_with fail
    clear g1
    go_loopg [5] xs.length (fun g s5 wr => ∃ i : Nat, s5 = .int .i64 (i : Int) ∧ g = xs.length - i ∧ i ≤ xs.length ∧ Hid (Below w.heap.size w wr) ∧ Hid (∀ k x y, k < i → xs[k]? = some x → ys[k]? = some y → sameB x y = true))
    case atStart => exact ⟨0, rfl, rfl, by omega, Below.refl _ _, fun k x y h => absurd h (by omega)⟩
    case round =>
      obtain ⟨i, rfl, hg, hi, HB, HQ⟩ := hrel
      have Hg := Lib.hid hg
      clear hg
      by_cases hlt : i < xs.length
      · obtain ⟨x, hx⟩ : ∃ x, xs[i]? = some x := ⟨_, List.getElem?_eq_getElem hlt⟩
        obtain ⟨y, hy⟩ : ∃ y, ys[i]? = some y := ⟨_, List.getElem?_eq_getElem (by rw [← Hlen.out]; exact hlt)⟩
        obtain ⟨b1, o1, A1, q1, hA, hb1, k1, s1⟩ := codeS_at Ha.out Hca.out HB.out hx
        obtain ⟨b2, o2, A2, q2, hB, hb2, k2, s2⟩ := codeS_at Hb.out Hcb.out HB.out hy
        have HKS : Hid (∀ w' : World, Below w.heap.size w w' → (w'.cell? ⟨b1, o1 + i * 5, none⟩ = some (strV x.name) ∧ w'.cell? ⟨b1, o1 + i * 5 + 1, none⟩ = some (.int .i64 x.field) ∧ w'.cell? ⟨b1, o1 + i * 5 + 2, none⟩ = some (.int .i64 x.data) ∧ w'.cell? ⟨b1, o1 + i * 5 + 3, none⟩ = some (.slice A1 x.par.length q1) ∧ w'.cell? ⟨b1, o1 + i * 5 + 4, none⟩ = some (.int .i64 x.dom)) ∧ w'.cell? ⟨b2, o2 + i * 5, none⟩ = some (strV y.name) ∧ w'.cell? ⟨b2, o2 + i * 5 + 1, none⟩ = some (.int .i64 y.field) ∧ w'.cell? ⟨b2, o2 + i * 5 + 2, none⟩ = some (.int .i64 y.data) ∧ w'.cell? ⟨b2, o2 + i * 5 + 3, none⟩ = some (.slice A2 y.par.length q2) ∧ w'.cell? ⟨b2, o2 + i * 5 + 4, none⟩ = some (.int .i64 y.dom)) :=
          fun w' hb => ⟨⟨(hb.cell (p := ⟨b1, _, none⟩) hb1).trans k1.1, (hb.cell (p := ⟨b1, _, none⟩) hb1).trans k1.2.1, (hb.cell (p := ⟨b1, _, none⟩) hb1).trans k1.2.2.1, (hb.cell (p := ⟨b1, _, none⟩) hb1).trans k1.2.2.2.1, (hb.cell (p := ⟨b1, _, none⟩) hb1).trans k1.2.2.2.2⟩, (hb.cell (p := ⟨b2, _, none⟩) hb2).trans k2.1, (hb.cell (p := ⟨b2, _, none⟩) hb2).trans k2.2.1, (hb.cell (p := ⟨b2, _, none⟩) hb2).trans k2.2.2.1, (hb.cell (p := ⟨b2, _, none⟩) hb2).trans k2.2.2.2.1, (hb.cell (p := ⟨b2, _, none⟩) hb2).trans k2.2.2.2.2⟩
        have Hs1 := Lib.hid s1
        have Hs2 := Lib.hid s2
        have Hlx := Lib.hid (La.out x (List.mem_of_getElem? hx))
        have Hly := Lib.hid (Lb.out y (List.mem_of_getElem? hy))
        have Hx := Lib.hid hx
        have Hy := Lib.hid hy
        subst hA; subst hB
        have hI1 : (0 : Int) ≤ (i : Int) := by omega
        have hI2 : (i : Int) < (xs.length : Int) := by omega
        have hI3 : (i : Int) < (ys.length : Int) := by have := Hlen.out; omega
        clear hx hy k1 k2 s1 s2
        have hcall := fun W (hb : Below wr.heap.size wr W) => sameR_any x y (codeV x A1 q1).toList (codeV y A2 q2).toList W (Hs1.out.below hb) (Hs2.out.below hb) Hlx.out Hly.out
        have HQ3 : Hid (sameB x y = true → ∀ k x y, k < i + 1 → xs[k]? = some x → ys[k]? = some y → sameB x y = true) := by
          intro h k x' y' hk h1 h2
          rcases Nat.lt_or_ge k i with h' | h'
          · exact HQ.out k x' y' h' h1 h2
          · have : k = i := by omega
            subst this
            rw [Hx.out] at h1
            rw [Hy.out] at h2
            injection h1 with h1
            injection h2 with h2
            rw [← h1, ← h2]; exact h
        have Hno0 : Hid (sameB x y = false → sameAllB xs ys = false) := by
          intro h
          unfold sameAllB
          rw [Bool.and_eq_false_iff]
          right
          rw [List.all_eq_false]
          exact ⟨(x, y), List.mem_iff_getElem?.2 ⟨i, by rw [List.getElem?_zip_eq_some]; exact ⟨Hx.out, Hy.out⟩⟩, by simp [h]⟩
        have Hcall := Lib.hid hcall
        clear hcall
        generalize sameB x y = bb at Hcall HQ3 Hno0
        go_wp2_with fail
        go_cut [26] (fun s26 wx => s26 = .bool (!bb) ∧ Hid (Below wr.heap.size wr wx))
        case first =>
          go_region_held3 (fun w' => (w'.cell? ⟨b1, o1 + i * 5, none⟩ = some (strV x.name) ∧ w'.cell? ⟨b1, o1 + i * 5 + 1, none⟩ = some (.int .i64 x.field) ∧ w'.cell? ⟨b1, o1 + i * 5 + 2, none⟩ = some (.int .i64 x.data) ∧ w'.cell? ⟨b1, o1 + i * 5 + 3, none⟩ = some (.slice A1 x.par.length q1) ∧ w'.cell? ⟨b1, o1 + i * 5 + 4, none⟩ = some (.int .i64 x.dom)) ∧ w'.cell? ⟨b2, o2 + i * 5, none⟩ = some (strV y.name) ∧ w'.cell? ⟨b2, o2 + i * 5 + 1, none⟩ = some (.int .i64 y.field) ∧ w'.cell? ⟨b2, o2 + i * 5 + 2, none⟩ = some (.int .i64 y.data) ∧ w'.cell? ⟨b2, o2 + i * 5 + 3, none⟩ = some (.slice A2 y.par.length q2) ∧ w'.cell? ⟨b2, o2 + i * 5 + 4, none⟩ = some (.int .i64 y.dom))
            (first | exact HKS.out _ (HB.out.trans (HB6.out.mono HB.out.size)) | exact HKS.out _ HB.out.drew)
            (first | (go_at_call 17; refine (Hcall.out _ (Below.refl _ _).drew).mono ?_; rintro e w6 ⟨rfl, hb6⟩; have HB6 := Lib.hid ((Below.refl wr.heap.size wr).drew.trans hb6); clear hb6))
          all_goals
            go_wp2_with fail
            go_meet
            exact ⟨rfl, HB6.out⟩
        case rest =>
        obtain ⟨rfl, hbc⟩ := hcut
        have HBc := Lib.hid (HB.out.trans (hbc.out.mono HB.out.size))
        clear hbc
        cases bb with
        | true =>
          go_wp2_with fail
          go_roundg (xs.length - (i + 1))
          case measure => rw [Hg.out]; omega
          case rel => exact ⟨i + 1, by go_num, rfl, by omega, HBc.out, HQ3.out (by trivial)⟩
        | false =>
          go_wp2_with fail
          go_ret
          exact ⟨by rw [Hno0.out (by trivial)] <;> rfl, HBc.out⟩
      · have Hyes : Hid (sameAllB xs ys = true) := by
          show _ = _
          unfold sameAllB
          rw [decide_eq_true Hlen.out, Bool.true_and, List.all_eq_true]
          intro p hp
          obtain ⟨k, hk⟩ := List.mem_iff_getElem?.1 hp
          rw [List.getElem?_zip_eq_some] at hk
          have := (List.getElem?_eq_some_iff.1 hk.1).1
          exact HQ.out k p.1 p.2 (by omega) hk.1 hk.2
        go_wp2_with fail
        go_ret
        exact ⟨by rw [Hyes.out] <;> rfl, HB.out⟩
  · have g1 : ((xs.length : Int) != (ys.length : Int)) = true := by rw [bne_iff_ne]; omega
    have Hno : Hid (sameAllB xs ys = false) := by show _ = _; unfold sameAllB; rw [decide_eq_false hlen]; rfl
    clear hlen
    go_enter Tryd.func22, Tryd.ntmps22
    go_wp2_with fail
    go_ret
    exact ⟨by rw [Hno.out] <;> rfl, Below.refl _ _⟩
end Go.Proofs.YtafgmbchdcfkcaaDoor
