/-
  The walk of the statement LangAllMatchesSpec: it returns true for every text.
-/
import Derived.Test.YtafgmbchdcfkcaaDoorS12
import Derived.Test.YtafgmbchdcfkcaaDoorR21
namespace Go.Proofs.YtafgmbchdcfkcaaDoor
open Go Go.RowKit Go.Walks

/-- What ParseAll hands back, as one form. -/
def outA : BR (List Code) → List Code × Nat × Nat
  | .ok Cs => (Cs, 0, 0)
  | .bad p en => ([], p, en)
def ARow (x : List Code × Nat × Nat) (w : World) (e : Ending) (w' : World) : Prop :=
  Below w.heap.size w w' ∧ ∃ A c cc, e = .returned (.tuple #[.slice A x.1.length c, .int .i64 (x.2.1 : Int), .int .i64 (x.2.2 : Int)]) ∧ Sl w' w'.heap.size A cc ∧ CodesS w' x.1 cc
theorem arow_of {x : BR (List Code)} {w w' : World} {e : Ending} (h : AllRes x w e w') : ARow (outA x) w e w' := by
  obtain ⟨hb, h⟩ := h
  cases x with
  | ok Cs =>
    obtain ⟨A, c, cc, rfl, h1, h2⟩ := h
    exact ⟨hb, A, c, cc, rfl, h1.sl, h2.s⟩
  | bad p en =>
    subst h
    exact ⟨hb, none, 0, [], rfl, .inl rfl, rfl⟩
theorem codesB_len8 : ∀ {Ss : List Src} {ns : List Bytes} {acc Cs : List Code}, codesB ns acc Ss = .ok Cs → acc.length = ns.length → ns.length ≤ 8 → Cs.length ≤ 8
  | [], ns, acc, Cs, h, ha, hn => by injection h with h; subst h; omega
  | S :: Ss, ns, acc, Cs, h, ha, hn => by
    rw [codesB] at h
    split at h
    · split at h
      · cases h
      · cases hb : buildS S with
        | bad p e => rw [hb] at h; cases h
        | ok C =>
          rw [hb] at h
          exact codesB_len8 h (by simp [ha]) (by simp; omega)
    · cases h
theorem outA_L {sg : Bool} {t : Bytes} : (∀ C ∈ (outA (parseB sg t)).1, CodeL C) ∧ (outA (parseB sg t)).1.length ≤ maxLen := by
  cases h : parseB sg t with
  | bad p en => exact ⟨(fun C hC => by cases hC), by simp [outA]⟩
  | ok Cs =>
    refine ⟨parseB_L h, ?_⟩
    unfold parseB at h
    split at h
    · cases h
    · unfold srcsB at h
      split at h
      · cases h
      · have := codesB_len8 h rfl (by simp)
        show Cs.length ≤ maxLen
        unfold maxLen; omega

set_option maxRecDepth 100000 in
set_option maxHeartbeats 4000000 in
theorem lawAll_any (t : ByteArray) (w : World) (Hg : Hid (Gl w)) : Calls Tryd.prog 5 #[.string t] w (BoolR true w) := by
  have hL := outA_L (sg := false) (t := t.data.toList)
  have h20 := fun W (hg : Gl W) => (parseAll_any t W hg).mono fun _ _ h => arow_of h
  have h21 := fun W => (parseAllR_any t W).mono fun _ _ h => arow_of h
  unfold ARow at h20 h21
  generalize outA (parseB false t.data.toList) = x at hL h20 h21
  obtain ⟨Cs, p, en⟩ := x
  dsimp only at hL h20 h21
  have HL := Lib.hid hL
  have H20 := Lib.hid h20
  have H21 := Lib.hid h21
  clear hL h20 h21
  go_enter Tryd.func5, Tryd.ntmps5
  go_wp2_with fail
  refine (H20.out _ Hg.out).mono ?_
  rintro e w1 ⟨hb1, A1, c1, cc1, rfl, hs1, hC1⟩
  have B1 := Lib.hid hb1
  have D1 := Lib.hid hs1
  have E1 := Lib.hid hC1
  clear hb1 hs1 hC1
  go_wp2_with fail
  refine (H21.out _).mono ?_
  rintro e w2 ⟨hb2, A2, c2, cc2, rfl, hs2, hC2⟩
  have B2 := Lib.hid (B1.out.trans (hb2.mono B1.out.size))
  have D2 := Lib.hid ((D1.out.below hb2).more hb2.size)
  have E2 := Lib.hid (E1.out.below hb2)
  have F2 := Lib.hid hs2
  have G2 := Lib.hid hC2
  clear hb2 hs2 hC2 B1 D1 E1
  go_wp2_with fail
  refine (sanity_any _ (Hg.out.below B2.out)).mono ?_
  rintro e w3 ⟨rfl, hb3⟩
  have B3 := Lib.hid (B2.out.trans (hb3.mono B2.out.size))
  have D3 := Lib.hid ((D2.out.below hb3).more hb3.size)
  have E3 := Lib.hid (E2.out.below hb3)
  have F3 := Lib.hid ((F2.out.below hb3).more hb3.size)
  have G3 := Lib.hid (G2.out.below hb3)
  clear hb3 B2 D2 E2 F2 G2
  have hcall := sameAllR_any Cs Cs A1 A2 c1 c2 cc1 cc2 w3 D3.out F3.out E3.out G3.out HL.out.1 HL.out.1 HL.out.2
  rw [sameAllB_self] at hcall
  have Hcall := Lib.hid hcall
  clear hcall
  go_wp2_with fail
  refine Hcall.out.mono ?_
  rintro e w4 ⟨rfl, hb4⟩
  have B4 := Lib.hid (B3.out.trans (hb4.mono B3.out.size))
  clear hb4
  go_wp2_with fail
  go_ret
  exact ⟨rfl, B4.out⟩
end Go.Proofs.YtafgmbchdcfkcaaDoor
