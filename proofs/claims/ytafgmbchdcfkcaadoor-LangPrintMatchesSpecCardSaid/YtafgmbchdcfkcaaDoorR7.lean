/-
  The walks of the reference's one.
-/
import Derived.Test.YtafgmbchdcfkcaaDoorR6
import Derived.Deep.DeepCutAuto
namespace Go.Proofs.YtafgmbchdcfkcaaDoor
open Go Go.RowKit Go.Walks

/-- A line's cells. -/
def lineR (K : Tok) (A : Option Addr) (n c : Nat) (B : Option Addr) (m d : Nat) : Array Value := tokR K ++ #[.slice A n c, .slice B m d]
def oneU (key : Bytes) (x : PR Unit) : PR Unit := x.next fun _ ts => (oneT key ts).next fun _ a => .ok () a
theorem oneU_eq (key : Bytes) (x : PR Unit) : mustU kSemi (kindU 2 (mustU key x)) = oneU key x := by
  cases x with
  | bad p => rfl
  | ok u ts =>
    show mustU kSemi (kindU 2 ((mustT key ts).next fun _ a => .ok () a)) = (oneT key ts).next _
    unfold oneT
    cases h1 : mustT key ts with
    | bad p => rfl
    | ok p a =>
      show mustU kSemi ((kindT 2 a).next fun _ a => .ok () a) = _
      rw [PR.next_ok]
      cases h2 : kindT 2 a with
      | bad p => rfl
      | ok N b =>
        show (mustT kSemi b).next _ = _
        rw [PR.next_ok]
        cases mustT kSemi b <;> rfl
theorem one_val {key : Bytes} {x : PR Unit} {K N : Tok} (hK : Front K x) (hN : Front N (mustU key x)) : ∀ u ts N' a, x = .ok u ts → oneT key ts = .ok N' a → K.text = key ∧ N = N' := by
  rintro u ts N' a rfl h
  obtain ⟨r, rfl⟩ := hK u ts rfl
  unfold oneT at h
  cases h1 : mustT key (K :: r) with
  | bad p => rw [h1] at h; cases h
  | ok p b =>
    rw [h1, PR.next_ok] at h
    have hm : mustU key (.ok u (K :: r)) = .ok () b := by show (mustT key (K :: r)).next _ = _; rw [h1]; rfl
    obtain ⟨r2, hr2⟩ := hN () b hm
    have hk : K.text = key := by
      rw [mustT] at h1
      split at h1
      · rename_i e; simpa using e
      · cases h1
    refine ⟨hk, ?_⟩
    subst hr2
    rw [kindT] at h
    split at h
    · rw [PR.next_ok] at h
      cases h3 : mustT kSemi r2 with
      | bad p => rw [h3] at h; cases h
      | ok p d => rw [h3, PR.next_ok] at h; injection h with h _
    · cases h
def OneU (gp : Nat) (l : List Tok) (At : Option Addr) (ct : Nat) (key : Bytes) (x : PR Unit) (w : World) (e : Ending) (w' : World) : Prop :=
  ∃ K N A c, e = .returned (.agg (lineR K A 1 c none 0 0)) ∧ SlT w' w'.heap.size 46 A (tokRs [N]) ∧ (∀ u ts N' a, x = .ok u ts → oneT key ts = .ok N' a → K.text = key ∧ N = N') ∧ RAt w' gp l At ct (oneU key x) ∧ RB gp w w'

def z6 : Array Value := z4 ++ #[.slice none 0 0, .slice none 0 0]
theorem info101 (cs : Array Value) (hs : cs.size = 6) : (Tryd.prog.info? 101).map (·.size) = some cs.size := by rw [hs]; kernel_rfl
theorem lineR_one (K : Tok) (A : Option Addr) (n c : Nat) (B : Option Addr) (m d : Nat) : (lineR K A n c B m d).all (·.oneCell') = true := by
  refine all_oneCell_toArray (cs := [strV K.text, .int .i64 (K.at_ : Int), .int .i64 (K.kind : Int), .int .i64 (K.n : Int), .slice A n c, .slice B m d]) (fun v hv => ?_)
  simp at hv
  rcases hv with rfl | rfl | rfl | rfl | rfl | rfl <;> rfl
theorem one_fin {w w3 : World} {gp : Nat} {l : List Tok} {At : Option Addr} {ct : Nat} {x y : PR Unit} {K N : Tok} (hA : w3.heap[w.heap.size]? = some (.cells z6 101)) (hrb : RB gp w w3) (hr : RAt w3 gp l At ct y) (h0 : RAt w gp l At ct x) {W : World}
    (hW : W = (w3.alloc (.cells (tokR N) 46)).setCells w.heap.size 0 (lineR K (some ⟨w3.heap.size, 0, none⟩) 1 1 none 0 0).toList) :
    W.heap[w.heap.size]? = some (.cells (lineR K (some ⟨w3.heap.size, 0, none⟩) 1 1 none 0 0) 101) ∧ SlT W W.heap.size 46 (some ⟨w3.heap.size, 0, none⟩) (tokRs [N]) ∧ RAt W gp l At ct y ∧ RB gp w W := by
  have hb3 : Below w3.heap.size w3 (w3.alloc (.cells (tokR N) 46)) := (Below.refl _ _).alloc (Nat.le_refl _) _
  have hA1 : (w3.alloc (.cells (tokR N) 46)).heap[w.heap.size]? = some (.cells z6 101) := (hb3.block _ (Array.getElem?_eq_some_iff.1 hA).1).trans hA
  have hlt := h0.lt
  have hrb2 : RB gp w W := by rw [hW]; exact RB.setCells (Nat.le_refl _) _ 0 (hrb.alloc _)
  refine ⟨by rw [hW, heap_setCells (w := W) _ 0 hA1]; rfl, ?_, ?_, hrb2⟩
  · obtain ⟨A, c, e, hs, -, -⟩ := SlT.of_own (own_one w3 N _ hrb.size)
    injection e with e1 _ _
    subst e1
    have hk : KeepT 46 (w3.alloc (.cells (tokR N) 46)) W := by rw [hW]; exact KeepT.setCells (by decide) _ 0 hA1
    exact hs.keepT hk hk.size
  · refine h0.keep (hr.below hb3) ?_ hrb2
    rw [hW]
    exact heap_setCells_other (by omega) _ _ _

set_option maxRecDepth 100000 in
set_option maxHeartbeats 4000000 in
theorem one_R {l : List Tok} (hw : WFl l) (hl : l.length ≤ 2001) {x : PR Unit} (gp : Nat) (At : Option Addr) (ct : Nat) (key : Bytes) {d : UInt8} {r : Bytes} (hs : Hid (key = d :: r)) (hd : Hid (isD d = false)) (w : World) (Hx : Hid (RAt w gp l At ct x)) :
    Calls Tryd.prog 63 #[.pointer (some ⟨gp, 0, none⟩), strV key] w (OneU gp l At ct key x w) := by
  have hlt := Hx.out.lt
  go_enter Tryd.func63, Tryd.ntmps63
  go_wp2_with fail
  refine (must_R hw hl key hs.out hd.out (Hx.out.below ((Below.refl _ _).alloc (Nat.le_refl _) _))).mono ?_
  rintro e w1 ⟨K, rfl, hK, hr1, hb1⟩
  have HK := Lib.hid hK
  have Hr1 := Lib.hid hr1
  have Hb1 := Lib.hid hb1
  clear hK hr1 hb1
  unfold tokR
  go_wp2_with fail
  refine (kind_R hw hl 2 (by omega) (Hr1.out.below ((Below.refl _ _).alloc (Nat.le_refl _) _))).mono ?_
  rintro e w2 ⟨N, rfl, hN, hr2, hb2⟩
  have HN := Lib.hid hN
  have Hr2 := Lib.hid hr2
  have Hb2 := Lib.hid hb2
  clear hN hr2 hb2
  unfold tokR
  go_wp2_with fail
  refine (must_R hw hl kSemi rfl rfl (Hr2.out.below ((Below.refl _ _).alloc (Nat.le_refl _) _))).mono ?_
  rintro e w3 ⟨Z, rfl, -, hr3, hb3⟩
  have hB1 : RB gp (w.alloc (.cells z6 101)) w1 := Hb1.out
  have hB2 : RB gp (w1.alloc (.cells (tokR K) 46)) w2 := Hb2.out
  have hB3 : RB gp (w2.alloc (.cells (tokR N) 46)) w3 := hb3
  have hs1 := hB1.size
  have hs2 := hB2.size
  have hs3 := hB3.size
  rw [World.size_alloc] at hs1 hs2 hs3
  have hA1 := hB1.row (by omega) (heap_new w (.cells z6 101))
  have hA2 := hB2.row (by omega) ((((Below.refl _ _).alloc (Nat.le_refl _) _).block _ (Array.getElem?_eq_some_iff.1 hA1).1).trans hA1)
  have hA3 := hB3.row (by omega) ((((Below.refl _ _).alloc (Nat.le_refl _) _).block _ (Array.getElem?_eq_some_iff.1 hA2).1).trans hA2)
  have hK2 := hB2.row (by omega) (heap_new w1 (.cells (tokR K) 46))
  have hK3 := hB3.row (by omega) ((((Below.refl _ _).alloc (Nat.le_refl _) _).block _ (Array.getElem?_eq_some_iff.1 hK2).1).trans hK2)
  have hN3 := hB3.row (by omega) (heap_new w2 (.cells (tokR N) 46))
  have HF := Lib.hid (one_fin (K := K) (N := N) hA3 (((RB.refl gp w).alloc _).trans (hB1.trans ((RB.alloc (RB.refl gp w1) _).trans (hB2.trans ((RB.alloc (RB.refl gp w2) _).trans hB3))))) hr3 Hx.out rfl)
  rw [oneU_eq] at HF
  have HV := Lib.hid (one_val HK.out HN.out)
  have HA : Hid ((w3.alloc (.cells (tokR N) 46)).heap[w.heap.size]? = some (.cells z6 101)) := ((((Below.refl _ _).alloc (Nat.le_refl _) _).block _ (Array.getElem?_eq_some_iff.1 hA3).1).trans hA3)
  have HKc := Lib.hid hK3
  have HNc := Lib.hid hN3
  clear hr3 hb3 hB1 hB2 hB3 hA1 hA2 hA3 hK2 hK3 hN3 hs1 hs2 hs3
  unfold tokR
  go_wp2_with (first | (refine wpList_load_row rfl 46 _ rfl w1.heap.size rfl 46 (tokR K) (0, 0) _ HKc.out Tryd.underlying46 rfl (info46b _ rfl) ?_) | (refine wpList_load_row rfl 46 _ rfl w2.heap.size rfl 46 (tokR N) (0, 0) _ HNc.out Tryd.underlying46 rfl (info46b _ rfl) ?_; unfold tokR) | (at_builtin; fail) | (refine wpList_store_mid rfl 101 _ _ rfl w.heap.size 0 (lineR K (some ⟨w3.heap.size, 0, none⟩) 1 1 none 0 0) rfl rfl (there_of_row HA.out 0 6 (Nat.le_refl _)) (info101 _ rfl) (lineR_one _ _ _ _ _ _ _) ?_))
  obtain ⟨o1, o2, o3, o4⟩ := HF.out
  exact bodyPost_ret (results_cell_row (p := 4) (ty := 101) rfl _ _ w.heap.size 101 _ (0, 0) _ rfl o1 Tryd.underlying101 rfl (info101 _ rfl)) rfl ⟨K, N, _, 1, rfl, o2, HV.out, o3, o4⟩
end Go.Proofs.YtafgmbchdcfkcaaDoor
