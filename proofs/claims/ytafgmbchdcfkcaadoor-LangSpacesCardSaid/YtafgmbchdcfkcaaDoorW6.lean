/-
  The walk of the reader's one, by tokens: a statement with one number.
-/
import Derived.Test.YtafgmbchdcfkcaaDoorW5
namespace Go.Proofs.YtafgmbchdcfkcaaDoor
open Go Go.RowKit Go.Walks

theorem res77 (tmps : Array Value) (w : World) (g : Nat) (a b c : Value) (hp : tmps.getD 4 undef = .pointer (some ⟨g, 0, none⟩)) (hg : w.heap[g]? = some (.cells #[a, b, c] 92)) :
    (results Tryd.f77 tmps).run Tryd.prog w = .ok (.agg #[a, b, c]) w :=
  results_cell_row (p := 4) (ty := 92) rfl tmps w g 92 #[a, b, c] (0, 0) _ hp hg Tryd.underlying92 rfl info92

set_option maxRecDepth 100000 in
set_option maxHeartbeats 1000000 in
theorem one_T (t : ByteArray) (r : Nat) (w : World) (ts : List Tok) (key : Bytes) (hk : key ≠ []) (hkl : key.length ≤ 2000) (ht : t.size ≤ 2000) (hr7 : 7 ≤ r) (Hg : Hid (Gl w)) (Hp : Hid (PAt w r t ts)) :
    Calls Tryd.prog 77 #[.pointer (some ⟨r, 0, none⟩), .string ⟨key.toArray⟩] w (PRes t r (oneT key ts) MarkIs w) := by
  have hrw := Hp.out.lt
  have hB0 : Below w.heap.size w (w.alloc (.cells #[.int .i64 0, .int .i64 0, .string ⟨#[]⟩] 92)) := (Below.refl _ _).alloc (Nat.le_refl _) _
  go_enter Tryd.func77, Tryd.ntmps77
  go_wp2_with fail
  refine (must_T key ht hk hkl (Hp.out.alloc _)).mono ?_
  cases h1 : mustT key ts with
  | bad p =>
    have Hnt : Hid (oneT key ts = .bad p) := by show _ = _; unfold oneT; rw [h1]; rfl
    clear h1
    rintro e w1 ⟨rfl, hb1⟩
    unfold wrongE
    have HB1 := Lib.hid ((RB.of_below hB0).trans hb1)
    clear hb1
    go_wp2_with fail
    refine ⟨rfl, ?_⟩
    show PRes t r (oneT key ts) MarkIs w _ _
    rw [Hnt.out]
    exact ⟨rfl, HB1.out⟩
  | ok p a =>
    have H1 := Lib.hid h1
    clear h1
    rintro e w1 ⟨rfl, hp1, hb1⟩
    have HB1 := Lib.hid ((RB.of_below hB0).trans hb1)
    have HP1 := Lib.hid hp1
    have HR1 := Lib.hid (hb1.row (k := w.heap.size) (by omega) (heap_new w _))
    clear hb1 hp1
    go_wp2_with fail
    refine (read2_T ht hr7 (Hg.out.rb HB1.out hr7) HP1.out).mono ?_
    cases h2 : kindT 2 a with
    | bad p =>
      have Hnt : Hid (oneT key ts = .bad p) := by show _ = _; unfold oneT; rw [H1.out, PR.next_ok, h2]; rfl
      clear h2
      rintro e w2 ⟨rfl, hb2⟩
      unfold wrongE
      have HB2 := Lib.hid (HB1.out.trans hb2)
      clear hb2
      go_wp2_with fail
      refine ⟨rfl, ?_⟩
      show PRes t r (oneT key ts) MarkIs w _ _
      rw [Hnt.out]
      exact ⟨rfl, HB2.out⟩
    | ok N b =>
      have H2 := Lib.hid h2
      clear h2
      rintro e w2 ⟨he, hp2, hb2⟩
      unfold MarkIs at he
      subst he
      have HB2 := Lib.hid (HB1.out.trans hb2)
      have HP2 := Lib.hid hp2
      have HR2 := Lib.hid (hb2.row (k := w.heap.size) (by omega) HR1.out)
      clear hb2 hp2
      go_wp2_with fail
      refine (must_T kSemi ht (by decide) (by decide) (HP2.out.alloc _)).mono ?_
      have hB2 : RB r w2 (w2.alloc (.cells #[.int .i64 (N.at_ : Int), .int .i64 (N.n : Int), strV N.text] 92)) := (RB.refl _ _).alloc _
      have hg2 : w.heap.size < w2.heap.size := (Array.getElem?_eq_some_iff.1 HR2.out).1
      cases h3 : mustT kSemi b with
      | bad p =>
        have Hnt : Hid (oneT key ts = .bad p) := by show _ = _; unfold oneT; rw [H1.out, PR.next_ok, H2.out, PR.next_ok, h3]; rfl
        clear h3
        rintro e w3 ⟨rfl, hb3⟩
        unfold wrongE
        have HB3 := Lib.hid (HB2.out.trans (hB2.trans hb3))
        clear hb3
        go_wp2_with fail
        refine ⟨rfl, ?_⟩
        show PRes t r (oneT key ts) MarkIs w _ _
        rw [Hnt.out]
        exact ⟨rfl, HB3.out⟩
      | ok q d =>
        have Hnt : Hid (oneT key ts = .ok N d) := by show _ = _; unfold oneT; rw [H1.out, PR.next_ok, H2.out, PR.next_ok, h3]; rfl
        clear h3
        rintro e w3 ⟨rfl, hp3, hb3⟩
        have HB3 := Lib.hid (HB2.out.trans (hB2.trans hb3))
        have HP3 := Lib.hid hp3
        have hrr : r < w2.heap.size := HP2.out.lt
        have HR3 : Hid (w3.heap[w.heap.size]? = _) := (hB2.trans hb3).row (k := w.heap.size) (by omega) HR2.out
        have hN3 := hb3.row (k := w2.heap.size) (by omega) (heap_new w2 _)
        obtain ⟨n0, n1, n2, -, -, -⟩ := three_cells hN3
        obtain ⟨g0, g1, g2, g3, g4, g5⟩ := three_cells HR3.out
        have hne : r ≠ w.heap.size := by omega
        clear hb3 hp3 hN3
        go_wp2_with fail
        refine bodyPost_ret (res77 _ _ w.heap.size _ _ _ rfl (set_three HR3.out _ _ _)) rfl ?_
        show PRes t r (oneT key ts) MarkIs w _ _
        rw [Hnt.out]
        exact ⟨rfl, ((HP3.out.setNew hne).setNew hne).setNew hne, ((HB3.out.setNew (Nat.le_refl _) _ _).setNew (Nat.le_refl _) _ _).setNew (Nat.le_refl _) _ _⟩
end Go.Proofs.YtafgmbchdcfkcaaDoor
