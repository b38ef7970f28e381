/-
  The walks of Parse and ParseAll.
-/
import Derived.Test.YtafgmbchdcfkcaaDoorW13
import Derived.RegionTactic
namespace Go.Proofs.YtafgmbchdcfkcaaDoor
open Go Go.RowKit Go.Walks

theorem res18 (tmps : Array Value) (w : World) (g : Nat) (cs : Array Value) (u v : Value) (h3 : tmps.getD 3 undef = u) (h4 : tmps.getD 4 undef = v) (hp : tmps.getD 2 undef = .pointer (some ⟨g, 0, none⟩)) (hg : w.heap[g]? = some (.cells cs 24)) (hs : cs.size = 5) :
    (results Tryd.f18 tmps).run Tryd.prog w = .ok (.tuple #[.agg cs, u, v]) w := by
  have h3' : tmps[3]?.getD undef = u := by simpa using h3
  have h4' : tmps[4]?.getD undef = v := by simpa using h4
  have hp' : tmps[2]?.getD undef = .pointer (some ⟨g, 0, none⟩) := by simpa using hp
  simp [results, Tryd.results18, h3', h4', hp', asAddr, run_loadVar_row w g 24 24 cs (0, 0) _ hg Tryd.underlying24 rfl (by rw [hs]; exact info24)]

def ParseRes (x : BR (List Code)) (w : World) (e : Ending) (w' : World) : Prop := Below w.heap.size w w' ∧ match x with
  | .ok Cs => ∃ C cs, Cs = [C] ∧ e = .returned (.tuple #[.agg cs, .int .i64 0, .int .i64 0]) ∧ CodeT w' C cs.toList
  | .bad p en => e = .returned (.tuple #[.agg z5, .int .i64 (p : Int), .int .i64 (en : Int)])
def AllRes (x : BR (List Code)) (w : World) (e : Ending) (w' : World) : Prop := Below w.heap.size w w' ∧ match x with
  | .ok Cs => ∃ A c cc, e = .returned (.tuple #[.slice A Cs.length c, .int .i64 0, .int .i64 0]) ∧ SlT w' w'.heap.size 24 A cc ∧ CodesT w' Cs cc
  | .bad p en => e = .returned (.tuple #[.slice none 0 0, .int .i64 (p : Int), .int .i64 (en : Int)])

set_option maxRecDepth 100000 in
set_option maxHeartbeats 4000000 in
theorem parseAll_any (t : ByteArray) (w : World) (Hg : Hid (Gl w)) : Calls Tryd.prog 20 #[.string t] w (AllRes (parseB false t.data.toList) w) := by
  have hcall := parse_any t false w Hg
  cases hp : parseB false t.data.toList with
  | ok Cs =>
    rw [hp] at hcall
    have Hcall := Lib.hid hcall
    clear hcall hp
    go_enter Tryd.func20, Tryd.ntmps20
    go_wp2_with fail
    refine Hcall.out.mono ?_
    rintro e w1 ⟨hb, A, c, cc, rfl, h2, h3⟩
    have HB := Lib.hid hb
    have H2 := Lib.hid h2
    have H3 := Lib.hid h3
    clear hb h2 h3
    go_wp2_with fail
    go_quiet (fail)
    go_wp2_with fail
    refine bodyPost_ret (results_tmp3 rfl _ _ _) rfl ?_
    exact ⟨below_drewN (HB.out.alloc HB.out.size _) _, A, c, cc, rfl, H2.out.keepT ((KeepT.alloc _ _).trans (KeepT.drewN _ _)) (by simp), H3.out.keep ((KeepT.alloc _ _).trans (KeepT.drewN _ _)) ((KeepT.alloc _ _).trans (KeepT.drewN _ _))⟩
  | bad p en =>
    rw [hp] at hcall
    have Hcall := Lib.hid hcall
    clear hcall hp
    go_enter Tryd.func20, Tryd.ntmps20
    go_wp2_with fail
    refine Hcall.out.mono ?_
    rintro e w1 ⟨hb, rfl⟩
    have HB := Lib.hid hb
    clear hb
    go_wp2_with fail
    go_quiet (fail)
    go_wp2_with fail
    refine bodyPost_ret (results_tmp3 rfl _ _ _) rfl ?_
    exact ⟨below_drewN (HB.out.alloc HB.out.size _) _, rfl⟩

set_option maxRecDepth 100000 in
set_option maxHeartbeats 4000000 in
theorem parseOne_any (t : ByteArray) (w : World) (Hg : Hid (Gl w)) : Calls Tryd.prog 18 #[.string t] w (ParseRes (parseB true t.data.toList) w) := by
  have Hg2 : Hid (Gl (w.alloc (.cells z5 24))) := Hg.out.below ((Below.refl _ _).alloc (Nat.le_refl _) _)
  have hcall := parse_any t true (w.alloc (.cells z5 24)) Hg2
  cases hp : parseB true t.data.toList with
  | ok Cs =>
    have h1 := parseB_one hp
    rw [hp] at hcall
    obtain ⟨C, rfl⟩ : ∃ C, Cs = [C] := by
      cases Cs with
      | nil => cases h1
      | cons C Cs =>
        cases Cs with
        | nil => exact ⟨C, rfl⟩
        | cons _ _ => simp at h1
    have Hcall := Lib.hid hcall
    clear hcall hp h1
    go_enter Tryd.func18, Tryd.ntmps18
    go_wp2_with fail
    refine Hcall.out.mono ?_
    rintro e w1 ⟨hb, A, c, cc, rfl, h2, h3⟩
    obtain ⟨c1, c2, rfl, h4, h5⟩ := h3
    have : c2 = [] := h5
    subst this
    rw [List.append_nil] at h2
    obtain ⟨v0, v1, v2, v3, v4, rfl⟩ := list5 c1 h4.len
    have hx : w1.heap[w.heap.size]? = some (.cells z5 24) := (hb.block _ (by simp)).trans (heap_new _ _)
    have HB := Lib.hid hb
    have H2 := Lib.hid h2
    have H4 := Lib.hid h4
    have HX := Lib.hid hx
    rcases h2 with he | ⟨b, o, cur, fz, rfl, hbl, hh, hat⟩
    · cases he
    have e0 : w1.cell? ⟨b, o, none⟩ = some v0 := by simp only [World.cell?, hh]; simpa using hat 0 _ rfl
    have e1 : w1.cell? ⟨b, o + 1, none⟩ = some v1 := by simp only [World.cell?, hh]; simpa using hat 1 _ rfl
    have e2 : w1.cell? ⟨b, o + 2, none⟩ = some v2 := by simp only [World.cell?, hh]; simpa using hat 2 _ rfl
    have e3 : w1.cell? ⟨b, o + 3, none⟩ = some v3 := by simp only [World.cell?, hh]; simpa using hat 3 _ rfl
    have e4 : w1.cell? ⟨b, o + 4, none⟩ = some v4 := by simp only [World.cell?, hh]; simpa using hat 4 _ rfl
    have hx2 : (w1.alloc (.cells #[.int .i64 0, .int .i64 0] 69)).heap[w.heap.size]? = some (.cells z5 24) := (Below.heap_alloc _ _ _ (Array.getElem?_eq_some_iff.1 hx).1).trans hx
    have HX2 := Lib.hid hx2
    have hone : (#[v0, v1, v2, v3, v4] : Array Value).all (·.oneCell') = true := all_oneCell_toArray (cs := [v0, v1, v2, v3, v4]) h4.one
    clear hat hh hb hx hx2 h4 hbl
    have f0 := cell_alloc e0
    have f1 := cell_alloc e1
    have f2 := cell_alloc e2
    have f3 := cell_alloc e3
    have f4 := cell_alloc e4
    go_wp2_with (refine wpList_store_mid rfl 24 _ _ rfl w.heap.size 0 #[v0, v1, v2, v3, v4] rfl rfl (there_of_row HX2.out 0 5 (Nat.le_refl _)) info24 hone ?_)
    have hr : ((w1.alloc (.cells #[.int .i64 0, .int .i64 0] 69)).setCells w.heap.size 0 [v0, v1, v2, v3, v4]).heap[w.heap.size]? = some (.cells #[v0, v1, v2, v3, v4] 24) := by
      rw [heap_setCells (w := w1) _ 0 HX2.out]
      rfl
    have kk : ∀ ty : TypeId, 24 ≠ ty → KeepT ty w1 ((w1.alloc (.cells #[.int .i64 0, .int .i64 0] 69)).setCells w.heap.size 0 [v0, v1, v2, v3, v4]) := fun ty hty => (KeepT.alloc _ _).trans (KeepT.setCells hty _ 0 HX2.out)
    refine bodyPost_ret (res18 _ _ w.heap.size _ _ _ rfl rfl rfl hr rfl) rfl ?_
    have hb0 : Below w.heap.size w (w.alloc (.cells z5 24)) := (Below.refl _ _).alloc (Nat.le_refl _) _
    have hb1 := hb0.trans (HB.out.mono (by simp))
    exact ⟨Below.setCells (Nat.le_refl _) _ _ (hb1.alloc hb1.size _), C, #[v0, v1, v2, v3, v4], rfl, rfl, H4.out.keep (kk 61 (by decide)) (kk 3 (by decide))⟩
  | bad p en =>
    have hne := parseB_ne hp
    have hn2 : ((en : Int) == 0) = false := by rw [beq_eq_false_iff_ne]; omega
    rw [hp] at hcall
    have Hcall := Lib.hid hcall
    clear hcall hp hne
    go_enter Tryd.func18, Tryd.ntmps18
    go_wp2_with fail
    refine Hcall.out.mono ?_
    rintro e w1 ⟨hb, rfl⟩
    have hx : w1.heap[w.heap.size]? = some (.cells z5 24) := (hb.block _ (by simp)).trans (heap_new _ _)
    have HB := Lib.hid hb
    have HX := Lib.hid hx
    have hx2 : (w1.alloc (.cells #[.int .i64 (p : Int), .int .i64 (en : Int)] 69)).heap[w.heap.size]? = some (.cells z5 24) := (Below.heap_alloc _ _ _ (Array.getElem?_eq_some_iff.1 hx).1).trans hx
    obtain ⟨y0, g0⟩ := cell_at hx 0 (u := strV []) rfl
    obtain ⟨y1, g1⟩ := cell_at hx 1 (u := .int .i64 0) rfl
    obtain ⟨y2, g2⟩ := cell_at hx 2 (u := .int .i64 0) rfl
    obtain ⟨y3, g3⟩ := cell_at hx 3 (u := .slice none 0 0) rfl
    obtain ⟨y4, g4⟩ := cell_at hx 4 (u := .int .i64 0) rfl
    obtain ⟨z0, h0⟩ := cell_at hx2 0 (u := strV []) rfl
    obtain ⟨z1, h1⟩ := cell_at hx2 1 (u := .int .i64 0) rfl
    obtain ⟨z2, h2⟩ := cell_at hx2 2 (u := .int .i64 0) rfl
    obtain ⟨z3, h3⟩ := cell_at hx2 3 (u := .slice none 0 0) rfl
    obtain ⟨z4, h4⟩ := cell_at hx2 4 (u := .int .i64 0) rfl
    have hlt := (Array.getElem?_eq_some_iff.1 hx).1
    have hn3 : ¬ w1.heap.size = w.heap.size := by omega
    have hn4 : ¬ w.heap.size = w1.heap.size := by omega
    clear hb hx hx2 hlt
    go_wp2_with fail
    go_region
    all_goals
      go_wp2_with fail
      have hb0 : Below w.heap.size w (w.alloc (.cells z5 24)) := (Below.refl _ _).alloc (Nat.le_refl _) _
      have hb1 := hb0.trans (HB.out.mono (by simp))
      have hx3 : (w1.alloc (.cells #[.int .i64 (p : Int), .int .i64 (en : Int)] 69)).heap[w.heap.size]? = some (.cells z5 24) := (Below.heap_alloc _ _ _ (Array.getElem?_eq_some_iff.1 HX.out).1).trans HX.out
      have hr := heap_setCells (w := w1) [strV [], .int .i64 0, .int .i64 0, .slice none 0 0, .int .i64 0] 0 hx3
      refine bodyPost_ret (res18 _ _ w.heap.size z5 _ _ rfl rfl rfl hr rfl) rfl ?_
      exact ⟨(Below.setCells (Nat.le_refl _) [strV [], .int .i64 0, .int .i64 0, .slice none 0 0, .int .i64 0] 0 (hb1.alloc hb1.size _)).drew, rfl⟩
end Go.Proofs.YtafgmbchdcfkcaaDoor
