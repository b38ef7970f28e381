/-
  The walk of the program's printRow.
  The walk of the program's Print.
-/
import Derived.Test.YtafgmbchdcfkcaaDoorS4
import Derived.Test.YtafgmbchdcfkcaaDoorS7
import Derived.Lib.ItoaLen
import Derived.Lib.AppendIntMem
import Derived.Deep.DeepCutAuto
namespace Go.Proofs.YtafgmbchdcfkcaaDoor
open Go Go.RowKit Go.Walks

theorem itoa_any (n : Int) (h0 : -9223372036854775808 ≤ n) (h1 : n ≤ 9223372036854775807) {w : World} (hg : Gl w) : Calls Tryd.prog 29 #[.int .i64 n] w fun e w' => e = .returned (strV (Lib.itoa n)) ∧ Below w.heap.size w w' := by
  refine (Tryd.strconv_Itoa n h0 h1 w hg.pow).mono ?_
  rintro e w' ⟨rfl, k, os, rfl⟩
  exact ⟨rfl, Lib.below_grow _ w (Nat.le_refl _) k os⟩
def idxB : Nat → List Int → Bytes
  | _, [] => []
  | j, x :: r => (if 0 < x then 32 :: Lib.itoa (j : Int) else []) ++ idxB (j + 1) r
def coefTx : List Int → Bytes
  | [] => []
  | x :: r => (if 0 < x then 32 :: Lib.itoa x else []) ++ coefTx r
def rowTx (row : List Int) : Bytes := if (0 : Int) ∈ row then kLocal ++ idxB 0 row ++ [58] ++ coefTx row else kParity ++ coefTx row
/-- In printRow: the two builders. -/
structure PRS (w : World) (l1 l2 : Bytes) (g1 g2 : Option Nat) (W : World) : Prop where
  below : Below w.heap.size w W
  d1 : BdAt W w.heap.size w.heap.size l1 g1
  d2 : BdAt W w.heap.size (w.heap.size + 1) l2 g2
  ne : ∀ k, g1 = some k → g2 ≠ some k
section
variable {w W W' : World} {l1 l2 s : Bytes} {g1 g2 : Option Nat}
theorem BdAt.type {w : World} {B b : Nat} {l : Bytes} {g : Option Nat} (h : BdAt w B b l g) {k : Nat} (hk : g = some k) : ∃ cur fz, w.heap[k]? = some (.cells cur 5 fz) := by
  obtain ⟨_, p, v, _, hb, ho, hg⟩ := h
  rcases ho.2 with ⟨rfl, _⟩ | ⟨g', cap, cur, rfl, hB, hh, _⟩
  · rw [← hg] at hk; simp [Value.ownBlock] at hk
  · rw [← hg] at hk
    have : g' = k := by simpa [Value.ownBlock] using hk
    subst this
    exact ⟨_, _, hh⟩
theorem BdAt.other {w : World} {B b b' : Nat} {l l' : Bytes} {g g' : Option Nat} (h : BdAt w B b l g) (h' : BdAt w B b' l' g') {k : Nat} (hk : g = some k) : k ≠ b' := by
  obtain ⟨cur, fz, hh⟩ := h.type hk
  obtain ⟨_, p, v, _, hb, _⟩ := h'
  intro e
  subst e
  rw [hb] at hh
  injection hh with hh
  injection hh with _ hh
  exact absurd hh (by decide)
theorem PRS.start (w : World) : PRS w [] [] none none ((w.alloc (.cells #[.pointer none, .slice none 0 0] 42)).alloc (.cells #[.pointer none, .slice none 0 0] 42)) := by
  refine ⟨((Below.refl _ _).alloc (Nat.le_refl _) _).alloc (by simp) _, (BdAt.start w (Nat.le_refl _)).below ((Below.refl _ _).alloc (Nat.le_refl _) _), ?_, fun k h => by cases h⟩
  have := BdAt.start (B := w.heap.size) (w.alloc (.cells #[.pointer none, .slice none 0 0] 42)) (by simp)
  rw [World.size_alloc] at this
  exact this
theorem PRS.call (h : PRS w l1 l2 g1 g2 W) (hb : Below W.heap.size W W') : PRS w l1 l2 g1 g2 W' := ⟨h.below.trans (hb.mono h.below.size), h.d1.below hb, h.d2.below hb, h.ne⟩
theorem PRS.str1 (h : PRS w l1 l2 g1 g2 W) (hwr : Wr w.heap.size g1 W W') : Below w.heap.size w W' ∧ BdAt W' w.heap.size (w.heap.size + 1) l2 g2 :=
  ⟨h.below.trans (h.d1.wr_below hwr h.below.size), h.d2.keep (hwr.block _ h.d2.lt (by omega) fun e => (h.d1.other h.d2 e) rfl) (fun k hk => hwr.block _ (h.d2.own_lt hk).2.1 (h.d2.other h.d1 hk) (fun e => h.ne k e hk))⟩
theorem PRS.write1 {e : Ending} (h : PRS w l1 l2 g1 g2 W) (hw : WroteP w.heap.size w.heap.size l1 s g1 W e W') : ∃ g, PRS w (l1 ++ s) l2 g g2 W' := by
  obtain ⟨-, g, hd, hg, hwr⟩ := hw
  refine ⟨g, h.below.trans (h.d1.wr_below hwr h.below.size), hd, h.d2.keep (hwr.block _ h.d2.lt (by omega) fun e => (h.d1.other h.d2 e) rfl) (fun k hk => hwr.block _ (h.d2.own_lt hk).2.1 (h.d2.other h.d1 hk) (fun e => h.ne k e hk)), fun k hk e => ?_⟩
  rcases hg with rfl | ⟨k', hk', hle⟩
  · exact h.ne k hk e
  · rw [hk'] at hk
    injection hk with hk
    subst hk
    have := (h.d2.own_lt e).2.1
    omega
theorem PRS.write2 {e : Ending} (h : PRS w l1 l2 g1 g2 W) (hw : WroteP w.heap.size (w.heap.size + 1) l2 s g2 W e W') : ∃ g, PRS w l1 (l2 ++ s) g1 g W' := by
  obtain ⟨-, g, hd, hg, hwr⟩ := hw
  refine ⟨g, h.below.trans (h.d2.wr_below hwr h.below.size), h.d1.keep (hwr.block _ h.d1.lt (by omega) fun e => (h.d2.other h.d1 e) rfl) (fun k hk => hwr.block _ (h.d1.own_lt hk).2.1 (h.d1.other h.d2 hk) (fun e => h.ne k hk e)), hd, fun k hk e => ?_⟩
  rcases hg with rfl | ⟨k', hk', hle⟩
  · exact h.ne k hk e
  · rw [hk'] at e
    injection e with e
    subst e
    have := (h.d1.own_lt hk).2.1
    omega
end
theorem contains_any {xs : List Int} {A : Option Addr} {c : Nat} {w : World} (h1 : Sl w w.heap.size A (xs.map intC)) (hx : xs.length ≤ maxLen) : Calls Tryd.prog 50 #[.slice A xs.length c, .int .i64 0] w fun e w' => e = .returned (.bool (decide ((0 : Int) ∈ xs))) ∧ w' = w := by
  unfold maxLen at hx
  rcases h1 with he | ⟨b1, o1, rfl, -, k1⟩
  · rw [List.map_eq_nil_iff] at he
    subst he
    refine (Tryd.slices_Contains_int_empty A c 0 w).mono ?_
    rintro e w' ⟨rfl, rfl⟩
    exact ⟨by simp, rfl⟩
  have := Tryd.slices_Contains_int b1 o1 xs.length c xs 0 w (Nat.le_refl _) (by omega) (fun j hj => k1 j _ (by rw [List.getElem?_map, List.getElem?_eq_getElem hj]; simp [List.getD, List.getElem?_eq_getElem hj]))
  rw [List.take_length] at this
  refine this.mono ?_
  rintro e w' ⟨rfl, rfl⟩
  exact ⟨by rw [List.contains_eq_mem], rfl⟩
theorem cells5 : Tryd.prog.cellsOf 5 = 1 := by kernel_rfl
theorem freeze_wr {w : World} {b g : Nat} (n : Nat) : Wr b (some g) w (w.drew.freeze ⟨g, 0, none⟩ n) := by
  unfold World.freeze
  split
  · exact ⟨rfl, rfl, rfl, Nat.le_refl _, fun _ _ _ _ => rfl⟩
  · refine ⟨rfl, rfl, rfl, by show w.heap.size ≤ (w.heap.modify _ _).size; simp, fun k hk hkb hkg => ?_⟩
    simp only [Array.getElem?_modify]
    rw [if_neg (fun e => hkg (by rw [e]))]
    rfl
set_option maxHeartbeats 1000000 in
set_option maxRecDepth 100000 in
/-- (*strings.Builder).String, of a builder that holds a byte: only its buffer's marks turn. -/
theorem string_any {B b : Nat} {l : Bytes} {g : Option Nat} {w : World} (h : BdAt w B b l g) (h0 : l ≠ []) : Calls Tryd.prog 26 #[.pointer (some ⟨b, 0, none⟩)] w fun e w' => e = .returned (strV l) ∧ Wr b g w w' := by
  obtain ⟨hB, p, v, hp, hbk, hown, hgv⟩ := h
  have hl0 : l.length ≠ 0 := by simpa using h0
  obtain ⟨g', cap, cur, rfl, hbg, hg, hnc, hcm, hcs, htake⟩ : ∃ g cap cur, v = .slice (some ⟨g, 0, none⟩) l.length cap ∧ B ≤ g ∧ w.heap[g]? = some (.cells cur 5 (0, 0)) ∧ l.length ≤ cap ∧ cap ≤ maxLen ∧ cur.size = cap * 1 ∧ cur.toList.take (l.length * 1) = Lib.byteCells l := by
    rcases hown.2 with ⟨_, hz⟩ | ⟨g, cap, cur, hv, r⟩
    · exact absurd hz hl0
    · exact ⟨g, cap, cur, hv, r⟩
  have c1 : w.drew.cell? ⟨b, 1, none⟩ = some (.slice (some ⟨g', 0, none⟩) l.length cap) := by
    have : w.drew.heap[b]? = some (.cells #[p, .slice (some ⟨g', 0, none⟩) l.length cap] 42 (0, 0)) := hbk
    rw [Lib.cell_of_heap this]; rfl
  have hSD : (Builtin.unsafeSliceData_ #[39] 83 #[.slice (some ⟨g', 0, none⟩) l.length cap]).run Tryd.prog w.drew = .ok (.pointer (some ⟨g', 0, none⟩)) w.drew :=
    Lib.run_unsafeSliceData_row _ _ _ _ _ _ (by omega)
  have hUS : (Builtin.unsafeString_ #[83, 3] 9 #[.pointer (some ⟨g', 0, none⟩), .int .i64 l.length]).run Tryd.prog w.drew = .ok (.string ⟨l.toArray⟩) (w.drew.freeze ⟨g', 0, none⟩ l.length) := by
    refine Lib.run_unsafeString_row w.drew 83 3 9 5 Tryd.underlying83 cells5 g' cur.size (by have hg' : w.drew.heap[g']? = some (.cells cur 5 (0, 0)) := hg; simp [World.shape?, hg']) l h0 (by omega) (by unfold maxLen at hcm; omega) ?_
    intro j x hx
    have := hown.cells (g := g') rfl j (.int .u8 x.toNat) (by simp [Lib.byteCells, hx])
    exact this
  have Hg : Hid (g = some g') := hgv.symm
  have mixed : Tryd.prog.follows .mixedOrders = true := by kernel_rfl
  clear hp hbk hown hgv hg hnc hcm hcs htake hl0 h0
  go_enter Tryd.func26, Tryd.ntmps26
  go_wp2
  go_region_o
  all_goals (go_wp2; go_ret; exact ⟨rfl, by rw [Hg.out]; exact freeze_wr _⟩)

theorem cat_eq (a b : Bytes) : (⟨a.toArray⟩ : ByteArray) ++ ⟨b.toArray⟩ = ⟨(a ++ b).toArray⟩ := by
  apply ByteArray.ext
  rw [ByteArray.data_append]
  simp
theorem cat_lit {x : ByteArray} {a : Bytes} (b : Bytes) (h : x = ⟨a.toArray⟩) : x ++ ⟨b.toArray⟩ = ⟨(a ++ b).toArray⟩ := by rw [h, cat_eq]
theorem itoa_len (n : Int) (h0 : -9223372036854775808 ≤ n) (h1 : n ≤ 9223372036854775807) : (Lib.itoa n).length ≤ 21 := Lib.itoa_length_le n h0 h1
theorem idxB_step {row : List Int} {k : Nat} {x : Int} (h : row[k]? = some x) : idxB k (row.drop k) = (if 0 < x then 32 :: Lib.itoa (k : Int) else []) ++ idxB (k + 1) (row.drop (k + 1)) := by
  have hl := List.getElem?_eq_some_iff.1 h
  rw [List.drop_eq_getElem_cons hl.1, hl.2, idxB]
theorem coefTx_step {row : List Int} {k : Nat} {x : Int} (h : row[k]? = some x) : coefTx (row.drop k) = (if 0 < x then 32 :: Lib.itoa x else []) ++ coefTx (row.drop (k + 1)) := by
  have hl := List.getElem?_eq_some_iff.1 h
  rw [List.drop_eq_getElem_cons hl.1, hl.2, coefTx]

theorem idxB_ne {x : Int} (hp : 0 < x) : ∀ {row : List Int} {j : Nat}, x ∈ row → idxB j row ≠ []
  | [], _, h => by cases h
  | y :: r, j, h => by
    rw [idxB]
    rcases List.mem_cons.1 h with rfl | h
    · rw [if_pos hp]; simp
    · intro e
      exact idxB_ne hp h (List.append_eq_nil_iff.1 e).2
theorem coefTx_ne {x : Int} (hp : 0 < x) : ∀ {row : List Int}, x ∈ row → coefTx row ≠ []
  | [], h => by cases h
  | y :: r, h => by
    rw [coefTx]
    rcases List.mem_cons.1 h with rfl | h
    · rw [if_pos hp]; simp
    · intro e
      exact coefTx_ne hp h (List.append_eq_nil_iff.1 e).2

set_option maxRecDepth 100000 in
set_option maxHeartbeats 8000000 in
theorem printRow_any (row : List Int) (A : Option Addr) (c : Nat) (w : World) (Hg : Hid (Gl w)) (Hs : Hid (Sl w w.heap.size A (row.map intC))) (hl : row.length ≤ 31) (Hx : Hid (∀ x ∈ row, 0 ≤ x ∧ x ≤ 65535)) (Hpos : Hid (∃ x ∈ row, 0 < x)) :
    Calls Tryd.prog 30 #[.slice A row.length c] w fun e w' => e = .returned (strV (rowTx row)) ∧ Below w.heap.size w w' := by
  have P0 := Lib.hid (PRS.start w)
  go_enter Tryd.func30, Tryd.ntmps30
  go_wp2_with fail
  go_loopg [9] row.length (fun g s9 wr => ∃ (k : Nat) (l1 l2 : Bytes) (g1 g2 : Option Nat), s9 = .int .i64 (k : Int) ∧ g = row.length - k ∧ k ≤ row.length ∧ l1.length ≤ k * 22 ∧ l2.length ≤ k * 22 ∧ Hid (PRS w l1 l2 g1 g2 wr) ∧ Hid (idxB 0 row = l1 ++ idxB k (row.drop k)) ∧ Hid (coefTx row = l2 ++ coefTx (row.drop k)))
  case atStart => exact ⟨0, [], [], none, none, rfl, rfl, by omega, by simp, by simp, P0.out, rfl, rfl⟩
  case round =>
    obtain ⟨k, l1, l2, g1, g2, rfl, hg, hk, hl1, hl2, HP, HI, HC⟩ := hrel
    have Hgk := Lib.hid hg
    clear hg P0
    by_cases hlt : k < row.length
    · obtain ⟨x, hx⟩ : ∃ x, row[k]? = some x := ⟨_, List.getElem?_eq_getElem hlt⟩
      obtain ⟨b, o, hA, -, m1⟩ := intS ((Hs.out.below HP.out.below).more HP.out.below.size) hx
      have HX := Lib.hid hx
      have hxr := Hx.out x (List.mem_of_getElem? hx)
      obtain ⟨hx1, hx2⟩ := hxr
      subst hA
      have hI1 : (0 : Int) ≤ (k : Int) := by omega
      have hI2 : (k : Int) < (row.length : Int) := by omega
      clear hx
      by_cases hpos : 0 < x
      · have hz1 := itoa_len (k : Int) (by omega) (by omega)
        have hz2 := itoa_len x (by omega) (by omega)
        have hz3 : ¬ 9223372036854775807 < 1 + (Lib.itoa (k : Int)).length := by omega
        have hz4 : ¬ 9223372036854775807 < 1 + (Lib.itoa x).length := by omega
        have hc1 : ((⟨#[32]⟩ : ByteArray) ++ ⟨(Lib.itoa (k : Int)).toArray⟩) = ⟨(32 :: Lib.itoa (k : Int)).toArray⟩ := cat_eq [32] _
        have hc2 : ((⟨#[32]⟩ : ByteArray) ++ ⟨(Lib.itoa x).toArray⟩) = ⟨(32 :: Lib.itoa x).toArray⟩ := cat_eq [32] _
        have HI2 : Hid (idxB 0 row = (l1 ++ (32 :: Lib.itoa (k : Int))) ++ idxB (k + 1) (row.drop (k + 1))) := by show _ = _; rw [HI.out, idxB_step HX.out, if_pos hpos, List.append_assoc]
        have HC2 : Hid (coefTx row = (l2 ++ (32 :: Lib.itoa x)) ++ coefTx (row.drop (k + 1))) := by show _ = _; rw [HC.out, coefTx_step HX.out, if_pos hpos, List.append_assoc]
        have hm1 : (l1 ++ (32 :: Lib.itoa (k : Int))).length ≤ (k + 1) * 22 := by simp; omega
        have hm2 : (l2 ++ (32 :: Lib.itoa x)).length ≤ (k + 1) * 22 := by simp; omega
        have hw1 : l1.length + (32 :: Lib.itoa (k : Int)).length ≤ 140737488355328 := by simp; omega
        have hw2 : l2.length + (32 :: Lib.itoa x).length ≤ 140737488355328 := by simp; omega
        go_wp2_with fail
        refine (itoa_any (k : Int) (by omega) (by omega) (Hg.out.below HP.out.below)).mono ?_
        rintro e w1 ⟨rfl, hb1⟩
        have HP1 := Lib.hid (HP.out.call hb1)
        clear hb1
        go_wp2_with fail
        refine (write_any (32 :: Lib.itoa (k : Int)) HP1.out.d1 hw1 HP1.out.below.size).mono ?_
        rintro e w2 hwr
        obtain ⟨rfl, -⟩ := id hwr
        obtain ⟨g3, hp2⟩ := HP1.out.write1 hwr
        have HP2 := Lib.hid hp2
        clear hwr hp2
        go_wp2_with fail
        refine (itoa_any x (by omega) (by omega) (Hg.out.below HP2.out.below)).mono ?_
        rintro e w3 ⟨rfl, hb3⟩
        have HP3 := Lib.hid (HP2.out.call hb3)
        clear hb3
        go_wp2_with fail
        refine (write_any (32 :: Lib.itoa x) HP3.out.d2 hw2 HP3.out.below.size).mono ?_
        rintro e w4 hwr
        obtain ⟨rfl, -⟩ := id hwr
        obtain ⟨g4, hp4⟩ := HP3.out.write2 hwr
        have HP4 := Lib.hid hp4
        clear hwr hp4
        go_wp2_with fail
        go_roundg (row.length - (k + 1))
        case measure => rw [Hgk.out]; omega
        case rel => exact ⟨k + 1, _, _, g3, g4, by go_num, rfl, by omega, hm1, hm2, HP4.out, HI2.out, HC2.out⟩
      · have HI2 : Hid (idxB 0 row = l1 ++ idxB (k + 1) (row.drop (k + 1))) := by show _ = _; rw [HI.out, idxB_step HX.out, if_neg hpos]; rfl
        have HC2 : Hid (coefTx row = l2 ++ coefTx (row.drop (k + 1))) := by show _ = _; rw [HC.out, coefTx_step HX.out, if_neg hpos]; rfl
        go_wp2_with fail
        go_roundg (row.length - (k + 1))
        case measure => rw [Hgk.out]; omega
        case rel => exact ⟨k + 1, l1, l2, g1, g2, by go_num, rfl, by omega, by omega, by omega, HP.out, HI2.out, HC2.out⟩
    · have hke : k = row.length := by omega
      subst hke
      have hI : idxB 0 row = l1 := by rw [HI.out, List.drop_length]; simp [idxB]
      have hC : coefTx row = l2 := by rw [HC.out, List.drop_length]; simp [coefTx]
      have Hn1 : Hid (l1 ≠ []) := fun e => by
        obtain ⟨x, hx, hp⟩ := Hpos.out
        exact idxB_ne hp hx (hI.trans e)
      have Hn2 : Hid (l2 ≠ []) := fun e => by
        obtain ⟨x, hx, hp⟩ := Hpos.out
        exact coefTx_ne hp hx (hC.trans e)
      have hcont := contains_any (c := c) ((Hs.out.below HP.out.below).more HP.out.below.size) (by unfold maxLen; omega)
      by_cases h0 : (0 : Int) ∈ row
      · rw [decide_eq_true h0] at hcont
        have Hcont := Lib.hid hcont
        have Ht : Hid (rowTx row = kLocal ++ l1 ++ [58] ++ l2) := by show _ = _; unfold rowTx; rw [if_pos h0, hI, hC]
        clear hcont h0 hI hC HI HC Hgk hlt
        have hz1 : ¬ 9223372036854775807 < 5 + l1.length := by omega
        have hkl : kLocal.length = 5 := rfl
        have hz2 : ¬ 9223372036854775807 < kLocal.length + l1.length + 1 := by omega
        have hz3 : ¬ 9223372036854775807 < kLocal.length + l1.length + 1 + l2.length := by omega
        have hz4 : ¬ 9223372036854775807 < kLocal.length + (l1.length + 1) + l2.length := by omega
        have hc1 : ((⟨#[108, 111, 99, 97, 108]⟩ : ByteArray) ++ ⟨l1.toArray⟩) = ⟨(kLocal ++ l1).toArray⟩ := cat_eq kLocal l1
        have hc2 : ((⟨(kLocal ++ l1).toArray⟩ : ByteArray) ++ ⟨#[58]⟩) = ⟨(kLocal ++ l1 ++ [58]).toArray⟩ := cat_eq _ [58]
        have hc3 : ((⟨(kLocal ++ l1 ++ [58]).toArray⟩ : ByteArray) ++ ⟨l2.toArray⟩) = ⟨(kLocal ++ l1 ++ [58] ++ l2).toArray⟩ := cat_eq _ l2
        clear hkl
        go_wp2_with (go_at_call 50; refine Hcont.out.mono ?_; rintro e w' ⟨rfl, hw'⟩; subst hw')
        refine (string_any HP.out.d1 Hn1.out).mono ?_
        rintro e w2 ⟨rfl, hwr⟩
        have HD := Lib.hid (HP.out.str1 hwr)
        clear hwr
        go_wp2_with fail
        refine (string_any HD.out.2 Hn2.out).mono ?_
        rintro e w3 ⟨rfl, hwr⟩
        have HB3 := Lib.hid (HD.out.1.trans (HD.out.2.wr_below hwr HD.out.1.size))
        clear hwr
        go_wp2_with fail
        go_ret
        exact ⟨by rw [Ht.out] <;> rfl, HB3.out⟩
      · rw [decide_eq_false h0] at hcont
        have Hcont := Lib.hid hcont
        have Ht : Hid (rowTx row = kParity ++ l2) := by show _ = _; unfold rowTx; rw [if_neg h0, hC]
        clear hcont h0 hI hC HI HC Hgk hlt
        have hz1 : ¬ 9223372036854775807 < 6 + l2.length := by omega
        have hc1 : ((⟨#[112, 97, 114, 105, 116, 121]⟩ : ByteArray) ++ ⟨l2.toArray⟩) = ⟨(kParity ++ l2).toArray⟩ := cat_eq kParity l2
        go_wp2_with (go_at_call 50; refine Hcont.out.mono ?_; rintro e w' ⟨rfl, hw'⟩; subst hw')
        refine (string_any HP.out.d2 Hn2.out).mono ?_
        rintro e w2 ⟨rfl, hwr⟩
        have HB2 := Lib.hid (HP.out.below.trans (HP.out.d2.wr_below hwr HP.out.below.size))
        clear hwr
        go_wp2_with fail
        go_ret
        exact ⟨by rw [Ht.out] <;> rfl, HB2.out⟩
end Go.Proofs.YtafgmbchdcfkcaaDoor
namespace Go.Proofs.YtafgmbchdcfkcaaDoor
open Go Go.RowKit Go.Walks

def lineTx (s : Bytes) : Bytes := [9] ++ s ++ [59, 10]
def headTxt (C : Code) : Bytes := [99, 111, 100, 101, 32] ++ C.name ++ [32, 123, 10]
def fieldTx (f : Int) : Bytes := [102, 105, 101, 108, 100, 32] ++ Lib.itoa f
def dataTx (d : Int) : Bytes := [100, 97, 116, 97, 32] ++ Lib.itoa d
def domTx (d : Int) : Bytes := [100, 111, 109, 97, 105, 110, 32] ++ Lib.itoa d
def rowsTx (rows : List (List Int)) : Bytes := rows.flatMap fun r => lineTx (rowTx r)
def printT (C : Code) : Bytes := headTxt C ++ lineTx (fieldTx C.field) ++ lineTx (dataTx C.data) ++ rowsTx C.par ++ lineTx (domTx C.dom) ++ [125, 10]
def printB (C : Code) : Bytes × Nat := if checkB C ≠ 0 then ([], checkB C) else if 2000 < (printT C).length then ([], 2) else (printT C, 0)

/-- What Check has found. -/
structure Ok (C : Code) : Prop where
  word : wordB C.name = true
  len : C.name.length ≤ 12
  field : C.field = 8 ∨ C.field = 16
  d1 : 1 ≤ C.data
  d2 : C.data ≤ 31
  ne : C.par ≠ []
  width : C.data + (C.par.length : Int) ≤ 32
  rows : ∀ r ∈ C.par, rowOkB C.data C.field r = true
  dom1 : 1 ≤ C.dom
  dom2 : C.dom ≤ C.data + (C.par.length : Int)
theorem ok_of {C : Code} (h : checkB C = 0) (hl : C.par.length ≤ maxLen) : Ok C := by
  unfold maxLen at hl
  unfold checkB at h
  split at h
  · cases h
  rename_i h1
  split at h
  · cases h
  rename_i h2
  split at h
  · cases h
  rename_i h3
  split at h
  · cases h
  rename_i h4
  split at h
  · cases h
  rename_i h5
  split at h
  · cases h
  rename_i h6
  split at h
  · cases h
  rename_i h7
  have hw : widthI C = wrap64 (C.data + (C.par.length : Int)) := rfl
  have hd1 : 1 ≤ C.data := by omega
  have hd2 : C.data ≤ 31 := by omega
  have hww : wrap64 (C.data + (C.par.length : Int)) = C.data + (C.par.length : Int) := by
    unfold wrap64 at hw ⊢
    omega
  rw [hw, hww] at h5 h7
  refine ⟨by simpa using h1, by omega, Decidable.not_not.1 h3, hd1, hd2, fun e => h4 (.inr (.inr e)), by omega, ?_, by omega, by omega⟩
  have h6' : C.par.all (rowOkB C.data C.field) = true := by simpa using h6
  rw [List.all_eq_true] at h6'
  exact h6'
theorem rowOk_spec {C : Code} (h : Ok C) {r : List Int} (hr : r ∈ C.par) : (r.length : Int) = C.data ∧ (∀ x ∈ r, 0 ≤ x ∧ x ≤ 65535) ∧ ∃ x ∈ r, 0 < x := by
  have := h.rows r hr
  unfold rowOkB at this
  simp only [Bool.and_eq_true, decide_eq_true_eq, List.all_eq_true, List.any_eq_true] at this
  obtain ⟨⟨h1, h2⟩, x, hx, h3⟩ := this
  have ht : (topN C.field.toNat : Int) ≤ 65535 := by unfold topN; split <;> simp
  exact ⟨h1, fun y hy => ⟨(h2 y hy).1, by have := (h2 y hy).2; omega⟩, x, hx, by omega⟩
theorem idxB_len : ∀ (r : List Int) (j : Nat), j + r.length ≤ 1000 → (idxB j r).length ≤ 22 * r.length
  | [], _, _ => by simp [idxB]
  | x :: r, j, h => by
    rw [idxB]
    have := idxB_len r (j + 1) (by simp at h; omega)
    have h2 := itoa_len (j : Int) (by omega) (by simp at h; omega)
    simp only [List.length_append, List.length_cons]
    split
    · simp; omega
    · simp; omega
theorem coefTx_len : ∀ (r : List Int), (∀ x ∈ r, 0 ≤ x ∧ x ≤ 65535) → (coefTx r).length ≤ 22 * r.length
  | [], _ => by simp [coefTx]
  | x :: r, h => by
    rw [coefTx]
    have := coefTx_len r (fun y hy => h y (by simp [hy]))
    have h2 := itoa_len x (by have := (h x (by simp)).1; omega) (by have := (h x (by simp)).2; omega)
    simp only [List.length_append, List.length_cons]
    split
    · simp; omega
    · simp; omega
theorem rowTx_len {r : List Int} (hl : r.length ≤ 31) (h : ∀ x ∈ r, 0 ≤ x ∧ x ≤ 65535) : (rowTx r).length ≤ 1400 := by
  have h1 := idxB_len r 0 (by omega)
  have h2 := coefTx_len r h
  have k1 : kLocal.length = 5 := rfl
  have k2 : kParity.length = 6 := rfl
  unfold rowTx
  split <;> simp only [List.length_append, List.length_singleton] <;> omega
/-- In Print: the code's block, the builder. -/
structure PT (w : World) (ca : Array Value) (b : Nat) (l : Bytes) (g : Option Nat) (W : World) : Prop where
  below : Below w.heap.size w W
  x : W.heap[w.heap.size]? = some (.cells ca 24)
  bd : BdAt W b b l g
  lt : w.heap.size < b
section
variable {w W W' : World} {ca : Array Value} {b : Nat} {l s : Bytes} {g : Option Nat}
theorem PT.call (h : PT w ca b l g W) (hb : Below W.heap.size W W') : PT w ca b l g W' := ⟨h.below.trans (hb.mono h.below.size), below_cells h.x hb, h.bd.below hb, h.lt⟩
theorem PT.size (h : PT w ca b l g W) : b ≤ W.heap.size := Nat.le_of_lt h.bd.lt
/-- What writes from b on keeps the code. -/
theorem PT.from {l' : Bytes} {g' : Option Nat} (h : PT w ca b l g W) (hb : Below b W W') (hd : BdAt W' b b l' g') : PT w ca b l' g' W' :=
  ⟨h.below.trans (hb.mono (Nat.le_of_lt h.lt)), (hb.block _ h.lt).trans h.x, hd, h.lt⟩
theorem PT.wrote {e : Ending} (h : PT w ca b l g W) (hw : WroteP b b l s g W e W') : ∃ g', PT w ca b (l ++ s) g' W' := by
  obtain ⟨-, g', hd, hg, hwr⟩ := hw
  exact ⟨g', h.from (h.bd.wr_below hwr h.size) hd⟩
end
/-- Print's closure: one line. -/
def LineW (B b : Nat) (l s : Bytes) (w : World) (e : Ending) (w' : World) : Prop := e = .returned (.tuple #[]) ∧ ∃ g', BdAt w' B b (l ++ lineTx s) g' ∧ Below B w w'
set_option maxRecDepth 100000 in
set_option maxHeartbeats 2000000 in
theorem line1_any {B b : Nat} {l : Bytes} {g : Option Nat} (s : Bytes) {w : World} (h : BdAt w B b l g) (hl : l.length + s.length ≤ 140737488000000) (hB : B ≤ w.heap.size) :
    Calls Tryd.prog 28 #[strV s, .pointer (some ⟨b, 0, none⟩)] w (LineW B b l s w) := by
  have Hh := Lib.hid h
  clear h
  have hz1 : ¬ 9223372036854775807 < 1 + s.length := by omega
  have hz2 : ¬ 9223372036854775807 < 1 + s.length + 2 := by omega
  have hz3 : ¬ 9223372036854775807 < s.length + 1 + 2 := by omega
  have hc1 : ((⟨#[9]⟩ : ByteArray) ++ ⟨s.toArray⟩) = ⟨([9] ++ s).toArray⟩ := cat_eq [9] s
  have hc2 : ((⟨([9] ++ s).toArray⟩ : ByteArray) ++ ⟨#[59, 10]⟩) = ⟨([9] ++ s ++ [59, 10]).toArray⟩ := cat_eq _ [59, 10]
  go_enter Tryd.func28, Tryd.ntmps28
  go_wp2_with fail
  refine (write_any (lineTx s) Hh.out (by unfold lineTx; simp; omega) hB).mono ?_
  rintro e w1 ⟨rfl, g', hd, hg, hwr⟩
  have HD := Lib.hid hd
  have HB := Lib.hid (Hh.out.wr_below hwr hB)
  clear hd hg hwr
  go_wp2_with fail
  go_end0
  exact ⟨rfl, g', HD.out, HB.out⟩
def PrintR (x : Bytes × Nat) (w : World) (e : Ending) (w' : World) : Prop := e = .returned (.tuple #[strV x.1, .int .i64 (x.2 : Int)]) ∧ Below w.heap.size w w'
theorem PT.lined {w W W' : World} {ca : Array Value} {b : Nat} {l s : Bytes} {g : Option Nat} {e : Ending} (h : PT w ca b l g W) (hw : LineW b b l s W e W') : ∃ g', PT w ca b (l ++ lineTx s) g' W' := by
  obtain ⟨-, g', hd, hb⟩ := hw
  exact ⟨g', h.from hb hd⟩
theorem rowsTx_step {rows : List (List Int)} {k : Nat} {r : List Int} (h : rows[k]? = some r) : rowsTx (rows.drop k) = lineTx (rowTx r) ++ rowsTx (rows.drop (k + 1)) := by
  have hl := List.getElem?_eq_some_iff.1 h
  unfold rowsTx
  rw [List.drop_eq_getElem_cons hl.1, hl.2, List.flatMap_cons]
theorem lineTx_len (s : Bytes) : (lineTx s).length = s.length + 3 := by unfold lineTx; simp

set_option maxRecDepth 100000 in
set_option maxHeartbeats 16000000 in
theorem print_any (a : Code) (ca : List Value) (w : World) (Hg : Hid (Gl w)) (Ha : Hid (CodeS w a ca)) (La : Hid (CodeL a)) (hn : a.name.length ≤ maxLen) : Calls Tryd.prog 11 #[.agg ca.toArray] w (PrintR (printB a) w) := by
  obtain ⟨A, c, mc, rfl, h1, h2⟩ := Ha.out
  have Hs1 := Lib.hid h1
  have Hs2 := Lib.hid h2
  have hmf : ∀ (fn : Fn) (first cap : Array Value) (w : World), (Instr.makeFunc fn first cap).run Tryd.prog w = .ok (.func fn first cap) w := fun _ _ _ _ => rfl
  have S0 := Lib.hid (CW.start w (codeV a A c))
  have hchk := check_any a (codeV a A c).toList (w.alloc (.cells (codeV a A c) 24)) (Ha.out.below S0.out.below) La hn
  obtain ⟨nm, f, d, par, dom⟩ := a
  unfold intC
  dsimp only at Hs1 Hs2 S0 hn hchk ⊢
  obtain ⟨x0, -⟩ := cell_at S0.out.x 0 rfl
  obtain ⟨x1, -⟩ := cell_at S0.out.x 1 rfl
  obtain ⟨x2, -⟩ := cell_at S0.out.x 2 rfl
  obtain ⟨x3, -⟩ := cell_at S0.out.x 3 rfl
  obtain ⟨x4, -⟩ := cell_at S0.out.x 4 rfl
  clear h1 h2 Ha
  by_cases hck : checkB ⟨nm, f, d, par, dom⟩ = 0
  · have Hok := Lib.hid (ok_of hck La.out.par)
    rw [hck] at hchk
    have Hchk := Lib.hid hchk
    have Hpr : Hid (printB ⟨nm, f, d, par, dom⟩ = if 2000 < (printT ⟨nm, f, d, par, dom⟩).length then ([], 2) else (printT ⟨nm, f, d, par, dom⟩, 0)) := by show _ = _; unfold printB; rw [if_neg (fun h => h hck)]
    clear hchk hck
    have k1 := Hok.out.len
    have k2 := Hok.out.d1
    have k3 := Hok.out.d2
    have k4 := Hok.out.width
    have k5 := Hok.out.dom1
    have k6 := Hok.out.dom2
    have k7 : 1 ≤ f ∧ f ≤ 16 := by rcases Hok.out.field with h | h <;> (dsimp only at h; omega)
    obtain ⟨k7, k8⟩ := k7
    dsimp only at k1 k2 k3 k4 k5 k6
    have z1 := itoa_len f (by omega) (by omega)
    have z2 := itoa_len d (by omega) (by omega)
    have z3 := itoa_len dom (by omega) (by omega)
    have q1 : ¬ 9223372036854775807 < 5 + nm.length := by omega
    have q2 : ¬ 9223372036854775807 < 5 + nm.length + 3 := by omega
    have q3 : ¬ 9223372036854775807 < nm.length + 5 + 3 := by omega
    have q4 : ¬ 9223372036854775807 < 6 + (Lib.itoa f).length := by omega
    have q5 : ¬ 9223372036854775807 < 5 + (Lib.itoa d).length := by omega
    have q6 : ¬ 9223372036854775807 < 7 + (Lib.itoa dom).length := by omega
    have c1 : ((⟨#[99, 111, 100, 101, 32]⟩ : ByteArray) ++ ⟨nm.toArray⟩) = ⟨(99 :: 111 :: 100 :: 101 :: 32 :: nm).toArray⟩ := cat_eq [99, 111, 100, 101, 32] nm
    have c2 : ((⟨(99 :: 111 :: 100 :: 101 :: 32 :: nm).toArray⟩ : ByteArray) ++ ⟨#[32, 123, 10]⟩) = ⟨(headTxt ⟨nm, f, d, par, dom⟩).toArray⟩ := cat_eq _ [32, 123, 10]
    have c3 : ((⟨#[102, 105, 101, 108, 100, 32]⟩ : ByteArray) ++ ⟨(Lib.itoa f).toArray⟩) = ⟨(fieldTx f).toArray⟩ := cat_eq [102, 105, 101, 108, 100, 32] _
    have c4 : ((⟨#[100, 97, 116, 97, 32]⟩ : ByteArray) ++ ⟨(Lib.itoa d).toArray⟩) = ⟨(dataTx d).toArray⟩ := cat_eq [100, 97, 116, 97, 32] _
    have c5 : ((⟨#[100, 111, 109, 97, 105, 110, 32]⟩ : ByteArray) ++ ⟨(Lib.itoa dom).toArray⟩) = ⟨(domTx dom).toArray⟩ := cat_eq [100, 111, 109, 97, 105, 110, 32] _
    have P0 : Hid ((headTxt ⟨nm, f, d, par, dom⟩).length = nm.length + 8) := by show _ = _; unfold headTxt; simp
    have P1 : Hid ((fieldTx f).length = 6 + (Lib.itoa f).length) := by show _ = _; unfold fieldTx; simp; omega
    have P2 : Hid ((dataTx d).length = 5 + (Lib.itoa d).length) := by show _ = _; unfold dataTx; simp; omega
    have P3 : Hid ((domTx dom).length = 7 + (Lib.itoa dom).length) := by show _ = _; unfold domTx; simp; omega
    go_enter Tryd.func11, Tryd.ntmps11
    go_wp2_with fail
    refine Hchk.out.mono ?_
    rintro e w1 ⟨rfl, hb1⟩
    have hx1 := below_cells S0.out.x hb1
    have hw1 : w.heap.size < w1.heap.size := (Array.getElem?_eq_some_iff.1 hx1).1
    have HP1 : Hid (PT w (codeV ⟨nm, f, d, par, dom⟩ A c) w1.heap.size [] none (w1.alloc (.cells #[.pointer none, .slice none 0 0] 42))) :=
      ⟨(S0.out.below.trans (hb1.mono S0.out.below.size)).alloc (by omega) _, (Below.heap_alloc _ _ _ hw1).trans hx1, BdAt.start w1 (Nat.le_refl _), hw1⟩
    generalize hbk : w1.heap.size = b at HP1
    clear hb1 hx1 hw1 x0 x1 x2 x3 x4
    obtain ⟨x0, -⟩ := cell_at HP1.out.x 0 rfl
    go_wp2_with fail
    refine (write_any (headTxt ⟨nm, f, d, par, dom⟩) HP1.out.bd (by rw [P0.out]; simp; omega) HP1.out.size).mono ?_
    rintro e w2 hwr
    obtain ⟨rfl, -⟩ := id hwr
    obtain ⟨g2, hp2⟩ := HP1.out.wrote hwr
    have HP2 := Lib.hid hp2
    clear hwr hp2 x0
    obtain ⟨x1, -⟩ := cell_at HP2.out.x 1 rfl
    go_wp2_with fail
    refine (itoa_any f (by omega) (by omega) (Hg.out.below HP2.out.below)).mono ?_
    rintro e w3 ⟨rfl, hb3⟩
    have HP3 := Lib.hid (HP2.out.call hb3)
    clear hb3 x1
    go_wp2_with fail
    refine (line1_any (fieldTx f) HP3.out.bd (by rw [P1.out]; simp only [List.nil_append, P0.out]; omega) HP3.out.size).mono ?_
    rintro e w4 hwr
    obtain ⟨rfl, -⟩ := id hwr
    obtain ⟨g4, hp4⟩ := HP3.out.lined hwr
    have HP4 := Lib.hid hp4
    clear hwr hp4
    obtain ⟨x2, -⟩ := cell_at HP4.out.x 2 rfl
    go_wp2_with fail
    refine (itoa_any d (by omega) (by omega) (Hg.out.below HP4.out.below)).mono ?_
    rintro e w5 ⟨rfl, hb5⟩
    have HP5 := Lib.hid (HP4.out.call hb5)
    clear hb5 x2
    go_wp2_with fail
    refine (line1_any (dataTx d) HP5.out.bd (by rw [P2.out]; simp only [List.nil_append, List.length_append, lineTx_len, P0.out, P1.out]; omega) HP5.out.size).mono ?_
    rintro e w6 hwr
    obtain ⟨rfl, -⟩ := id hwr
    obtain ⟨g6, hp6⟩ := HP5.out.lined hwr
    have HP6 := Lib.hid hp6
    have hl6 : ([] ++ headTxt ⟨nm, f, d, par, dom⟩ ++ lineTx (fieldTx f) ++ lineTx (dataTx d)).length ≤ 100 := by
      simp only [List.nil_append, List.length_append, lineTx_len, P0.out, P1.out, P2.out]; omega
    have Hl6 := Lib.hid hl6
    obtain ⟨l6, Hl6e⟩ : ∃ l6, Hid (l6 = headTxt ⟨nm, f, d, par, dom⟩ ++ lineTx (fieldTx f) ++ lineTx (dataTx d)) := ⟨_, rfl⟩
    have HP6' : Hid (PT w (codeV ⟨nm, f, d, par, dom⟩ A c) b l6 g6 w6) := by rw [Hl6e.out]; exact HP6.out
    have hl6' : l6.length ≤ 100 := by rw [Hl6e.out]; exact hl6
    clear hwr hp6 hl6 HP6 Hl6
    obtain ⟨x3, -⟩ := cell_at HP6'.out.x 3 rfl
    have hpl : par.length ≤ 31 := by omega
    go_wp2_with fail
    clear x3
    go_loopg [35] par.length (fun g s35 wr => ∃ (k : Nat) (l : Bytes) (gb : Option Nat), s35 = .int .i64 (k : Int) ∧ g = par.length - k ∧ k ≤ par.length ∧ l.length ≤ 100 + k * 1500 ∧ Hid (PT w (codeV ⟨nm, f, d, par, dom⟩ A c) b l gb wr) ∧ Hid (l6 ++ rowsTx par = l ++ rowsTx (par.drop k)))
    case atStart => exact ⟨0, l6, g6, rfl, rfl, by omega, by omega, HP6'.out, rfl⟩
    case round =>
      obtain ⟨k, l, gb, rfl, hgk, hk, hl, HP, HL⟩ := hrel
      have Hgk := Lib.hid hgk
      clear hgk HP6'
      by_cases hlt : k < par.length
      · obtain ⟨row, hrow⟩ : ∃ r, par[k]? = some r := ⟨_, List.getElem?_eq_getElem hlt⟩
        obtain ⟨b1, o1, A1, r1, hA, m1, t1⟩ := rowS Hs1.out Hs2.out HP.out.below hrow
        obtain ⟨hr1, hr2, hr3⟩ := rowOk_spec Hok.out (List.mem_of_getElem? hrow)
        have hrl : row.length ≤ 31 := by dsimp only at hr1; omega
        have hrt := rowTx_len hrl hr2
        have HL2 : Hid (l6 ++ rowsTx par = (l ++ lineTx (rowTx row)) ++ rowsTx (par.drop (k + 1))) := by show _ = _; rw [HL.out, rowsTx_step hrow, List.append_assoc]
        have hlt2 := lineTx_len (rowTx row)
        have hl2 : (l ++ lineTx (rowTx row)).length ≤ 100 + (k + 1) * 1500 := by simp only [List.length_append, hlt2]; omega
        have Hcall := Lib.hid (printRow_any row A1 r1 wr (Hg.out.below HP.out.below) t1 hrl hr2 hr3)
        subst hA
        have hI1 : (0 : Int) ≤ (k : Int) := by omega
        have hI2 : (k : Int) < (par.length : Int) := by omega
        clear hrow t1 hr1 hr2 hr3 hlt2
        go_wp2_with fail
        refine Hcall.out.mono ?_
        rintro e w7 ⟨rfl, hb7⟩
        have HP7 := Lib.hid (HP.out.call hb7)
        clear hb7
        go_wp2_with fail
        refine (line1_any (rowTx row) HP7.out.bd (by omega) HP7.out.size).mono ?_
        rintro e w8 hwr
        obtain ⟨rfl, -⟩ := id hwr
        obtain ⟨g8, hp8⟩ := HP7.out.lined hwr
        have HP8 := Lib.hid hp8
        clear hwr hp8
        go_wp2_with fail
        go_roundg (par.length - (k + 1))
        case measure => rw [Hgk.out]; omega
        case rel => exact ⟨k + 1, _, g8, by go_num, rfl, by omega, hl2, HP8.out, HL2.out⟩
      · have hke : k = par.length := by omega
        subst hke
        have Hle : Hid (printT ⟨nm, f, d, par, dom⟩ = l ++ lineTx (domTx dom) ++ [125, 10]) := by
          show _ = _
          have : l6 ++ rowsTx par = l := by rw [HL.out, List.drop_length]; simp [rowsTx]
          unfold printT
          dsimp only
          rw [← Hl6e.out, this]
        clear HL hlt Hgk
        obtain ⟨x4, -⟩ := cell_at HP.out.x 4 rfl
        go_wp2_with fail
        refine (itoa_any dom (by omega) (by omega) (Hg.out.below HP.out.below)).mono ?_
        rintro e w7 ⟨rfl, hb7⟩
        have HP7 := Lib.hid (HP.out.call hb7)
        clear hb7 x4
        go_wp2_with fail
        refine (line1_any (domTx dom) HP7.out.bd (by rw [P3.out]; omega) HP7.out.size).mono ?_
        rintro e w8 hwr
        obtain ⟨rfl, -⟩ := id hwr
        obtain ⟨g8, hp8⟩ := HP7.out.lined hwr
        have HP8 := Lib.hid hp8
        clear hwr hp8
        go_wp2_with fail
        refine (write_any [125, 10] HP8.out.bd (by simp only [List.length_append, lineTx_len, P3.out]; simp; omega) HP8.out.size).mono ?_
        rintro e w9 hwr
        obtain ⟨rfl, -⟩ := id hwr
        obtain ⟨g9, hp9⟩ := HP8.out.wrote hwr
        rw [← Hle.out] at hp9
        have HP9 := Lib.hid hp9
        have hlen := Tryd.Builder_Len b b _ w9 HP9.out.bd.is
        rw [Lib.byteCells_length] at hlen
        have Hlen := Lib.hid hlen
        have hne : printT ⟨nm, f, d, par, dom⟩ ≠ [] := by rw [Hle.out]; simp
        have Hne := Lib.hid hne
        clear hwr hp9 hlen hne
        by_cases hbig : 2000 < (printT ⟨nm, f, d, par, dom⟩).length
        · have hb1 : (2000 : Int) < ((printT ⟨nm, f, d, par, dom⟩).length : Int) := by omega
          have Hp2 : Hid (printB ⟨nm, f, d, par, dom⟩ = ([], 2)) := by show _ = _; rw [Hpr.out, if_pos hbig]
          go_wp2_with (go_at_call 25; refine Hlen.out.mono ?_; rintro e w' ⟨rfl, hw'⟩; subst hw')
          go_ret2
          exact ⟨by rw [Hp2.out] <;> rfl, HP9.out.below⟩
        · have hb1 : ¬ (2000 : Int) < ((printT ⟨nm, f, d, par, dom⟩).length : Int) := by omega
          have Hp2 : Hid (printB ⟨nm, f, d, par, dom⟩ = (printT ⟨nm, f, d, par, dom⟩, 0)) := by show _ = _; rw [Hpr.out, if_neg hbig]
          go_wp2_with (first | (go_at_call 25; refine Hlen.out.mono ?_; rintro e w' ⟨rfl, hw'⟩; subst hw') | (go_at_call 26; refine (string_any HP9.out.bd Hne.out).mono ?_; rintro e wz ⟨rfl, hwr⟩; have HBz := Lib.hid (HP9.out.below.trans ((HP9.out.bd.wr_below hwr HP9.out.size).mono (Nat.le_of_lt HP9.out.lt))); clear hwr))
          go_ret2
          exact ⟨by rw [Hp2.out] <;> rfl, HBz.out⟩
  · have hcn : ((checkB ⟨nm, f, d, par, dom⟩ : Int) != 0) = true := by rw [bne_iff_ne]; omega
    have Hpr : Hid (printB ⟨nm, f, d, par, dom⟩ = ([], checkB ⟨nm, f, d, par, dom⟩)) := by show _ = _; unfold printB; rw [if_pos hck]
    have Hchk := Lib.hid hchk
    clear hchk hck
    go_enter Tryd.func11, Tryd.ntmps11
    go_wp2_with fail
    refine Hchk.out.mono ?_
    rintro e w1 ⟨rfl, hb1⟩
    have HB1 := Lib.hid (S0.out.below.trans (hb1.mono S0.out.below.size))
    clear hb1 x0 x1 x2 x3 x4
    go_wp2_with fail
    go_ret2
    exact ⟨by rw [Hpr.out] <;> rfl, HB1.out⟩
end Go.Proofs.YtafgmbchdcfkcaaDoor
