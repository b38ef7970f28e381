/-
  The walk of the reference's row: a row's text and the semicolon behind it.
-/
import Derived.Test.YtafgmbchdcfkcaaDoorT3
namespace Go.Proofs.YtafgmbchdcfkcaaDoor
open Go Go.RowKit Go.Walks

def allTx (r : List Int) : Bytes := r.flatMap fun x => 32 :: Lib.itoa x
theorem allTx_step {row : List Int} {k : Nat} {x : Int} (h : row[k]? = some x) : allTx (row.drop k) = (32 :: Lib.itoa x) ++ allTx (row.drop (k + 1)) := by
  obtain ⟨hk, hx⟩ := List.getElem?_eq_some_iff.1 h
  rw [List.drop_eq_getElem_cons hk, hx]
  simp [allTx]
theorem allTx_pos : ∀ {row : List Int}, (∀ x ∈ row, 0 < x) → allTx row = coefTx row
  | [], _ => rfl
  | x :: r, h => by
    show (32 :: Lib.itoa x) ++ allTx r = (if 0 < x then 32 :: Lib.itoa x else []) ++ coefTx r
    rw [if_pos (h x (by simp)), allTx_pos fun y hy => h y (by simp [hy])]
def spB (l : Bytes) : Bytes := l ++ [32]
def spN (l : Bytes) (x : Int) : Bytes := spB l ++ Lib.itoa x
theorem spN_eq (l : Bytes) (x : Int) : spN l x = l ++ (32 :: Lib.itoa x) := by simp [spN, spB]
theorem spB_cat (l : Bytes) : (⟨l.toArray⟩ : ByteArray) ++ ⟨#[32]⟩ = ⟨(spB l).toArray⟩ := cat_eq l [32]
theorem spN_cat (l : Bytes) (x : Int) : (⟨(spB l).toArray⟩ : ByteArray) ++ ⟨(Lib.itoa x).toArray⟩ = ⟨(spN l x).toArray⟩ := cat_eq _ _
theorem spB_len (l : Bytes) : (spB l).length = l.length + 1 := by simp [spB]
theorem spN_len (l : Bytes) (x : Int) : (spN l x).length = l.length + 1 + (Lib.itoa x).length := by simp [spN, spB]; omega
/-- The loop's facts at entry k: what is written of the row's numbers, of the places and the factors that are not 0, and whether a 0 was seen. -/
structure RowI (row : List Int) (k : Nat) (l0 l1 l2 : Bytes) (z : Bool) : Prop where
  a : allTx row = l0 ++ allTx (row.drop k)
  i : idxB 0 row = l1 ++ idxB k (row.drop k)
  c : coefTx row = l2 ++ coefTx (row.drop k)
  z : z = true ↔ ∃ i, i < k ∧ row[i]? = some (0 : Int)
theorem RowI.start (row : List Int) : RowI row 0 [] [] [] false := ⟨rfl, rfl, rfl, by simp⟩
theorem RowI.zero {row : List Int} {k : Nat} {l0 l1 l2 : Bytes} {z : Bool} (h : RowI row k l0 l1 l2 z) (hx : row[k]? = some (0 : Int)) : RowI row (k + 1) (spN l0 0) l1 l2 true := by
  refine ⟨?_, ?_, ?_, ?_⟩
  · rw [h.a, allTx_step hx, spN_eq]; simp
  · rw [h.i, idxB_step hx, if_neg (by omega)]; simp
  · rw [h.c, coefTx_step hx, if_neg (by omega)]; simp
  · exact ⟨fun _ => ⟨k, by omega, hx⟩, fun _ => rfl⟩
theorem RowI.pos {row : List Int} {k : Nat} {x : Int} {l0 l1 l2 : Bytes} {z : Bool} (h : RowI row k l0 l1 l2 z) (hx : row[k]? = some x) (hp : 0 < x) : RowI row (k + 1) (spN l0 x) (spN l1 (k : Int)) (spN l2 x) z := by
  refine ⟨?_, ?_, ?_, ?_⟩
  · rw [h.a, allTx_step hx, spN_eq]; simp
  · rw [h.i, idxB_step hx, if_pos hp, spN_eq]; simp
  · rw [h.c, coefTx_step hx, if_pos hp, spN_eq]; simp
  · rw [h.z]
    constructor
    · rintro ⟨i, hi, e⟩; exact ⟨i, by omega, e⟩
    · rintro ⟨i, hi, e⟩
      by_cases hik : i = k
      · subst hik; rw [hx] at e; injection e with e; omega
      · exact ⟨i, by omega, e⟩
def rowR (row : List Int) : Bytes := rowTx row ++ [59]
def rc1 (l : Bytes) : Bytes := [108, 111, 99, 97, 108] ++ l
def rc2 (l : Bytes) : Bytes := rc1 l ++ [58]
def rc3 (l l2 : Bytes) : Bytes := rc2 l ++ l2
def rc4 (l l2 : Bytes) : Bytes := rc3 l l2 ++ [59]
def rp1 (l : Bytes) : Bytes := [112, 97, 114, 105, 116, 121] ++ l
def rp2 (l : Bytes) : Bytes := rp1 l ++ [59]
theorem rc1_len (l : Bytes) : (rc1 l).length = 5 + l.length := by simp [rc1]; omega
theorem rc2_len (l : Bytes) : (rc2 l).length = 6 + l.length := by simp [rc2, rc1]; omega
theorem rc3_len (l l2 : Bytes) : (rc3 l l2).length = 6 + l.length + l2.length := by simp [rc3, rc2, rc1]; omega
theorem rp1_len (l : Bytes) : (rp1 l).length = 6 + l.length := by simp [rp1]; omega
theorem RowI.loc {row : List Int} {l0 l1 l2 : Bytes} (h : RowI row row.length l0 l1 l2 true) : rc4 l1 l2 = rowR row := by
  obtain ⟨i, -, hi⟩ := h.z.1 rfl
  have hm : (0 : Int) ∈ row := List.mem_of_getElem? hi
  have e1 := h.i; have e2 := h.c
  rw [List.drop_eq_nil_of_le (Nat.le_refl _)] at e1 e2
  simp only [idxB, coefTx, List.append_nil] at e1 e2
  unfold rowR rowTx
  rw [if_pos hm, e1, e2]
  simp [rc4, rc3, rc2, rc1, kLocal]
theorem RowI.par {row : List Int} {l0 l1 l2 : Bytes} (h : RowI row row.length l0 l1 l2 false) (hx : ∀ x ∈ row, 0 ≤ x) : rp2 l0 = rowR row := by
  have hm : ¬ (0 : Int) ∈ row := fun hm => by
    obtain ⟨i, hi, e⟩ := List.mem_iff_getElem.1 hm
    have := h.z.2 ⟨i, hi, by rw [List.getElem?_eq_getElem hi, e]⟩
    cases this
  have e1 := h.a
  rw [List.drop_eq_nil_of_le (Nat.le_refl _)] at e1
  rw [show allTx [] = [] from rfl, List.append_nil] at e1
  have hp : ∀ x ∈ row, 0 < x := fun x hx' => by
    have h0 := hx x hx'
    by_cases e : x = 0
    · subst e; exact absurd hx' hm
    · omega
  unfold rowR rowTx
  rw [if_neg hm, ← allTx_pos hp, e1]
  simp [rp2, rp1, kParity]
theorem numR_any (x : Int) (h0 : 0 ≤ x) (h1 : x ≤ 9223372036854775807) (w : World) : Calls Tryd.prog 31 #[.int .i64 x] w fun e w' => e = .returned (strV (Lib.itoa x)) ∧ Below w.heap.size w w' := by
  obtain ⟨n, rfl⟩ := Int.eq_ofNat_of_zero_le h0
  rw [Lib.itoa_nonneg]
  exact decR_any n w (by omega)
theorem intS_up {w W : World} {row : List Int} {b o k : Nat} {x : Int} (hs : Sl w w.heap.size (some ⟨b, o, none⟩) (row.map intC)) (hb : Below w.heap.size w W) (hx : row[k]? = some x) : W.cell? ⟨b, o + k, none⟩ = some (.int .i64 x) := by
  obtain ⟨b', o', e, -, m⟩ := intS ((hs.below hb).more hb.size) hx
  injection e with e
  injection e with e1 e2
  subst e1; subst e2
  exact m

set_option maxRecDepth 100000 in
set_option maxHeartbeats 2000000 in
theorem rowR_any (row : List Int) (A : Option Addr) (c : Nat) (w : World) (Hs : Hid (Sl w w.heap.size A (row.map intC))) (hl : row.length ≤ 31) (Hx : Hid (∀ x ∈ row, 0 ≤ x ∧ x ≤ 65535)) :
    Calls Tryd.prog 32 #[.slice A row.length c] w fun e w' => e = .returned (strV (rowR row)) ∧ Below w.heap.size w w' := by
  have R0 := Lib.hid (RowI.start row)
  go_enter Tryd.func32, Tryd.ntmps32
  go_wp2_with fail
  go_loopg [3, 4, 5, 6, 7] row.length (fun g s3 s4 s5 s6 s7 wr => ∃ (k : Nat) (l0 l1 l2 : Bytes) (z : Bool), s3 = .string ⟨l0.toArray⟩ ∧ s4 = .string ⟨l1.toArray⟩ ∧ s5 = .string ⟨l2.toArray⟩ ∧ s6 = .bool z ∧ s7 = .int .i64 (k : Int) ∧ g = row.length - k ∧ k ≤ row.length ∧ l0.length ≤ k * 22 ∧ l1.length ≤ k * 22 ∧ l2.length ≤ k * 22 ∧ Hid (Below w.heap.size w wr) ∧ Hid (RowI row k l0 l1 l2 z))
  case atStart => exact ⟨0, [], [], [], false, rfl, rfl, rfl, rfl, rfl, rfl, by omega, by simp, by simp, by simp, Below.refl _ _, R0.out⟩
  case round =>
    obtain ⟨k, l0, l1, l2, z, rfl, rfl, rfl, rfl, rfl, hg, hk, hl0, hl1, hl2, HB, HR⟩ := hrel
    have Hgk := Lib.hid hg
    clear hg R0
    by_cases hlt : k < row.length
    · obtain ⟨x, hx⟩ : ∃ x, row[k]? = some x := ⟨_, List.getElem?_eq_getElem hlt⟩
      obtain ⟨b, o, hA, -, -⟩ := intS Hs.out hx
      subst hA
      have HX := Lib.hid hx
      obtain ⟨hx1, hx2⟩ := Hx.out x (List.mem_of_getElem? hx)
      have m1 := intS_up Hs.out HB.out hx
      have hI1 : (0 : Int) ≤ (k : Int) := by omega
      have hI2 : (k : Int) < (row.length : Int) := by omega
      clear hx
      have hz1 := itoa_len x (by omega) (by omega)
      have q1 : ¬ 9223372036854775807 < l0.length + 1 := by omega
      have q2 : ¬ 9223372036854775807 < (spB l0).length + (Lib.itoa x).length := by rw [spB_len]; omega
      have c1 := spB_cat l0
      have c2 := spN_cat l0 x
      have p1 : (spN l0 x).length ≤ (k + 1) * 22 := by rw [spN_len]; omega
      by_cases hx0 : x = 0
      · subst hx0
        have HR2 := Lib.hid (HR.out.zero HX.out)
        go_wp2_with fail
        refine (numR_any 0 (by omega) (by omega) _).mono ?_
        rintro e w1 ⟨rfl, hb1⟩
        have HB1 := Lib.hid (HB.out.trans (hb1.mono HB.out.size))
        have m2 := intS_up Hs.out HB1.out HX.out
        clear hb1 m1
        go_wp2_with fail
        go_roundg (row.length - (k + 1))
        case measure => rw [Hgk.out]; omega
        case rel => exact ⟨k + 1, spN l0 0, l1, l2, true, rfl, rfl, rfl, rfl, by go_num, rfl, by omega, p1, by omega, by omega, HB1.out, HR2.out⟩
      · have hx3 : (x == 0) = false := by rw [beq_eq_false_iff_ne]; exact hx0
        have HR2 := Lib.hid (HR.out.pos HX.out (by omega))
        have hz2 := itoa_len (k : Int) (by omega) (by omega)
        have q3 : ¬ 9223372036854775807 < l1.length + 1 := by omega
        have q4 : ¬ 9223372036854775807 < (spB l1).length + (Lib.itoa (k : Int)).length := by rw [spB_len]; omega
        have c3 := spB_cat l1
        have c4 := spN_cat l1 (k : Int)
        have p2 : (spN l1 (k : Int)).length ≤ (k + 1) * 22 := by rw [spN_len]; omega
        have q5 : ¬ 9223372036854775807 < l2.length + 1 := by omega
        have q6 : ¬ 9223372036854775807 < (spB l2).length + (Lib.itoa x).length := by rw [spB_len]; omega
        have c5 := spB_cat l2
        have c6 := spN_cat l2 x
        have p3 : (spN l2 x).length ≤ (k + 1) * 22 := by rw [spN_len]; omega
        go_wp2_with fail
        refine (numR_any x (by omega) (by omega) _).mono ?_
        rintro e w1 ⟨rfl, hb1⟩
        have HB1 := Lib.hid (HB.out.trans (hb1.mono HB.out.size))
        have m2 := intS_up Hs.out HB1.out HX.out
        clear hb1 m1
        go_wp2_with fail
        refine (numR_any (k : Int) (by omega) (by omega) _).mono ?_
        rintro e w2 ⟨rfl, hb2⟩
        have HB2 := Lib.hid (HB1.out.trans (hb2.mono HB1.out.size))
        have m3 := intS_up Hs.out HB2.out HX.out
        clear hb2 m2
        go_wp2_with fail
        refine (numR_any x (by omega) (by omega) _).mono ?_
        rintro e w3 ⟨rfl, hb3⟩
        have HB3 := Lib.hid (HB2.out.trans (hb3.mono HB2.out.size))
        clear hb3 m3
        go_wp2_with fail
        go_roundg (row.length - (k + 1))
        case measure => rw [Hgk.out]; omega
        case rel => exact ⟨k + 1, spN l0 x, spN l1 (k : Int), spN l2 x, z, rfl, rfl, rfl, rfl, by go_num, rfl, by omega, p1, p2, p3, HB3.out, HR2.out⟩
    · have hke : k = row.length := by omega
      subst hke
      have hI2 : ¬ (row.length : Int) < (row.length : Int) := by omega
      cases z with
      | true =>
        have Hend := Lib.hid HR.out.loc
        have n1 : ¬ 9223372036854775807 < 5 + l1.length := by omega
        have e1 : (⟨#[108, 111, 99, 97, 108]⟩ : ByteArray) ++ ⟨l1.toArray⟩ = ⟨(rc1 l1).toArray⟩ := cat_eq [108, 111, 99, 97, 108] l1
        have n2 : ¬ 9223372036854775807 < (rc1 l1).length + 1 := by rw [rc1_len]; omega
        have e2 : (⟨(rc1 l1).toArray⟩ : ByteArray) ++ ⟨#[58]⟩ = ⟨(rc2 l1).toArray⟩ := cat_eq (rc1 l1) [58]
        have n3 : ¬ 9223372036854775807 < (rc2 l1).length + l2.length := by rw [rc2_len]; omega
        have e3 : (⟨(rc2 l1).toArray⟩ : ByteArray) ++ ⟨l2.toArray⟩ = ⟨(rc3 l1 l2).toArray⟩ := cat_eq (rc2 l1) l2
        have n4 : ¬ 9223372036854775807 < (rc3 l1 l2).length + 1 := by rw [rc3_len]; omega
        have e4 : (⟨(rc3 l1 l2).toArray⟩ : ByteArray) ++ ⟨#[59]⟩ = ⟨(rc4 l1 l2).toArray⟩ := cat_eq (rc3 l1 l2) [59]
        go_wp2_with fail
        go_ret
        exact ⟨by rw [← Hend.out] <;> rfl, HB.out⟩
      | false =>
        have Hend := Lib.hid (HR.out.par fun x hx => (Hx.out x hx).1)
        have n1 : ¬ 9223372036854775807 < 6 + l0.length := by omega
        have e1 : (⟨#[112, 97, 114, 105, 116, 121]⟩ : ByteArray) ++ ⟨l0.toArray⟩ = ⟨(rp1 l0).toArray⟩ := cat_eq [112, 97, 114, 105, 116, 121] l0
        have n2 : ¬ 9223372036854775807 < (rp1 l0).length + 1 := by rw [rp1_len]; omega
        have e2 : (⟨(rp1 l0).toArray⟩ : ByteArray) ++ ⟨#[59]⟩ = ⟨(rp2 l0).toArray⟩ := cat_eq (rp1 l0) [59]
        go_wp2_with fail
        go_ret
        exact ⟨by rw [← Hend.out] <;> rfl, HB.out⟩
end Go.Proofs.YtafgmbchdcfkcaaDoor
