/-
  The walk of fields.
-/
import Derived.Test.YtdfhbnfhkckkbaaGreatDoorW22
import Derived.Test.YtdfhbnfhkckkbaaGreatDoorA5
namespace Go.Proofs.YtdfhbnfhkckkbaaGreatDoor
open Go Go.RowKit Go.Walks

theorem ba_list {L : List ByteArray} {P : List Bytes} (h : L.map (·.data.toList) = P) : L = P.map fun s => (⟨s.toArray⟩ : ByteArray) := by
  rw [← h, List.map_map]
  exact ((List.map_congr_left fun x _ => by simp).trans (List.map_id L)).symm
theorem lib_split (x : Bytes) (c : UInt8) (sv : Nat) : Lib.countB ⟨x.toArray⟩ ⟨#[c]⟩ = x.count c ∧ Lib.splitB ⟨#[c]⟩ sv (x.count c) ⟨x.toArray⟩ = (Lib.splitK [c] sv (x.count c) x).map fun s => (⟨s.toArray⟩ : ByteArray) := by
  refine ⟨?_, ba_list ?_⟩
  · show Lib.count x [c] = _
    exact Lib.count_one c x
  · rw [Lib.splitB_data]
theorem splitK_len (x : Bytes) (c : UInt8) (sv : Nat) : (Lib.splitK [c] sv (x.count c) x).length = x.count c + 1 := by
  have h1 := Lib.splitB_all ⟨#[c]⟩ (Nat.le_refl 1) sv _ ⟨x.toArray⟩ (lib_split x c sv).1
  rw [(lib_split x c sv).2, List.length_map] at h1
  exact h1
theorem split_any (x : Bytes) (w : World) (Hg : Hid (Gl w)) (hl : x.length ≤ 1000000) : Calls Tryz.prog 124 #[.string ⟨x.toArray⟩, .string ⟨#[32]⟩] w fun e w' => e = .returned (.slice (some ⟨w.heap.size, 0, none⟩) (splitB 32 x).length (splitB 32 x).length) ∧ w' = w.alloc (.cells ((splitB 32 x).map strV).toArray 9) := by
  obtain ⟨m, hm⟩ := Hg.out.mx
  have h := Tryz.strings_Split ⟨x.toArray⟩ ⟨#[32]⟩ m w (by rw [strBytes_size]; omega) hm (Nat.le_refl 1)
  have hlen := splitK_len x 32 0
  rw [(lib_split x 32 0).1, (lib_split x 32 0).2, ← hlen, splitK_split, List.map_map] at h
  exact h
theorem nums_step {s : Bytes} {l : List Bytes} : numsB (s :: l) = match numB s with
    | none => none
    | some n => match numsB l with
      | none => none
      | some r => some (n :: r) := rfl
/-- What fields hands back. -/
def FieldsR (x : Bytes) (w : World) (e : Ending) (w' : World) : Prop := Below w.heap.size w w' ∧ match fieldsB x with
  | none => e = .returned (.tuple #[.string ⟨#[]⟩, .slice none 0 0, .bool false])
  | some (wd, l) => ∃ A c, e = .returned (.tuple #[.string ⟨wd.toArray⟩, .slice A l.length c, .bool true]) ∧ w'.ownsRow w.heap.size 3 1 (.slice A l.length c) l.length (l.map intC)
theorem split_len_le (c : UInt8) : ∀ x : Bytes, (splitB c x).length ≤ x.length + 1
  | [] => by simp [splitB]
  | b :: r => by
    have := split_len_le c r
    rw [splitB]
    split
    · simp; omega
    · split
      · simp
      · rename_i y ys h; rw [h] at this; simp at this ⊢; omega
theorem split_mem_le (c : UInt8) : ∀ (x : Bytes), ∀ y ∈ splitB c x, y.length ≤ x.length
  | [], y, hy => by simp [splitB] at hy; subst hy; simp
  | b :: r, y, hy => by
    have ih := split_mem_le c r
    rw [splitB] at hy
    split at hy
    · rcases List.mem_cons.1 hy with rfl | hy
      · simp
      · have := ih y hy; simp; omega
    · split at hy
      · have : y = [b] := by simpa using hy
        subst this; simp
      · rename_i z zs h
        rw [h] at ih
        rcases List.mem_cons.1 hy with rfl | hy
        · have := ih z (by simp); simp; omega
        · have := ih y (by simp [hy]); simp; omega

set_option maxRecDepth 100000 in
set_option maxHeartbeats 4000000 in
theorem fields_any (x : Bytes) (w : World) (Hg : Hid (Gl w)) (hl : x.length ≤ 1000000) : Calls Tryz.prog 106 #[.string ⟨x.toArray⟩] w (FieldsR x w) := by
  have hsp := split_any x w Hg hl
  obtain ⟨wd, P, hP⟩ : ∃ wd P, splitB 32 x = wd :: P := by
    cases h : splitB 32 x with
    | nil => exact absurd h (split_ne 32 x)
    | cons a l => exact ⟨a, l, rfl⟩
  have hlen := split_len_le 32 x
  have hmem := split_mem_le 32 x
  have HF : Hid (fieldsB x = match numsB P with | none => none | some r => some (wd, r)) := by
    show _ = _
    unfold fieldsB
    rw [hP]
    rfl
  rw [hP] at hsp hlen hmem
  obtain ⟨n, hn⟩ : ∃ n, n = P.length := ⟨_, rfl⟩
  rw [List.length_cons, ← hn] at hsp hlen
  obtain ⟨g, hgg⟩ : ∃ g, g = w.heap.size := ⟨_, rfl⟩
  obtain ⟨W1, hW1⟩ : ∃ W, W = w.alloc (.cells ((wd :: P).map strV).toArray 9) := ⟨_, rfl⟩
  rw [← hgg, ← hW1] at hsp
  have HB1 : Hid (Below w.heap.size w W1) := by rw [hW1]; exact (Below.refl _ _).alloc (Nat.le_refl _) _
  have HR1 : Hid (W1.heap[g]? = some (.cells ((wd :: P).map strV).toArray 9)) := by rw [hW1, hgg]; exact heap_new _ _
  have Hsp := Lib.hid hsp
  have Hn := Lib.hid hn
  have Hmem : Hid (∀ y ∈ P, y.length ≤ 1000000) := fun y hy => Nat.le_trans (hmem y (by simp [hy])) hl
  have hnl : n ≤ 1000000 := by omega
  have hglt : g < W1.heap.size := (Array.getElem?_eq_some_iff.1 HR1.out).1
  clear hP hlen hmem hn hsp hW1 hgg hl
  go_enter Tryz.func106, Tryz.ntmps106
  go_wp2_with fail
  refine Hsp.out.mono ?_
  rintro e w1 ⟨rfl, hw⟩
  have hw1 := hw.symm
  subst hw1
  clear hw
  by_cases h0 : n = 0
  · subst h0
    have hPn : P = [] := List.eq_nil_of_length_eq_zero Hn.out.symm
    subst hPn
    have HF0 : Hid (fieldsB x = some (wd, [])) := HF.out
    have c0 : W1.cell? ⟨g, 0, none⟩ = some (.string ⟨wd.toArray⟩) := (cell_at HR1.out 0 rfl).1
    go_wp2_with fail
    go_loopg [16, 6] 0 (fun gh s16 s6 wr => s16 = .int .i64 0 ∧ s6 = .slice none 0 0 ∧ wr = W1)
    case atStart => exact ⟨rfl, rfl, rfl⟩
    case round =>
      obtain ⟨rfl, rfl, rfl⟩ := hrel
      go_wp2_with fail
      refine bodyPost_ret (results_tmp3 rfl _ _ _) rfl ?_
      unfold FieldsR
      rw [HF0.out]
      exact ⟨HB1.out, none, 0, rfl, own_nil _ _ _ _⟩
  · have hI : (1 : Int) ≤ (n : Int) := by omega
    have h0' : 0 < n := by omega
    go_wp2_with fail
    go_loopg [16, 6] n (fun gh s16 s6 wr => ∃ (k : Nat) (A : Option Addr) (c : Nat) (acc : List Int), s16 = .int .i64 (k : Int) ∧ s6 = .slice A k c ∧ gh = n - k ∧ k ≤ n ∧ Hid (OS w 3 1 A k c (acc.map intC) wr ∧ numsB P = (numsB (P.drop k)).map (acc ++ ·) ∧ wr.heap[g]? = some (.cells ((wd :: P).map strV).toArray 9)))
    case atStart => exact ⟨0, none, 0, [], rfl, rfl, rfl, Nat.zero_le _, ⟨HB1.out, own_nil _ _ _ _⟩, by simp, HR1.out⟩
    case round =>
      obtain ⟨k, A, c, acc, rfl, rfl, hgh, hk, HO⟩ := hrel
      by_cases hlt : k < n
      · have hI1 : (0 : Int) ≤ (k : Int) := by omega
        have hI2 : (k : Int) < (n : Int) := by omega
        obtain ⟨y, hy⟩ : ∃ y, P[k]? = some y := ⟨P[k]'(by rw [← Hn.out]; exact hlt), List.getElem?_eq_getElem _⟩
        have hcell : wr.cell? ⟨g, 1 + k, none⟩ = some (.string ⟨y.toArray⟩) := (cell_at HO.out.2.2 (1 + k) (by rw [Nat.add_comm]; simp [hy, strV])).1
        have Hy : Hid (P.drop k = y :: P.drop (k + 1)) := by
          obtain ⟨h1, h2⟩ := List.getElem?_eq_some_iff.1 hy
          show _ = _
          rw [List.drop_eq_getElem_cons h1, h2]
        have Hpar := Lib.hid (parse10_any y wr (Hg.out.below HO.out.1.below) (by have := Hmem.out y (List.mem_of_getElem? hy); omega))
        have hyl := Hmem.out y (List.mem_of_getElem? hy)
        clear hy
        go_wp2_with fail
        refine Hpar.out.mono ?_
        unfold PuR
        rintro e w5 ⟨hb5, ⟨m, hm, hnum, rfl⟩ | ⟨hnum, p, N, rfl⟩⟩
        · have Hnum := Lib.hid hnum
          have HO5 := Lib.hid (HO.out.1.call hb5)
          have HR5 := Lib.hid (below_cells HO.out.2.2 hb5)
          have Hfmt := Lib.hid (fmt_any m hm w5 (Hg.out.below HO5.out.below))
          have hm0 : (0 : Int) ≤ (m : Int) := by omega
          have hm1 : (m : Int) ≤ 2147483647 := by omega
          clear hb5 hnum
          go_wp2_with fail
          refine Hfmt.out.mono ?_
          rintro e w6 ⟨rfl, hb6⟩
          have HO6 := Lib.hid (HO5.out.call hb6)
          have HR6 := Lib.hid (below_cells HR5.out hb6)
          clear hb6
          have hb1 : k + 1 ≤ maxLen := by unfold maxLen; omega
          have hb2 : (k + 1) * 8 ≤ 140737488355328 := by omega
          by_cases heq : Lib.decDigits m = y
          · subst heq
            rw [if_pos rfl] at Hnum
            have HN : Hid (numsB P = (numsB (P.drop (k + 1))).map ((acc ++ [(m : Int)]) ++ ·)) := by
              show _ = _
              rw [HO.out.2.1, Hy.out, nums_step, Hnum.out]
              cases numsB (P.drop (k + 1)) <;> simp
            clear hcell
            go_wp2_with (at_builtin; refine wpList_append_sl rfl _ _ 65 rfl rfl rfl so65 (HO6.out.o.alloc _) (m := 1) (news := [.int .i64 (m : Int)]) rfl (Sl.new _ _ _) (fun u hu => by rw [List.mem_singleton.1 hu]; rfl) hb1 hb2 (Nat.le_trans HO6.out.below.size (by simp)) ?_; intro A7 c7 w7 ho7 hg7; have HO7 : Hid (OS w 3 1 A7 (k + 1) c7 ((acc ++ [(m : Int)]).map intC) w7) := (HO6.out.alloc _).grow (by rw [List.map_append]; exact ho7) hg7; have HR7 : Hid (w7.heap[g]? = some (.cells ((wd :: P).map strV).toArray 9)) := (row_grownOwn HO6.out.o hg7 HR6.out (by decide)).trans HR6.out; clear ho7 hg7)
            go_roundg (n - (k + 1))
            case measure => omega
            case rel => exact ⟨k + 1, A7, c7, acc ++ [(m : Int)], by go_num, rfl, rfl, by omega, HO7.out, HN.out, HR7.out⟩
          · rw [if_neg heq] at Hnum
            have HN : Hid (fieldsB x = none) := by
              show _ = _
              rw [HF.out, HO.out.2.1, Hy.out, nums_step, Hnum.out]; rfl
            have q1 : (Lib.decDigits m == y) = false := beq_eq_false_iff_ne.2 heq
            have q2 : (Lib.decDigits m != y) = true := by rw [bne_iff_ne]; exact heq
            clear hcell
            go_wp2_with fail
            refine bodyPost_ret (results_tmp3 rfl _ _ _) rfl ?_
            unfold FieldsR
            rw [HN.out]
            exact ⟨HO6.out.below, rfl⟩
        · have HN : Hid (fieldsB x = none) := by
            show _ = _
            rw [HF.out, HO.out.2.1, Hy.out, nums_step, hnum]; rfl
          have HO5 := Lib.hid (HO.out.1.call hb5)
          clear hb5 hnum hcell
          go_wp2_with fail
          refine bodyPost_ret (results_tmp3 rfl _ _ _) rfl ?_
          unfold FieldsR
          rw [HN.out]
          exact ⟨HO5.out.below, rfl⟩
      · have hke : k = n := by omega
        have hI3 : ¬ (k : Int) < (n : Int) := by omega
        have HN : Hid (fieldsB x = some (wd, acc)) := by
          show _ = _
          rw [HF.out, HO.out.2.1, List.drop_of_length_le (by have := Hn.out; omega)]
          simp [numsB]
        have hka : k = acc.length := by
          have := HO.out.1.len
          rw [List.length_map, Nat.mul_one] at this
          exact this.symm
        have c0 : wr.cell? ⟨g, 0, none⟩ = some (.string ⟨wd.toArray⟩) := (cell_at HO.out.2.2 0 rfl).1
        have Hka := Lib.hid hka
        clear hlt hke hka
        go_wp2_with fail
        refine bodyPost_ret (results_tmp3 rfl _ _ _) rfl ?_
        unfold FieldsR
        rw [HN.out]
        have hO := HO.out.1
        rw [Hka.out] at hO ⊢
        exact ⟨hO.below, A, c, rfl, hO.o⟩
end Go.Proofs.YtdfhbnfhkckkbaaGreatDoor
