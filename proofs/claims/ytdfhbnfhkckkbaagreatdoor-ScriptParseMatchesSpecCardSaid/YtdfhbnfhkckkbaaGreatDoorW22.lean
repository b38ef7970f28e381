/-
  The walk of unquote.
-/
import Derived.Test.YtdfhbnfhkckkbaaGreatDoorW21
import Derived.Test.YtdfhbnfhkckkbaaGreatDoorW12
import Derived.Deep.RegionHeld
namespace Go.Proofs.YtdfhbnfhkckkbaaGreatDoor
open Go Go.RowKit Go.Walks

theorem raw_short {u : Bytes} (h : u.length ≤ 1) : rawL u = [] := by
  match u, h with
  | [], _ => rw [rawL]
  | [a], _ => rw [rawL]
theorem raw_x_short {r : Bytes} (h : r.length < 2) : rawL (92 :: 120 :: r) = 120 :: rawL r := by
  rw [raw_short (u := r) (by omega)]
  match r, h with
  | [], _ =>
    rw [rawL]
    · rw [rawL]
    · intro a b r' h1 h2
      cases h2
  | [a], _ =>
    rw [rawL]
    · rw [rawL]
    · intro a b r' h1 h2
      cases h2
theorem drop_two {s : Bytes} {k : Nat} {c d : UInt8} (hc : s[k]? = some c) (hd : s[k + 1]? = some d) : s.drop k = c :: d :: s.drop (k + 2) := by
  obtain ⟨h1, e1⟩ := List.getElem?_eq_some_iff.1 hc
  obtain ⟨h2, e2⟩ := List.getElem?_eq_some_iff.1 hd
  rw [List.drop_eq_getElem_cons h1, e1, List.drop_eq_getElem_cons h2, e2]
theorem bytes_get {s : Bytes} {t : ByteArray} (h : t = ⟨s.toArray⟩) {k : Nat} (hk : k < t.size) : s[k]? = some t[k] := by
  subst h
  have hk' : k < s.length := by rw [strBytes_size] at hk; exact hk
  rw [List.getElem?_eq_getElem hk']
  rfl

/-- What stands between the quotes. -/
def unqB (s : Bytes) : Bytes := rawL (s.drop 1)

set_option maxRecDepth 100000 in
set_option maxHeartbeats 4000000 in
theorem unquote_any (s : Bytes) (w : World) (Hg : Hid (Gl w)) (hl : s.length ≤ 1000000) : Calls Tryz.prog 105 #[.string ⟨s.toArray⟩] w fun e w' => e = .returned (.tuple #[strV (unqB s), .bool (decide (quoteB (unqB s) = s))]) ∧ Below w.heap.size w w' := by
  obtain ⟨t, ht⟩ : ∃ t : ByteArray, t = ⟨s.toArray⟩ := ⟨_, rfl⟩
  have hsz : t.size = s.length := by rw [ht]; exact strBytes_size s
  have hn : t.size ≤ 1000000 := by omega
  have Ht := Lib.hid ht
  have Hsz := Lib.hid hsz
  rw [← ht]
  clear ht hsz hl
  go_enter Tryz.func105, Tryz.ntmps105
  go_wp2_with fail
  go_loopg [5, 4] t.size (fun gh s5 s4 wr => ∃ (k m : Nat) (A : Option Addr) (c : Nat) (out : Bytes), s5 = .int .i64 (k : Int) ∧ s4 = .slice A m c ∧ gh = t.size + 1 - k ∧ 1 ≤ k ∧ k ≤ t.size + 1 ∧ m ≤ k ∧ Hid (OS w 5 1 A m c (Lib.byteCells out) wr ∧ out ++ rawL (s.drop k) = unqB s))
  case atStart => exact ⟨1, 0, none, 0, [], rfl, rfl, by omega, by omega, by omega, by omega, OS.nil _ _ _, rfl⟩
  case round =>
    obtain ⟨k, m, A, c, out, rfl, rfl, hgh, hk1, hk, hm, HO⟩ := hrel
    have hb1 : m + 1 ≤ maxLen := by unfold maxLen; omega
    have hb2 : (m + 1) * 1 ≤ 140737488355328 := by omega
    by_cases hlt : k + 1 < t.size
    · have hI : (k : Int) < (t.size : Int) - 1 := by omega
      have hk0 : k < t.size := by omega
      have hs0 := bytes_get Ht.out hk0
      have hs1 := bytes_get Ht.out hlt
      have hdr := drop_two hs0 hs1
      obtain ⟨x, hx⟩ : ∃ c, t[k] = c := ⟨_, rfl⟩
      rw [hx] at hdr hs0
      by_cases h92 : x = 92
      · subst h92
        obtain ⟨d, hd⟩ : ∃ c, t[k + 1] = c := ⟨_, rfl⟩
        rw [hd] at hdr hs1
        by_cases h4 : d = 120 ∧ k + 3 < t.size
        · obtain ⟨rfl, h4⟩ := h4
          have hs2 := bytes_get Ht.out (show k + 2 < t.size by omega)
          have hs3 := bytes_get Ht.out h4
          obtain ⟨y, hy⟩ : ∃ c, t[k + 2] = c := ⟨_, rfl⟩
          obtain ⟨z, hz⟩ : ∃ c, t[k + 3] = c := ⟨_, rfl⟩
          rw [hy] at hs2
          rw [hz] at hs3
          have hdr2 := drop_two hs2 hs3
          have hI4 : (k : Int) + 1 + 2 < (t.size : Int) := by omega
          have hsl := run_slice_string wr 9 t .i64 .i64 ((k : Int) + 1 + 1) ((k : Int) + 1 + 3) Tryz.underlying9 (by omega) (by omega) (by omega)
          have hex : t.extract ((k : Int) + 1 + 1).toNat ((k : Int) + 1 + 3).toNat = ⟨#[y, z]⟩ := by
            rw [Ht.out, ByteArray.extract_mk, show ((k : Int) + 1 + 1).toNat = k + 2 by omega, show ((k : Int) + 1 + 3).toNat = k + 4 by omega, hdr2, show k + 4 - (k + 2) = 2 by omega]
            rfl
          rw [hex] at hsl
          have Hsl := Lib.hid hsl
          have Hpar := Lib.hid (parse16_any y z wr (Hg.out.below HO.out.1.below))
          have HR : Hid ((out ++ [hexV y z]) ++ rawL (s.drop (k + 4)) = unqB s) := by
            show _ = _
            rw [← HO.out.2, hdr, hdr2, raw_hex, List.append_assoc]
            rfl
          obtain ⟨v, hv⟩ : ∃ v, v = hexV y z := ⟨_, rfl⟩
          rw [← hv] at HR Hpar
          have hv0 : (0 : Int) ≤ (v.toNat : Int) := by omega
          have hv1 : (v.toNat : Int) < 256 := by have := v.toNat_lt; omega
          clear hs0 hs1 hs2 hs3 hdr hdr2 hsl hex hv hy hz
          go_wp2_with fail
          rw [Hsl.out]
          simp only [Result.andThen]
          rw [Oper.upon_value]
          go_wp2_with fail
          refine Hpar.out.mono ?_
          rintro e w5 ⟨hb5, ev, rfl⟩
          have HO5 := Lib.hid (HO.out.1.call hb5)
          clear hb5
          go_wp2_with (at_builtin; refine wpList_append_sl rfl _ _ 38 rfl rfl rfl so38 (HO5.out.o.alloc _) (m := 1) (news := [.int .u8 (v.toNat : Int)]) rfl (Sl.new _ _ _) (fun u hu => by rw [List.mem_singleton.1 hu]; rfl) hb1 hb2 (Nat.le_trans HO5.out.below.size (by simp)) ?_; intro A6 c6 w6 ho6 hg6; have HO6 : Hid (OS w 5 1 A6 (m + 1) c6 (Lib.byteCells (out ++ [v])) w6) := (HO5.out.alloc _).grow (by rw [byteCells_append]; exact ho6) hg6; clear ho6 hg6)
          go_roundg (t.size + 1 - (k + 4))
          case measure => omega
          case rel => exact ⟨k + 4, m + 1, A6, c6, out ++ [v], by go_num, rfl, rfl, by omega, by omega, by omega, HO6.out, HR.out⟩
        · have HR : Hid ((out ++ [d]) ++ rawL (s.drop (k + 2)) = unqB s) := by
            show _ = _
            rw [← HO.out.2, hdr, List.append_assoc]
            by_cases h120 : d = 120
            · subst h120
              have hk4 : ¬ k + 3 < t.size := fun h => h4 ⟨rfl, h⟩
              rw [raw_x_short (by rw [List.length_drop, ← Hsz.out]; omega)]
              rfl
            · rw [raw_esc h120]; rfl
          by_cases h120 : d = 120
          · subst h120
            have hk4 : ¬ k + 3 < t.size := fun h => h4 ⟨rfl, h⟩
            have hI4 : ¬ (k : Int) + 1 + 2 < (t.size : Int) := by omega
            clear hs0 hs1 hdr h4
            go_wp2_with (at_builtin; refine wpList_append_sl rfl _ _ 38 rfl rfl rfl so38 (HO.out.1.o.alloc _) (m := 1) (news := [.int .u8 120]) rfl (Sl.new _ _ _) (fun u hu => by rw [List.mem_singleton.1 hu]; rfl) hb1 hb2 (Nat.le_trans HO.out.1.below.size (by simp)) ?_; intro A6 c6 w6 ho6 hg6; have HO6 : Hid (OS w 5 1 A6 (m + 1) c6 (Lib.byteCells (out ++ [120])) w6) := (HO.out.1.alloc _).grow (by rw [byteCells_append]; exact ho6) hg6; clear ho6 hg6)
            go_roundg (t.size + 1 - (k + 2))
            case measure => omega
            case rel => exact ⟨k + 2, m + 1, A6, c6, out ++ [120], by go_num, rfl, rfl, by omega, by omega, by omega, HO6.out, HR.out⟩
          · have q120 : ((d.toNat : Int) == 120) = false := bne_int (fun h => h120 (by apply UInt8.toNat_inj.1; show d.toNat = 120; omega))
            clear hs0 hs1 hdr h4 h120
            go_wp2_with (at_builtin; refine wpList_append_sl rfl _ _ 38 rfl rfl rfl so38 (HO.out.1.o.alloc _) (m := 1) (news := [.int .u8 (d.toNat : Int)]) rfl (Sl.new _ _ _) (fun u hu => by rw [List.mem_singleton.1 hu]; rfl) hb1 hb2 (Nat.le_trans HO.out.1.below.size (by simp)) ?_; intro A6 c6 w6 ho6 hg6; have HO6 : Hid (OS w 5 1 A6 (m + 1) c6 (Lib.byteCells (out ++ [d])) w6) := (HO.out.1.alloc _).grow (by rw [byteCells_append]; exact ho6) hg6; clear ho6 hg6)
            go_roundg (t.size + 1 - (k + 2))
            case measure => omega
            case rel => exact ⟨k + 2, m + 1, A6, c6, out ++ [d], by go_num, rfl, rfl, by omega, by omega, by omega, HO6.out, HR.out⟩
      · have q1 : ((x.toNat : Int) == 92) = false := bne_int (fun h => h92 (by apply UInt8.toNat_inj.1; show x.toNat = 92; omega))
        have HR : Hid ((out ++ [x]) ++ rawL (s.drop (k + 1)) = unqB s) := by
          show _ = _
          rw [← HO.out.2, hdr, raw_other h92, List.append_assoc, List.drop_eq_getElem_cons (List.getElem?_eq_some_iff.1 hs1).1, (List.getElem?_eq_some_iff.1 hs1).2]
          rfl
        clear hdr h92 hs0 hs1
        go_wp2_with (at_builtin; refine wpList_append_sl rfl _ _ 38 rfl rfl rfl so38 (HO.out.1.o.alloc _) (m := 1) (news := [.int .u8 (x.toNat : Int)]) rfl (Sl.new _ _ _) (fun u hu => by rw [List.mem_singleton.1 hu]; rfl) hb1 hb2 (Nat.le_trans HO.out.1.below.size (by simp)) ?_; intro A6 c6 w6 ho6 hg6; have HO6 : Hid (OS w 5 1 A6 (m + 1) c6 (Lib.byteCells (out ++ [x])) w6) := (HO.out.1.alloc _).grow (by rw [byteCells_append]; exact ho6) hg6; clear ho6 hg6)
        go_roundg (t.size + 1 - (k + 1))
        case measure => omega
        case rel => exact ⟨k + 1, m + 1, A6, c6, out ++ [x], by go_num, rfl, rfl, by omega, by omega, by omega, HO6.out, HR.out⟩
    · have hI : ¬ (k : Int) < (t.size : Int) - 1 := by omega
      have HX : Hid (out = unqB s) := by
        have := HO.out.2
        rw [raw_short (by rw [List.length_drop, ← Hsz.out]; omega), List.append_nil] at this
        exact this
      clear hlt
      obtain ⟨R, hR⟩ : ∃ R, R = unqB s := ⟨_, rfl⟩
      have HR0 := Lib.hid hR
      rw [← hR] at HX
      have hml : m = out.length := by have := HO.out.1.len; rw [byteCells_length, Nat.mul_one] at this; exact this.symm
      subst hml
      have hRo := HX.out
      subst hRo
      have HO0 : Hid (OS w 5 1 A out.length c (Lib.byteCells out) wr.drew) := HO.out.1.call (Below.refl _ _).drew
      have hq := fun W => quote_any out W (by omega)
      unfold StrR strV at hq
      have Hq := Lib.hid hq
      have HT : Hid ((quoteB out == t.toList) = decide (quoteB out = s)) := by
        show _ = _
        rw [Ht.out, show (⟨s.toArray⟩ : ByteArray).toList = s from Lib.toList_data _]
        rw [Bool.eq_iff_iff]; simp
      clear hR hq
      go_upto_region 14 with fail
      refine wp_region_held_drew (S := fun _ => True) (by kernel_rfl) trivial (fun hHeld => ?_)
      refine wpAnyH_take (i := 0) (v := ?_) (by simp only [List.getElem?_toArray, List.getElem?_cons_zero] <;> rfl) (by kernel_rfl) (by kernel_rfl) (by kernel_rfl) (by intro _ _ _ h; exact h) (Or.inl ⟨by rfl, ?_⟩) hHeld ?_
      rotate_left
      · intro w hSw; (try dsimp only at hSw); go_simp
        with_reducible rfl
      try simp only [Act.put, List.setIfInBounds_toArray, List.set_cons_zero, List.set_cons_succ]
      refine wpAnyH_take (i := 2) (v := ?_) (by simp only [List.getElem?_toArray, List.getElem?_cons_zero, List.getElem?_cons_succ] <;> rfl) (by kernel_rfl) (by kernel_rfl) (by kernel_rfl) (by intro _ _ _ h; exact h) (Or.inl ⟨by rfl, ?_⟩) hHeld ?_
      rotate_left
      · intro w hSw; (try dsimp only at hSw); go_simp
        with_reducible rfl
      try simp only [Act.put, List.setIfInBounds_toArray, List.set_cons_zero, List.set_cons_succ]
      refine wpAnyH_take (i := 5) (v := ?_) (by simp only [List.getElem?_toArray, List.getElem?_cons_zero, List.getElem?_cons_succ] <;> rfl) (by kernel_rfl) (by kernel_rfl) (by kernel_rfl) (by intro _ _ _ h; exact h) (Or.inl ⟨by rfl, ?_⟩) hHeld ?_
      rotate_left
      · intro w hSw; (try dsimp only at hSw); go_simp
        with_reducible rfl
      try simp only [Act.put, List.setIfInBounds_toArray, List.set_cons_zero, List.set_cons_succ]
      refine wpAnyH_ready (rs := [1, 3]) (by kernel_rfl) (by simp) ?_
      refine (AllReadyH.cons (by simp only [List.getElem?_toArray, List.getElem?_cons_zero, List.getElem?_cons_succ] <;> rfl) (fun K hK => ?_) (AllReadyH.cons (by simp only [List.getElem?_toArray, List.getElem?_cons_zero, List.getElem?_cons_succ] <;> rfl) (fun K hK => ?_) AllReadyH.nil))
      · go_simp
        rw [conv_bytes (own_sl HO0.out.o)]
        simp only [Result.andThen]
        rw [Oper.upon_value]
        refine hK.out _ _ trivial (fun hHeld => ?_)
        clear hK K
        try simp only [Act.put, List.setIfInBounds_toArray, List.set_cons_zero, List.set_cons_succ]
        refine wpAnyH_ready (rs := [3]) (by kernel_rfl) (by simp) ?_
        refine (AllReadyH.cons (by simp only [List.getElem?_toArray, List.getElem?_cons_zero, List.getElem?_cons_succ] <;> rfl) (fun K hK => ?_) AllReadyH.nil)
        · go_simp
          rw [conv_bytes (own_sl HO0.out.o)]
          simp only [Result.andThen]
          rw [Oper.upon_value]
          refine hK.out _ _ trivial (fun hHeld => ?_)
          clear hK K
          try simp only [Act.put, List.setIfInBounds_toArray, List.set_cons_zero, List.set_cons_succ]
          refine wpAnyH_ready (rs := [4]) (by kernel_rfl) (by simp) ?_
          refine (AllReadyH.cons (by simp only [List.getElem?_toArray, List.getElem?_cons_zero, List.getElem?_cons_succ] <;> rfl) (fun K hK => ?_) AllReadyH.nil)
          · go_simp
            go_at_call 53
            refine (Hq.out _).mono ?_
            rintro e w5 ⟨rfl, hb5⟩
            have HO5 := Lib.hid (HO0.out.call hb5)
            clear hb5
            refine hK.out _ _ trivial (fun hHeld => ?_)
            clear hK K
            try simp only [Act.put, List.setIfInBounds_toArray, List.set_cons_zero, List.set_cons_succ]
            refine wpAnyH_take (i := 6) (v := ?_) (by simp only [List.getElem?_toArray, List.getElem?_cons_zero, List.getElem?_cons_succ] <;> rfl) (by kernel_rfl) (by kernel_rfl) (by kernel_rfl) (by intro _ _ _ h; exact h) (Or.inl ⟨by rfl, ?_⟩) hHeld ?_
            rotate_left
            · intro w hSw; (try dsimp only at hSw); go_simp
              with_reducible rfl
            try simp only [Act.put, List.setIfInBounds_toArray, List.set_cons_zero, List.set_cons_succ]
            refine wpAnyH_take (i := 7) (v := ?_) (by simp only [List.getElem?_toArray, List.getElem?_cons_zero, List.getElem?_cons_succ] <;> rfl) (by kernel_rfl) (by kernel_rfl) (by kernel_rfl) (by intro _ _ _ h; exact h) (Or.inl ⟨by rfl, ?_⟩) hHeld ?_
            rotate_left
            · intro w hSw; (try dsimp only at hSw); go_simp
              with_reducible rfl
            try simp only [Act.put, List.setIfInBounds_toArray, List.set_cons_zero, List.set_cons_succ]
            refine wpAnyH_take (i := 8) (v := ?_) (by simp only [List.getElem?_toArray, List.getElem?_cons_zero, List.getElem?_cons_succ] <;> rfl) (by kernel_rfl) (by kernel_rfl) (by kernel_rfl) (by intro _ _ _ h; exact h) (Or.inl ⟨by rfl, ?_⟩) hHeld ?_
            rotate_left
            · intro w hSw; (try dsimp only at hSw); go_simp
              with_reducible rfl
            try simp only [Act.put, List.setIfInBounds_toArray, List.set_cons_zero, List.set_cons_succ]
            refine wpAnyH_done (by kernel_rfl) ?_ _
            clear hHeld
            go_wp2_with fail
            go_ret2
            refine ⟨?_, HO5.out.below⟩
            show Ending.returned (.tuple #[.string ⟨out.toArray⟩, .bool (quoteB out == t.toList)]) = .returned (.tuple #[strV (unqB s), .bool (decide (quoteB (unqB s) = s))])
            rw [HT.out, ← HR0.out]; rfl
      · go_simp
        rw [conv_bytes (own_sl HO0.out.o)]
        simp only [Result.andThen]
        rw [Oper.upon_value]
        refine hK.out _ _ trivial (fun hHeld => ?_)
        clear hK K
        try simp only [Act.put, List.setIfInBounds_toArray, List.set_cons_zero, List.set_cons_succ]
        refine wpAnyH_ready (rs := [1, 4]) (by kernel_rfl) (by simp) ?_
        refine (AllReadyH.cons (by simp only [List.getElem?_toArray, List.getElem?_cons_zero, List.getElem?_cons_succ] <;> rfl) (fun K hK => ?_) (AllReadyH.cons (by simp only [List.getElem?_toArray, List.getElem?_cons_zero, List.getElem?_cons_succ] <;> rfl) (fun K hK => ?_) AllReadyH.nil))
        · go_simp
          rw [conv_bytes (own_sl HO0.out.o)]
          simp only [Result.andThen]
          rw [Oper.upon_value]
          refine hK.out _ _ trivial (fun hHeld => ?_)
          clear hK K
          try simp only [Act.put, List.setIfInBounds_toArray, List.set_cons_zero, List.set_cons_succ]
          refine wpAnyH_ready (rs := [4]) (by kernel_rfl) (by simp) ?_
          refine (AllReadyH.cons (by simp only [List.getElem?_toArray, List.getElem?_cons_zero, List.getElem?_cons_succ] <;> rfl) (fun K hK => ?_) AllReadyH.nil)
          · go_simp
            go_at_call 53
            refine (Hq.out _).mono ?_
            rintro e w5 ⟨rfl, hb5⟩
            have HO5 := Lib.hid (HO0.out.call hb5)
            clear hb5
            refine hK.out _ _ trivial (fun hHeld => ?_)
            clear hK K
            try simp only [Act.put, List.setIfInBounds_toArray, List.set_cons_zero, List.set_cons_succ]
            refine wpAnyH_take (i := 6) (v := ?_) (by simp only [List.getElem?_toArray, List.getElem?_cons_zero, List.getElem?_cons_succ] <;> rfl) (by kernel_rfl) (by kernel_rfl) (by kernel_rfl) (by intro _ _ _ h; exact h) (Or.inl ⟨by rfl, ?_⟩) hHeld ?_
            rotate_left
            · intro w hSw; (try dsimp only at hSw); go_simp
              with_reducible rfl
            try simp only [Act.put, List.setIfInBounds_toArray, List.set_cons_zero, List.set_cons_succ]
            refine wpAnyH_take (i := 7) (v := ?_) (by simp only [List.getElem?_toArray, List.getElem?_cons_zero, List.getElem?_cons_succ] <;> rfl) (by kernel_rfl) (by kernel_rfl) (by kernel_rfl) (by intro _ _ _ h; exact h) (Or.inl ⟨by rfl, ?_⟩) hHeld ?_
            rotate_left
            · intro w hSw; (try dsimp only at hSw); go_simp
              with_reducible rfl
            try simp only [Act.put, List.setIfInBounds_toArray, List.set_cons_zero, List.set_cons_succ]
            refine wpAnyH_take (i := 8) (v := ?_) (by simp only [List.getElem?_toArray, List.getElem?_cons_zero, List.getElem?_cons_succ] <;> rfl) (by kernel_rfl) (by kernel_rfl) (by kernel_rfl) (by intro _ _ _ h; exact h) (Or.inl ⟨by rfl, ?_⟩) hHeld ?_
            rotate_left
            · intro w hSw; (try dsimp only at hSw); go_simp
              with_reducible rfl
            try simp only [Act.put, List.setIfInBounds_toArray, List.set_cons_zero, List.set_cons_succ]
            refine wpAnyH_done (by kernel_rfl) ?_ _
            clear hHeld
            go_wp2_with fail
            go_ret2
            refine ⟨?_, HO5.out.below⟩
            show Ending.returned (.tuple #[.string ⟨out.toArray⟩, .bool (quoteB out == t.toList)]) = .returned (.tuple #[strV (unqB s), .bool (decide (quoteB (unqB s) = s))])
            rw [HT.out, ← HR0.out]; rfl
        · go_simp
          go_at_call 53
          refine (Hq.out _).mono ?_
          rintro e w5 ⟨rfl, hb5⟩
          have HO5 := Lib.hid (HO0.out.call hb5)
          clear hb5
          refine hK.out _ _ trivial (fun hHeld => ?_)
          clear hK K
          try simp only [Act.put, List.setIfInBounds_toArray, List.set_cons_zero, List.set_cons_succ]
          refine wpAnyH_take (i := 6) (v := ?_) (by simp only [List.getElem?_toArray, List.getElem?_cons_zero, List.getElem?_cons_succ] <;> rfl) (by kernel_rfl) (by kernel_rfl) (by kernel_rfl) (by intro _ _ _ h; exact h) (Or.inl ⟨by rfl, ?_⟩) hHeld ?_
          rotate_left
          · intro w hSw; (try dsimp only at hSw); go_simp
            with_reducible rfl
          try simp only [Act.put, List.setIfInBounds_toArray, List.set_cons_zero, List.set_cons_succ]
          refine wpAnyH_ready (rs := [1]) (by kernel_rfl) (by simp) ?_
          refine (AllReadyH.cons (by simp only [List.getElem?_toArray, List.getElem?_cons_zero, List.getElem?_cons_succ] <;> rfl) (fun K hK => ?_) AllReadyH.nil)
          · go_simp
            rw [conv_bytes (own_sl HO5.out.o)]
            simp only [Result.andThen]
            rw [Oper.upon_value]
            refine hK.out _ _ trivial (fun hHeld => ?_)
            clear hK K
            try simp only [Act.put, List.setIfInBounds_toArray, List.set_cons_zero, List.set_cons_succ]
            refine wpAnyH_take (i := 7) (v := ?_) (by simp only [List.getElem?_toArray, List.getElem?_cons_zero, List.getElem?_cons_succ] <;> rfl) (by kernel_rfl) (by kernel_rfl) (by kernel_rfl) (by intro _ _ _ h; exact h) (Or.inl ⟨by rfl, ?_⟩) hHeld ?_
            rotate_left
            · intro w hSw; (try dsimp only at hSw); go_simp
              with_reducible rfl
            try simp only [Act.put, List.setIfInBounds_toArray, List.set_cons_zero, List.set_cons_succ]
            refine wpAnyH_take (i := 8) (v := ?_) (by simp only [List.getElem?_toArray, List.getElem?_cons_zero, List.getElem?_cons_succ] <;> rfl) (by kernel_rfl) (by kernel_rfl) (by kernel_rfl) (by intro _ _ _ h; exact h) (Or.inl ⟨by rfl, ?_⟩) hHeld ?_
            rotate_left
            · intro w hSw; (try dsimp only at hSw); go_simp
              with_reducible rfl
            try simp only [Act.put, List.setIfInBounds_toArray, List.set_cons_zero, List.set_cons_succ]
            refine wpAnyH_done (by kernel_rfl) ?_ _
            clear hHeld
            go_wp2_with fail
            go_ret2
            refine ⟨?_, HO5.out.below⟩
            show Ending.returned (.tuple #[.string ⟨out.toArray⟩, .bool (quoteB out == t.toList)]) = .returned (.tuple #[strV (unqB s), .bool (decide (quoteB (unqB s) = s))])
            rw [HT.out, ← HR0.out]; rfl
end Go.Proofs.YtdfhbnfhkckkbaaGreatDoor
