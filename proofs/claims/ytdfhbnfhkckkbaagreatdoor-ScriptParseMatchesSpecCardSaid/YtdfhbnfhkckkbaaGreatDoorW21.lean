/-
  The walks of strconv.ParseUint at base 10 with 31 bits, and of strconv.FormatUint at base 10.
-/
import Derived.Test.YtdfhbnfhkckkbaaGreatDoorW20
namespace Go.Proofs.YtdfhbnfhkckkbaaGreatDoor
open Go Go.RowKit Go.Walks

theorem pu_any (s : Bytes) (w : World) (hl : s.length ≤ 1000000000) : Calls Tryz.prog 137 #[.string ⟨s.toArray⟩, .int .i64 10, .int .i64 31] w fun e w' => Below w.heap.size w w' ∧ ((∃ m : Nat, s ≠ [] ∧ m ≤ 2147483647 ∧ Lib.parseUintM 2147483647 0 s = .ok m ∧ e = .returned (.tuple #[.int .u64 (m : Int), .nilIface])) ∨ ((s = [] ∨ ∀ m, Lib.parseUintM 2147483647 0 s ≠ .ok m) ∧ ∃ n k : Int, (k = 1 ∨ k = 2) ∧ e = .returned (.tuple #[.int .u64 n, .iface 174 (.int .i64 k)]))) := by
  by_cases h0 : s = []
  · subst h0
    refine (Tryz.internal_strconv_ParseUint_empty 10 31 w).mono ?_
    rintro e w' ⟨rfl, rfl⟩
    exact ⟨Below.refl _ _, .inr ⟨.inl rfl, 0, 2, .inr rfl, rfl⟩⟩
  · have hs := strBytes_size s
    refine (pu31_any ⟨s.toArray⟩ (by rw [hs]; exact fun h => h0 (List.eq_nil_of_length_eq_zero h)) (by rw [hs]; exact hl) w).mono ?_
    rintro e w' ⟨rfl, rfl⟩
    refine ⟨Lib.bytesWorld_below _ _ _, ?_⟩
    show (∃ m : Nat, _ ∧ _ ∧ Lib.parseUintM 2147483647 0 s = .ok m ∧ Ending.returned (Lib.uintTupleM 174 2147483647 (Lib.parseUintM 2147483647 0 s)) = _) ∨ _ ∧ ∃ n k : Int, _ ∧ Ending.returned (Lib.uintTupleM 174 2147483647 (Lib.parseUintM 2147483647 0 s)) = _
    cases hp : Lib.parseUintM 2147483647 0 s with
    | ok m => exact .inl ⟨m, h0, ((pu_spec s 0 (by omega)).1 m hp).2, rfl, rfl⟩
    | range => exact .inr ⟨.inr (fun m h => by cases h), 2147483647, 1, .inl rfl, rfl⟩
    | _ => exact .inr ⟨.inr (fun m h => by cases h), 0, 2, .inr rfl, rfl⟩
/-- What strconv.ParseUint hands back at base 10 with 31 bits: a number, or an error. -/
def PuR (s : Bytes) (w : World) (e : Ending) (w' : World) : Prop := Below w.heap.size w w' ∧ ((∃ m : Nat, m ≤ 2147483647 ∧ (numB s = if Lib.decDigits m = s then some (m : Int) else none) ∧ e = .returned (.tuple #[.int .u64 (m : Int), .nilIface])) ∨ (numB s = none ∧ ∃ (n : Int) (N : Nat), e = .returned (.tuple #[.int .u64 n, .iface 176 (.pointer (some ⟨N, 0, none⟩))])))
theorem num_nil : numB [] = none := by decide +kernel
set_option maxHeartbeats 1000000 in
set_option maxRecDepth 100000 in
theorem parse10_any (s : Bytes) (w : World) (Hg : Hid (Gl w)) (hl : s.length ≤ 1000000000) : Calls Tryz.prog 123 #[.string ⟨s.toArray⟩, .int .i64 10, .int .i64 31] w (PuR s w) := by
  have Hpu := Lib.hid (pu_any s w hl)
  have Hte : Hid (∀ W (k : Int), Below w.heap.size w W → (k = 1 ∨ k = 2) → Calls Tryz.prog 138 #[.string ⟨#[80, 97, 114, 115, 101, 85, 105, 110, 116]⟩, .string ⟨s.toArray⟩, .int .i64 10, .int .i64 31, .iface 174 (.int .i64 k)] W fun e w' => ∃ N, e = .returned (.iface 176 (.pointer (some ⟨N, 0, none⟩))) ∧ Below W.heap.size W w') := by
    intro W k hb hk
    have hsz : (⟨s.toArray⟩ : ByteArray).size ≤ 281474976710656 := by rw [strBytes_size]; omega
    rcases hk with rfl | rfl
    · obtain ⟨ev, he1, he2⟩ := (Hg.out.below hb).rng
      refine (Tryz.strconv_toError_range ⟨#[80, 97, 114, 115, 101, 85, 105, 110, 116]⟩ ⟨s.toArray⟩ 10 31 ev W hsz he1 he2).mono ?_
      rintro e w' ⟨N, rfl, -, -, h⟩
      exact ⟨N, rfl, h⟩
    · obtain ⟨ev, he1, he2⟩ := (Hg.out.below hb).syn
      refine (Tryz.strconv_toError_syntax ⟨#[80, 97, 114, 115, 101, 85, 105, 110, 116]⟩ ⟨s.toArray⟩ 10 31 ev W hsz he1 he2).mono ?_
      rintro e w' ⟨N, rfl, -, -, h⟩
      exact ⟨N, rfl, h⟩
  go_enter Tryz.func123, Tryz.ntmps123
  go_wp2_with fail
  refine Hpu.out.mono ?_
  rintro e w1 ⟨hb, ⟨m, h0, hm, hp, rfl⟩ | ⟨hbad, n, k, hk, rfl⟩⟩
  · have HB := Lib.hid hb
    have HN := Lib.hid (num_ok hp)
    clear hb hp h0 Hpu Hte
    go_wp2_with fail
    go_ret2
    exact ⟨HB.out, .inl ⟨m, hm, HN.out, rfl⟩⟩
  · have HB := Lib.hid hb
    have HN : Hid (numB s = none) := by
      rcases hbad with rfl | h
      · exact num_nil
      · exact num_bad h
    have HT := Lib.hid (Hte.out w1 k hb hk)
    clear hb hbad Hpu Hte hk
    go_wp2_with fail
    refine HT.out.mono ?_
    rintro e w2 ⟨N, rfl, hb2⟩
    have HB2 := Lib.hid (HB.out.trans (hb2.mono HB.out.size))
    clear hb2
    go_wp2_with fail
    go_ret2
    exact ⟨HB2.out, .inr ⟨HN.out, n, N, rfl⟩⟩

open Go.Sort in
set_option maxHeartbeats 6400000 in
set_option maxRecDepth 100000 in
theorem fmtU_any (u : Nat) (hu : u ≤ 2147483647) (w : World) (Hg : Hid (Gl w)) : Calls Tryz.prog 139 #[.int .u64 (u : Int), .int .i64 10] w fun e w' => e = .returned (.string ⟨(Lib.decDigits u).toArray⟩) ∧ Below w.heap.size w w' := by
  by_cases hs : u < 100
  · have h1 : (u : Int) < 100 := by omega
    have h0 : (0 : Int) ≤ u := by omega
    go_enter Tryz.func139, Tryz.ntmps139
    go_wp2_with (go_at_call 142; refine (Tryz.internal_strconv_small u hs _).mono ?_; rintro e w' ⟨rfl, rfl⟩)
    go_ret
    exact ⟨rfl, Below.refl _ _⟩
  · have h1 : ¬ (u : Int) < 100 := by omega
    have hu1 : 1 ≤ u := by omega
    have hu64 : u < 18446744073709551616 := by omega
    have hnd20 : Lib.nDigits u ≤ 20 := by have := Lib.numDigits_eq u hu1 hu64; split at this <;> omega
    have hal : Tryz.prog.arrayLen 169 = 24 := by kernel_rfl
    have hsl1 : ∀ W, (Instr.sliceAt 169 (.pointer (some ⟨w.heap.size, 0, none⟩)) none (some (.int .i64 (Lib.nDigits u : Int))) none).run Tryz.prog W = .ok (.slice (some ⟨w.heap.size, 0, none⟩) (Lib.nDigits u) 24) W := fun W => by
      rw [run_sliceAt_array_h W 169 ⟨w.heap.size, 0, none⟩ (by simp [Program.arrayLen, Program.elem, Tryz.underlying169]) .i64 (Lib.nDigits u : Int) (by omega) (by rw [hal]; omega)]
      go_simp
    have hH0 : Holds (fun (b : UInt8) => Value.int .u8 (b.toNat : Int)) (w.alloc (.cells Lib.zeros24 169)) w.heap.size 0 (Array.replicate (Lib.nDigits u) 0) := Lib.holds_zero0 w 169 (Lib.nDigits u) (by omega)
    have hfmt := Tryz.internal_strconv_formatBase10 w.heap.size 0 24 u (Array.replicate (Lib.nDigits u) 0) (w.alloc (.cells Lib.zeros24 169)) hH0 (by rw [Array.size_replicate]; exact Lib.lt_pow_nDigits u) hu64 (by rw [Array.size_replicate]; omega)
    rw [Array.size_replicate] at hfmt
    have HH0 := Lib.hid hH0
    have hpow := Hg.out.pow
    clear hH0 hal
    go_enter Tryz.func139, Tryz.ntmps139
    go_wp2_with (go_at_call 143; refine (Tryz.internal_strconv_numDigits u hu1 hu64 _ (Lib.tabIs_alloc hpow _)).mono ?_; rintro e w' ⟨rfl, rfl⟩)
    go_at_call 144
    refine hfmt.mono ?_
    rintro e w' ⟨rfl, k, v', dk, rfl, hF⟩
    have hcv : (convert 38 9 (.slice (some ⟨w.heap.size, 0, none⟩) (Lib.nDigits u) 24)).run Tryz.prog ((putRow (fun (b : UInt8) => Value.int .u8 (b.toNat : Int)) (w.alloc (.cells Lib.zeros24 169)) w.heap.size 0 dk).drewN k) = .ok (.string ⟨(Lib.decDigits u).toArray⟩) ((putRow (fun (b : UInt8) => Value.int .u8 (b.toNat : Int)) (w.alloc (.cells Lib.zeros24 169)) w.heap.size 0 dk).drewN k) := by
      have h := run_convert_bytes_back (P := Tryz.prog) ((putRow (fun (b : UInt8) => Value.int .u8 (b.toNat : Int)) (w.alloc (.cells Lib.zeros24 169)) w.heap.size 0 dk).drewN k) 38 9 5 ⟨w.heap.size, 0, none⟩ 24 (Lib.decDigits u) Tryz.underlying38 Tryz.underlying5 Tryz.underlying9 (fun j hj => by
        rw [Lib.row_is_numeral hF j hj, Lib.add_plain, World.cell?_drewN]
        exact cell?_putRow (fun (b : UInt8) => Value.int .u8 (b.toNat : Int)) _ w.heap.size 0 _ dk HH0.out (by rw [hF.size, Array.size_replicate]) j (by rw [hF.size]; rw [Lib.decDigits_length] at hj; exact hj))
      rw [Lib.decDigits_length] at h
      exact h
    go_wp2
    go_ret
    obtain ⟨os, eo⟩ := Lib.fin_at w (.cells Lib.zeros24 169) dk k 0
    refine ⟨rfl, ?_⟩
    rw [eo]
    exact Lib.below_grow _ w (Nat.le_refl _) k os
set_option maxRecDepth 100000 in
theorem fmt_any (u : Nat) (hu : u ≤ 2147483647) (w : World) (Hg : Hid (Gl w)) : Calls Tryz.prog 125 #[.int .u64 (u : Int), .int .i64 10] w fun e w' => e = .returned (.string ⟨(Lib.decDigits u).toArray⟩) ∧ Below w.heap.size w w' := by
  have Hf := Lib.hid (fmtU_any u hu w Hg)
  go_enter Tryz.func125, Tryz.ntmps125
  go_wp2_with fail
  refine Hf.out.mono ?_
  rintro e w' ⟨rfl, hb⟩
  have HB := Lib.hid hb
  clear hb
  go_wp2_with fail
  go_ret
  exact ⟨rfl, HB.out⟩
end Go.Proofs.YtdfhbnfhkckkbaaGreatDoor
