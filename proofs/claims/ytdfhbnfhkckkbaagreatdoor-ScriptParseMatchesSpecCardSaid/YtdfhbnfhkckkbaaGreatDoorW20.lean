/-
  The walks of strconv.ParseUint at base 16 with two digits, of its callers, and of strconv.FormatUint at base 10.
-/
import Derived.Test.YtdfhbnfhkckkbaaGreatDoorW19
import Derived.Lib.ItoaWalk
namespace Go.Proofs.YtdfhbnfhkckkbaaGreatDoor
open Go Go.RowKit Go.Walks

/-- The value of a hexadecimal digit, step by step. -/
def lowN (c : UInt8) : Nat := c.toNat ||| 32
theorem low_bits (c : UInt8) : bits .or .u8 (c.toNat : Int) 32 = (lowN c : Int) := by
  have : ∀ i : Fin 256, bits .or .u8 (((UInt8.ofNat i.val).toNat : Nat) : Int) 32 = ((lowN (UInt8.ofNat i.val) : Nat) : Int) := by decide +kernel
  have h := this ⟨c.toNat, c.toNat_lt⟩
  simpa using h
theorem hex_cases : ∀ i : Fin 256, (48 ≤ i.val ∧ i.val ≤ 57 ∧ hex1 (UInt8.ofNat i.val) = some (i.val - 48)) ∨
    (¬ (48 ≤ i.val ∧ i.val ≤ 57) ∧ 97 ≤ lowN (UInt8.ofNat i.val) ∧ lowN (UInt8.ofNat i.val) ≤ 102 ∧ hex1 (UInt8.ofNat i.val) = some (lowN (UInt8.ofNat i.val) - 87)) ∨
    (¬ (48 ≤ i.val ∧ i.val ≤ 57) ∧ 103 ≤ lowN (UInt8.ofNat i.val) ∧ lowN (UInt8.ofNat i.val) ≤ 122 ∧ hex1 (UInt8.ofNat i.val) = none) ∨
    (¬ (48 ≤ i.val ∧ i.val ≤ 57) ∧ ¬ (97 ≤ lowN (UInt8.ofNat i.val) ∧ lowN (UInt8.ofNat i.val) ≤ 122) ∧ hex1 (UInt8.ofNat i.val) = none) := by decide +kernel
theorem hex_case (c : UInt8) : (48 ≤ c.toNat ∧ c.toNat ≤ 57 ∧ hex1 c = some (c.toNat - 48)) ∨
    (¬ (48 ≤ c.toNat ∧ c.toNat ≤ 57) ∧ 97 ≤ lowN c ∧ lowN c ≤ 102 ∧ hex1 c = some (lowN c - 87)) ∨
    (¬ (48 ≤ c.toNat ∧ c.toNat ≤ 57) ∧ 103 ≤ lowN c ∧ lowN c ≤ 122 ∧ hex1 c = none) ∨
    (¬ (48 ≤ c.toNat ∧ c.toNat ≤ 57) ∧ ¬ (97 ≤ lowN c ∧ lowN c ≤ 122) ∧ hex1 c = none) := by
  have h := hex_cases ⟨c.toNat, c.toNat_lt⟩
  simpa using h
theorem lower_any (c : UInt8) (w : World) : Calls Tryz.prog 147 #[.int .u8 (c.toNat : Int)] w fun e w' => e = .returned (.int .u8 (lowN c : Int)) ∧ w' = w := by
  have := Tryz.internal_strconv_lower (c.toNat : Int) w
  rw [low_bits] at this
  exact this
theorem low95 {c : UInt8} (h : 103 ≤ lowN c ∧ lowN c ≤ 122) : c.toNat ≠ 95 := fun e => by
  have : lowN c = 127 := by unfold lowN; rw [e]; rfl
  omega
theorem lowN_lt (c : UInt8) : lowN c < 256 := by
  unfold lowN
  exact Nat.or_lt_two_pow (n := 8) c.toNat_lt (by decide)
/-- The value so far. -/
def hexS (a b : UInt8) : Nat → Option Nat
  | 0 => some 0
  | 1 => hex1 a
  | _ => match hex1 a, hex1 b with
    | some x, some y => some (x * 16 + y)
    | _, _ => none
def hexR : Option Nat → Value
  | some n => .tuple #[.int .u64 (n : Int), .nilIface]
  | none => .tuple #[.int .u64 0, .iface 174 (.int .i64 2)]
theorem hex1_lt {c : UInt8} {n : Nat} (h : hex1 c = some n) : n < 16 := by
  unfold hex1 at h
  split at h
  · injection h with h; omega
  · split at h
    · injection h with h; omega
    · split at h
      · injection h with h; omega
      · cases h
theorem hex_next {a b c : UInt8} {k acc : Nat} (hc : [a, b][k]? = some c) (hk : k < 2) (hh : hexS a b k = some acc) : (hex1 c = none → hexS a b 2 = none) ∧ ∀ n, hex1 c = some n → hexS a b (k + 1) = some (acc * 16 + n) ∧ acc * 16 + n < 16 ^ (k + 1) := by
  match k, hk with
  | 0, _ =>
    obtain rfl : a = c := by simpa using hc
    have e0 : 0 = acc := by simpa [hexS] using hh
    subst e0
    exact ⟨fun h => by simp [hexS, h], fun n h => ⟨by show hex1 a = _; rw [h]; simp, by have := hex1_lt h; simpa using this⟩⟩
  | 1, _ =>
    obtain rfl : b = c := by simpa using hc
    have e0 : hex1 a = some acc := hh
    refine ⟨fun h => ?_, fun n h => ⟨?_, ?_⟩⟩
    · show hexS a b 2 = none; unfold hexS; rw [h, e0]; rfl
    · show hexS a b 2 = _; unfold hexS; rw [e0, h]; rfl
    · have h1 := hex1_lt h
      have h2 := hex1_lt e0
      have h3 : (16 : Nat) ^ (1 + 1) = 256 := rfl
      omega

set_option maxHeartbeats 32000000 in
set_option maxRecDepth 100000 in
theorem pu16_any (a b : UInt8) (w : World) : Calls Tryz.prog 137 #[.string ⟨#[a, b]⟩, .int .i64 16, .int .i64 8] w fun e w' => e = .returned (hexR (hexS a b 2)) ∧ w' = Lib.bytesWorld w 5 ⟨#[a, b]⟩ := by
  have hemp : (⟨#[a, b]⟩ : ByteArray).toList.isEmpty = false := by
    rw [← decide_eq_emptyBytes]
    exact decide_eq_false (fun h => by have := congrArg ByteArray.size h; simp [ByteArray.size] at this)
  have hcv := Lib.run_convert_string_bytes (P := Tryz.prog) w 9 38 5 ⟨#[a, b]⟩ Tryz.underlying9 Tryz.underlying38 Tryz.underlying5
  have hB : ∀ j c, [a, b][j]? = some c → (Lib.bytesWorld w 5 ⟨#[a, b]⟩).cell? ⟨w.heap.size, j, none⟩ = some (.int .u8 (c.toNat : Int)) := fun j c hj => by
    have h := (List.getElem?_eq_some_iff.1 hj).1
    have := Lib.bytesWorld_cell w 5 ⟨#[a, b]⟩ j h
    rw [this]
    show some (Value.int .u8 (([a, b].getD j 0).toNat : Int)) = _
    rw [List.getD, hj]; rfl
  have hsz : (⟨#[a, b]⟩ : ByteArray).size = 2 := rfl
  obtain ⟨t, ht⟩ : ∃ t : ByteArray, t = ⟨#[a, b]⟩ := ⟨_, rfl⟩
  rw [← ht] at hcv hB hsz hemp ⊢
  obtain ⟨W1, hW1⟩ : ∃ W1, W1 = Lib.bytesWorld w 5 t := ⟨_, rfl⟩
  rw [← hW1] at hcv hB ⊢
  rw [hsz] at hcv
  have HB := Lib.hid hB
  have hmv : IntKind.u64.wrap (IntKind.u64.wrap 256 - 1) = 255 := by
    rw [IntKind.wrap_u64, IntKind.wrap_u64]
    decide
  clear hW1 ht hB hsz
  go_enter Tryz.func137, Tryz.ntmps137
  go_wp2
  go_loop [12, 13, 101] (fun vu vn vi => ∃ (k acc : Nat) (v : Int), vu = .bool false ∧ vn = .int .u64 v ∧ vi = .int .i64 (k : Int) ∧ k ≤ 2 ∧ Hid (v = (acc : Int) ∧ acc < 16 ^ k ∧ hexS a b k = some acc))
    (fun _ _ vi => 2 - (intOf vi).toNat)
  case atStart => exact ⟨0, 0, 0, rfl, rfl, rfl, by omega, rfl, by decide, rfl⟩
  case round =>
    obtain ⟨k, acc, v, rfl, rfl, rfl, hk, hh⟩ := hrel
    by_cases hkn : k < 2
    · have hacc' : acc < 16 := by
        have hacc := hh.out.2.1
        rcases Nat.lt_or_ge k 1 with h | h
        · obtain rfl : k = 0 := by omega
          have : (16 : Nat) ^ 0 = 1 := rfl
          omega
        · obtain rfl : k = 1 := by omega
          have : (16 : Nat) ^ 1 = 16 := rfl
          omega
      obtain ⟨c, hc⟩ : ∃ c, [a, b][k]? = some c := ⟨_, List.getElem?_eq_getElem (by simpa using hkn)⟩
      have hcell := HB.out k c hc
      obtain ⟨hnone, hsome⟩ := hex_next hc hkn hh.out.2.2
      have Hnone := Lib.hid hnone
      have Hsome := Lib.hid hsome
      have hc256 : c.toNat < 256 := c.toNat_lt
      have hi1 : (k : Int) < 2 := by omega
      have ha0 : 0 ≤ v := by have := hh.out.1; omega
      have ha1 : v < 16 := by have := hh.out.1; omega
      have HV : Hid (v = (acc : Int)) := hh.out.1
      clear hnone hsome hc hacc' hh
      rcases hex_case c with ⟨h1, h2, h3⟩ | ⟨h1, h2, h3, h4⟩ | ⟨h1, h2, h3, h4⟩ | ⟨h1, h2, h3⟩
      · have HS := Lib.hid (Hsome.out _ h3)
        have j1 : (48 : Int) ≤ (c.toNat : Int) := by omega
        have j2 : (c.toNat : Int) ≤ 57 := by omega
        have iov : v * 16 + ((c.toNat : Int) - 48) ≤ 255 := by omega
        clear h3 Hnone Hsome
        go_wp2
        refine ⟨⟨k + 1, acc * 16 + (c.toNat - 48), v * 16 + ((c.toNat : Int) - 48), rfl, (by first | rfl | (congr 1; omega)), (by first | rfl | (congr 1; omega)), by omega, by have := HV.out; show _ ∧ _; exact ⟨by omega, HS.out.2, HS.out.1⟩⟩, by simp [intOf]; omega⟩
      · have HS := Lib.hid (Hsome.out _ h4)
        have hlow := fun W => lower_any c W
        have h95 : c.toNat ≠ 95 := fun e => by
          have : lowN c = 127 := by unfold lowN; rw [e]; rfl
          omega
        obtain ⟨lo, hlo⟩ : ∃ n, n = lowN c := ⟨_, rfl⟩
        rw [← hlo] at hlow h2 h3 HS
        obtain ⟨li, hli⟩ : ∃ x : Int, x = (lo : Int) := ⟨_, rfl⟩
        rw [← hli] at hlow
        have HLi := Lib.hid hli
        have Hlow := Lib.hid hlow
        have j1 : 97 ≤ li := by omega
        have j2 : li ≤ 102 := by omega
        have j3 : ¬ (48 ≤ c.toNat ∧ c.toNat ≤ 57) := h1
        have iov : v * 16 + (li - 87) ≤ 255 := by omega
        have q95 : ((c.toNat : Int) == 95) = false := bne_int (by omega)
        clear h4 Hnone Hsome hlo hlow hli h95
        go_wp2_with (go_at_call 147; refine (Hlow.out _).mono ?_; rintro e w' ⟨rfl, rfl⟩)
        all_goals refine ⟨⟨k + 1, acc * 16 + (lo - 87), v * 16 + (li - 97 + 10), rfl, (by first | rfl | (congr 1; omega)), (by first | rfl | (congr 1; omega)), by omega, by have := HV.out; have := HLi.out; show _ ∧ _; exact ⟨by omega, HS.out.2, HS.out.1⟩⟩, by simp [intOf]; omega⟩
      · have hn := Hnone.out h4
        have Hn := Lib.hid hn
        have hlow := fun W => lower_any c W
        have h95 := low95 (c := c) (by omega)
        obtain ⟨lo, hlo⟩ : ∃ n, n = lowN c := ⟨_, rfl⟩
        rw [← hlo] at hlow h2 h3
        obtain ⟨li, hli⟩ : ∃ x : Int, x = (lo : Int) := ⟨_, rfl⟩
        rw [← hli] at hlow
        have Hlow := Lib.hid hlow
        have j1 : 103 ≤ li := by omega
        have j2 : li ≤ 122 := by omega
        have j3 : ¬ (48 ≤ c.toNat ∧ c.toNat ≤ 57) := h1
        have q95 : ((c.toNat : Int) == 95) = false := bne_int (by omega)
        clear h4 Hnone Hsome hlo hlow hli hn h95
        go_wp2_with (go_at_call 147; refine (Hlow.out _).mono ?_; rintro e w' ⟨rfl, rfl⟩)
        all_goals go_ret2
        all_goals exact ⟨by rw [Hn.out]; rfl, rfl⟩
      · have hn := Hnone.out h3
        have Hn := Lib.hid hn
        by_cases h95 : c.toNat = 95
        · have hlow : ∀ W, Calls Tryz.prog 147 #[.int .u8 95] W fun e w' => e = .returned (.int .u8 127) ∧ w' = W := fun W => by
            have := lower_any 95 W
            exact this
          have Hlow := Lib.hid hlow
          rw [h95] at hcell
          clear h3 Hnone Hsome hlow hn
          go_wp2_with (go_at_call 147; refine (Hlow.out _).mono ?_; rintro e w' ⟨rfl, rfl⟩)
          all_goals go_ret2
          all_goals exact ⟨by rw [Hn.out]; rfl, rfl⟩
        · have hlow := fun W => lower_any c W
          have hl256 : lowN c < 256 := by have := lowN_lt c; omega
          obtain ⟨lo, hlo⟩ : ∃ n, n = lowN c := ⟨_, rfl⟩
          rw [← hlo] at hlow h2 hl256
          obtain ⟨li, hli⟩ : ∃ x : Int, x = (lo : Int) := ⟨_, rfl⟩
          rw [← hli] at hlow
          have Hlow := Lib.hid hlow
          have j0 : 0 ≤ li := by omega
          have j4 : li < 256 := by omega
          have j3 : ¬ (48 ≤ c.toNat ∧ c.toNat ≤ 57) := h1
          have q95 : ((c.toNat : Int) == 95) = false := bne_int (by omega)
          by_cases j1 : 97 ≤ li
          · have j2 : ¬ li ≤ 122 := by omega
            clear h3 Hnone Hsome hlo hlow hli hn h95 h2
            go_wp2_with (go_at_call 147; refine (Hlow.out _).mono ?_; rintro e w' ⟨rfl, rfl⟩)
            all_goals go_ret2
            all_goals exact ⟨by rw [Hn.out]; rfl, rfl⟩
          · clear h3 Hnone Hsome hlo hlow hli hn h95 h2
            go_wp2_with (go_at_call 147; refine (Hlow.out _).mono ?_; rintro e w' ⟨rfl, rfl⟩)
            all_goals go_ret2
            all_goals exact ⟨by rw [Hn.out]; rfl, rfl⟩
    · have hke : k = 2 := by omega
      subst hke
      have HH := Lib.hid hh.out.2.2
      have HV : Hid (v = (acc : Int)) := hh.out.1
      clear hh
      go_wp2
      go_ret2
      exact ⟨by rw [HH.out, HV.out]; rfl, rfl⟩
theorem hexV_hexS (a b : UInt8) : (match hexS a b 2 with | some n => (n : Int) | none => 0) = ((hexV a b).toNat : Int) := by
  unfold hexV
  show (match (match hex1 a, hex1 b with | some x, some y => some (x * 16 + y) | _, _ => none) with | some n => (n : Int) | none => 0) = _
  cases h1 : hex1 a with
  | none => rfl
  | some x =>
    cases h2 : hex1 b with
    | none => rfl
    | some y =>
      have := hex1_lt h1
      have := hex1_lt h2
      rw [UInt8.toNat_ofNat']
      show ((x * 16 + y : Nat) : Int) = (((16 * x + y) % 2 ^ 8 : Nat) : Int)
      congr 1
      omega
def ErrV (ev : Value) : Prop := ev = .nilIface ∨ ∃ N, ev = .iface 176 (.pointer (some ⟨N, 0, none⟩))
set_option maxHeartbeats 1000000 in
set_option maxRecDepth 100000 in
theorem parse16_any (a b : UInt8) (w : World) (Hg : Hid (Gl w)) : Calls Tryz.prog 123 #[.string ⟨#[a, b]⟩, .int .i64 16, .int .i64 8] w fun e w' => Below w.heap.size w w' ∧ ∃ ev, e = .returned (.tuple #[.int .u64 ((hexV a b).toNat : Int), ev]) := by
  have hv := hexV_hexS a b
  have hb := Lib.bytesWorld_below w 5 ⟨#[a, b]⟩
  have hpu := pu16_any a b w
  cases hh : hexS a b 2 with
  | some n =>
    rw [hh] at hv hpu
    dsimp only at hv
    rw [hexR, hv] at hpu
    have Hpu := Lib.hid hpu
    have Hb := Lib.hid hb
    clear hv hpu hb hh
    go_enter Tryz.func123, Tryz.ntmps123
    go_wp2_with fail
    refine Hpu.out.mono ?_
    rintro e w1 ⟨rfl, hw⟩
    have hw1 := hw.symm
    subst hw1
    go_wp2_with fail
    go_ret2
    exact ⟨Hb.out, _, rfl⟩
  | none =>
    rw [hh] at hv hpu
    dsimp only at hv
    rw [hexR] at hpu
    obtain ⟨ev, he1, he2⟩ := (Hg.out.below hb).syn
    have hte := Tryz.strconv_toError_syntax ⟨#[80, 97, 114, 115, 101, 85, 105, 110, 116]⟩ ⟨#[a, b]⟩ 16 8 ev (Lib.bytesWorld w 5 ⟨#[a, b]⟩) (by show (2 : Nat) ≤ _; decide) he1 he2
    obtain ⟨W1, hW1⟩ : ∃ W, W = Lib.bytesWorld w 5 ⟨#[a, b]⟩ := ⟨_, rfl⟩
    rw [← hW1] at hte hpu hb
    have Hte := Lib.hid hte
    have Hpu := Lib.hid hpu
    have Hb := Lib.hid hb
    have Hv := Lib.hid hv
    clear hte hpu hb hv hh hW1 he1 he2
    go_enter Tryz.func123, Tryz.ntmps123
    go_wp2_with fail
    refine Hpu.out.mono ?_
    rintro e w1 ⟨rfl, hw⟩
    have hw1 := hw.symm
    subst hw1
    go_wp2_with fail
    refine Hte.out.mono ?_
    rintro e w2 ⟨N, rfl, -, -, hb2⟩
    have HB2 := Lib.hid (Hb.out.trans (hb2.mono Hb.out.size))
    clear hb2
    go_wp2_with fail
    go_ret2
    exact ⟨HB2.out, .iface 176 (.pointer (some ⟨N, 0, none⟩)), by rw [← Hv.out]; rfl⟩
end Go.Proofs.YtdfhbnfhkckkbaaGreatDoor
