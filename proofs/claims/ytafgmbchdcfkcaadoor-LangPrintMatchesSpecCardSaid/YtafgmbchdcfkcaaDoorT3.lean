/-
  The walk of the reference's Number: the decimal digits of a number that is not negative.
-/
import Derived.Test.YtafgmbchdcfkcaaDoorS8
import Derived.Laws.BytesArg
namespace Go.Proofs.YtafgmbchdcfkcaaDoor
open Go Go.RowKit Go.Walks

def digU (n : Nat) : UInt8 := UInt8.ofNat (48 + n % 10)
theorem digit_str (n : Nat) (w : World) : (convert 39 9 (.slice (some ⟨w.heap.size, 0, none⟩) 1 1)).run Tryd.prog (w.alloc (.cells #[.int .u8 (48 + (n : Int) % 10)] 5)) = .ok (.string ⟨#[digU n]⟩) (w.alloc (.cells #[.int .u8 (48 + (n : Int) % 10)] 5)) := by
  have h := run_convert_bytes_arg (P := Tryd.prog) (w.alloc (.cells #[.int .u8 (48 + (n : Int) % 10)] 5)) 39 5 (by kernel_rfl) (by kernel_rfl) w.heap.size 0 1 1 [48 + (n : Int) % 10] rfl (fun i hi => by
    have : i = 0 := by omega
    subst this
    have e : (w.alloc (.cells #[.int .u8 (48 + (n : Int) % 10)] 5)).heap[w.heap.size]? = some (.cells #[.int .u8 (48 + (n : Int) % 10)] 5) := by
      show (w.heap.push _)[w.heap.size]? = _
      simp
    unfold World.cell?
    dsimp only
    rw [Nat.zero_add, e]
    rfl) 9 (by kernel_rfl)
  rw [h]
  show Result.ok (Value.string ⟨#[UInt8.ofNat (48 + (n : Int) % 10).toNat]⟩) _ = _
  unfold digU
  rw [show (48 + (n : Int) % 10).toNat = 48 + n % 10 by omega]

set_option maxRecDepth 100000 in
set_option maxHeartbeats 2000000 in
theorem decR_any (n : Nat) : ∀ (w : World), n ≤ 9223372036854775807 → Calls Tryd.prog 31 #[.int .i64 (n : Int)] w fun e w' => e = .returned (strV (Lib.decDigits n)) ∧ Below w.heap.size w w' := by
  induction n using Nat.strongRecOn with
  | _ n ih =>
    intro w hn
    have hdg := digit_str n w
    by_cases hs : n < 10
    · have q : (n : Int) < 10 := by omega
      have Hr : Hid (Lib.decDigits n = [digU n]) := by show _ = _; unfold digU; rw [Lib.decDigits_one hs, Nat.mod_eq_of_lt hs]
      have hb := Lib.hid ((Below.refl w.heap.size w).alloc (Nat.le_refl _) (.cells #[.int .u8 (48 + (n : Int) % 10)] 5))
      clear ih
      go_enter Tryd.func31, Tryd.ntmps31
      go_wp2_with (rw [hdg])
      go_ret
      exact ⟨by rw [Hr.out] <;> rfl, hb.out⟩
    · have q : ¬ (n : Int) < 10 := by omega
      have ih1 := Lib.hid (ih (n / 10) (by omega) (w.alloc (.cells #[.int .u8 (48 + (n : Int) % 10)] 5)) (by omega))
      have hb := Lib.hid ((Below.refl w.heap.size w).alloc (Nat.le_refl _) (.cells #[.int .u8 (48 + (n : Int) % 10)] 5))
      have Hr : (⟨(Lib.decDigits (n / 10)).toArray⟩ : ByteArray) ++ ⟨#[digU n]⟩ = ⟨(Lib.decDigits n).toArray⟩ := by
        have h : Lib.decDigits n = Lib.decDigits (n / 10) ++ [digU n] := by
          unfold digU
          conv => lhs; rw [Lib.decDigits, dif_neg hs]
        rw [h]; exact cat_eq _ [_]
      have hz : ¬ 9223372036854775807 < (Lib.decDigits (n / 10)).length + 1 := by
        have h1 := itoa_len ((n / 10 : Nat) : Int) (by omega) (by omega)
        rw [Lib.itoa_nonneg] at h1
        omega
      clear ih
      go_enter Tryd.func31, Tryd.ntmps31
      go_wp2_with (rw [hdg])
      refine ih1.out.mono ?_
      rintro e w1 ⟨rfl, hb1⟩
      have HB1 := Lib.hid (hb.out.trans (hb1.mono hb.out.size))
      clear hb1 ih1
      go_wp2_with fail
      go_ret
      exact ⟨rfl, HB1.out⟩
end Go.Proofs.YtafgmbchdcfkcaaDoor
