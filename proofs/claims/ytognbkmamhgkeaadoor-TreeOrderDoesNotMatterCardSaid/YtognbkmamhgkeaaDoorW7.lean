/-
  The walk of math/bits.TrailingZeros16 where its table lies as the library lays it: the lowest bit.
-/
import Derived.Test.YtognbkmamhgkeaaDoorW4
import Derived.Test.YtognbkmamhgkeaaDoorBt
namespace Go.Proofs.YtognbkmamhgkeaaDoor
open Go Go.RowKit Go.Walks

def tabN : List Nat := [0, 1, 28, 2, 29, 14, 24, 3, 30, 22, 20, 15, 25, 17, 4, 8, 31, 27, 13, 23, 21, 19, 16, 7, 26, 12, 18, 6, 11, 5, 10, 9]

/-- The library's table lies in the block of its variable. -/
def Tab (w : World) : Prop := 0 < w.heap.size ∧ ∀ j n, tabN[j]? = some n → w.cell? ⟨0, j, none⟩ = some (.int .u8 (n : Nat))

theorem Tab.below {w w' : World} {B : Nat} (h : Tab w) (hb : Below B w w') (hB : 0 < B) : Tab w' :=
  ⟨Nat.lt_of_lt_of_le h.1 hb.size, fun j n hj => (hb.cell (p := ⟨0, j, none⟩) hB).trans (h.2 j n hj)⟩

theorem neg_and (x i : Nat) (hx : x < 65536) (hl : Low x i) : bits .and .u16 (x : Int) (IntKind.u16.wrap (-(x : Int))) = ((2 ^ i : Nat) : Int) := by
  have hp := low_pos hl
  have e : IntKind.u16.wrap (-(x : Int)) = ((65536 - x : Nat) : Int) := by
    show (-(x : Int)) % 65536 = _
    omega
  rw [e]
  have := bits_nat .u16 16 (by decide) (fun n h0 h1 => by simp [IntKind.wrap, IntKind.bits, IntKind.signed]; omega) x (65536 - x) hx (by omega)
  rw [this.1, low_only hl hx]

theorem tab_at (i : Nat) (hi : i < 16) : tabN[(((2 ^ i : Nat) : Int) % 4294967296 * 125613361 % 4294967296 / 134217728).toNat]? = some i := by
  match i, hi with
  | 0, _ | 1, _ | 2, _ | 3, _ | 4, _ | 5, _ | 6, _ | 7, _ | 8, _ | 9, _ | 10, _ | 11, _ | 12, _ | 13, _ | 14, _ | 15, _ => decide
  | n + 16, h => omega

set_option maxHeartbeats 400000 in
theorem tz_any (x i : Nat) (w : World) (hx : x < 65536) (hl : Low x i) (Ht : Hid (Tab w)) :
    Calls Tryd.prog 45 #[.int .u16 x] w fun e w' => e = .returned (.int .i64 i) ∧ w = w' := by
  have hp := low_pos hl
  have hi := low_lt hl hx
  have hx0 : ((x : Int) == 0) = false := by simp; omega
  have hc : w.cell? ⟨0, (bits BinOp.and IntKind.u16 (↑x) (IntKind.u16.wrap (-↑x)) % 4294967296 * 125613361 % 4294967296 / 134217728).toNat, none⟩ = some (.int .u8 i) := by
    rw [neg_and x i hx hl]
    exact Ht.out.2 _ _ (tab_at i hi)
  clear hl
  go_enter Tryd.func45, Tryd.ntmps45
  go_wp2_with fail
  go_ret
  exact ⟨ret_int (by simp), rfl⟩
end Go.Proofs.YtognbkmamhgkeaaDoor
