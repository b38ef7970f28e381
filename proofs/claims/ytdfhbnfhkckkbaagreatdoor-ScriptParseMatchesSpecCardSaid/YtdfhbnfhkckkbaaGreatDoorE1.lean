/-
  The examples of the law's package, in plain words. No program is run here.
-/
import Derived.Test.YtdfhbnfhkckkbaaGreatDoorA4
namespace Go.Proofs.YtdfhbnfhkckkbaaGreatDoor
open Go

def exS : ScriptD := ⟨[6, 2, 9, 1, 20, 30], [[97, 34, 98]], [⟨1, [0]⟩, ⟨19, []⟩]⟩
def exT : Bytes := [97, 114, 114, 97, 121, 32, 54, 32, 50, 32, 57, 32, 49, 32, 50, 48, 32, 51, 48, 10, 116, 101, 120, 116, 32, 34, 97, 92, 34, 98, 34, 10, 99, 111, 100, 101, 32, 48, 10, 109, 111, 117, 110, 116, 10]
def badT : Bytes := [97, 114, 114, 97, 121, 32, 54, 32, 50, 32, 57, 32, 49, 32, 50, 48, 32, 51, 48, 10, 107, 101, 101, 112, 32, 48, 55, 10]
def badS : ScriptD := ⟨[0, 0, 0, 0, 0, 0], [], [⟨16, []⟩, ⟨1, [0]⟩]⟩
theorem ex_check : checkB exS = (0, 0) := by decide +kernel
theorem ex_text : printT exS = exT := by decide +kernel
theorem ex_print : printB exS = (exT, 0) := by decide +kernel
theorem ex_parse : parseB exT = .ok exS := by
  have h := parse_print (s := exS) rfl (check_ok.1 (by rw [ex_check])) (by rw [ex_text]; decide)
  rw [ex_text] at h
  exact h
theorem bad_cut : cutL badT = ([wordsB arrayW [6, 2, 9, 1, 20, 30], [107, 101, 101, 112, 32, 48, 55]], []) := by decide +kernel
theorem bad_fields : fieldsB [107, 101, 101, 112, 32, 48, 55] = none := by decide +kernel
theorem bad_parse : parseB badT = .error (1, 3) := by
  unfold parseB
  rw [if_neg (by decide), bad_cut]
  dsimp only
  rw [linesB, array_line rfl (by decide)]
  dsimp only
  rw [linesB]
  have : lineB ⟨[6, 2, 9, 1, 20, 30], [], []⟩ (0 + 1) [107, 101, 101, 112, 32, 48, 55] = none := by
    unfold lineB
    rw [if_neg (by decide), bad_fields]
  rw [this]
theorem ex_encode : encodeB exS = (encT exS, 0) := by unfold encodeB; rw [ex_check]; rfl
theorem ex_decode : decodeB (encT exS) = .ok exS := decode_enc rfl (check_ok.1 (by rw [ex_check]))
theorem bad_check : checkB badS = (1, 1) := by decide +kernel
theorem name_8 : nameB 8 = [116, 119, 105, 110] := by decide +kernel
theorem arity_19 : arityB 19 = 64 := by decide +kernel
theorem arity_28 : arityB 28 = -1 := by decide +kernel
theorem unit_1 : unitB 1 = [0, 0, 0, 0, 0, 0, 0, 1, 0, 0, 0, 0, 0, 0, 0, 1, 0, 0, 0, 0, 0, 0, 0, 1, 0, 0, 0, 0, 0, 0, 0, 1] := by decide +kernel
end Go.Proofs.YtdfhbnfhkckkbaaGreatDoor
