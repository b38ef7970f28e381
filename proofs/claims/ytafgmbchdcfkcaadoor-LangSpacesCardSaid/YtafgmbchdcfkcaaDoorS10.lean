/-
  The examples that every statement plays first, in plain words. No program is run here.
  The walk of sanity: the examples are as they should be.
-/
import Derived.Test.YtafgmbchdcfkcaaDoorS8
import Derived.Test.YtafgmbchdcfkcaaDoorW14
import Derived.Test.YtafgmbchdcfkcaaDoorS3
import Derived.Test.YtafgmbchdcfkcaaDoorS6
import Derived.Deep.DeepCutAuto
namespace Go.Proofs.YtafgmbchdcfkcaaDoor
open Go Go.RowKit Go.Walks

def exC : Code := ⟨[97], 8, 3, [[1, 0, 7]], 2⟩
def exD : Code := ⟨[98], 8, 1, [[9]], 2⟩
def exT : Bytes := [99, 111, 100, 101, 32, 97, 32, 123, 10, 9, 102, 105, 101, 108, 100, 32, 56, 59, 10, 9, 100, 97, 116, 97, 32, 51, 59, 10, 9, 108, 111, 99, 97, 108, 32, 48, 32, 50, 58, 32, 49, 32, 55, 59, 10, 9, 100, 111, 109, 97, 105, 110, 32, 50, 59, 10, 125, 10]
def exA : Bytes := [99, 111, 100, 101, 32, 97, 32, 123, 32, 102, 105, 101, 108, 100, 32, 56, 59, 32, 100, 97, 116, 97, 32, 50, 59, 32, 112, 97, 114, 105, 116, 121, 32, 49, 59, 32, 125]
def exB : Bytes := [99, 111, 100, 101, 32, 97, 32, 123]
def exE : Bytes := [99, 111, 100, 101, 32, 98, 32, 123, 32, 102, 105, 101, 108, 100, 32, 56, 59, 32, 100, 97, 116, 97, 32, 49, 59, 32, 112, 97, 114, 105, 116, 121, 32, 57, 59, 32, 125]
theorem ex_parse : parseB true exT = .ok [exC] := by kernel_rfl
theorem ex_a : parseB true exA = .bad 26 1 := by kernel_rfl
theorem ex_b : parseB true exB = .bad 8 3 := by kernel_rfl
theorem ex_all : parseB false (exT ++ exE) = .ok [exC, exD] := by kernel_rfl
theorem ex_two : parseB false (exT ++ exT) = .bad 63 4 := by kernel_rfl
theorem ex_check : checkB exC = 0 := by kernel_rfl
theorem ex_check0 : checkB ⟨[], 0, 0, [], 0⟩ = 4 := by kernel_rfl
theorem ex_same : sameB exC ⟨[], 0, 0, [], 0⟩ = false := by kernel_rfl
theorem itoa_one (i : Nat) (h : i < 10) : Lib.itoa (i : Int) = [UInt8.ofNat (48 + i)] := by
  unfold Lib.itoa
  rw [if_neg (by omega)]
  exact Lib.decDigits_one h
theorem ex_print : printT exC = exT := by
  have e0 : Lib.itoa 0 = [48] := itoa_one 0 (by omega)
  have e1 : Lib.itoa 1 = [49] := itoa_one 1 (by omega)
  have e2 : Lib.itoa 2 = [50] := itoa_one 2 (by omega)
  have e3 : Lib.itoa 3 = [51] := itoa_one 3 (by omega)
  have e7 : Lib.itoa 7 = [55] := itoa_one 7 (by omega)
  have e8 : Lib.itoa 8 = [56] := itoa_one 8 (by omega)
  simp [printT, exC, headTxt, lineTx, fieldTx, dataTx, domTx, rowsTx, rowTx, idxB, coefTx, e0, e1, e2, e3, e7, e8, exT, kLocal]
theorem ex_printB : printB exC = (exT, 0) := by
  unfold printB
  rw [if_neg (fun h => h ex_check), ex_print]
  rfl
end Go.Proofs.YtafgmbchdcfkcaaDoor
namespace Go.Proofs.YtafgmbchdcfkcaaDoor
open Go Go.RowKit Go.Walks

/-- A code's block and what it holds. -/
structure CB (W : World) (g : Nat) (C : Code) (A : Option Addr) (c : Nat) : Prop where
  row : W.heap[g]? = some (.cells (codeV C A c) 24)
  code : CodeS W C (codeV C A c).toList
theorem CB.below {W W' : World} {g : Nat} {C : Code} {A : Option Addr} {c : Nat} (h : CB W g C A c) (hb : Below W.heap.size W W') : CB W' g C A c := ⟨below_cells h.row hb, h.code.below hb⟩
theorem ex_start (w : World) : ∀ W, W = ((w.alloc (.cells #[.int .i64 1, .int .i64 0, .int .i64 7] 3)).alloc (.cells #[.slice (some ⟨w.heap.size, 0, none⟩) 3 3] 61)).alloc (.cells (codeV exC (some ⟨w.heap.size + 1, 0, none⟩) 1) 24) → Below w.heap.size w W ∧ CB W (w.heap.size + 2) exC (some ⟨w.heap.size + 1, 0, none⟩) 1 := by
  rintro W rfl
  have h0 := heap_new w (.cells #[.int .i64 1, .int .i64 0, .int .i64 7] 3)
  have h1 := heap_new (w.alloc (.cells #[.int .i64 1, .int .i64 0, .int .i64 7] 3)) (.cells #[.slice (some ⟨w.heap.size, 0, none⟩) 3 3] 61)
  rw [World.size_alloc] at h1
  have h2 := heap_new ((w.alloc (.cells #[.int .i64 1, .int .i64 0, .int .i64 7] 3)).alloc (.cells #[.slice (some ⟨w.heap.size, 0, none⟩) 3 3] 61)) (.cells (codeV exC (some ⟨w.heap.size + 1, 0, none⟩) 1) 24)
  rw [World.size_alloc, World.size_alloc] at h2
  have h0' := (Below.heap_alloc _ (.cells (codeV exC (some ⟨w.heap.size + 1, 0, none⟩) 1) 24) _ (by simp <;> omega : w.heap.size < ((w.alloc (.cells #[.int .i64 1, .int .i64 0, .int .i64 7] 3)).alloc (.cells #[.slice (some ⟨w.heap.size, 0, none⟩) 3 3] 61)).heap.size)).trans ((Below.heap_alloc _ (.cells #[.slice (some ⟨w.heap.size, 0, none⟩) 3 3] 61) _ (by simp : w.heap.size < (w.alloc (.cells #[.int .i64 1, .int .i64 0, .int .i64 7] 3)).heap.size)).trans h0)
  have h1' := (Below.heap_alloc _ (.cells (codeV exC (some ⟨w.heap.size + 1, 0, none⟩) 1) 24) _ (by simp : w.heap.size + 1 < ((w.alloc (.cells #[.int .i64 1, .int .i64 0, .int .i64 7] 3)).alloc (.cells #[.slice (some ⟨w.heap.size, 0, none⟩) 3 3] 61)).heap.size)).trans h1
  refine ⟨(((Below.refl _ _).alloc (Nat.le_refl _) _).alloc (by simp) _).alloc (by simp <;> omega) _, h2, ?_⟩
  refine ⟨some ⟨w.heap.size + 1, 0, none⟩, 1, [.slice (some ⟨w.heap.size, 0, none⟩) 3 3], rfl, ?_, ?_⟩
  · refine .inr ⟨w.heap.size + 1, 0, rfl, by simp <;> omega, fun j u hu => ?_⟩
    rw [Nat.zero_add]
    exact (cell_at h1' j (by simpa using hu)).1
  · refine ⟨some ⟨w.heap.size, 0, none⟩, 3, [], rfl, ?_, rfl⟩
    refine .inr ⟨w.heap.size, 0, rfl, by simp <;> omega, fun j u hu => ?_⟩
    rw [Nat.zero_add]
    exact (cell_at h0' j (by simpa [exC, intC] using hu)).1
theorem parse_ex {W : World} (hg : Gl W) : Calls Tryd.prog 18 #[.string ⟨exT.toArray⟩] W fun e w' => Below W.heap.size W w' ∧ ∃ A c, e = .returned (.tuple #[.agg #[strV [97], .int .i64 8, .int .i64 3, .slice A 1 c, .int .i64 2], .int .i64 0, .int .i64 0]) ∧ CodeS w' exC (codeV exC A c).toList := by
  refine (parseOne_any ⟨exT.toArray⟩ W hg).mono ?_
  intro e w' h
  have hp : parseB true (⟨exT.toArray⟩ : ByteArray).data.toList = .ok [exC] := ex_parse
  rw [hp] at h
  obtain ⟨hb, C, cs, h1, rfl, hC⟩ := h
  injection h1 with h1 _
  subst h1
  obtain ⟨A, c, mc, e1, h2, h3⟩ := id hC.s
  have hcs : cs = codeV exC A c := by rw [← Array.toList_inj]; exact e1
  subst hcs
  exact ⟨hb, A, c, rfl, hC.s⟩
theorem parse_exBad {W : World} (hg : Gl W) {s : Bytes} {p en : Nat} (h : parseB true s = .bad p en) : Calls Tryd.prog 18 #[.string ⟨s.toArray⟩] W fun e w' => Below W.heap.size W w' ∧ e = .returned (.tuple #[.agg z5, .int .i64 (p : Int), .int .i64 (en : Int)]) := by
  refine (parseOne_any ⟨s.toArray⟩ W hg).mono ?_
  intro e w' h'
  have hp : parseB true (⟨s.toArray⟩ : ByteArray).data.toList = .bad p en := by rw [← h]
  rw [hp] at h'
  exact h'
theorem all_ex {W : World} (hg : Gl W) : Calls Tryd.prog 20 #[.string (⟨exT.toArray⟩ ++ ⟨exE.toArray⟩)] W fun e w' => Below W.heap.size W w' ∧ ∃ b o c, e = .returned (.tuple #[.slice (some ⟨b, o, none⟩) 2 c, .int .i64 0, .int .i64 0]) ∧ b < w'.heap.size ∧ w'.cell? ⟨b, o + 9, none⟩ = some (.int .i64 2) := by
  rw [cat_eq]
  refine (parseAll_any ⟨(exT ++ exE).toArray⟩ W hg).mono ?_
  intro e w' h
  have hp : parseB false (⟨(exT ++ exE).toArray⟩ : ByteArray).data.toList = .ok [exC, exD] := ex_all
  rw [hp] at h
  obtain ⟨hb, A, c, cc, rfl, hs, hC⟩ := h
  obtain ⟨b, o, A2, c2, rfl, hlt, ⟨-, -, -, -, k4⟩, -⟩ := codeS_at hs.sl hC.s (Below.refl _ _) (k := 1) (C := exD) rfl
  exact ⟨hb, b, o, c, rfl, hlt, k4⟩
theorem two_ex {W : World} (hg : Gl W) : Calls Tryd.prog 20 #[.string (⟨exT.toArray⟩ ++ ⟨exT.toArray⟩)] W fun e w' => Below W.heap.size W w' ∧ e = .returned (.tuple #[.slice none 0 0, .int .i64 63, .int .i64 4]) := by
  rw [cat_eq]
  refine (parseAll_any ⟨(exT ++ exT).toArray⟩ W hg).mono ?_
  intro e w' h
  have hp : parseB false (⟨(exT ++ exT).toArray⟩ : ByteArray).data.toList = .bad 63 4 := ex_two
  rw [hp] at h
  exact h
theorem exC_L : CodeL exC := ⟨by simp [exC, maxLen], by intro r hr; simp [exC] at hr; subst hr; simp [maxLen]⟩
theorem print_ex {W : World} {g : Nat} {A : Option Addr} {c : Nat} (hg : Gl W) (h : CB W g exC A c) : Calls Tryd.prog 11 #[.agg #[strV [97], .int .i64 8, .int .i64 3, .slice A 1 c, .int .i64 2]] W (PrintR (exT, 0) W) := by
  have := print_any exC (codeV exC A c).toList W hg h.code exC_L (by simp [exC, maxLen])
  rw [ex_printB] at this
  exact this

theorem check_ex {W : World} {g : Nat} {A : Option Addr} {c : Nat} (h : CB W g exC A c) : Calls Tryd.prog 14 #[.agg #[strV [97], .int .i64 8, .int .i64 3, .slice A 1 c, .int .i64 2]] W (NatR 0 W) := by
  have := check_any exC (codeV exC A c).toList W h.code exC_L (by simp [exC, maxLen])
  rw [ex_check] at this
  exact this
theorem ex0_S (W : World) : CodeS W ⟨[], 0, 0, [], 0⟩ z5.toList := ⟨none, 0, [], rfl, .inl rfl, rfl⟩
theorem ex0_L : CodeL ⟨[], 0, 0, [], 0⟩ := ⟨by simp, fun r hr => by cases hr⟩
theorem check_ex0 {W : World} : Calls Tryd.prog 14 #[.agg z5] W (NatR 4 W) := by
  have := check_any ⟨[], 0, 0, [], 0⟩ z5.toList W (ex0_S W) ex0_L (by simp)
  rw [ex_check0] at this
  exact this
theorem sameR_ex {W : World} {g g' : Nat} {A A' : Option Addr} {c c' : Nat} (h : CB W g exC A c) (h' : CB W g' exC A' c') : Calls Tryd.prog 17 #[.agg #[strV [97], .int .i64 8, .int .i64 3, .slice A 1 c, .int .i64 2], .agg #[strV [97], .int .i64 8, .int .i64 3, .slice A' 1 c', .int .i64 2]] W (BoolR true W) := by
  have := sameR_any exC exC (codeV exC A c).toList (codeV exC A' c').toList W h.code h'.code exC_L exC_L
  rw [sameB_self] at this
  exact this
theorem same_ex {W : World} {g g' : Nat} {A A' : Option Addr} {c c' : Nat} (h : CB W g exC A c) (h' : CB W g' exC A' c') : Calls Tryd.prog 16 #[.agg #[strV [97], .int .i64 8, .int .i64 3, .slice A 1 c, .int .i64 2], .agg #[strV [97], .int .i64 8, .int .i64 3, .slice A' 1 c', .int .i64 2]] W (BoolR true W) := by
  have := same_any exC exC (codeV exC A c).toList (codeV exC A' c').toList W h.code h'.code exC_L exC_L
  rw [sameB_self] at this
  exact this
theorem same_ex0 {W : World} {g : Nat} {A : Option Addr} {c : Nat} (h : CB W g exC A c) : Calls Tryd.prog 16 #[.agg #[strV [97], .int .i64 8, .int .i64 3, .slice A 1 c, .int .i64 2], .agg z5] W (BoolR false W) := by
  have := same_any exC ⟨[], 0, 0, [], 0⟩ (codeV exC A c).toList z5.toList W h.code (ex0_S W) exC_L ex0_L
  rw [ex_same] at this
  exact this
/-- What the examples carry from call to call. -/
structure EX (w : World) (g1 : Nat) (A1 : Option Addr) (c1 : Nat) (W : World) : Prop where
  below : Below w.heap.size w W
  b1 : CB W g1 exC A1 c1
theorem EX.call {w W W' : World} {g1 : Nat} {A1 : Option Addr} {c1 : Nat} (h : EX w g1 A1 c1 W) (hb : Below W.heap.size W W') : EX w g1 A1 c1 W' := ⟨h.below.trans (hb.mono h.below.size), h.b1.below hb⟩
theorem CB.cells {W : World} {g : Nat} {A : Option Addr} {c : Nat} (h : CB W g exC A c) : W.cell? ⟨g, 0, none⟩ = some (strV [97]) ∧ W.cell? ⟨g, 1, none⟩ = some (.int .i64 8) ∧ W.cell? ⟨g, 2, none⟩ = some (.int .i64 3) ∧ W.cell? ⟨g, 3, none⟩ = some (.slice A 1 c) ∧ W.cell? ⟨g, 4, none⟩ = some (.int .i64 2) :=
  ⟨(cell_at h.row 0 rfl).1, (cell_at h.row 1 rfl).1, (cell_at h.row 2 rfl).1, (cell_at h.row 3 rfl).1, (cell_at h.row 4 rfl).1⟩

set_option maxRecDepth 100000 in
set_option maxHeartbeats 8000000 in
theorem sanity_any (w : World) (Hg : Hid (Gl w)) : Calls Tryd.prog 13 #[] w (BoolR true w) := by
  go_enter Tryd.func13, Tryd.ntmps13
  go_wp2_with fail
  generalize hW : ((w.alloc (.cells #[.int .i64 1, .int .i64 0, .int .i64 7] 3)).alloc (.cells #[.slice (some ⟨w.heap.size, 0, none⟩) 3 3] 61)).alloc (.cells #[strV [97], .int .i64 8, .int .i64 3, .slice (some ⟨w.heap.size + 1, 0, none⟩) 1 1, .int .i64 2] 24) = W
  obtain ⟨hb0, hcb⟩ := ex_start w W hW.symm
  have E0 : Hid (EX w (w.heap.size + 2) (some ⟨w.heap.size + 1, 0, none⟩) 1 W) := ⟨hb0, hcb⟩
  clear hW hb0 hcb
  rw [show w.heap.size + 1 + 1 = w.heap.size + 2 from rfl]
  refine (print_ex (Hg.out.below E0.out.below) E0.out.b1).mono ?_
  rintro e w1 ⟨rfl, hb1⟩
  have E1 := Lib.hid (E0.out.call hb1)
  clear hb1
  go_wp2_with fail
  refine (parse_ex (Hg.out.below E1.out.below)).mono ?_
  rintro e w2 ⟨hb2, A5, c5, rfl, hC5⟩
  have E2 := Lib.hid ((E1.out.call hb2).call ((Below.refl _ _).alloc (Nat.le_refl _) (.cells #[strV [97], .int .i64 8, .int .i64 3, .slice A5 1 c5, .int .i64 2] 24)))
  have D2 : Hid (CB (w2.alloc (.cells #[strV [97], .int .i64 8, .int .i64 3, .slice A5 1 c5, .int .i64 2] 24)) w2.heap.size exC A5 c5) := ⟨heap_new _ _, hC5.below ((Below.refl _ _).alloc (Nat.le_refl _) _)⟩
  clear hb2 hC5
  go_wp2_with fail
  refine (parse_exBad (Hg.out.below E2.out.below) ex_a).mono ?_
  rintro e w3 ⟨hb3, rfl⟩
  have E3 := Lib.hid ((E2.out.call hb3).call ((Below.refl _ _).alloc (Nat.le_refl _) (.cells z5 24)))
  have D3 := Lib.hid ((D2.out.below hb3).below ((Below.refl _ _).alloc (Nat.le_refl _) (.cells z5 24)))
  clear hb3 E2 D2
  go_wp2_with fail
  refine (parse_exBad (Hg.out.below E3.out.below) ex_b).mono ?_
  rintro e w4 ⟨hb4, rfl⟩
  have E4 := Lib.hid ((E3.out.call hb4).call ((Below.refl _ _).alloc (Nat.le_refl _) (.cells z5 24)))
  have D4 := Lib.hid ((D3.out.below hb4).below ((Below.refl _ _).alloc (Nat.le_refl _) (.cells z5 24)))
  clear hb4 E3 D3
  go_wp2_with fail
  refine (all_ex (Hg.out.below E4.out.below)).mono ?_
  rintro e w5 ⟨hb5, lb, lo, lc, rfl, hlb, hl5⟩
  have E5 := Lib.hid (E4.out.call hb5)
  have D5 := Lib.hid (D4.out.below hb5)
  clear hb5 E4 D4
  go_wp2_with fail
  refine (two_ex (Hg.out.below E5.out.below)).mono ?_
  rintro e w6 ⟨hb6, rfl⟩
  have E6 := Lib.hid (E5.out.call hb6)
  have D6 := Lib.hid (D5.out.below hb6)
  have hl6 := (hb6.cell (p := ⟨lb, lo + 9, none⟩) hlb).trans hl5
  have hlb6 := Nat.lt_of_lt_of_le hlb hb6.size
  clear hb6 E5 D5 hl5 hlb
  obtain ⟨x0, x1, x2, x3, x4⟩ := E6.out.b1.cells
  go_wp2_with fail
  refine (check_ex E6.out.b1).mono ?_
  rintro e w7 ⟨rfl, hb7⟩
  have E7 := Lib.hid (E6.out.call hb7)
  have D7 := Lib.hid (D6.out.below hb7)
  have hl7 := (hb7.cell (p := ⟨lb, lo + 9, none⟩) hlb6).trans hl6
  have hlb7 := Nat.lt_of_lt_of_le hlb6 hb7.size
  clear hb7 E6 D6 hl6 hlb6 x0 x1 x2 x3 x4
  go_wp2_with fail
  refine check_ex0.mono ?_
  rintro e w8 ⟨rfl, hb8⟩
  have E8 := Lib.hid (E7.out.call hb8)
  have D8 := Lib.hid (D7.out.below hb8)
  have hl8 := (hb8.cell (p := ⟨lb, lo + 9, none⟩) hlb7).trans hl7
  have hlb8 := Nat.lt_of_lt_of_le hlb7 hb8.size
  clear hb8 E7 D7 hl7 hlb7
  obtain ⟨x0, x1, x2, x3, x4⟩ := E8.out.b1.cells
  obtain ⟨y0, y1, y2, y3, y4⟩ := D8.out.cells
  go_wp2_with fail
  refine (sameR_ex E8.out.b1 D8.out).mono ?_
  rintro e w9 ⟨rfl, hb9⟩
  have E9 := Lib.hid (E8.out.call hb9)
  have D9 := Lib.hid (D8.out.below hb9)
  have hl9 := (hb9.cell (p := ⟨lb, lo + 9, none⟩) hlb8).trans hl8
  clear hb9 E8 D8 hl8 hlb8 x0 x1 x2 x3 x4 y0 y1 y2 y3 y4
  obtain ⟨x0, x1, x2, x3, x4⟩ := E9.out.b1.cells
  obtain ⟨y0, y1, y2, y3, y4⟩ := D9.out.cells
  go_wp2_with fail
  refine (same_ex E9.out.b1 D9.out).mono ?_
  rintro e w10 ⟨rfl, hb10⟩
  have E10 := Lib.hid (E9.out.call hb10)
  clear hb10 E9 D9 hl9 x0 x1 x2 x3 x4 y0 y1 y2 y3 y4
  obtain ⟨x0, x1, x2, x3, x4⟩ := E10.out.b1.cells
  go_wp2_with fail
  refine (same_ex0 E10.out.b1).mono ?_
  rintro e w11 ⟨rfl, hb11⟩
  have HB := Lib.hid (E10.out.call hb11).below
  clear hb11 E10 x0 x1 x2 x3 x4
  go_wp2_with fail
  go_ret
  exact ⟨rfl, HB.out⟩
end Go.Proofs.YtafgmbchdcfkcaaDoor
