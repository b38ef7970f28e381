/-
  The walk of the statement LangParseMatchesSpec: it returns true for every text.
-/
import Derived.Test.YtafgmbchdcfkcaaDoorS10
import Derived.Test.YtafgmbchdcfkcaaDoorR19
namespace Go.Proofs.YtafgmbchdcfkcaaDoor
open Go Go.RowKit Go.Walks

theorem buildRow_len {R : Row} {d tp : Nat} {row : List Int} (h : buildRow R d tp = .ok row) : row.length = d := by
  unfold buildRow at h
  split at h
  · cases h
  · split at h
    · cases h
    · split at h
      · cases h
      · split at h
        · cases h
        · injection h with h
          rw [← h, fillL_len]; simp
theorem buildRows_L {d tp : Nat} : ∀ {Rs : List Row} {acc rows : List (List Int)}, buildRows d tp acc Rs = .ok rows → acc.length ≤ 32 → (∀ r ∈ acc, r.length = d) → rows.length ≤ 32 ∧ ∀ r ∈ rows, r.length = d
  | [], acc, rows, h, h1, h2 => by injection h with h; subst h; exact ⟨h1, h2⟩
  | R :: Rs, acc, rows, h, h1, h2 => by
    rw [buildRows] at h
    split at h
    · rename_i hlt
      cases hb : buildRow R d tp with
      | bad p e => rw [hb] at h; cases h
      | ok row =>
        rw [hb] at h
        refine buildRows_L h (by simp; omega) (fun r hr => ?_)
        rcases List.mem_append.1 hr with hr | hr
        · exact h2 r hr
        · rw [List.mem_singleton] at hr; rw [hr]; exact buildRow_len hb
    · cases h
theorem buildS_L {S : Src} {C : Code} (h : buildS S = .ok C) : CodeL C := by
  unfold buildS at h
  split at h
  · split at h
    · split at h
      · rename_i hd
        cases hb : buildRows S.data.n (topN S.field.n) [] S.rows with
        | bad q e => rw [hb] at h; cases h
        | ok rs =>
          rw [hb] at h
          obtain ⟨h1, h2⟩ := buildRows_L hb (by simp) (fun r hr => by cases hr)
          change buildDom S rs = _ at h
          have hp : C.par = rs := by
            unfold buildDom at h
            split at h
            · injection h with h; rw [← h]
            · split at h
              · injection h with h; rw [← h]
              · cases h
          exact ⟨by rw [hp]; unfold maxLen; omega, fun r hr => by rw [hp] at hr; have := h2 r hr; unfold maxLen; omega⟩
      · cases h
    · cases h
  · cases h
theorem codesB_L : ∀ {Ss : List Src} {ns : List Bytes} {acc Cs : List Code}, codesB ns acc Ss = .ok Cs → (∀ C ∈ acc, CodeL C) → ∀ C ∈ Cs, CodeL C
  | [], ns, acc, Cs, h, ha => by injection h with h; subst h; exact ha
  | S :: Ss, ns, acc, Cs, h, ha => by
    rw [codesB] at h
    split at h
    · split at h
      · cases h
      · cases hb : buildS S with
        | bad p e => rw [hb] at h; cases h
        | ok C =>
          rw [hb] at h
          refine codesB_L h (fun C' hC' => ?_)
          rcases List.mem_append.1 hC' with hC' | hC'
          · exact ha C' hC'
          · rw [List.mem_singleton] at hC'; rw [hC']; exact buildS_L hb
    · cases h
theorem parseB_L {sg : Bool} {t : Bytes} {Cs : List Code} (h : parseB sg t = .ok Cs) : ∀ C ∈ Cs, CodeL C := by
  unfold parseB at h
  split at h
  · cases h
  · unfold srcsB at h
    split at h
    · cases h
    · exact codesB_L h (fun C hC => by cases hC)

/-- What Parse hands back, as one form. -/
def outP : BR (List Code) → Code × Nat × Nat
  | .ok (C :: _) => (C, 0, 0)
  | .ok [] => (⟨[], 0, 0, [], 0⟩, 0, 0)
  | .bad p en => (⟨[], 0, 0, [], 0⟩, p, en)
def PRow (x : BR (List Code)) (w : World) (e : Ending) (w' : World) : Prop :=
  Below w.heap.size w w' ∧ ∃ A c, e = .returned (.tuple #[.agg (codeV (outP x).1 A c), .int .i64 ((outP x).2.1 : Int), .int .i64 ((outP x).2.2 : Int)]) ∧ CodeS w' (outP x).1 (codeV (outP x).1 A c).toList
theorem prow_of {x : BR (List Code)} {w w' : World} {e : Ending} (h : ParseRes x w e w') : PRow x w e w' := by
  obtain ⟨hb, h⟩ := h
  cases x with
  | ok Cs =>
    obtain ⟨C, cs, rfl, rfl, hC⟩ := h
    obtain ⟨A, c, mc, e1, h2, h3⟩ := id hC.s
    have hcs : cs = codeV C A c := by rw [← Array.toList_inj]; exact e1
    subst hcs
    exact ⟨hb, A, c, rfl, hC.s⟩
  | bad p en =>
    subst h
    exact ⟨hb, none, 0, rfl, ex0_S _⟩
theorem outP_L {sg : Bool} {t : Bytes} : CodeL (outP (parseB sg t)).1 := by
  cases h : parseB sg t with
  | bad p en => exact ex0_L
  | ok Cs =>
    cases Cs with
    | nil => exact ex0_L
    | cons C r => exact parseB_L h C (by simp)
theorem sameR_self {W : World} {C : Code} {g g' : Nat} {A A' : Option Addr} {c c' : Nat} (hL : CodeL C) (h : CB W g C A c) (h' : CB W g' C A' c') : Calls Tryd.prog 17 #[.agg (codeV C A c), .agg (codeV C A' c')] W (BoolR true W) := by
  have := sameR_any C C (codeV C A c).toList (codeV C A' c').toList W h.code h'.code hL hL
  rw [sameB_self] at this
  exact this
theorem CB.cellsC {W : World} {g : Nat} {C : Code} {A : Option Addr} {c : Nat} (h : CB W g C A c) : W.cell? ⟨g, 0, none⟩ = some (strV C.name) ∧ W.cell? ⟨g, 1, none⟩ = some (.int .i64 C.field) ∧ W.cell? ⟨g, 2, none⟩ = some (.int .i64 C.data) ∧ W.cell? ⟨g, 3, none⟩ = some (.slice A C.par.length c) ∧ W.cell? ⟨g, 4, none⟩ = some (.int .i64 C.dom) :=
  ⟨(cell_at h.row 0 rfl).1, (cell_at h.row 1 rfl).1, (cell_at h.row 2 rfl).1, (cell_at h.row 3 rfl).1, (cell_at h.row 4 rfl).1⟩

set_option maxRecDepth 100000 in
set_option maxHeartbeats 4000000 in
theorem lawParse_any (t : ByteArray) (w : World) (Hg : Hid (Gl w)) : Calls Tryd.prog 4 #[.string t] w (BoolR true w) := by
  have hL := outP_L (sg := true) (t := t.data.toList)
  have h18 := fun W (hg : Gl W) => (parseOne_any t W hg).mono fun _ _ h => prow_of h
  have h19 := fun W => (parseR_any t W).mono fun _ _ h => prow_of h
  unfold PRow at h18 h19
  generalize outP (parseB true t.data.toList) = x at hL h18 h19
  obtain ⟨C, p, en⟩ := x
  dsimp only at hL h18 h19
  have HL := Lib.hid hL
  have H18 := Lib.hid h18
  have H19 := Lib.hid h19
  clear hL h18 h19
  go_enter Tryd.func4, Tryd.ntmps4
  go_wp2_with fail
  refine (H18.out _ Hg.out).mono ?_
  rintro e w1 ⟨hb1, A1, c1, rfl, hC1⟩
  have B1 := Lib.hid (hb1.alloc hb1.size (.cells (codeV C A1 c1) 24))
  have D1 : Hid (CB (w1.alloc (.cells (codeV C A1 c1) 24)) w1.heap.size C A1 c1) := ⟨heap_new _ _, hC1.below ((Below.refl _ _).alloc (Nat.le_refl _) _)⟩
  clear hb1 hC1
  go_wp2_with fail
  refine (H19.out _).mono ?_
  rintro e w2 ⟨hb2, A2, c2, rfl, hC2⟩
  have B2 := Lib.hid ((B1.out.trans (hb2.mono B1.out.size)).alloc (B1.out.trans (hb2.mono B1.out.size)).size (.cells (codeV C A2 c2) 24))
  have D2 := Lib.hid ((D1.out.below hb2).below ((Below.refl _ _).alloc (Nat.le_refl _) (.cells (codeV C A2 c2) 24)))
  have F2 : Hid (CB (w2.alloc (.cells (codeV C A2 c2) 24)) w2.heap.size C A2 c2) := ⟨heap_new _ _, hC2.below ((Below.refl _ _).alloc (Nat.le_refl _) _)⟩
  clear hb2 hC2 B1 D1
  go_wp2_with fail
  refine (sanity_any _ (Hg.out.below B2.out)).mono ?_
  rintro e w3 ⟨rfl, hb3⟩
  have B3 := Lib.hid (B2.out.trans (hb3.mono B2.out.size))
  have D3 := Lib.hid (D2.out.below hb3)
  have F3 := Lib.hid (F2.out.below hb3)
  clear hb3 B2 D2 F2
  obtain ⟨x0, x1, x2, x3, x4⟩ := D3.out.cellsC
  obtain ⟨y0, y1, y2, y3, y4⟩ := F3.out.cellsC
  go_wp2_with fail
  refine (sameR_self HL.out D3.out F3.out).mono ?_
  rintro e w4 ⟨rfl, hb4⟩
  have B4 := Lib.hid (B3.out.trans (hb4.mono B3.out.size))
  clear hb4 B3 D3 F3 x0 x1 x2 x3 x4 y0 y1 y2 y3 y4
  go_wp2_with fail
  go_ret
  exact ⟨rfl, B4.out⟩
end Go.Proofs.YtafgmbchdcfkcaaDoor
