/-
  What Parse and ParseAll of the program hand back, as one form; what the codes that they give are bounded by. No program is run here.
-/
import Derived.Test.YtafgmbchdcfkcaaDoorS10
namespace Go.Proofs.YtafgmbchdcfkcaaDoor
open Go Go.RowKit Go.Walks

theorem buildRow_len {R : Row} {d tp : Nat} {row : List Int} (h : buildRow R d tp = .ok row) : row.length = d := by
  unfold buildRow at h
  split at h
  · cases h
  · split at h
    · cases h
    · split at h
      · cases h
      · split at h
        · cases h
        · injection h with h
          rw [← h, fillL_len]; simp
theorem buildRows_L {d tp : Nat} : ∀ {Rs : List Row} {acc rows : List (List Int)}, buildRows d tp acc Rs = .ok rows → acc.length ≤ 32 → (∀ r ∈ acc, r.length = d) → rows.length ≤ 32 ∧ ∀ r ∈ rows, r.length = d
  | [], acc, rows, h, h1, h2 => by injection h with h; subst h; exact ⟨h1, h2⟩
  | R :: Rs, acc, rows, h, h1, h2 => by
    rw [buildRows] at h
    split at h
    · rename_i hlt
      cases hb : buildRow R d tp with
      | bad p e => rw [hb] at h; cases h
      | ok row =>
        rw [hb] at h
        refine buildRows_L h (by simp; omega) (fun r hr => ?_)
        rcases List.mem_append.1 hr with hr | hr
        · exact h2 r hr
        · rw [List.mem_singleton] at hr; rw [hr]; exact buildRow_len hb
    · cases h
theorem buildS_L {S : Src} {C : Code} (h : buildS S = .ok C) : CodeL C := by
  unfold buildS at h
  split at h
  · split at h
    · split at h
      · rename_i hd
        cases hb : buildRows S.data.n (topN S.field.n) [] S.rows with
        | bad q e => rw [hb] at h; cases h
        | ok rs =>
          rw [hb] at h
          obtain ⟨h1, h2⟩ := buildRows_L hb (by simp) (fun r hr => by cases hr)
          change buildDom S rs = _ at h
          have hp : C.par = rs := by
            unfold buildDom at h
            split at h
            · injection h with h; rw [← h]
            · split at h
              · injection h with h; rw [← h]
              · cases h
          exact ⟨by rw [hp]; unfold maxLen; omega, fun r hr => by rw [hp] at hr; have := h2 r hr; unfold maxLen; omega⟩
      · cases h
    · cases h
  · cases h
theorem codesB_L : ∀ {Ss : List Src} {ns : List Bytes} {acc Cs : List Code}, codesB ns acc Ss = .ok Cs → (∀ C ∈ acc, CodeL C) → ∀ C ∈ Cs, CodeL C
  | [], ns, acc, Cs, h, ha => by injection h with h; subst h; exact ha
  | S :: Ss, ns, acc, Cs, h, ha => by
    rw [codesB] at h
    split at h
    · split at h
      · cases h
      · cases hb : buildS S with
        | bad p e => rw [hb] at h; cases h
        | ok C =>
          rw [hb] at h
          refine codesB_L h (fun C' hC' => ?_)
          rcases List.mem_append.1 hC' with hC' | hC'
          · exact ha C' hC'
          · rw [List.mem_singleton] at hC'; rw [hC']; exact buildS_L hb
    · cases h
theorem parseB_L {sg : Bool} {t : Bytes} {Cs : List Code} (h : parseB sg t = .ok Cs) : ∀ C ∈ Cs, CodeL C := by
  unfold parseB at h
  split at h
  · cases h
  · unfold srcsB at h
    split at h
    · cases h
    · exact codesB_L h (fun C hC => by cases hC)

/-- What Parse hands back, as one form. -/
def outP : BR (List Code) → Code × Nat × Nat
  | .ok (C :: _) => (C, 0, 0)
  | .ok [] => (⟨[], 0, 0, [], 0⟩, 0, 0)
  | .bad p en => (⟨[], 0, 0, [], 0⟩, p, en)
def PRow (x : BR (List Code)) (w : World) (e : Ending) (w' : World) : Prop :=
  Below w.heap.size w w' ∧ ∃ A c, e = .returned (.tuple #[.agg (codeV (outP x).1 A c), .int .i64 ((outP x).2.1 : Int), .int .i64 ((outP x).2.2 : Int)]) ∧ CodeS w' (outP x).1 (codeV (outP x).1 A c).toList
theorem prow_of {x : BR (List Code)} {w w' : World} {e : Ending} (h : ParseRes x w e w') : PRow x w e w' := by
  obtain ⟨hb, h⟩ := h
  cases x with
  | ok Cs =>
    obtain ⟨C, cs, rfl, rfl, hC⟩ := h
    obtain ⟨A, c, mc, e1, h2, h3⟩ := id hC.s
    have hcs : cs = codeV C A c := by rw [← Array.toList_inj]; exact e1
    subst hcs
    exact ⟨hb, A, c, rfl, hC.s⟩
  | bad p en =>
    subst h
    exact ⟨hb, none, 0, rfl, ex0_S _⟩
theorem outP_L {sg : Bool} {t : Bytes} : CodeL (outP (parseB sg t)).1 := by
  cases h : parseB sg t with
  | bad p en => exact ex0_L
  | ok Cs =>
    cases Cs with
    | nil => exact ex0_L
    | cons C r => exact parseB_L h C (by simp)
theorem sameR_self {W : World} {C : Code} {g g' : Nat} {A A' : Option Addr} {c c' : Nat} (hL : CodeL C) (h : CB W g C A c) (h' : CB W g' C A' c') : Calls Tryd.prog 17 #[.agg (codeV C A c), .agg (codeV C A' c')] W (BoolR true W) := by
  have := sameR_any C C (codeV C A c).toList (codeV C A' c').toList W h.code h'.code hL hL
  rw [sameB_self] at this
  exact this
theorem CB.cellsC {W : World} {g : Nat} {C : Code} {A : Option Addr} {c : Nat} (h : CB W g C A c) : W.cell? ⟨g, 0, none⟩ = some (strV C.name) ∧ W.cell? ⟨g, 1, none⟩ = some (.int .i64 C.field) ∧ W.cell? ⟨g, 2, none⟩ = some (.int .i64 C.data) ∧ W.cell? ⟨g, 3, none⟩ = some (.slice A C.par.length c) ∧ W.cell? ⟨g, 4, none⟩ = some (.int .i64 C.dom) :=
  ⟨(cell_at h.row 0 rfl).1, (cell_at h.row 1 rfl).1, (cell_at h.row 2 rfl).1, (cell_at h.row 3 rfl).1, (cell_at h.row 4 rfl).1⟩
/-- What ParseAll hands back, as one form. -/
def outA : BR (List Code) → List Code × Nat × Nat
  | .ok Cs => (Cs, 0, 0)
  | .bad p en => ([], p, en)
def ARow (x : List Code × Nat × Nat) (w : World) (e : Ending) (w' : World) : Prop :=
  Below w.heap.size w w' ∧ ∃ A c cc, e = .returned (.tuple #[.slice A x.1.length c, .int .i64 (x.2.1 : Int), .int .i64 (x.2.2 : Int)]) ∧ Sl w' w'.heap.size A cc ∧ CodesS w' x.1 cc
theorem arow_of {x : BR (List Code)} {w w' : World} {e : Ending} (h : AllRes x w e w') : ARow (outA x) w e w' := by
  obtain ⟨hb, h⟩ := h
  cases x with
  | ok Cs =>
    obtain ⟨A, c, cc, rfl, h1, h2⟩ := h
    exact ⟨hb, A, c, cc, rfl, h1.sl, h2.s⟩
  | bad p en =>
    subst h
    exact ⟨hb, none, 0, [], rfl, .inl rfl, rfl⟩
theorem codesB_len8 : ∀ {Ss : List Src} {ns : List Bytes} {acc Cs : List Code}, codesB ns acc Ss = .ok Cs → acc.length = ns.length → ns.length ≤ 8 → Cs.length ≤ 8
  | [], ns, acc, Cs, h, ha, hn => by injection h with h; subst h; omega
  | S :: Ss, ns, acc, Cs, h, ha, hn => by
    rw [codesB] at h
    split at h
    · split at h
      · cases h
      · cases hb : buildS S with
        | bad p e => rw [hb] at h; cases h
        | ok C =>
          rw [hb] at h
          exact codesB_len8 h (by simp [ha]) (by simp; omega)
    · cases h
theorem outA_L {sg : Bool} {t : Bytes} : (∀ C ∈ (outA (parseB sg t)).1, CodeL C) ∧ (outA (parseB sg t)).1.length ≤ maxLen := by
  cases h : parseB sg t with
  | bad p en => exact ⟨(fun C hC => by cases hC), by simp [outA]⟩
  | ok Cs =>
    refine ⟨parseB_L h, ?_⟩
    unfold parseB at h
    split at h
    · cases h
    · unfold srcsB at h
      split at h
      · cases h
      · have := codesB_len8 h rfl (by simp)
        show Cs.length ≤ maxLen
        unfold maxLen; omega
end Go.Proofs.YtafgmbchdcfkcaaDoor
