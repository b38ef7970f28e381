/-
  What the parser accepts, Check accepts. No program is run here.
-/
import Derived.Test.YtimmffncfkcpfaaGreatDoorV3
namespace Go.Proofs.YtimmffncfkcpfaaGreatDoor
open Go

section
variable {ts us : List Tok}
theorem next_inv {α β : Type} {x : PR α} {f : α → List Tok → PR β} {b : β} (h : x.next f = .ok b us) : ∃ a a', x = .ok a a' ∧ f a a' = .ok b us := by
  cases x with
  | ok a a' => exact ⟨a, a', rfl, h⟩
  | bad p => cases h
theorem take_inv {ok : Bytes → Bool} {T : Tok} (h : takeT ok ts = .ok T us) : ok T.text = true := by
  cases ts with
  | nil => cases h
  | cons U ts =>
    rw [takeT] at h
    split at h
    · rename_i h1
      injection h with h2 _
      rw [← h2]; exact h1
    · cases h
theorem name_inv {w : Bytes} {f : Field} (h : nameF w ts = .ok f us) : ∃ x, tf f = (w, x) ∧ wordB x = true := by
  obtain ⟨T, a, h1, h2⟩ := next_inv h
  injection h2 with h2 _
  exact ⟨T.text, by rw [← h2]; rfl, take_inv h1⟩
theorem num_inv {w : Bytes} {f : Field} (h : numF w ts = .ok f us) : ∃ x, tf f = (w, x) ∧ numB x = true := by
  obtain ⟨T0, a0, -, h⟩ := next_inv h
  obtain ⟨T, a, h1, h2⟩ := next_inv h
  injection h2 with h2 _
  exact ⟨T.text, by rw [← h2]; rfl, take_inv h1⟩
theorem close_inv {fs gs : List Field} (h : closeT fs ts = .ok gs us) : gs = fs := by
  obtain ⟨T0, a0, -, h⟩ := next_inv h
  obtain ⟨T, a, -, h2⟩ := next_inv h
  injection h2 with h2 _
  exact h2.symm
/-- The texts of the fields of an item that was read. -/
def Shape (x : Item) : Prop :=
  (x.tenant = false ∧ ∃ a b c d, x.fields.map tf = cFields a b c d ∧ wordB a = true ∧ wordB b = true ∧ numB c = true ∧ numB d = true) ∨
  (x.tenant = true ∧ ∃ a g sn br c, x.fields.map tf = tFields a g sn br c ∧ wordB a = true ∧ numB g = true ∧ wordB c = true ∧ (∀ s, sn = some s → numB s = true) ∧ ∀ p, br = some p → numB p.1 = true ∧ numB p.2 = true)
theorem optS_inv {fs : List Field} (h : optS ts = .ok fs us) : ∃ sn, fs.map tf = sFields sn ∧ ∀ s, sn = some s → numB s = true := by
  unfold optS at h
  split at h
  · obtain ⟨f, a, h1, h⟩ := next_inv h
    obtain ⟨T, b, -, h2⟩ := next_inv h
    injection h2 with h2 _
    obtain ⟨x, e1, e2⟩ := num_inv h1
    refine ⟨some x, ?_, fun s e => by injection e with e; rw [← e]; exact e2⟩
    rw [← h2, List.map_cons, e1]; rfl
  · injection h with h _
    exact ⟨none, by rw [← h]; rfl, fun s e => by cases e⟩
theorem optB_inv {fs : List Field} (h : optB ts = .ok fs us) : ∃ br, fs.map tf = bFields br ∧ ∀ p, br = some p → numB p.1 = true ∧ numB p.2 = true := by
  unfold optB at h
  split at h
  · obtain ⟨f, a, h1, h⟩ := next_inv h
    obtain ⟨g, b, h3, h⟩ := next_inv h
    obtain ⟨T, c, -, h2⟩ := next_inv h
    injection h2 with h2 _
    obtain ⟨x, e1, e2⟩ := num_inv h1
    obtain ⟨y, e3, e4⟩ := num_inv h3
    refine ⟨some (x, y), ?_, fun s e => by injection e with e; rw [← e]; exact ⟨e2, e4⟩⟩
    rw [← h2, List.map_cons, List.map_cons, e1, e3]; rfl
  · injection h with h _
    exact ⟨none, by rw [← h]; rfl, fun s e => by cases e⟩
theorem class_inv {fs : List Field} (h : classT ts = .ok fs us) : ∃ a b c d, fs.map tf = cFields a b c d ∧ wordB a = true ∧ wordB b = true ∧ numB c = true ∧ numB d = true := by
  obtain ⟨f1, a1, h1, h⟩ := next_inv h
  obtain ⟨_, a2, -, h⟩ := next_inv h
  obtain ⟨_, a3, -, h⟩ := next_inv h
  obtain ⟨f2, a4, h2, h⟩ := next_inv h
  obtain ⟨_, a5, -, h⟩ := next_inv h
  obtain ⟨f3, a6, h3, h⟩ := next_inv h
  obtain ⟨_, a7, -, h⟩ := next_inv h
  obtain ⟨f4, a8, h4, h⟩ := next_inv h
  have := close_inv h
  obtain ⟨x1, e1, w1⟩ := name_inv h1
  obtain ⟨x2, e2, w2⟩ := name_inv h2
  obtain ⟨x3, e3, w3⟩ := num_inv h3
  obtain ⟨x4, e4, w4⟩ := num_inv h4
  refine ⟨x1, x2, x3, x4, ?_, w1, w2, w3, w4⟩
  rw [this]
  simp only [List.map_cons, List.map_nil, e1, e2, e3, e4]; rfl
theorem tenant_inv {fs : List Field} (h : tenantT ts = .ok fs us) : ∃ a g sn br c, fs.map tf = tFields a g sn br c ∧ wordB a = true ∧ numB g = true ∧ wordB c = true ∧ (∀ s, sn = some s → numB s = true) ∧ ∀ p, br = some p → numB p.1 = true ∧ numB p.2 = true := by
  obtain ⟨f1, a1, h1, h⟩ := next_inv h
  obtain ⟨_, a2, -, h⟩ := next_inv h
  obtain ⟨f2, a3, h2, h⟩ := next_inv h
  obtain ⟨_, a4, -, h⟩ := next_inv h
  obtain ⟨s, a5, h3, h⟩ := next_inv h
  obtain ⟨r, a6, h4, h⟩ := next_inv h
  obtain ⟨_, a7, -, h⟩ := next_inv h
  obtain ⟨f3, a8, h5, h⟩ := next_inv h
  have := close_inv h
  obtain ⟨x1, e1, w1⟩ := name_inv h1
  obtain ⟨x2, e2, w2⟩ := num_inv h2
  obtain ⟨sn, e3, w3⟩ := optS_inv h3
  obtain ⟨br, e4, w4⟩ := optB_inv h4
  obtain ⟨x5, e5, w5⟩ := name_inv h5
  refine ⟨x1, x2, sn, br, x5, ?_, w1, w2, w5, w3, w4⟩
  rw [this]
  simp only [List.map_append, List.map_cons, List.map_nil, e1, e2, e3, e4, e5]; rfl
theorem item_inv {x : Item} (h : itemT ts = .ok x us) : Shape x := by
  unfold itemT at h
  split at h
  · obtain ⟨_, a1, -, h⟩ := next_inv h
    obtain ⟨fs, a2, h1, h⟩ := next_inv h
    injection h with h _
    rw [← h]
    exact .inr ⟨rfl, tenant_inv h1⟩
  · obtain ⟨_, a1, -, h⟩ := next_inv h
    obtain ⟨fs, a2, h1, h⟩ := next_inv h
    injection h with h _
    rw [← h]
    exact .inl ⟨rfl, class_inv h1⟩
end
theorem items_inv {n : Nat} : ∀ (f : Nat) (acc : List Item) (ts : List Tok) {l : List Item} {us : List Tok}, itemsT n f acc ts = .ok l us → (∀ x ∈ acc, Shape x) → ∀ x ∈ l, Shape x
  | 0, acc, ts, l, us, h, ha => by injection h with h _; rw [← h]; exact ha
  | f + 1, acc, ts, l, us, h, ha => by
    rw [itemsT] at h
    split at h
    · obtain ⟨x, a, h1, h⟩ := next_inv h
      refine items_inv f _ a h fun y hy => ?_
      rcases List.mem_append.1 hy with hy | hy
      · exact ha y hy
      · rw [List.mem_singleton] at hy; rw [hy]; exact item_inv h1
    · injection h with h _; rw [← h]; exact ha
/-- What holds while items are added. -/
structure Gd (cl : List Bytes) (T : TermsD) : Prop where
  cs : ∀ C ∈ T.classes, OkC C
  ts : ∀ D ∈ T.contracts, OkT D ∧ D.cls ∈ cl
  cn : T.classes.length ≤ 8
  tn : T.contracts.length ≤ 16
  cd : (T.classes.map ClassD.name).Nodup
  td : (T.contracts.map ContrD.tenant).Nodup
theorem nodup_snoc {l : List Bytes} {x : Bytes} (h : l.Nodup) (hx : x ∉ l) : (l ++ [x]).Nodup := by
  rw [List.nodup_append]
  refine ⟨h, by simp, fun a ha b hb e => ?_⟩
  rw [List.mem_singleton] at hb
  rw [← hb, ← e] at hx; exact hx ha
theorem add_inv {cl : List Bytes} {T T' : TermsD} {x : Item} (hx : Shape x) (hT : Gd cl T) (h : addB cl T x = .ok T') : Gd cl T' ∧ T'.classes.map ClassD.name = T.classes.map ClassD.name ++ classNames [x] := by
  rw [add_tf] at h
  rcases hx with ⟨ht, a, b, c, d, e, wa, wb, nc, nd⟩ | ⟨ht, a, g, sn, br, c, e, wa, ng, wc, hs, hb⟩
  · have hcn : classNames [x] = [a] := by
      unfold classNames
      rw [List.filter_cons, ht, if_pos (show (!false) = true from rfl), List.filter_nil, List.map_cons, List.map_nil, first_tf, e]; rfl
    rw [ht, e, add_c wb nc nd] at h
    split at h
    · rename_i hc
      obtain ⟨c1, c2, c3, c4, c5, c6⟩ := hc
      injection h with h
      rw [← h, hcn]
      refine ⟨⟨fun C hC => ?_, hT.ts, by simp; omega, hT.tn, by simpa using nodup_snoc hT.cd c3, hT.td⟩, by simp⟩
      rcases List.mem_append.1 hC with hC | hC
      · exact hT.cs C hC
      · rw [List.mem_singleton] at hC
        rw [hC]
        exact ⟨by simp [nameB, wa, c2], by simp [nameB, wb, c4], c5, c6⟩
    · cases h
  · have hcn : classNames [x] = [] := by
      unfold classNames
      rw [List.filter_cons, ht, if_neg (by simp), List.filter_nil]; rfl
    rw [ht, e, add_t ng wc hs hb] at h
    split at h
    · rename_i hc
      obtain ⟨c1, c2, c3, ⟨c4, c5, c6, c7, c8, c9⟩, c10⟩ := hc
      injection h with h
      rw [← h, hcn]
      refine ⟨⟨hT.cs, fun D hD => ?_, hT.cn, by simp; omega, hT.cd, by simpa using nodup_snoc hT.td c3⟩, by simp⟩
      rcases List.mem_append.1 hD with hD | hD
      · exact hT.ts D hD
      · rw [List.mem_singleton] at hD
        rw [hD]
        refine ⟨⟨by simp [nameB, wa, c2], by simp [nameB, wc, c9], c4, c5, c6, c7, fun e0 => ?_⟩, c10⟩
        have e1 : (brV br : Int) = 0 := e0
        have e2 : ¬ 0 < rkV br := fun h' => c8 ⟨by omega, h'⟩
        show (rkV br : Int) = 0
        omega
    · cases h
theorem adds_inv {cl : List Bytes} : ∀ (l : List Item) (T T' : TermsD), (∀ x ∈ l, Shape x) → Gd cl T → addsB cl T l = .ok T' → Gd cl T' ∧ T'.classes.map ClassD.name = T.classes.map ClassD.name ++ classNames l
  | [], T, T', _, hT, h => by
    injection h with h
    rw [← h]; exact ⟨hT, by simp [classNames]⟩
  | x :: l, T, T', hs, hT, h => by
    rw [addsB] at h
    cases h1 : addB cl T x with
    | bad p e => rw [h1] at h; cases h
    | ok T1 =>
      rw [h1] at h
      obtain ⟨h2, h3⟩ := add_inv (hs x (by simp)) hT h1
      obtain ⟨h4, h5⟩ := adds_inv l T1 T' (fun y hy => hs y (by simp [hy])) h2 h
      refine ⟨h4, ?_⟩
      rw [h5, h3, List.append_assoc]
      unfold classNames
      rw [← List.map_append, ← List.filter_append]; rfl
/-- What Parse accepts is valid. -/
theorem parse_valid {t : Bytes} {T : TermsD} (h : parseB t = .ok T) : Ok T := by
  unfold parseB at h
  split at h
  · cases h
  · cases h1 : itemsT t.length ((toks t 0).length + 1) [] (toks t 0) with
    | bad p => rw [h1] at h; cases h
    | ok l us =>
      rw [h1] at h
      have hs := items_inv _ [] _ h1 (fun x hx => by cases hx)
      obtain ⟨h2, h3⟩ := adds_inv l ⟨[], []⟩ T hs ⟨(fun _ hC => by cases hC), (fun _ hC => by cases hC), by simp, by simp, by simp, by simp⟩ h
      exact ⟨h2.cs, fun D hD => ⟨(h2.ts D hD).1, by rw [h3]; exact (h2.ts D hD).2⟩, h2.cn, h2.tn, h2.cd, h2.td⟩
theorem parseB_len {t : Bytes} {T : TermsD} (h : parseB t = .ok T) : t.length ≤ 2000 := by
  unfold parseB at h
  split at h
  · cases h
  · omega
theorem parseB_pos {t : Bytes} {p e : Nat} (h : parseB t = .bad p e) : e = 1 ∨ e = 2 ∨ e = 3 ∨ e = 4 := by
  have hf : ∀ (fs r : List Field) {p e : Nat}, fieldsBad fs r = some (p, e) → e = 1 ∨ e = 2 := by
    intro fs r
    induction r with
    | nil => intro p e h; cases h
    | cons f r ih =>
      intro p e h
      rw [fieldsBad] at h
      split at h
      · split at h
        · injection h with h; injection h with _ h; exact .inr h.symm
        · exact ih h
      · split at h
        · injection h with h; injection h with _ h; exact .inl h.symm
        · split at h
          · injection h with h; injection h with _ h; exact .inl h.symm
          · exact ih h
  have ha : ∀ (cl : List Bytes) (T : TermsD) (x : Item) {p e : Nat}, addB cl T x = .bad p e → e = 1 ∨ e = 2 ∨ e = 3 ∨ e = 4 := by
    intro cl T x p e h
    unfold addB at h
    split at h
    · split at h
      · injection h with _ h; exact .inr (.inl h.symm)
      · split at h
        · injection h with _ h; exact .inr (.inr (.inr h.symm))
        · split at h
          · rename_i h1
            injection h with _ h
            rcases hf _ _ h1 with h2 | h2 <;> omega
          · split at h
            · cases h
            · injection h with _ h; exact .inr (.inr (.inr h.symm))
    · split at h
      · injection h with _ h; exact .inr (.inl h.symm)
      · split at h
        · injection h with _ h; exact .inr (.inr (.inr h.symm))
        · split at h
          · rename_i h1
            injection h with _ h
            rcases hf _ _ h1 with h2 | h2 <;> omega
          · cases h
  have hs : ∀ (cl : List Bytes) (l : List Item) (T : TermsD) {p e : Nat}, addsB cl T l = .bad p e → e = 1 ∨ e = 2 ∨ e = 3 ∨ e = 4 := by
    intro cl l
    induction l with
    | nil => intro T p e h; cases h
    | cons x l ih =>
      intro T p e h
      rw [addsB] at h
      cases h1 : addB cl T x with
      | bad p' e' =>
        rw [h1] at h
        injection h with _ h
        rw [← h]; exact ha _ _ _ h1
      | ok T1 => rw [h1] at h; exact ih T1 h
  unfold parseB at h
  split at h
  · injection h with _ h; exact .inr (.inl h.symm)
  · cases h1 : itemsT t.length ((toks t 0).length + 1) [] (toks t 0) with
    | bad p' => rw [h1] at h; injection h with _ h; exact .inr (.inr (.inl h.symm))
    | ok l us => rw [h1] at h; exact hs _ _ _ h
end Go.Proofs.YtimmffncfkcpfaaGreatDoor
