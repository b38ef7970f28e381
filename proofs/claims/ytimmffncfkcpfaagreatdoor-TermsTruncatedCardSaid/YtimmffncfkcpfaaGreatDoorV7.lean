/-
  Where an error of the parser lies: at a token of the text. No program is run here.
-/
import Derived.Test.YtimmffncfkcpfaaGreatDoorV6
namespace Go.Proofs.YtimmffncfkcpfaaGreatDoor
open Go

def BadIn {α : Type} (ts : List Tok) (x : PR α) : Prop := ∀ p, x = .bad p → p = 0 ∨ ∃ T ∈ ts, T.at_ = p
section
variable {ts : List Tok} {α β : Type}
theorem BadIn.next {x : PR α} {f : α → List Tok → PR β} (h : BadIn ts x) (k : ∀ a us, x = .ok a us → (∀ T ∈ us, T ∈ ts) ∧ BadIn us (f a us)) : BadIn ts (x.next f) := by
  intro p hp
  cases x with
  | bad q =>
    rw [PR.next_bad] at hp
    injection hp with hp
    exact h p (by rw [hp])
  | ok a us =>
    rw [PR.next_ok] at hp
    obtain ⟨k1, k2⟩ := k a us rfl
    rcases k2 p hp with h | ⟨T, hT, e⟩
    · exact .inl h
    · exact .inr ⟨T, k1 T hT, e⟩
theorem ok_bad (a : α) (us : List Tok) : BadIn ts (PR.ok a us) := fun p h => by cases h
theorem take_bad (ok : Bytes → Bool) (ts : List Tok) : BadIn ts (takeT ok ts) := by
  intro p hp
  cases ts with
  | nil => injection hp with hp; exact .inl hp.symm
  | cons T ts =>
    rw [takeT] at hp
    split at hp
    · cases hp
    · injection hp with hp
      exact .inr ⟨T, by simp, hp⟩
theorem must_bad (s : Bytes) (ts : List Tok) : BadIn ts (mustT s ts) := take_bad _ _
theorem name_bad (w : Bytes) (ts : List Tok) : BadIn ts (nameF w ts) := (take_bad _ _).next fun _ _ h => ⟨(take_in h).2, ok_bad _ _⟩
theorem num_bad (w : Bytes) (ts : List Tok) : BadIn ts (numF w ts) := (must_bad _ _).next fun _ us h => ⟨(must_in h).1, (take_bad _ us).next fun _ _ h => ⟨(take_in h).2, ok_bad _ _⟩⟩
theorem close_bad (fs : List Field) (ts : List Tok) : BadIn ts (closeT fs ts) := (must_bad _ _).next fun _ us h => ⟨(must_in h).1, (must_bad _ us).next fun _ _ h => ⟨(must_in h).1, ok_bad _ _⟩⟩
theorem optS_bad (ts : List Tok) : BadIn ts (optS ts) := by
  unfold optS
  split
  · exact (num_bad _ _).next fun _ us h => ⟨(num_in h).1, (must_bad _ us).next fun _ _ h => ⟨(must_in h).1, ok_bad _ _⟩⟩
  · exact ok_bad _ _
theorem optB_bad (ts : List Tok) : BadIn ts (optB ts) := by
  unfold optB
  split
  · exact (num_bad _ _).next fun _ us h => ⟨(num_in h).1, (num_bad _ us).next fun _ vs h => ⟨(num_in h).1, (must_bad _ vs).next fun _ _ h => ⟨(must_in h).1, ok_bad _ _⟩⟩⟩
  · exact ok_bad _ _
theorem class_bad (ts : List Tok) : BadIn ts (classT ts) :=
  (name_bad _ _).next fun _ a h => ⟨(name_in h).1, (must_bad _ a).next fun _ b h => ⟨(must_in h).1, (must_bad _ b).next fun _ c h => ⟨(must_in h).1, (name_bad _ c).next fun _ d h => ⟨(name_in h).1, (must_bad _ d).next fun _ e h => ⟨(must_in h).1,
    (num_bad _ e).next fun _ g h => ⟨(num_in h).1, (must_bad _ g).next fun _ i h => ⟨(must_in h).1, (num_bad _ i).next fun _ j h => ⟨(num_in h).1, close_bad _ j⟩⟩⟩⟩⟩⟩⟩⟩
theorem tenant_bad (ts : List Tok) : BadIn ts (tenantT ts) :=
  (name_bad _ _).next fun _ a h => ⟨(name_in h).1, (must_bad _ a).next fun _ b h => ⟨(must_in h).1, (num_bad _ b).next fun _ c h => ⟨(num_in h).1, (must_bad _ c).next fun _ d h => ⟨(must_in h).1, (optS_bad d).next fun _ e h => ⟨(optS_in h).1,
    (optB_bad e).next fun _ g h => ⟨(optB_in h).1, (must_bad _ g).next fun _ i h => ⟨(must_in h).1, (name_bad _ i).next fun _ j h => ⟨(name_in h).1, close_bad _ j⟩⟩⟩⟩⟩⟩⟩⟩
theorem item_bad (ts : List Tok) : BadIn ts (itemT ts) := by
  unfold itemT
  split
  · exact (must_bad _ _).next fun _ a h => ⟨(must_in h).1, (tenant_bad a).next fun _ b h => ⟨(tenant_in h).1, ok_bad _ _⟩⟩
  · exact (must_bad _ _).next fun _ a h => ⟨(must_in h).1, (class_bad a).next fun _ b h => ⟨(class_in h).1, ok_bad _ _⟩⟩
end
/-- What is left is no longer than what was there. -/
def LenIn {α : Type} (ts : List Tok) (x : PR α) : Prop := ∀ a us, x = .ok a us → us.length ≤ ts.length
section
variable {ts : List Tok} {α β : Type}
theorem LenIn.next {x : PR α} {f : α → List Tok → PR β} (h : LenIn ts x) (k : ∀ a us, LenIn us (f a us)) : LenIn ts (x.next f) := by
  intro b vs hb
  obtain ⟨a, us, h1, h2⟩ := next_inv hb
  exact Nat.le_trans (k a us b vs h2) (h a us h1)
theorem ok_len (a : α) (us : List Tok) : LenIn us (PR.ok a us) := fun b vs h => by injection h with _ h; rw [h]; exact Nat.le_refl _
theorem take_lt {ok : Bytes → Bool} {T : Tok} {us : List Tok} (h : takeT ok ts = .ok T us) : us.length < ts.length := by
  cases ts with
  | nil => cases h
  | cons U ts =>
    rw [takeT] at h
    split at h
    · injection h with _ h; rw [h]; simp
    · cases h
theorem take_len (ok : Bytes → Bool) (ts : List Tok) : LenIn ts (takeT ok ts) := fun _ _ h => Nat.le_of_lt (take_lt h)
theorem name_len (w : Bytes) (ts : List Tok) : LenIn ts (nameF w ts) := (take_len _ _).next fun _ _ => ok_len _ _
theorem num_len (w : Bytes) (ts : List Tok) : LenIn ts (numF w ts) := (take_len _ _).next fun _ us => (take_len _ us).next fun _ _ => ok_len _ _
theorem close_len (fs : List Field) (ts : List Tok) : LenIn ts (closeT fs ts) := (take_len _ _).next fun _ us => (take_len _ us).next fun _ _ => ok_len _ _
theorem optS_len (ts : List Tok) : LenIn ts (optS ts) := by
  unfold optS
  split
  · exact (num_len _ _).next fun _ us => (take_len _ us).next fun _ _ => ok_len _ _
  · exact ok_len _ _
theorem optB_len (ts : List Tok) : LenIn ts (optB ts) := by
  unfold optB
  split
  · exact (num_len _ _).next fun _ us => (num_len _ us).next fun _ vs => (take_len _ vs).next fun _ _ => ok_len _ _
  · exact ok_len _ _
theorem class_len (ts : List Tok) : LenIn ts (classT ts) :=
  (name_len _ _).next fun _ a => (take_len _ a).next fun _ b => (take_len _ b).next fun _ c => (name_len _ c).next fun _ d => (take_len _ d).next fun _ e => (num_len _ e).next fun _ g => (take_len _ g).next fun _ i => (num_len _ i).next fun _ j => close_len _ j
theorem tenant_len (ts : List Tok) : LenIn ts (tenantT ts) :=
  (name_len _ _).next fun _ a => (take_len _ a).next fun _ b => (num_len _ b).next fun _ c => (take_len _ c).next fun _ d => (optS_len d).next fun _ e => (optB_len e).next fun _ g => (take_len _ g).next fun _ i => (name_len _ i).next fun _ j => close_len _ j
theorem item_lt {x : Item} {us : List Tok} (h : itemT ts = .ok x us) : us.length < ts.length := by
  unfold itemT at h
  split at h
  · obtain ⟨_, a, h1, h⟩ := next_inv h
    obtain ⟨fs, b, h2, h⟩ := next_inv h
    injection h with _ h
    subst h
    have := tenant_len a fs b h2
    have := take_lt h1
    omega
  · obtain ⟨_, a, h1, h⟩ := next_inv h
    obtain ⟨fs, b, h2, h⟩ := next_inv h
    injection h with _ h
    subst h
    have := class_len a fs b h2
    have := take_lt h1
    omega
end
/-- An error of add lies at a field of the item. -/
theorem add_bad {cl : List Bytes} {T : TermsD} {x : Item} {p e : Nat} (h : addB cl T x = .bad p e) : p = 0 ∨ ∃ f ∈ x.fields, f.2.at_ = p := by
  have hf : ∀ (fs r : List Field) {p e : Nat}, fieldsBad fs r = some (p, e) → ∃ f ∈ r, f.2.at_ = p := by
    intro fs r
    induction r with
    | nil => intro p e h; cases h
    | cons f r ih =>
      intro p e h
      have next : fieldsBad fs r = some (p, e) → ∃ g ∈ f :: r, g.2.at_ = p := fun h => by
        obtain ⟨g, hg, e⟩ := ih h
        exact ⟨g, by simp [hg], e⟩
      rw [fieldsBad] at h
      split at h
      · split at h
        · injection h with h; injection h with h _; exact ⟨f, by simp, h⟩
        · exact next h
      · split at h
        · injection h with h; injection h with h _; exact ⟨f, by simp, h⟩
        · split at h
          · injection h with h; injection h with h _; exact ⟨f, by simp, h⟩
          · exact next h
  have h1 : (firstF x).at_ = 0 ∨ ∃ f ∈ x.fields, f.2.at_ = (firstF x).at_ := by
    unfold firstF
    cases hx : x.fields with
    | nil => exact .inl rfl
    | cons f r => exact .inr ⟨f, by simp, rfl⟩
  have h2 : (lastF x).at_ = 0 ∨ ∃ f ∈ x.fields, f.2.at_ = (lastF x).at_ := by
    unfold lastF
    cases hx : x.fields.getLast? with
    | none => exact .inl rfl
    | some f => exact .inr ⟨f, List.mem_of_getLast? hx, rfl⟩
  have drop : ∀ f, f ∈ x.fields.drop 1 → f ∈ x.fields := fun f hf => List.mem_of_mem_drop hf
  have fin : ∀ {q : Nat}, (∃ f ∈ x.fields.drop 1, f.2.at_ = q) → q = 0 ∨ ∃ f ∈ x.fields, f.2.at_ = q := fun ⟨f, hf, e⟩ => .inr ⟨f, drop f hf, e⟩
  unfold addB at h
  split at h
  · split at h
    · injection h with h _; rw [← h]; exact h1
    · split at h
      · injection h with h _; rw [← h]; exact h1
      · split at h
        · rename_i hb
          injection h with h _
          rw [← h]; exact fin (hf _ _ hb)
        · split at h
          · cases h
          · injection h with h _; rw [← h]; exact h2
  · split at h
    · injection h with h _; rw [← h]; exact h1
    · split at h
      · injection h with h _; rw [← h]; exact h1
      · split at h
        · rename_i hb
          injection h with h _
          rw [← h]; exact fin (hf _ _ hb)
        · cases h
end Go.Proofs.YtimmffncfkcpfaaGreatDoor
