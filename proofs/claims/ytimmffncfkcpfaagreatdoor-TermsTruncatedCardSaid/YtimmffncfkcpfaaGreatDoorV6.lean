/-
  The fields of an item that was read are tokens of the text; how many they are, and by which words. No program is run here.
-/
import Derived.Test.YtimmffncfkcpfaaGreatDoorV5
namespace Go.Proofs.YtimmffncfkcpfaaGreatDoor
open Go

/-- What was read came from ts, and what is left too. -/
def InT (ts us : List Tok) (fs : List Field) : Prop := (∀ T ∈ us, T ∈ ts) ∧ ∀ f ∈ fs, f.2 ∈ ts
section
variable {ts us vs : List Tok} {fs gs : List Field}
theorem InT.trans (h : InT ts us fs) (k : InT us vs gs) : InT ts vs (fs ++ gs) :=
  ⟨fun T hT => h.1 T (k.1 T hT), fun f hf => by
    rcases List.mem_append.1 hf with hf | hf
    · exact h.2 f hf
    · exact h.1 _ (k.2 f hf)⟩
theorem take_in {ok : Bytes → Bool} {T : Tok} (h : takeT ok ts = .ok T us) : T ∈ ts ∧ ∀ U ∈ us, U ∈ ts := by
  cases ts with
  | nil => cases h
  | cons U ts =>
    rw [takeT] at h
    split at h
    · injection h with h1 h2
      subst h1 h2
      exact ⟨by simp, fun V hV => by simp [hV]⟩
    · cases h
theorem must_in {s : Bytes} {T : Tok} (h : mustT s ts = .ok T us) : InT ts us [] := ⟨(take_in h).2, (fun f hf => by cases hf)⟩
theorem name_in {w : Bytes} {f : Field} (h : nameF w ts = .ok f us) : InT ts us [f] := by
  obtain ⟨T, a, h1, h2⟩ := next_inv h
  injection h2 with h2 h3
  subst h2 h3
  obtain ⟨k1, k2⟩ := take_in h1
  exact ⟨k2, fun g hg => by rw [List.mem_singleton] at hg; rw [hg]; exact k1⟩
theorem num_in {w : Bytes} {f : Field} (h : numF w ts = .ok f us) : InT ts us [f] := by
  obtain ⟨T0, a0, h0, h⟩ := next_inv h
  obtain ⟨T, a, h1, h2⟩ := next_inv h
  injection h2 with h2 h3
  subst h2 h3
  obtain ⟨k1, k2⟩ := take_in h1
  exact (must_in h0).trans (gs := [_]) ⟨k2, fun g hg => by rw [List.mem_singleton] at hg; rw [hg]; exact k1⟩
theorem close_in {fs gs : List Field} (h : closeT fs ts = .ok gs us) : InT ts us [] := by
  obtain ⟨T0, a0, h0, h⟩ := next_inv h
  obtain ⟨T, a, h1, h2⟩ := next_inv h
  injection h2 with _ h3
  subst h3
  exact (must_in h0).trans (must_in h1)
theorem optS_in {fs : List Field} (h : optS ts = .ok fs us) : InT ts us fs := by
  unfold optS at h
  split at h
  · obtain ⟨f, a, h1, h⟩ := next_inv h
    obtain ⟨T, b, h3, h2⟩ := next_inv h
    injection h2 with h2 h4
    subst h2 h4
    exact (num_in h1).trans (must_in h3)
  · injection h with h h2
    subst h h2
    exact ⟨fun _ h => h, (fun f hf => by cases hf)⟩
theorem optB_in {fs : List Field} (h : optB ts = .ok fs us) : InT ts us fs := by
  unfold optB at h
  split at h
  · obtain ⟨f, a, h1, h⟩ := next_inv h
    obtain ⟨g, b, h3, h⟩ := next_inv h
    obtain ⟨T, c, h5, h2⟩ := next_inv h
    injection h2 with h2 h4
    subst h2 h4
    exact ((num_in h1).trans (num_in h3)).trans (must_in h5)
  · injection h with h h2
    subst h h2
    exact ⟨fun _ h => h, (fun f hf => by cases hf)⟩
theorem class_in {fs : List Field} (h : classT ts = .ok fs us) : InT ts us fs := by
  obtain ⟨f1, a1, h1, h⟩ := next_inv h
  obtain ⟨_, a2, m2, h⟩ := next_inv h
  obtain ⟨_, a3, m3, h⟩ := next_inv h
  obtain ⟨f2, a4, h2, h⟩ := next_inv h
  obtain ⟨_, a5, m5, h⟩ := next_inv h
  obtain ⟨f3, a6, h3, h⟩ := next_inv h
  obtain ⟨_, a7, m7, h⟩ := next_inv h
  obtain ⟨f4, a8, h4, h⟩ := next_inv h
  have e := close_inv h
  subst e
  exact ((((((((name_in h1).trans (must_in m2)).trans (must_in m3)).trans (name_in h2)).trans (must_in m5)).trans (num_in h3)).trans (must_in m7)).trans (num_in h4)).trans (close_in h)
theorem tenant_in {fs : List Field} (h : tenantT ts = .ok fs us) : InT ts us fs := by
  obtain ⟨f1, a1, h1, h⟩ := next_inv h
  obtain ⟨_, a2, m2, h⟩ := next_inv h
  obtain ⟨f2, a3, h2, h⟩ := next_inv h
  obtain ⟨_, a4, m4, h⟩ := next_inv h
  obtain ⟨s, a5, h3, h⟩ := next_inv h
  obtain ⟨r, a6, h4, h⟩ := next_inv h
  obtain ⟨_, a7, m7, h⟩ := next_inv h
  obtain ⟨f3, a8, h5, h⟩ := next_inv h
  have e := close_inv h
  subst e
  have k := (((((((name_in h1).trans (must_in m2)).trans (num_in h2)).trans (must_in m4)).trans (optS_in h3)).trans (optB_in h4)).trans (must_in m7)).trans (name_in h5)
  have k2 := k.trans (close_in h)
  refine ⟨k2.1, fun f hf => k2.2 f ?_⟩
  simp only [List.mem_append, List.mem_cons, List.not_mem_nil, or_false] at hf ⊢
  rcases hf with (((hf | hf) | hf) | hf) | hf <;> simp [hf]
theorem item_in {x : Item} (h : itemT ts = .ok x us) : InT ts us x.fields := by
  unfold itemT at h
  split at h
  · obtain ⟨_, a1, m1, h⟩ := next_inv h
    obtain ⟨fs, a2, h1, h⟩ := next_inv h
    injection h with h h2
    subst h h2
    exact (must_in m1).trans (tenant_in h1)
  · obtain ⟨_, a1, m1, h⟩ := next_inv h
    obtain ⟨fs, a2, h1, h⟩ := next_inv h
    injection h with h h2
    subst h h2
    exact (must_in m1).trans (class_in h1)
end
theorem tf_words (fs : List Field) : fs.map Prod.fst = (fs.map tf).map Prod.fst := by rw [List.map_map]; rfl
theorem shape_words {x : Item} (h : Shape x) : (x.fields.map Prod.fst).Nodup ∧ 3 ≤ x.fields.length ∧ x.fields.length ≤ 6 ∧ (∀ f ∈ x.fields, (wordB f.2.text = true ∨ numB f.2.text = true) ∧ f.1.length ≤ 2000) := by
  have len : ∀ l : List TF, x.fields.map tf = l → x.fields.length = l.length := fun l e => by rw [← e, List.length_map]
  have each : ∀ l : List TF, x.fields.map tf = l → (∀ g ∈ l, (wordB g.2 = true ∨ numB g.2 = true) ∧ g.1.length ≤ 2000) → ∀ f ∈ x.fields, (wordB f.2.text = true ∨ numB f.2.text = true) ∧ f.1.length ≤ 2000 := fun l e hl f hf => hl (tf f) (by rw [← e]; exact List.mem_map.2 ⟨f, hf, rfl⟩)
  rw [tf_words]
  rcases h with ⟨-, a, b, c, d, e, wa, wb, nc, nd⟩ | ⟨-, a, g, sn, br, c, e, wa, ng, wc, hs, hb⟩
  · rw [e]
    refine ⟨(by show List.Nodup [([] : Bytes), kCode, kLosses, kWhole]; decide), by rw [len _ e]; exact Nat.le_of_ble_eq_true rfl, by rw [len _ e]; exact Nat.le_of_ble_eq_true rfl, each _ e ?_⟩
    intro f hf
    simp only [cFields, List.mem_cons, List.not_mem_nil, or_false] at hf
    rcases hf with rfl | rfl | rfl | rfl
    · exact ⟨.inl wa, Nat.le_of_ble_eq_true rfl⟩
    · exact ⟨.inl wb, Nat.le_of_ble_eq_true rfl⟩
    · exact ⟨.inr nc, Nat.le_of_ble_eq_true rfl⟩
    · exact ⟨.inr nd, Nat.le_of_ble_eq_true rfl⟩
  · rw [e]
    cases sn with
    | none =>
      cases br with
      | none =>
        refine ⟨(by show List.Nodup [([] : Bytes), kGuar, kClass]; decide), by rw [len _ e]; exact Nat.le_of_ble_eq_true rfl, by rw [len _ e]; exact Nat.le_of_ble_eq_true rfl, each _ e ?_⟩
        intro f hf
        simp only [tFields, sFields, bFields, List.mem_cons, List.mem_append, List.not_mem_nil, or_false] at hf
        rcases hf with (rfl | rfl) | rfl
        · exact ⟨.inl wa, Nat.le_of_ble_eq_true rfl⟩
        · exact ⟨.inr ng, Nat.le_of_ble_eq_true rfl⟩
        · exact ⟨.inl wc, Nat.le_of_ble_eq_true rfl⟩
      | some p =>
        refine ⟨(by show List.Nodup [([] : Bytes), kGuar, kBurst, kRank, kClass]; decide), by rw [len _ e]; exact Nat.le_of_ble_eq_true rfl, by rw [len _ e]; exact Nat.le_of_ble_eq_true rfl, each _ e ?_⟩
        intro f hf
        simp only [tFields, sFields, bFields, List.mem_cons, List.mem_append, List.not_mem_nil, or_false] at hf
        rcases hf with ((rfl | rfl) | (rfl | rfl)) | rfl
        · exact ⟨.inl wa, Nat.le_of_ble_eq_true rfl⟩
        · exact ⟨.inr ng, Nat.le_of_ble_eq_true rfl⟩
        · exact ⟨.inr (hb p rfl).1, Nat.le_of_ble_eq_true rfl⟩
        · exact ⟨.inr (hb p rfl).2, Nat.le_of_ble_eq_true rfl⟩
        · exact ⟨.inl wc, Nat.le_of_ble_eq_true rfl⟩
    | some s =>
      cases br with
      | none =>
        refine ⟨(by show List.Nodup [([] : Bytes), kGuar, kSnap, kClass]; decide), by rw [len _ e]; exact Nat.le_of_ble_eq_true rfl, by rw [len _ e]; exact Nat.le_of_ble_eq_true rfl, each _ e ?_⟩
        intro f hf
        simp only [tFields, sFields, bFields, List.mem_cons, List.mem_append, List.not_mem_nil, or_false] at hf
        rcases hf with ((rfl | rfl) | rfl) | rfl
        · exact ⟨.inl wa, Nat.le_of_ble_eq_true rfl⟩
        · exact ⟨.inr ng, Nat.le_of_ble_eq_true rfl⟩
        · exact ⟨.inr (hs s rfl), Nat.le_of_ble_eq_true rfl⟩
        · exact ⟨.inl wc, Nat.le_of_ble_eq_true rfl⟩
      | some p =>
        refine ⟨(by show List.Nodup [([] : Bytes), kGuar, kSnap, kBurst, kRank, kClass]; decide), by rw [len _ e]; exact Nat.le_of_ble_eq_true rfl, by rw [len _ e]; exact Nat.le_of_ble_eq_true rfl, each _ e ?_⟩
        intro f hf
        simp only [tFields, sFields, bFields, List.mem_cons, List.mem_append, List.not_mem_nil, or_false] at hf
        rcases hf with (((rfl | rfl) | rfl) | (rfl | rfl)) | rfl
        · exact ⟨.inl wa, Nat.le_of_ble_eq_true rfl⟩
        · exact ⟨.inr ng, Nat.le_of_ble_eq_true rfl⟩
        · exact ⟨.inr (hs s rfl), Nat.le_of_ble_eq_true rfl⟩
        · exact ⟨.inr (hb p rfl).1, Nat.le_of_ble_eq_true rfl⟩
        · exact ⟨.inr (hb p rfl).2, Nat.le_of_ble_eq_true rfl⟩
        · exact ⟨.inl wc, Nat.le_of_ble_eq_true rfl⟩
theorem toksF_len : ∀ (f : Nat) (s : Bytes) (a : Nat) (T : Tok), T ∈ toksF f s a → T.text.length ≤ s.length ∧ T.at_ ≤ a + s.length
  | 0, _, _, T, h => by cases h
  | f + 1, s, a, T, h => by
    have hk := skipS_le false s
    have hl := lexS_le (s.drop (skipS false s))
    rw [List.length_drop] at hl
    simp only [toksF] at h
    split at h
    · rw [List.mem_singleton] at h
      rw [h]
      exact ⟨Nat.zero_le _, by show a + _ ≤ _; omega⟩
    · rcases List.mem_cons.1 h with h | h
      · rw [h]
        exact ⟨by show (lexS _).length ≤ _; omega, by show a + _ ≤ _; omega⟩
      · have := toksF_len f _ _ T h
        rw [List.length_drop] at this
        omega
theorem toks_len (l : Bytes) : ∀ T ∈ toks l 0, T.text.length ≤ l.length ∧ T.at_ ≤ l.length := fun T hT => by
  have := toksF_len _ _ _ T hT
  rw [List.drop_zero] at this
  omega
end Go.Proofs.YtimmffncfkcpfaaGreatDoor
