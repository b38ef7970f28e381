/-
  What the parser makes of the tokens of printed terms: the terms. No program is run here.
-/
import Derived.Test.YtimmffncfkcpfaaGreatDoorV2
namespace Go.Proofs.YtimmffncfkcpfaaGreatDoor
open Go

section
variable {ts : List Tok} {K : List (Option Bytes)} {n : Nat}
theorem take_k {ok : Bytes → Bool} {x : Bytes} (h : ts.map (key n) = some x :: K) (hx : ok x = true) : ∃ T a, takeT ok ts = .ok T a ∧ T.text = x ∧ a.map (key n) = K := by
  cases ts with
  | nil => cases h
  | cons T ts =>
    rw [List.map_cons] at h
    injection h with h1 h2
    have ht : T.text = x := by
      unfold key at h1
      split at h1
      · cases h1
      · injection h1
    exact ⟨T, ts, by rw [takeT, ht, hx, if_pos rfl], ht, h2⟩
theorem must_k {s : Bytes} (h : ts.map (key n) = some s :: K) : ∃ T a, mustT s ts = .ok T a ∧ a.map (key n) = K := by
  obtain ⟨T, a, h1, _, h3⟩ := take_k (ok := (· == s)) h (by simp)
  exact ⟨T, a, h1, h3⟩
theorem head_k {s x : Bytes} (h : ts.map (key n) = some x :: K) : headIs s ts = (x == s) ∧ headAt ts < n := by
  cases ts with
  | nil => cases h
  | cons T ts =>
    rw [List.map_cons] at h
    injection h with h1 h2
    unfold key at h1
    split at h1
    · cases h1
    · rename_i hn
      injection h1 with h1
      exact ⟨by rw [headIs, h1], by show T.at_ < n; omega⟩
theorem head_end (h : ts.map (key n) = none :: K) : n ≤ headAt ts := by
  cases ts with
  | nil => cases h
  | cons T ts =>
    rw [List.map_cons] at h
    injection h with h1 h2
    unfold key at h1
    split at h1
    · assumption
    · cases h1
theorem name_k {w x : Bytes} (h : ts.map (key n) = some x :: K) (hx : wordB x = true) : ∃ f a, nameF w ts = .ok f a ∧ tf f = (w, x) ∧ a.map (key n) = K := by
  obtain ⟨T, a, h1, h2, h3⟩ := take_k h hx
  refine ⟨(w, T), a, by unfold nameF; rw [h1]; rfl, ?_, h3⟩
  unfold tf; rw [h2]
theorem num_k {w x : Bytes} (h : ts.map (key n) = some w :: some x :: K) (hx : numB x = true) : ∃ f a, numF w ts = .ok f a ∧ tf f = (w, x) ∧ a.map (key n) = K := by
  obtain ⟨T0, a, h1, h2⟩ := must_k h
  obtain ⟨T, b, h3, h4, h5⟩ := take_k h2 hx
  refine ⟨(w, T), b, by unfold numF; rw [h1, PR.next_ok, h3]; rfl, ?_, h5⟩
  unfold tf; rw [h4]
theorem close_k {fs : List Field} (h : ts.map (key n) = some kSemi :: some kClose :: K) : ∃ a, closeT fs ts = .ok fs a ∧ a.map (key n) = K := by
  obtain ⟨T0, a, h1, h2⟩ := must_k h
  obtain ⟨T1, b, h3, h4⟩ := must_k h2
  exact ⟨b, by unfold closeT; rw [h1, PR.next_ok, h3]; rfl, h4⟩
theorem itoa_num {x : Int} (h0 : 0 ≤ x) (h : x < 100000000) : numB (Lib.itoa x) = true ∧ (valD (Lib.itoa x) : Int) = x := by
  obtain ⟨m, rfl⟩ : ∃ m : Nat, x = m := ⟨x.toNat, by omega⟩
  rw [itoa_nat, (decD_spec m).2.2.1]
  exact ⟨numB_dec (by omega), rfl⟩
theorem class_k {C : ClassD} (hC : OkC C) (h : ts.map (key n) = keysC C ++ K) : ∃ x a, itemT ts = .ok x a ∧ x.tenant = false ∧ x.fields.map tf = cFields C.name C.code (Lib.itoa C.losses) (Lib.itoa C.whole) ∧ a.map (key n) = K ∧ headAt ts < n := by
  have hl := perm_losses.1 hC.losses
  have hw := perm_whole.1 hC.whole
  unfold keysC at h
  simp only [List.cons_append, List.nil_append] at h
  obtain ⟨i1, i2⟩ := head_k (s := kTenant) h
  obtain ⟨T0, a0, e0, h⟩ := must_k h
  obtain ⟨f1, a1, e1, t1, h⟩ := name_k (w := []) h (name_word hC.name).1
  obtain ⟨T2, a2, e2, h⟩ := must_k h
  obtain ⟨T3, a3, e3, h⟩ := must_k h
  obtain ⟨f4, a4, e4, t4, h⟩ := name_k (w := kCode) h (name_word hC.code).1
  obtain ⟨T5, a5, e5, h⟩ := must_k h
  obtain ⟨f6, a6, e6, t6, h⟩ := num_k h (itoa_num hl.1 (by omega)).1
  obtain ⟨T7, a7, e7, h⟩ := must_k h
  obtain ⟨f8, a8, e8, t8, h⟩ := num_k h (itoa_num (x := C.whole) (by omega) (by omega)).1
  obtain ⟨a9, e9, h⟩ := close_k (fs := [f1, f4, f6, f8]) h
  refine ⟨⟨false, [f1, f4, f6, f8]⟩, a9, ?_, rfl, ?_, h, i2⟩
  · unfold itemT
    rw [i1, if_neg (by decide), e0, PR.next_ok]
    unfold classT
    rw [e1, PR.next_ok, e2, PR.next_ok, e3, PR.next_ok, e4, PR.next_ok, e5, PR.next_ok, e6, PR.next_ok, e7, PR.next_ok, e8, PR.next_ok, e9, PR.next_ok]
  · simp only [List.map_cons, List.map_nil, t1, t4, t6, t8]; rfl
def snO (x : Int) : Option Bytes := if 0 < x then some (Lib.itoa x) else none
def brO (x r : Int) : Option (Bytes × Bytes) := if 0 < x then some (Lib.itoa x, Lib.itoa r) else none
theorem snap_k {x : Int} (h1 : x < 100000000) {k : Bytes} (hk : (k == kSnap) = false) (h : ts.map (key n) = keysS x ++ (some k :: K)) : ∃ fs a, optS ts = .ok fs a ∧ fs.map tf = sFields (snO x) ∧ a.map (key n) = some k :: K := by
  unfold keysS at h
  unfold optS snO
  by_cases hx : 0 < x
  · rw [if_pos hx] at h ⊢
    simp only [List.cons_append, List.nil_append] at h
    obtain ⟨i1, -⟩ := head_k (s := kSnap) h
    obtain ⟨f, a, e1, t1, h⟩ := num_k h (itoa_num (x := x) (by omega) h1).1
    obtain ⟨T, b, e2, h⟩ := must_k h
    exact ⟨[f], b, by rw [i1, if_pos (by simp), e1, PR.next_ok, e2]; rfl, by rw [List.map_cons, t1]; rfl, h⟩
  · rw [if_neg hx] at h ⊢
    obtain ⟨i1, -⟩ := head_k (s := kSnap) h
    exact ⟨[], ts, by rw [i1, hk]; rfl, rfl, h⟩
theorem burst_k {x r : Int} (h1 : x < 100000000) (hr : 0 ≤ r ∧ r < 100000000) {k : Bytes} (hk : (k == kBurst) = false) (h : ts.map (key n) = keysB x r ++ (some k :: K)) : ∃ fs a, optB ts = .ok fs a ∧ fs.map tf = bFields (brO x r) ∧ a.map (key n) = some k :: K := by
  unfold keysB at h
  unfold optB brO
  by_cases hx : 0 < x
  · rw [if_pos hx] at h ⊢
    simp only [List.cons_append, List.nil_append] at h
    obtain ⟨i1, -⟩ := head_k (s := kBurst) h
    obtain ⟨f, a, e1, t1, h⟩ := num_k h (itoa_num (x := x) (by omega) h1).1
    obtain ⟨g, b, e2, t2, h⟩ := num_k h (itoa_num hr.1 hr.2).1
    obtain ⟨T, c, e3, h⟩ := must_k h
    exact ⟨[f, g], c, by rw [i1, if_pos (by simp), e1, PR.next_ok, e2, PR.next_ok, e3]; rfl, by rw [List.map_cons, List.map_cons, t1, t2]; rfl, h⟩
  · rw [if_neg hx] at h ⊢
    obtain ⟨i1, -⟩ := head_k (s := kBurst) h
    exact ⟨[], ts, by rw [i1, hk]; rfl, rfl, h⟩
theorem keysB_head (x r : Int) (K : List (Option Bytes)) : ∃ k K', keysB x r ++ (some kClass :: K) = some k :: K' ∧ (k == kSnap) = false := by
  unfold keysB
  split
  · exact ⟨_, _, rfl, by decide⟩
  · exact ⟨_, _, rfl, by decide⟩
theorem contr_k {D : ContrD} (hD : OkT D) (h : ts.map (key n) = keysD D ++ K) : ∃ x a, itemT ts = .ok x a ∧ x.tenant = true ∧ x.fields.map tf = tFields D.tenant (Lib.itoa D.guar) (snO D.snap) (brO D.burst D.rank) D.cls ∧ a.map (key n) = K ∧ headAt ts < n := by
  have hg := perm_guar.1 hD.guar
  have hs := perm_snap.1 hD.snap
  have hb := perm_burst.1 hD.burst
  have hr := perm_rank.1 hD.rank
  unfold keysD at h
  simp only [List.cons_append, List.append_assoc, List.nil_append] at h
  obtain ⟨i1, i2⟩ := head_k (s := kTenant) h
  obtain ⟨T0, a0, e0, h⟩ := must_k h
  obtain ⟨f1, a1, e1, t1, h⟩ := name_k (w := []) h (name_word hD.tenant).1
  obtain ⟨T2, a2, e2, h⟩ := must_k h
  obtain ⟨f3, a3, e3, t3, h⟩ := num_k h (itoa_num hg.1 (by omega)).1
  obtain ⟨T4, a4, e4, h⟩ := must_k h
  obtain ⟨k, K', hk1, hk2⟩ := keysB_head D.burst D.rank (some D.cls :: some kSemi :: some kClose :: K)
  rw [hk1] at h
  obtain ⟨fs5, a5, e5, t5, h⟩ := snap_k (by omega) hk2 h
  rw [← hk1] at h
  obtain ⟨fs6, a6, e6, t6, h⟩ := burst_k (by omega) ⟨hr.1, by omega⟩ (by decide) h
  obtain ⟨T7, a7, e7, h⟩ := must_k h
  obtain ⟨f8, a8, e8, t8, h⟩ := name_k (w := kClass) h (name_word hD.cls).1
  obtain ⟨a9, e9, h⟩ := close_k (fs := [f1, f3] ++ fs5 ++ fs6 ++ [f8]) h
  refine ⟨⟨true, [f1, f3] ++ fs5 ++ fs6 ++ [f8]⟩, a9, ?_, rfl, ?_, h, i2⟩
  · unfold itemT
    rw [i1, if_pos (by simp), e0, PR.next_ok]
    unfold tenantT
    rw [e1, PR.next_ok, e2, PR.next_ok, e3, PR.next_ok, e4, PR.next_ok, e5, PR.next_ok, e6, PR.next_ok, e7, PR.next_ok, e8, PR.next_ok, e9, PR.next_ok]
  · simp only [List.map_append, List.map_cons, List.map_nil, t1, t3, t5, t6, t8]; rfl
end
/-- The items of classes, and of contracts. -/
def ItC (x : Item) (C : ClassD) : Prop := x.tenant = false ∧ x.fields.map tf = cFields C.name C.code (Lib.itoa C.losses) (Lib.itoa C.whole)
def ItD (x : Item) (D : ContrD) : Prop := x.tenant = true ∧ x.fields.map tf = tFields D.tenant (Lib.itoa D.guar) (snO D.snap) (brO D.burst D.rank) D.cls
inductive All2 {α β : Type} (R : α → β → Prop) : List α → List β → Prop
  | nil : All2 R [] []
  | cons {x y xs ys} : R x y → All2 R xs ys → All2 R (x :: xs) (y :: ys)
theorem items_k {β : Type} {R : Item → β → Prop} {ks : β → List (Option Bytes)} {n : Nat} : ∀ (ys : List β) (f : Nat) (acc : List Item) (ts : List Tok) (K : List (Option Bytes)),
    (∀ y ∈ ys, ∀ (ts : List Tok) (K : List (Option Bytes)), ts.map (key n) = ks y ++ K → ∃ x a, itemT ts = .ok x a ∧ R x y ∧ a.map (key n) = K ∧ headAt ts < n) →
    ts.map (key n) = ys.flatMap ks ++ K → ∃ xs a, All2 R xs ys ∧ a.map (key n) = K ∧ itemsT n (f + ys.length) acc ts = itemsT n f (acc ++ xs) a
  | [], f, acc, ts, K, _, h => ⟨[], ts, .nil, h, by rw [List.append_nil]; rfl⟩
  | y :: ys, f, acc, ts, K, hy, h => by
    rw [List.flatMap_cons, List.append_assoc] at h
    obtain ⟨x, a, e, hr, h, hlt⟩ := hy y (by simp) ts _ h
    obtain ⟨xs, b, h1, h2, h3⟩ := items_k ys f (acc ++ [x]) a K (fun y' hy' => hy y' (by simp [hy'])) h
    refine ⟨x :: xs, b, .cons hr h1, h2, ?_⟩
    rw [List.length_cons, ← Nat.add_assoc, itemsT, if_pos hlt, e, PR.next_ok, h3, List.append_assoc]; rfl
theorem valI {x : Int} (h0 : 0 ≤ x) (h : x < 100000000) : (valD (Lib.itoa x) : Int) = x := (itoa_num h0 h).2
theorem adds_c {cl : List Bytes} : ∀ (xs : List Item) (Cs : List ClassD) (T : TermsD), All2 ItC xs Cs → (∀ C ∈ Cs, OkC C) → T.classes.length + Cs.length ≤ 8 → ((T.classes ++ Cs).map ClassD.name).Nodup → ∀ ys, addsB cl T (xs ++ ys) = addsB cl ⟨T.classes ++ Cs, T.contracts⟩ ys
  | _, _, T, .nil, _, _, _, ys => by rw [List.append_nil]; rfl
  | _, _, T, .cons (x := x) (y := C) (xs := xs) (ys := Cs) hR hA, hC, hl, hn, ys => by
    have h := hC C (by simp)
    have h1 := perm_losses.1 h.losses
    have h2 := perm_whole.1 h.whole
    have hn1 := name_word h.name
    have hn2 := name_word h.code
    rw [List.length_cons] at hl
    have hnot : C.name ∉ T.classes.map ClassD.name := fun hm => by
      rw [List.map_append, List.map_cons, List.nodup_append] at hn
      exact hn.2.2 _ hm _ (by simp) rfl
    have e : addB cl T x = .ok ⟨T.classes ++ [C], T.contracts⟩ := by
      rw [add_tf, hR.1, hR.2, add_c hn2.1 (itoa_num h1.1 (by omega)).1 (itoa_num (x := C.whole) (by omega) (by omega)).1, valI h1.1 (by omega), valI (x := C.whole) (by omega) (by omega), if_pos ⟨by omega, hn1.2, hnot, hn2.2, h.losses, h.whole⟩]
    rw [List.cons_append, addsB, e]
    show addsB cl _ (xs ++ ys) = _
    rw [adds_c xs Cs ⟨T.classes ++ [C], T.contracts⟩ hA (fun C' hC' => hC C' (by simp [hC'])) (by simp; omega) (by simpa using hn) ys]
    simp
theorem snV_o {x : Int} (h0 : 0 ≤ x) (h : x < 100000000) : (snV (snO x) : Int) = x := by
  unfold snO
  split
  · exact valI h0 h
  · show ((0 : Nat) : Int) = x; omega
theorem brV_o {x r : Int} (h0 : 0 ≤ x) (h : x < 100000000) : (brV (brO x r) : Int) = x := by
  unfold brO
  split
  · exact valI h0 h
  · show ((0 : Nat) : Int) = x; omega
theorem rkV_o {x r : Int} (h0 : 0 ≤ r) (h : r < 100000000) (hx : 0 ≤ x) (hn : x = 0 → r = 0) : (rkV (brO x r) : Int) = r := by
  unfold brO
  split
  · exact valI h0 h
  · have := hn (by omega)
    show ((0 : Nat) : Int) = r; omega
theorem adds_d {cl : List Bytes} : ∀ (xs : List Item) (Ds : List ContrD) (T : TermsD), All2 ItD xs Ds → (∀ D ∈ Ds, OkT D ∧ D.cls ∈ cl) → T.contracts.length + Ds.length ≤ 16 → ((T.contracts ++ Ds).map ContrD.tenant).Nodup → addsB cl T xs = .ok ⟨T.classes, T.contracts ++ Ds⟩
  | _, _, T, .nil, _, _, _ => by rw [List.append_nil]; rfl
  | _, _, T, .cons (x := x) (y := D) (xs := xs) (ys := Ds) hR hA, hD, hl, hn => by
    obtain ⟨h, hcl⟩ := hD D (by simp)
    have h1 := perm_guar.1 h.guar
    have h2 := perm_snap.1 h.snap
    have h3 := perm_burst.1 h.burst
    have h4 := perm_rank.1 h.rank
    have hn1 := name_word h.tenant
    have hn2 := name_word h.cls
    rw [List.length_cons] at hl
    have hnot : D.tenant ∉ T.contracts.map ContrD.tenant := fun hm => by
      rw [List.map_append, List.map_cons, List.nodup_append] at hn
      exact hn.2.2 _ hm _ (by simp) rfl
    have v1 := valI h1.1 (show D.guar < 100000000 by omega)
    have v2 := snV_o h2.1 (show D.snap < 100000000 by omega)
    have v3 := brV_o (r := D.rank) h3.1 (show D.burst < 100000000 by omega)
    have v4 := rkV_o h4.1 (show D.rank < 100000000 by omega) h3.1 h.none
    have hs : ∀ s, snO D.snap = some s → numB s = true := fun s e => by
      unfold snO at e
      split at e
      · injection e with e; rw [← e]; exact (itoa_num h2.1 (by omega)).1
      · cases e
    have hb : ∀ p, brO D.burst D.rank = some p → numB p.1 = true ∧ numB p.2 = true := fun p e => by
      unfold brO at e
      split at e
      · injection e with e; rw [← e]; exact ⟨(itoa_num h3.1 (by omega)).1, (itoa_num h4.1 (by omega)).1⟩
      · cases e
    have hz : ¬ (brV (brO D.burst D.rank) = 0 ∧ 0 < rkV (brO D.burst D.rank)) := fun e => by
      have := h.none (by omega)
      omega
    have e : addB cl T x = .ok ⟨T.classes, T.contracts ++ [D]⟩ := by
      rw [add_tf, hR.1, hR.2, add_t (itoa_num h1.1 (by omega)).1 hn2.1 hs hb, v1, v2, v3, v4, if_pos ⟨by omega, hn1.2, hnot, ⟨h.guar, h.snap, h.burst, h.rank, hz, hn2.2⟩, hcl⟩]
    rw [addsB, e]
    show addsB cl _ xs = _
    rw [adds_d xs Ds ⟨T.classes, T.contracts ++ [D]⟩ hA (fun D' hD' => hD D' (by simp [hD'])) (by simp; omega) (by simpa using hn)]
    simp
theorem names_c : ∀ (xs : List Item) (Cs : List ClassD), All2 ItC xs Cs → classNames xs = Cs.map ClassD.name
  | _, _, .nil => rfl
  | _, _, .cons (x := x) (y := C) (xs := xs) (ys := Cs) hR hA => by
    have ih := names_c xs Cs hA
    unfold classNames at ih ⊢
    rw [List.filter_cons, hR.1, if_pos (show (!false) = true from rfl), List.map_cons, List.map_cons, ih, first_tf, hR.2]; rfl
theorem names_d : ∀ (xs : List Item) (Ds : List ContrD), All2 ItD xs Ds → classNames xs = []
  | _, _, .nil => rfl
  | _, _, .cons (x := x) (y := D) (xs := xs) (ys := Ds) hR hA => by
    have ih := names_d xs Ds hA
    unfold classNames at ih ⊢
    rw [List.filter_cons, hR.1, if_neg (by simp), ih]
theorem len_flat {β : Type} (ks : β → List (Option Bytes)) (h : ∀ y, 1 ≤ (ks y).length) : ∀ ys : List β, ys.length ≤ (ys.flatMap ks).length
  | [] => Nat.le_refl _
  | y :: ys => by
    have := len_flat ks h ys
    have := h y
    rw [List.flatMap_cons, List.length_append, List.length_cons]; omega
/-- A text whose tokens are those of printed terms is read as the terms. -/
theorem parse_keys {T : TermsD} (hT : Ok T) {t : Bytes} (ht : t.length ≤ 2000) (h : keys t = keysT T) : parseB t = .ok T := by
  have hk : (toks t 0).map (key t.length) = T.classes.flatMap keysC ++ (T.contracts.flatMap keysD ++ [none]) := by rw [toks_keys t 0 (by omega), List.drop_zero]; exact h
  have hlen : T.classes.length + T.contracts.length + 1 ≤ (toks t 0).length := by
    have h1 := congrArg List.length hk
    rw [List.length_map, List.length_append, List.length_append] at h1
    have h2 := len_flat keysC (fun y => by unfold keysC; simp) T.classes
    have h3 := len_flat keysD (fun y => by unfold keysD; simp) T.contracts
    simp only [List.length_singleton] at h1
    omega
  obtain ⟨g, hg⟩ : ∃ g, (toks t 0).length + 1 = (g + 1) + T.contracts.length + T.classes.length := ⟨(toks t 0).length - T.contracts.length - T.classes.length, by omega⟩
  obtain ⟨xs, a, h1, h2, h3⟩ := items_k (R := ItC) T.classes ((g + 1) + T.contracts.length) [] (toks t 0) _ (fun C hC ts K hts => by
    obtain ⟨x, a, e1, e2, e3, e4, e5⟩ := class_k (hT.cs C hC) hts
    exact ⟨x, a, e1, ⟨e2, e3⟩, e4, e5⟩) hk
  obtain ⟨ys, b, h4, h5, h6⟩ := items_k (R := ItD) T.contracts (g + 1) ([] ++ xs) a _ (fun D hD ts K hts => by
    obtain ⟨x, a, e1, e2, e3, e4, e5⟩ := contr_k (hT.ts D hD).1 hts
    exact ⟨x, a, e1, ⟨e2, e3⟩, e4, e5⟩) h2
  unfold parseB
  rw [if_neg (by omega), hg, h3, h6, itemsT, if_neg (by have := head_end h5; omega)]
  show addsB (classNames ([] ++ xs ++ ys)) ⟨[], []⟩ ([] ++ xs ++ ys) = _
  rw [List.nil_append]
  have hnm : classNames (xs ++ ys) = T.classes.map ClassD.name := by
    have e1 := names_c xs _ h1
    have e2 := names_d ys _ h4
    unfold classNames at e1 e2 ⊢
    rw [List.filter_append, List.map_append, e1, e2, List.append_nil]
  rw [hnm, adds_c xs T.classes ⟨[], []⟩ h1 hT.cs (by simpa using hT.cn) (by simpa using hT.cd) ys,
    adds_d ys T.contracts ⟨[] ++ T.classes, []⟩ h4 hT.ts (by simpa using hT.tn) (by simpa using hT.td)]
  rfl
/-- Printed and read again. -/
theorem round_trip {T : TermsD} (hT : Ok T) (ht : (printT T).length ≤ 2000) : parseB (printT T) = .ok T := parse_keys hT ht (keys_print hT)
end Go.Proofs.YtimmffncfkcpfaaGreatDoor
