/-
  The walks of tree's node.gather and Nodes: which nodes are in the set afterwards.
-/
import Derived.Test.YtognbkmamhgkeaaDoorW4
import Derived.Test.YtognbkmamhgkeaaDoorLm
import Derived.Test.YtognbkmamhgkeaaDoorGe
namespace Go.Proofs.YtognbkmamhgkeaaDoor
open Go Go.RowKit Go.Walks

def GPost (M : Nat) (w : World) (S' : List Nat) (e : Ending) (w' : World) : Prop := e = .returned (.tuple #[]) ∧ Only M w w' ∧ MapAt w' M S'

set_option maxHeartbeats 400000 in
theorem gather_nil (M : Nat) (S : List Nat) (w : World) (Hm : Hid (MapAt w M S)) : Calls Tryd.prog 31 #[.pointer none, .map (some M)] w (GPost M w S) := by
  go_enter Tryd.func31, Tryd.ntmps31
  go_wp2_with fail
  go_end0
  exact ⟨rfl, Only.refl _ _, Hm.out⟩

set_option maxHeartbeats 400000 in
theorem gather_seen (M b : Nat) (S : List Nat) (w : World) (Hm : Hid (MapAt w M S)) (Hb : Hid (NodeBlk w b)) (hs : b ∈ S) : Calls Tryd.prog 31 #[.pointer (some ⟨b, 0, none⟩), .map (some M)] w (GPost M w S) := by
  have hlk := lookup62 Hm.out Hb.out
  rw [decide_eq_true hs] at hlk
  clear hs
  go_enter Tryd.func31, Tryd.ntmps31
  go_wp2_with fail
  go_end0
  exact ⟨rfl, Only.refl _ _, Hm.out⟩

set_option maxHeartbeats 400000 in
theorem gather_node (M b has : Nat) (kd : Nat → Option Nat) (ch : Nat → Int) (S : List Nat) (w : World) (st : Nat → List Nat → List Nat) (Hm : Hid (MapAt w M S)) (Hn : Hid (NodeAt w b has kd ch)) (hs : b ∉ S)
    (Hk : Hid (∀ i, i < 16 → ∀ (w' : World) (S' : List Nat), Only M w w' → MapAt w' M S' → Calls Tryd.prog 31 #[ptrV (kd i), .map (some M)] w' (GPost M w' (st i S')))) :
    Calls Tryd.prog 31 #[.pointer (some ⟨b, 0, none⟩), .map (some M)] w (GPost M w ((List.range 16).foldl (fun S i => st i S) (S ++ [b]))) := by
  have hlk := lookup62 Hm.out Hn.out.blk
  rw [decide_eq_false hs] at hlk
  obtain ⟨w1, hup, ho, hm1⟩ := update62 Hm.out Hn.out.blk hs
  have hne := Hm.out.ne Hn.out.blk
  have hn1 : NodeAt w1 b has kd ch := by
    obtain ⟨cs, h, r⟩ := Hn.out
    exact ⟨cs, (ho.block b hne).trans h, r⟩
  have hld := load73 hn1
  have Ho := Lib.hid ho
  have Hm1 := Lib.hid hm1
  have Hs := Lib.hid hs
  clear ho hm1 hs hne hn1
  go_enter Tryd.func31, Tryd.ntmps31
  go_wp2_with (refine wpList_load_eq rfl 73 _ rfl _ hld ?_)
  go_loopw [19] (fun ix wr => ∃ k : Nat, k ≤ 16 ∧ ix = .int .i64 k ∧ Hid (Only M w wr) ∧ Hid (MapAt wr M ((List.range k).foldl (fun S i => st i S) (S ++ [b])))) (fun ix _ => 16 - (intOf ix).toNat)
  case atStart => exact ⟨0, by omega, rfl, Ho, Hm1⟩
  case round =>
    obtain ⟨k, hk, rfl, Hor, Hmr⟩ := hrel
    by_cases hlt : k < 16
    · have hix := index73 wr kd k hlt
      go_wp2_with (refine wpList_index_eq rfl 73 _ _ rfl _ hix ?_)
      refine (Hk.out k hlt wr _ Hor.out Hmr.out).mono ?_
      rintro e w2 ⟨rfl, ho2, hm2⟩
      have Ho2 := Lib.hid (Hor.out.trans ho2)
      have Hm2 := Lib.hid hm2
      clear ho2 hm2 hix
      go_wp2_with fail
      refine ⟨⟨k + 1, by omega, by go_num, Ho2, ?_⟩, by simp [intOf]; omega⟩
      show MapAt w2 M _
      rw [List.range_succ, List.foldl_append]
      exact Hm2.out
    · go_wp2_with fail
      go_end0
      have hk16 : k = 16 := by omega
      subst hk16
      exact ⟨rfl, Hor.out, Hmr.out⟩

/-- The set of nodes behind gather, as a list in the order of its coming. -/
def gth (T : TV) : Nat → Nat → List Nat → List Nat
  | 0, q, S => match T.adr 0 q with
    | none => S
    | some b => if b ∈ S then S else S ++ [b]
  | L + 1, q, S => match T.adr (L + 1) q with
    | none => S
    | some b => if b ∈ S then S else (List.range 16).foldl (fun S i => gth T L (16 * q + i) S) (S ++ [b])

theorem foldl_id (l : List Nat) (S : List Nat) : l.foldl (fun S _ => S) S = S := by
  induction l with
  | nil => rfl
  | cons x l ih => exact ih

theorem Sub.only {M : Nat} {w w' : World} {T : TV} {L q : Nat} {S : List Nat} (h : Sub w T L q) (ho : Only M w w') (hm : MapAt w M S) : Sub w' T L q := by
  refine Sub.move (S := fun b => b ≠ M) (fun b hb => ho.block b hb) h ?_
  induction L generalizing q with
  | zero =>
    intro l hl x hx b hb
    obtain rfl : l = 0 := by omega
    have hxq : x = q := by simpa using hx
    subst hxq
    obtain ⟨⟨has, hat, _⟩, _⟩ := h.2 b hb
    exact hm.ne hat.blk
  | succ L ih =>
    intro l hl x hx b hb
    by_cases hlL : l = L + 1
    · subst hlL
      have hxq : x = q := by simpa using hx
      subst hxq
      obtain ⟨⟨has, hat, _⟩, _⟩ := h.1.2 b hb
      exact hm.ne hat.blk
    · have hx' : x / 16 ^ (L - l) / 16 = q := by rw [← div_succ, show (L - l) + 1 = L + 1 - l by omega]; exact hx
      exact ih (h.2 (x / 16 ^ (L - l) % 16) (Nat.mod_lt _ (by omega))) l (by omega) x (by omega) b hb

theorem gather_any : ∀ (L : Nat) (T : TV) (q M : Nat) (S : List Nat) (w : World), Sub w T L q → MapAt w M S → Calls Tryd.prog 31 #[ptrV (T.adr L q), .map (some M)] w (GPost M w (gth T L q S))
  | 0, T, q, M, S, w, hs, hm => by
    unfold gth
    cases hadr : T.adr 0 q with
    | none => exact gather_nil M S w hm
    | some b =>
      obtain ⟨⟨has, hat, _⟩, _⟩ := hs.nd.2 b hadr
      simp only
      by_cases hb : b ∈ S
      · rw [if_pos hb]; exact gather_seen M b S w hm hat.blk hb
      · rw [if_neg hb]
        have := gather_node M b has _ _ S w (fun _ S => S) hm hat hb (fun i _ w' S' _ hm' => gather_nil M S' w' hm')
        rw [foldl_id] at this
        exact this
  | L + 1, T, q, M, S, w, hs, hm => by
    unfold gth
    cases hadr : T.adr (L + 1) q with
    | none => exact gather_nil M S w hm
    | some b =>
      obtain ⟨⟨has, hat, _⟩, _⟩ := hs.nd.2 b hadr
      simp only
      by_cases hb : b ∈ S
      · rw [if_pos hb]; exact gather_seen M b S w hm hat.blk hb
      · rw [if_neg hb]
        exact gather_node M b has _ _ S w (fun i S => gth T L (16 * q + i) S) hm hat hb (fun i hi w' S' ho' hm' => gather_any L T (16 * q + i) M S' w' ((hs.2 i hi).only ho' hm) hm')

end Go.Proofs.YtognbkmamhgkeaaDoor
