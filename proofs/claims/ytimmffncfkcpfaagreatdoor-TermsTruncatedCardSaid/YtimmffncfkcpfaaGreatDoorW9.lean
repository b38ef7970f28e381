/-
  The walks of the closures that compare names, and of slices.ContainsFunc over classes and contracts.
-/
import Derived.Test.YtimmffncfkcpfaaGreatDoorW1
import Derived.Test.YtimmffncfkcpfaaGreatDoorB1
namespace Go.Proofs.YtimmffncfkcpfaaGreatDoor
open Go Go.RowKit Go.Walks

def clsCs (C : ClassD) : List Value := [.string ⟨C.name.toArray⟩, .string ⟨C.code.toArray⟩, .int .i64 C.losses, .int .i64 C.whole]
def ctrCs (D : ContrD) : List Value := [.string ⟨D.tenant.toArray⟩, .int .i64 D.guar, .int .i64 D.snap, .int .i64 D.burst, .int .i64 D.rank, .string ⟨D.cls.toArray⟩]
theorem flat_get {α : Type} {f : α → List Value} {s : Nat} (hf : ∀ x, (f x).length = s) : ∀ (l : List α) (i j : Nat) (x : α), l[i]? = some x → j < s → (l.flatMap f)[i * s + j]? = (f x)[j]?
  | [], i, j, x, h, _ => by simp at h
  | y :: l, 0, j, x, h, hj => by
    have : y = x := by simpa using h
    subst this
    rw [List.flatMap_cons, Nat.zero_mul, Nat.zero_add, List.getElem?_append_left (by rw [hf]; exact hj)]
  | y :: l, i + 1, j, x, h, hj => by
    have ih := flat_get hf l i j x (by simpa using h) hj
    have e : (i + 1) * s + j = (f y).length + (i * s + j) := by rw [hf, Nat.succ_mul]; omega
    rw [List.flatMap_cons, e, List.getElem?_append_right (Nat.le_add_right _ _), Nat.add_sub_cancel_left, ih]
theorem flat_len {α : Type} {f : α → List Value} {s : Nat} (hf : ∀ x, (f x).length = s) : ∀ (l : List α), (l.flatMap f).length = l.length * s
  | [] => by simp
  | y :: l => by rw [List.flatMap_cons, List.length_append, hf, flat_len hf l, List.length_cons, Nat.succ_mul]; omega
theorem flat_take {α : Type} {f : α → List Value} {s : Nat} (hf : ∀ x, (f x).length = s) : ∀ (l : List α) (k : Nat), (l.flatMap f).take (k * s) = (l.take k).flatMap f
  | [], k => by simp
  | y :: l, 0 => by simp
  | y :: l, k + 1 => by
    rw [List.flatMap_cons, List.take_succ_cons, List.flatMap_cons, Nat.succ_mul, Nat.add_comm, List.take_append, hf, List.take_of_length_le (by rw [hf]; omega), Nat.add_sub_cancel_left, flat_take hf l k]
theorem cls_len (C : ClassD) : (clsCs C).length = 4 := rfl
theorem ctr_len (D : ContrD) : (ctrCs D).length = 6 := rfl
/-- The cells of the element i of a slice. -/
theorem sl_at {w : World} {B : Nat} {A : Option Addr} {α : Type} {f : α → List Value} {s : Nat} {l : List α} {i : Nat} {x : α} (hf : ∀ x, (f x).length = s) (h : Sl w B A (l.flatMap f)) (hx : l[i]? = some x) (hs : 0 < s) :
    ∃ b o, A = some ⟨b, o, none⟩ ∧ b < B ∧ ∀ j u, (f x)[j]? = some u → w.cell? ⟨b, o + (i * s + j), none⟩ = some u := by
  have hi := (List.getElem?_eq_some_iff.1 hx).1
  obtain ⟨b, o, e, hb, hc⟩ := h.at_ (k := i * s) (by
    rw [flat_len hf]
    have h1 := Nat.mul_le_mul_right s (show i + 1 ≤ l.length from hi)
    rw [Nat.succ_mul] at h1
    omega)
  refine ⟨b, o, e, hb, fun j u hu => ?_⟩
  have hj : j < s := by rw [← hf x]; exact (List.getElem?_eq_some_iff.1 hu).1
  exact hc _ u (by rw [flat_get hf l i j x hx hj]; exact hu)

set_option maxRecDepth 100000 in
theorem clo17 (C : ClassD) (nm : Bytes) (g : Nat) (W : World) (h : W.cell? ⟨g, 0, none⟩ = some (.string ⟨nm.toArray⟩)) : Calls Tryz.prog 31 #[.agg (clsCs C).toArray, .pointer (some ⟨g, 0, none⟩)] W (BoolR (C.name == nm) W) := by
  have hlt : ∀ o : Obj, (W.alloc o).cell? ⟨g, 0, none⟩ = some (.string ⟨nm.toArray⟩) := fun o => (((Below.refl W.heap.size W).alloc (Nat.le_refl _) o).cell (p := ⟨g, 0, none⟩) (Lib.lt_of_cell h)).trans h
  unfold clsCs
  go_enter Tryz.func31, Tryz.ntmps31
  go_wp2_with fail
  go_ret
  exact ⟨rfl, (Below.refl _ _).alloc (Nat.le_refl _) _⟩
set_option maxRecDepth 100000 in
theorem clo63 (C : ClassD) (nm : Bytes) (g : Nat) (W : World) (h : W.cell? ⟨g, 0, none⟩ = some (.string ⟨nm.toArray⟩)) : Calls Tryz.prog 55 #[.agg (clsCs C).toArray, .pointer (some ⟨g, 0, none⟩)] W (BoolR (C.name == nm) W) := by
  have hlt : ∀ o : Obj, (W.alloc o).cell? ⟨g, 0, none⟩ = some (.string ⟨nm.toArray⟩) := fun o => (((Below.refl W.heap.size W).alloc (Nat.le_refl _) o).cell (p := ⟨g, 0, none⟩) (Lib.lt_of_cell h)).trans h
  unfold clsCs
  go_enter Tryz.func55, Tryz.ntmps55
  go_wp2_with fail
  go_ret
  exact ⟨rfl, (Below.refl _ _).alloc (Nat.le_refl _) _⟩
set_option maxRecDepth 100000 in
theorem clo22 (C : ClassD) (nm : Bytes) (g : Nat) (W : World) (h : W.cell? ⟨g, 5, none⟩ = some (.string ⟨nm.toArray⟩)) : Calls Tryz.prog 36 #[.agg (clsCs C).toArray, .pointer (some ⟨g, 0, none⟩)] W (BoolR (C.name == nm) W) := by
  have hlt : ∀ o : Obj, (W.alloc o).cell? ⟨g, 5, none⟩ = some (.string ⟨nm.toArray⟩) := fun o => (((Below.refl W.heap.size W).alloc (Nat.le_refl _) o).cell (p := ⟨g, 5, none⟩) (Lib.lt_of_cell h)).trans h
  unfold clsCs
  go_enter Tryz.func36, Tryz.ntmps36
  go_wp2_with fail
  go_ret
  exact ⟨rfl, (Below.refl _ _).alloc (Nat.le_refl _) _⟩
set_option maxRecDepth 100000 in
theorem clo21 (D : ContrD) (nm : Bytes) (g : Nat) (W : World) (h : W.cell? ⟨g, 0, none⟩ = some (.string ⟨nm.toArray⟩)) : Calls Tryz.prog 35 #[.agg (ctrCs D).toArray, .pointer (some ⟨g, 0, none⟩)] W (BoolR (D.tenant == nm) W) := by
  have hlt : ∀ o : Obj, (W.alloc o).cell? ⟨g, 0, none⟩ = some (.string ⟨nm.toArray⟩) := fun o => (((Below.refl W.heap.size W).alloc (Nat.le_refl _) o).cell (p := ⟨g, 0, none⟩) (Lib.lt_of_cell h)).trans h
  unfold ctrCs
  go_enter Tryz.func35, Tryz.ntmps35
  go_wp2_with fail
  go_ret
  exact ⟨rfl, (Below.refl _ _).alloc (Nat.le_refl _) _⟩
set_option maxRecDepth 100000 in
theorem clo62 (D : ContrD) (nm : Bytes) (g : Nat) (W : World) (h : W.cell? ⟨g, 0, none⟩ = some (.string ⟨nm.toArray⟩)) : Calls Tryz.prog 54 #[.agg (ctrCs D).toArray, .pointer (some ⟨g, 0, none⟩)] W (BoolR (D.tenant == nm) W) := by
  have hlt : ∀ o : Obj, (W.alloc o).cell? ⟨g, 0, none⟩ = some (.string ⟨nm.toArray⟩) := fun o => (((Below.refl W.heap.size W).alloc (Nat.le_refl _) o).cell (p := ⟨g, 0, none⟩) (Lib.lt_of_cell h)).trans h
  unfold ctrCs
  go_enter Tryz.func54, Tryz.ntmps54
  go_wp2_with fail
  go_ret
  exact ⟨rfl, (Below.refl _ _).alloc (Nat.le_refl _) _⟩
/-- The index of the first hit; none: -1. -/
def IdxR (b : Bool) (w : World) (e : Ending) (w' : World) : Prop := ∃ v : Int, e = .returned (.int .i64 v) ∧ (b = true → 0 ≤ v) ∧ (b = false → v = -1) ∧ Below w.heap.size w w'

set_option maxRecDepth 100000 in
set_option maxHeartbeats 2000000 in
theorem index_17 (nm : Bytes) (g : Nat) (l : List ClassD) (A : Option Addr) (c : Nat) (w : World) (hl : l.length ≤ maxLen) (Hs : Hid (Sl w w.heap.size A (l.flatMap clsCs)))
    (hc : w.cell? ⟨g, 0, none⟩ = some (.string ⟨nm.toArray⟩)) :
    Calls Tryz.prog 67 #[.slice A l.length c, .func (.func 31) #[] #[.pointer (some ⟨g, 0, none⟩)]] w (IdxR (l.any fun x => x.name == nm) w) := by
  unfold maxLen at hl
  have Hc := Lib.hid hc
  have Hlt := Lib.hid (Lib.lt_of_cell hc)
  obtain ⟨p, hpd⟩ : ∃ p : ClassD → Bool, p = fun x => x.name == nm := ⟨_, rfl⟩
  have Hf : Hid (∀ W, Below w.heap.size w W → ∀ C, Calls Tryz.prog 31 #[.agg (clsCs C).toArray, .pointer (some ⟨g, 0, none⟩)] W (BoolR (p C) W)) := fun W hb C => by
    rw [hpd]
    exact clo17 C nm g W ((hb.cell (p := ⟨g, 0, none⟩) Hlt.out).trans Hc.out)
  rw [← hpd]
  clear hpd hc
  go_enter Tryz.func67, Tryz.ntmps67
  go_wp2_with fail
  go_loopg [8] l.length (fun gm s8 wr => ∃ k : Nat, s8 = .int .i64 (k : Int) ∧ gm = l.length - k ∧ k ≤ l.length ∧ Hid (Below w.heap.size w wr) ∧ Hid ((l.take k).any p = false))
  case atStart => exact ⟨0, rfl, rfl, Nat.zero_le _, Below.refl _ _, rfl⟩
  case round =>
    obtain ⟨k, rfl, hg, hk, HB, HN⟩ := hrel
    have Hg := Lib.hid hg
    clear hg
    by_cases hlt : k < l.length
    · have hI1 : (0 : Int) ≤ (k : Int) := by omega
      have hI2 : (k : Int) < (l.length : Int) := by omega
      obtain ⟨C, hC⟩ : ∃ x, l[k]? = some x := ⟨_, List.getElem?_eq_getElem hlt⟩
      obtain ⟨b, o, hA, hb, hcells⟩ := sl_at cls_len Hs.out hC (by omega)
      subst hA
      have k0 := (HB.out.cell (p := ⟨b, o + (k * 4 + 0), none⟩) hb).trans (hcells 0 _ rfl)
      have k1 := (HB.out.cell (p := ⟨b, o + (k * 4 + 1), none⟩) hb).trans (hcells 1 _ rfl)
      have k2 := (HB.out.cell (p := ⟨b, o + (k * 4 + 2), none⟩) hb).trans (hcells 2 _ rfl)
      have k3 := (HB.out.cell (p := ⟨b, o + (k * 4 + 3), none⟩) hb).trans (hcells 3 _ rfl)
      rw [Nat.add_zero] at k0
      rw [← Nat.add_assoc] at k1 k2 k3
      have Hcall := Lib.hid (Hf.out wr HB.out C)
      have htk : l.take (k + 1) = l.take k ++ [C] := by rw [List.take_add_one, hC]; rfl
      have Htk := Lib.hid htk
      have HC := Lib.hid hC
      clear hcells htk hC
      cases hp : p C with
      | true =>
        have HY : Hid (l.any p = true) := List.any_eq_true.2 ⟨C, List.mem_of_getElem? HC.out, hp⟩
        rw [hp] at Hcall
        clear hp
        go_wp2_with fail
        refine Hcall.out.mono ?_
        rintro e w1 ⟨rfl, hb1⟩
        have HB1 := Lib.hid (HB.out.trans (hb1.mono HB.out.size))
        clear hb1
        go_wp2_with fail
        go_ret
        exact ⟨(k : Int), rfl, (fun _ => by omega), (fun h => by rw [HY.out] at h; cases h), HB1.out⟩
      | false =>
        have HN1 : Hid ((l.take (k + 1)).any p = false) := by show _ = _; rw [Htk.out, List.any_append, HN.out]; simp [hp]
        rw [hp] at Hcall
        clear hp
        go_wp2_with fail
        refine Hcall.out.mono ?_
        rintro e w1 ⟨rfl, hb1⟩
        have HB1 := Lib.hid (HB.out.trans (hb1.mono HB.out.size))
        clear hb1
        go_wp2_with fail
        go_roundg (l.length - (k + 1))
        case measure => rw [Hg.out]; omega
        case rel => exact ⟨k + 1, by go_num, rfl, by omega, HB1, HN1⟩
    · have hI3 : ¬ (k : Int) < (l.length : Int) := by omega
      have HN1 : Hid (l.any p = false) := by
        have := HN.out
        rw [List.take_of_length_le (by omega)] at this
        exact this
      go_wp2_with fail
      go_ret
      exact ⟨-1, rfl, (fun h => by rw [HN1.out] at h; cases h), (fun _ => rfl), HB.out⟩
set_option maxRecDepth 100000 in
set_option maxHeartbeats 2000000 in
theorem contains_17 (nm : Bytes) (g : Nat) (l : List ClassD) (A : Option Addr) (c : Nat) (w : World) (hl : l.length ≤ maxLen) (Hs : Hid (Sl w w.heap.size A (l.flatMap clsCs)))
    (hc : w.cell? ⟨g, 0, none⟩ = some (.string ⟨nm.toArray⟩)) :
    Calls Tryz.prog 33 #[.slice A l.length c, .func (.func 31) #[] #[.pointer (some ⟨g, 0, none⟩)]] w (BoolR (l.any fun x => x.name == nm) w) := by
  have Hi := Lib.hid (index_17 nm g l A c w hl Hs hc)
  obtain ⟨b, hb⟩ : ∃ b, b = l.any fun x => x.name == nm := ⟨_, rfl⟩
  rw [← hb] at Hi
  rw [← hb]
  clear hb hc
  go_enter Tryz.func33, Tryz.ntmps33
  go_wp2_with fail
  refine Hi.out.mono ?_
  rintro e w1 ⟨v, rfl, h1, h2, hb1⟩
  have HB1 := Lib.hid hb1
  clear hb1
  cases b with
  | true =>
    have hv : 0 ≤ v := h1 rfl
    clear h1 h2
    go_wp2_with fail
    go_ret
    exact ⟨rfl, HB1.out⟩
  | false =>
    have hv : v = -1 := h2 rfl
    subst hv
    clear h1 h2
    go_wp2_with fail
    go_ret
    exact ⟨rfl, HB1.out⟩
set_option maxRecDepth 100000 in
set_option maxHeartbeats 2000000 in
theorem index_63 (nm : Bytes) (g : Nat) (l : List ClassD) (A : Option Addr) (c : Nat) (w : World) (hl : l.length ≤ maxLen) (Hs : Hid (Sl w w.heap.size A (l.flatMap clsCs)))
    (hc : w.cell? ⟨g, 0, none⟩ = some (.string ⟨nm.toArray⟩)) :
    Calls Tryz.prog 67 #[.slice A l.length c, .func (.func 55) #[] #[.pointer (some ⟨g, 0, none⟩)]] w (IdxR (l.any fun x => x.name == nm) w) := by
  unfold maxLen at hl
  have Hc := Lib.hid hc
  have Hlt := Lib.hid (Lib.lt_of_cell hc)
  obtain ⟨p, hpd⟩ : ∃ p : ClassD → Bool, p = fun x => x.name == nm := ⟨_, rfl⟩
  have Hf : Hid (∀ W, Below w.heap.size w W → ∀ C, Calls Tryz.prog 55 #[.agg (clsCs C).toArray, .pointer (some ⟨g, 0, none⟩)] W (BoolR (p C) W)) := fun W hb C => by
    rw [hpd]
    exact clo63 C nm g W ((hb.cell (p := ⟨g, 0, none⟩) Hlt.out).trans Hc.out)
  rw [← hpd]
  clear hpd hc
  go_enter Tryz.func67, Tryz.ntmps67
  go_wp2_with fail
  go_loopg [8] l.length (fun gm s8 wr => ∃ k : Nat, s8 = .int .i64 (k : Int) ∧ gm = l.length - k ∧ k ≤ l.length ∧ Hid (Below w.heap.size w wr) ∧ Hid ((l.take k).any p = false))
  case atStart => exact ⟨0, rfl, rfl, Nat.zero_le _, Below.refl _ _, rfl⟩
  case round =>
    obtain ⟨k, rfl, hg, hk, HB, HN⟩ := hrel
    have Hg := Lib.hid hg
    clear hg
    by_cases hlt : k < l.length
    · have hI1 : (0 : Int) ≤ (k : Int) := by omega
      have hI2 : (k : Int) < (l.length : Int) := by omega
      obtain ⟨C, hC⟩ : ∃ x, l[k]? = some x := ⟨_, List.getElem?_eq_getElem hlt⟩
      obtain ⟨b, o, hA, hb, hcells⟩ := sl_at cls_len Hs.out hC (by omega)
      subst hA
      have k0 := (HB.out.cell (p := ⟨b, o + (k * 4 + 0), none⟩) hb).trans (hcells 0 _ rfl)
      have k1 := (HB.out.cell (p := ⟨b, o + (k * 4 + 1), none⟩) hb).trans (hcells 1 _ rfl)
      have k2 := (HB.out.cell (p := ⟨b, o + (k * 4 + 2), none⟩) hb).trans (hcells 2 _ rfl)
      have k3 := (HB.out.cell (p := ⟨b, o + (k * 4 + 3), none⟩) hb).trans (hcells 3 _ rfl)
      rw [Nat.add_zero] at k0
      rw [← Nat.add_assoc] at k1 k2 k3
      have Hcall := Lib.hid (Hf.out wr HB.out C)
      have htk : l.take (k + 1) = l.take k ++ [C] := by rw [List.take_add_one, hC]; rfl
      have Htk := Lib.hid htk
      have HC := Lib.hid hC
      clear hcells htk hC
      cases hp : p C with
      | true =>
        have HY : Hid (l.any p = true) := List.any_eq_true.2 ⟨C, List.mem_of_getElem? HC.out, hp⟩
        rw [hp] at Hcall
        clear hp
        go_wp2_with fail
        refine Hcall.out.mono ?_
        rintro e w1 ⟨rfl, hb1⟩
        have HB1 := Lib.hid (HB.out.trans (hb1.mono HB.out.size))
        clear hb1
        go_wp2_with fail
        go_ret
        exact ⟨(k : Int), rfl, (fun _ => by omega), (fun h => by rw [HY.out] at h; cases h), HB1.out⟩
      | false =>
        have HN1 : Hid ((l.take (k + 1)).any p = false) := by show _ = _; rw [Htk.out, List.any_append, HN.out]; simp [hp]
        rw [hp] at Hcall
        clear hp
        go_wp2_with fail
        refine Hcall.out.mono ?_
        rintro e w1 ⟨rfl, hb1⟩
        have HB1 := Lib.hid (HB.out.trans (hb1.mono HB.out.size))
        clear hb1
        go_wp2_with fail
        go_roundg (l.length - (k + 1))
        case measure => rw [Hg.out]; omega
        case rel => exact ⟨k + 1, by go_num, rfl, by omega, HB1, HN1⟩
    · have hI3 : ¬ (k : Int) < (l.length : Int) := by omega
      have HN1 : Hid (l.any p = false) := by
        have := HN.out
        rw [List.take_of_length_le (by omega)] at this
        exact this
      go_wp2_with fail
      go_ret
      exact ⟨-1, rfl, (fun h => by rw [HN1.out] at h; cases h), (fun _ => rfl), HB.out⟩
set_option maxRecDepth 100000 in
set_option maxHeartbeats 2000000 in
theorem contains_63 (nm : Bytes) (g : Nat) (l : List ClassD) (A : Option Addr) (c : Nat) (w : World) (hl : l.length ≤ maxLen) (Hs : Hid (Sl w w.heap.size A (l.flatMap clsCs)))
    (hc : w.cell? ⟨g, 0, none⟩ = some (.string ⟨nm.toArray⟩)) :
    Calls Tryz.prog 33 #[.slice A l.length c, .func (.func 55) #[] #[.pointer (some ⟨g, 0, none⟩)]] w (BoolR (l.any fun x => x.name == nm) w) := by
  have Hi := Lib.hid (index_63 nm g l A c w hl Hs hc)
  obtain ⟨b, hb⟩ : ∃ b, b = l.any fun x => x.name == nm := ⟨_, rfl⟩
  rw [← hb] at Hi
  rw [← hb]
  clear hb hc
  go_enter Tryz.func33, Tryz.ntmps33
  go_wp2_with fail
  refine Hi.out.mono ?_
  rintro e w1 ⟨v, rfl, h1, h2, hb1⟩
  have HB1 := Lib.hid hb1
  clear hb1
  cases b with
  | true =>
    have hv : 0 ≤ v := h1 rfl
    clear h1 h2
    go_wp2_with fail
    go_ret
    exact ⟨rfl, HB1.out⟩
  | false =>
    have hv : v = -1 := h2 rfl
    subst hv
    clear h1 h2
    go_wp2_with fail
    go_ret
    exact ⟨rfl, HB1.out⟩
set_option maxRecDepth 100000 in
set_option maxHeartbeats 2000000 in
theorem index_22 (nm : Bytes) (g : Nat) (l : List ClassD) (A : Option Addr) (c : Nat) (w : World) (hl : l.length ≤ maxLen) (Hs : Hid (Sl w w.heap.size A (l.flatMap clsCs)))
    (hc : w.cell? ⟨g, 5, none⟩ = some (.string ⟨nm.toArray⟩)) :
    Calls Tryz.prog 67 #[.slice A l.length c, .func (.func 36) #[] #[.pointer (some ⟨g, 0, none⟩)]] w (IdxR (l.any fun x => x.name == nm) w) := by
  unfold maxLen at hl
  have Hc := Lib.hid hc
  have Hlt := Lib.hid (Lib.lt_of_cell hc)
  obtain ⟨p, hpd⟩ : ∃ p : ClassD → Bool, p = fun x => x.name == nm := ⟨_, rfl⟩
  have Hf : Hid (∀ W, Below w.heap.size w W → ∀ C, Calls Tryz.prog 36 #[.agg (clsCs C).toArray, .pointer (some ⟨g, 0, none⟩)] W (BoolR (p C) W)) := fun W hb C => by
    rw [hpd]
    exact clo22 C nm g W ((hb.cell (p := ⟨g, 5, none⟩) Hlt.out).trans Hc.out)
  rw [← hpd]
  clear hpd hc
  go_enter Tryz.func67, Tryz.ntmps67
  go_wp2_with fail
  go_loopg [8] l.length (fun gm s8 wr => ∃ k : Nat, s8 = .int .i64 (k : Int) ∧ gm = l.length - k ∧ k ≤ l.length ∧ Hid (Below w.heap.size w wr) ∧ Hid ((l.take k).any p = false))
  case atStart => exact ⟨0, rfl, rfl, Nat.zero_le _, Below.refl _ _, rfl⟩
  case round =>
    obtain ⟨k, rfl, hg, hk, HB, HN⟩ := hrel
    have Hg := Lib.hid hg
    clear hg
    by_cases hlt : k < l.length
    · have hI1 : (0 : Int) ≤ (k : Int) := by omega
      have hI2 : (k : Int) < (l.length : Int) := by omega
      obtain ⟨C, hC⟩ : ∃ x, l[k]? = some x := ⟨_, List.getElem?_eq_getElem hlt⟩
      obtain ⟨b, o, hA, hb, hcells⟩ := sl_at cls_len Hs.out hC (by omega)
      subst hA
      have k0 := (HB.out.cell (p := ⟨b, o + (k * 4 + 0), none⟩) hb).trans (hcells 0 _ rfl)
      have k1 := (HB.out.cell (p := ⟨b, o + (k * 4 + 1), none⟩) hb).trans (hcells 1 _ rfl)
      have k2 := (HB.out.cell (p := ⟨b, o + (k * 4 + 2), none⟩) hb).trans (hcells 2 _ rfl)
      have k3 := (HB.out.cell (p := ⟨b, o + (k * 4 + 3), none⟩) hb).trans (hcells 3 _ rfl)
      rw [Nat.add_zero] at k0
      rw [← Nat.add_assoc] at k1 k2 k3
      have Hcall := Lib.hid (Hf.out wr HB.out C)
      have htk : l.take (k + 1) = l.take k ++ [C] := by rw [List.take_add_one, hC]; rfl
      have Htk := Lib.hid htk
      have HC := Lib.hid hC
      clear hcells htk hC
      cases hp : p C with
      | true =>
        have HY : Hid (l.any p = true) := List.any_eq_true.2 ⟨C, List.mem_of_getElem? HC.out, hp⟩
        rw [hp] at Hcall
        clear hp
        go_wp2_with fail
        refine Hcall.out.mono ?_
        rintro e w1 ⟨rfl, hb1⟩
        have HB1 := Lib.hid (HB.out.trans (hb1.mono HB.out.size))
        clear hb1
        go_wp2_with fail
        go_ret
        exact ⟨(k : Int), rfl, (fun _ => by omega), (fun h => by rw [HY.out] at h; cases h), HB1.out⟩
      | false =>
        have HN1 : Hid ((l.take (k + 1)).any p = false) := by show _ = _; rw [Htk.out, List.any_append, HN.out]; simp [hp]
        rw [hp] at Hcall
        clear hp
        go_wp2_with fail
        refine Hcall.out.mono ?_
        rintro e w1 ⟨rfl, hb1⟩
        have HB1 := Lib.hid (HB.out.trans (hb1.mono HB.out.size))
        clear hb1
        go_wp2_with fail
        go_roundg (l.length - (k + 1))
        case measure => rw [Hg.out]; omega
        case rel => exact ⟨k + 1, by go_num, rfl, by omega, HB1, HN1⟩
    · have hI3 : ¬ (k : Int) < (l.length : Int) := by omega
      have HN1 : Hid (l.any p = false) := by
        have := HN.out
        rw [List.take_of_length_le (by omega)] at this
        exact this
      go_wp2_with fail
      go_ret
      exact ⟨-1, rfl, (fun h => by rw [HN1.out] at h; cases h), (fun _ => rfl), HB.out⟩
set_option maxRecDepth 100000 in
set_option maxHeartbeats 2000000 in
theorem contains_22 (nm : Bytes) (g : Nat) (l : List ClassD) (A : Option Addr) (c : Nat) (w : World) (hl : l.length ≤ maxLen) (Hs : Hid (Sl w w.heap.size A (l.flatMap clsCs)))
    (hc : w.cell? ⟨g, 5, none⟩ = some (.string ⟨nm.toArray⟩)) :
    Calls Tryz.prog 33 #[.slice A l.length c, .func (.func 36) #[] #[.pointer (some ⟨g, 0, none⟩)]] w (BoolR (l.any fun x => x.name == nm) w) := by
  have Hi := Lib.hid (index_22 nm g l A c w hl Hs hc)
  obtain ⟨b, hb⟩ : ∃ b, b = l.any fun x => x.name == nm := ⟨_, rfl⟩
  rw [← hb] at Hi
  rw [← hb]
  clear hb hc
  go_enter Tryz.func33, Tryz.ntmps33
  go_wp2_with fail
  refine Hi.out.mono ?_
  rintro e w1 ⟨v, rfl, h1, h2, hb1⟩
  have HB1 := Lib.hid hb1
  clear hb1
  cases b with
  | true =>
    have hv : 0 ≤ v := h1 rfl
    clear h1 h2
    go_wp2_with fail
    go_ret
    exact ⟨rfl, HB1.out⟩
  | false =>
    have hv : v = -1 := h2 rfl
    subst hv
    clear h1 h2
    go_wp2_with fail
    go_ret
    exact ⟨rfl, HB1.out⟩
set_option maxRecDepth 100000 in
set_option maxHeartbeats 2000000 in
theorem index_21 (nm : Bytes) (g : Nat) (l : List ContrD) (A : Option Addr) (c : Nat) (w : World) (hl : l.length ≤ maxLen) (Hs : Hid (Sl w w.heap.size A (l.flatMap ctrCs)))
    (hc : w.cell? ⟨g, 0, none⟩ = some (.string ⟨nm.toArray⟩)) :
    Calls Tryz.prog 68 #[.slice A l.length c, .func (.func 35) #[] #[.pointer (some ⟨g, 0, none⟩)]] w (IdxR (l.any fun x => x.tenant == nm) w) := by
  unfold maxLen at hl
  have Hc := Lib.hid hc
  have Hlt := Lib.hid (Lib.lt_of_cell hc)
  obtain ⟨p, hpd⟩ : ∃ p : ContrD → Bool, p = fun x => x.tenant == nm := ⟨_, rfl⟩
  have Hf : Hid (∀ W, Below w.heap.size w W → ∀ C, Calls Tryz.prog 35 #[.agg (ctrCs C).toArray, .pointer (some ⟨g, 0, none⟩)] W (BoolR (p C) W)) := fun W hb C => by
    rw [hpd]
    exact clo21 C nm g W ((hb.cell (p := ⟨g, 0, none⟩) Hlt.out).trans Hc.out)
  rw [← hpd]
  clear hpd hc
  go_enter Tryz.func68, Tryz.ntmps68
  go_wp2_with fail
  go_loopg [8] l.length (fun gm s8 wr => ∃ k : Nat, s8 = .int .i64 (k : Int) ∧ gm = l.length - k ∧ k ≤ l.length ∧ Hid (Below w.heap.size w wr) ∧ Hid ((l.take k).any p = false))
  case atStart => exact ⟨0, rfl, rfl, Nat.zero_le _, Below.refl _ _, rfl⟩
  case round =>
    obtain ⟨k, rfl, hg, hk, HB, HN⟩ := hrel
    have Hg := Lib.hid hg
    clear hg
    by_cases hlt : k < l.length
    · have hI1 : (0 : Int) ≤ (k : Int) := by omega
      have hI2 : (k : Int) < (l.length : Int) := by omega
      obtain ⟨C, hC⟩ : ∃ x, l[k]? = some x := ⟨_, List.getElem?_eq_getElem hlt⟩
      obtain ⟨b, o, hA, hb, hcells⟩ := sl_at ctr_len Hs.out hC (by omega)
      subst hA
      have k0 := (HB.out.cell (p := ⟨b, o + (k * 6 + 0), none⟩) hb).trans (hcells 0 _ rfl)
      have k1 := (HB.out.cell (p := ⟨b, o + (k * 6 + 1), none⟩) hb).trans (hcells 1 _ rfl)
      have k2 := (HB.out.cell (p := ⟨b, o + (k * 6 + 2), none⟩) hb).trans (hcells 2 _ rfl)
      have k3 := (HB.out.cell (p := ⟨b, o + (k * 6 + 3), none⟩) hb).trans (hcells 3 _ rfl)
      have k4 := (HB.out.cell (p := ⟨b, o + (k * 6 + 4), none⟩) hb).trans (hcells 4 _ rfl)
      have k5 := (HB.out.cell (p := ⟨b, o + (k * 6 + 5), none⟩) hb).trans (hcells 5 _ rfl)
      rw [Nat.add_zero] at k0
      rw [← Nat.add_assoc] at k1 k2 k3 k4 k5
      have Hcall := Lib.hid (Hf.out wr HB.out C)
      have htk : l.take (k + 1) = l.take k ++ [C] := by rw [List.take_add_one, hC]; rfl
      have Htk := Lib.hid htk
      have HC := Lib.hid hC
      clear hcells htk hC
      cases hp : p C with
      | true =>
        have HY : Hid (l.any p = true) := List.any_eq_true.2 ⟨C, List.mem_of_getElem? HC.out, hp⟩
        rw [hp] at Hcall
        clear hp
        go_wp2_with fail
        refine Hcall.out.mono ?_
        rintro e w1 ⟨rfl, hb1⟩
        have HB1 := Lib.hid (HB.out.trans (hb1.mono HB.out.size))
        clear hb1
        go_wp2_with fail
        go_ret
        exact ⟨(k : Int), rfl, (fun _ => by omega), (fun h => by rw [HY.out] at h; cases h), HB1.out⟩
      | false =>
        have HN1 : Hid ((l.take (k + 1)).any p = false) := by show _ = _; rw [Htk.out, List.any_append, HN.out]; simp [hp]
        rw [hp] at Hcall
        clear hp
        go_wp2_with fail
        refine Hcall.out.mono ?_
        rintro e w1 ⟨rfl, hb1⟩
        have HB1 := Lib.hid (HB.out.trans (hb1.mono HB.out.size))
        clear hb1
        go_wp2_with fail
        go_roundg (l.length - (k + 1))
        case measure => rw [Hg.out]; omega
        case rel => exact ⟨k + 1, by go_num, rfl, by omega, HB1, HN1⟩
    · have hI3 : ¬ (k : Int) < (l.length : Int) := by omega
      have HN1 : Hid (l.any p = false) := by
        have := HN.out
        rw [List.take_of_length_le (by omega)] at this
        exact this
      go_wp2_with fail
      go_ret
      exact ⟨-1, rfl, (fun h => by rw [HN1.out] at h; cases h), (fun _ => rfl), HB.out⟩
set_option maxRecDepth 100000 in
set_option maxHeartbeats 2000000 in
theorem contains_21 (nm : Bytes) (g : Nat) (l : List ContrD) (A : Option Addr) (c : Nat) (w : World) (hl : l.length ≤ maxLen) (Hs : Hid (Sl w w.heap.size A (l.flatMap ctrCs)))
    (hc : w.cell? ⟨g, 0, none⟩ = some (.string ⟨nm.toArray⟩)) :
    Calls Tryz.prog 37 #[.slice A l.length c, .func (.func 35) #[] #[.pointer (some ⟨g, 0, none⟩)]] w (BoolR (l.any fun x => x.tenant == nm) w) := by
  have Hi := Lib.hid (index_21 nm g l A c w hl Hs hc)
  obtain ⟨b, hb⟩ : ∃ b, b = l.any fun x => x.tenant == nm := ⟨_, rfl⟩
  rw [← hb] at Hi
  rw [← hb]
  clear hb hc
  go_enter Tryz.func37, Tryz.ntmps37
  go_wp2_with fail
  refine Hi.out.mono ?_
  rintro e w1 ⟨v, rfl, h1, h2, hb1⟩
  have HB1 := Lib.hid hb1
  clear hb1
  cases b with
  | true =>
    have hv : 0 ≤ v := h1 rfl
    clear h1 h2
    go_wp2_with fail
    go_ret
    exact ⟨rfl, HB1.out⟩
  | false =>
    have hv : v = -1 := h2 rfl
    subst hv
    clear h1 h2
    go_wp2_with fail
    go_ret
    exact ⟨rfl, HB1.out⟩
set_option maxRecDepth 100000 in
set_option maxHeartbeats 2000000 in
theorem index_62 (nm : Bytes) (g : Nat) (l : List ContrD) (A : Option Addr) (c : Nat) (w : World) (hl : l.length ≤ maxLen) (Hs : Hid (Sl w w.heap.size A (l.flatMap ctrCs)))
    (hc : w.cell? ⟨g, 0, none⟩ = some (.string ⟨nm.toArray⟩)) :
    Calls Tryz.prog 68 #[.slice A l.length c, .func (.func 54) #[] #[.pointer (some ⟨g, 0, none⟩)]] w (IdxR (l.any fun x => x.tenant == nm) w) := by
  unfold maxLen at hl
  have Hc := Lib.hid hc
  have Hlt := Lib.hid (Lib.lt_of_cell hc)
  obtain ⟨p, hpd⟩ : ∃ p : ContrD → Bool, p = fun x => x.tenant == nm := ⟨_, rfl⟩
  have Hf : Hid (∀ W, Below w.heap.size w W → ∀ C, Calls Tryz.prog 54 #[.agg (ctrCs C).toArray, .pointer (some ⟨g, 0, none⟩)] W (BoolR (p C) W)) := fun W hb C => by
    rw [hpd]
    exact clo62 C nm g W ((hb.cell (p := ⟨g, 0, none⟩) Hlt.out).trans Hc.out)
  rw [← hpd]
  clear hpd hc
  go_enter Tryz.func68, Tryz.ntmps68
  go_wp2_with fail
  go_loopg [8] l.length (fun gm s8 wr => ∃ k : Nat, s8 = .int .i64 (k : Int) ∧ gm = l.length - k ∧ k ≤ l.length ∧ Hid (Below w.heap.size w wr) ∧ Hid ((l.take k).any p = false))
  case atStart => exact ⟨0, rfl, rfl, Nat.zero_le _, Below.refl _ _, rfl⟩
  case round =>
    obtain ⟨k, rfl, hg, hk, HB, HN⟩ := hrel
    have Hg := Lib.hid hg
    clear hg
    by_cases hlt : k < l.length
    · have hI1 : (0 : Int) ≤ (k : Int) := by omega
      have hI2 : (k : Int) < (l.length : Int) := by omega
      obtain ⟨C, hC⟩ : ∃ x, l[k]? = some x := ⟨_, List.getElem?_eq_getElem hlt⟩
      obtain ⟨b, o, hA, hb, hcells⟩ := sl_at ctr_len Hs.out hC (by omega)
      subst hA
      have k0 := (HB.out.cell (p := ⟨b, o + (k * 6 + 0), none⟩) hb).trans (hcells 0 _ rfl)
      have k1 := (HB.out.cell (p := ⟨b, o + (k * 6 + 1), none⟩) hb).trans (hcells 1 _ rfl)
      have k2 := (HB.out.cell (p := ⟨b, o + (k * 6 + 2), none⟩) hb).trans (hcells 2 _ rfl)
      have k3 := (HB.out.cell (p := ⟨b, o + (k * 6 + 3), none⟩) hb).trans (hcells 3 _ rfl)
      have k4 := (HB.out.cell (p := ⟨b, o + (k * 6 + 4), none⟩) hb).trans (hcells 4 _ rfl)
      have k5 := (HB.out.cell (p := ⟨b, o + (k * 6 + 5), none⟩) hb).trans (hcells 5 _ rfl)
      rw [Nat.add_zero] at k0
      rw [← Nat.add_assoc] at k1 k2 k3 k4 k5
      have Hcall := Lib.hid (Hf.out wr HB.out C)
      have htk : l.take (k + 1) = l.take k ++ [C] := by rw [List.take_add_one, hC]; rfl
      have Htk := Lib.hid htk
      have HC := Lib.hid hC
      clear hcells htk hC
      cases hp : p C with
      | true =>
        have HY : Hid (l.any p = true) := List.any_eq_true.2 ⟨C, List.mem_of_getElem? HC.out, hp⟩
        rw [hp] at Hcall
        clear hp
        go_wp2_with fail
        refine Hcall.out.mono ?_
        rintro e w1 ⟨rfl, hb1⟩
        have HB1 := Lib.hid (HB.out.trans (hb1.mono HB.out.size))
        clear hb1
        go_wp2_with fail
        go_ret
        exact ⟨(k : Int), rfl, (fun _ => by omega), (fun h => by rw [HY.out] at h; cases h), HB1.out⟩
      | false =>
        have HN1 : Hid ((l.take (k + 1)).any p = false) := by show _ = _; rw [Htk.out, List.any_append, HN.out]; simp [hp]
        rw [hp] at Hcall
        clear hp
        go_wp2_with fail
        refine Hcall.out.mono ?_
        rintro e w1 ⟨rfl, hb1⟩
        have HB1 := Lib.hid (HB.out.trans (hb1.mono HB.out.size))
        clear hb1
        go_wp2_with fail
        go_roundg (l.length - (k + 1))
        case measure => rw [Hg.out]; omega
        case rel => exact ⟨k + 1, by go_num, rfl, by omega, HB1, HN1⟩
    · have hI3 : ¬ (k : Int) < (l.length : Int) := by omega
      have HN1 : Hid (l.any p = false) := by
        have := HN.out
        rw [List.take_of_length_le (by omega)] at this
        exact this
      go_wp2_with fail
      go_ret
      exact ⟨-1, rfl, (fun h => by rw [HN1.out] at h; cases h), (fun _ => rfl), HB.out⟩
set_option maxRecDepth 100000 in
set_option maxHeartbeats 2000000 in
theorem contains_62 (nm : Bytes) (g : Nat) (l : List ContrD) (A : Option Addr) (c : Nat) (w : World) (hl : l.length ≤ maxLen) (Hs : Hid (Sl w w.heap.size A (l.flatMap ctrCs)))
    (hc : w.cell? ⟨g, 0, none⟩ = some (.string ⟨nm.toArray⟩)) :
    Calls Tryz.prog 37 #[.slice A l.length c, .func (.func 54) #[] #[.pointer (some ⟨g, 0, none⟩)]] w (BoolR (l.any fun x => x.tenant == nm) w) := by
  have Hi := Lib.hid (index_62 nm g l A c w hl Hs hc)
  obtain ⟨b, hb⟩ : ∃ b, b = l.any fun x => x.tenant == nm := ⟨_, rfl⟩
  rw [← hb] at Hi
  rw [← hb]
  clear hb hc
  go_enter Tryz.func37, Tryz.ntmps37
  go_wp2_with fail
  refine Hi.out.mono ?_
  rintro e w1 ⟨v, rfl, h1, h2, hb1⟩
  have HB1 := Lib.hid hb1
  clear hb1
  cases b with
  | true =>
    have hv : 0 ≤ v := h1 rfl
    clear h1 h2
    go_wp2_with fail
    go_ret
    exact ⟨rfl, HB1.out⟩
  | false =>
    have hv : v = -1 := h2 rfl
    subst hv
    clear h1 h2
    go_wp2_with fail
    go_ret
    exact ⟨rfl, HB1.out⟩
end Go.Proofs.YtimmffncfkcpfaaGreatDoor
