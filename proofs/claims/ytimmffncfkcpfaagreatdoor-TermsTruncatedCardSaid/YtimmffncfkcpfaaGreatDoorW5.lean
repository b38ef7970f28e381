/-
  The walk of must.
-/
import Derived.Test.YtimmffncfkcpfaaGreatDoorW4
namespace Go.Proofs.YtimmffncfkcpfaaGreatDoor
open Go Go.RowKit Go.Walks

theorem PRes.step {α : Type} {P : Program} {f : FuncId} {args : Array Value} {t : ByteArray} {r : Nat} {x : PR α} {V : α → World → Ending → World → Prop} {w : World} {R : Ending → World → Prop}
    (h : Calls P f args w (PRes t r x V w)) (hok : ∀ a ts, x = .ok a ts → ∀ e w', V a w e w' → PS w' r t ts → RB r w w' → R e w') (hbad : ∀ p, x = .bad p → ∀ w', RB r w w' → R (wrongE p 3) w') : Calls P f args w R := by
  refine h.mono ?_
  intro e w' hp
  cases x with
  | ok a ts => exact hok a ts rfl e w' hp.1 hp.2.1 hp.2.2
  | bad p =>
    obtain ⟨rfl, hb⟩ := hp
    exact hbad p rfl w' hb
def mustsT : List Bytes → List Tok → PR Unit
  | [], ts => .ok () ts
  | s :: ss, ts => (mustT s ts).next fun _ a => mustsT ss a
def UnitIs (_ : Unit) (_ : World) (e : Ending) (_ : World) : Prop := e = .returned (.tuple #[])

set_option maxRecDepth 100000 in
set_option maxHeartbeats 2000000 in
theorem musts_T (t : ByteArray) (r : Nat) (w : World) (ts : List Tok) (ss : List Bytes) (A : Option Addr) (c : Nat) (hne : Hid (∀ s ∈ ss, s ≠ [])) (h0 : ss ≠ []) (hl : ss.length ≤ 100) (ht : t.size ≤ 2000) (hr7 : 7 ≤ r) (Hg : Hid (Gl w)) (Hp : Hid (PS w r t ts))
    (Hs : Hid (SlT w w.heap.size 9 A (ss.map strV))) :
    Calls Tryz.prog 52 #[.pointer (some ⟨r, 0, none⟩), .slice A ss.length c] w (PRes t r (mustsT ss ts) UnitIs w) := by
  rcases Hs.out with he | ⟨b, o, cur, fz, rfl, hb, hh, hc⟩
  · exact absurd (List.map_eq_nil_iff.1 he) h0
  have hbr : b ≠ r := fun e => by
    obtain ⟨_, _, _, hps⟩ := Hp.out
    unfold Ps at hps
    rw [← e, hh] at hps
    injection hps with hps
    injection hps with _ hps
    exact absurd hps (by decide)
  have Hh := Lib.hid hh
  have Hc := Lib.hid hc
  clear hh hc hb Hs
  go_enter Tryz.func52, Tryz.ntmps52
  go_wp2_with fail
  go_loopg [8] ss.length (fun g s8 wr => ∃ (k : Nat) (ts' : List Tok), s8 = .int .i64 (k : Int) ∧ g = ss.length - k ∧ k ≤ ss.length ∧ Hid (PS wr r t ts') ∧ Hid (RB r w wr) ∧ Hid (mustsT ss ts = mustsT (ss.drop k) ts'))
  case atStart => exact ⟨0, ts, rfl, rfl, Nat.zero_le _, Hp, RB.refl _ _, rfl⟩
  case round =>
    obtain ⟨k, ts', rfl, hg, hk, HP, HB, HM⟩ := hrel
    have Hgk := Lib.hid hg
    clear hg
    by_cases hlt : k < ss.length
    · have hI1 : (0 : Int) ≤ (k : Int) := by omega
      have hI2 : (k : Int) < (ss.length : Int) := by omega
      obtain ⟨s, hs⟩ : ∃ s, ss[k]? = some s := ⟨_, List.getElem?_eq_getElem hlt⟩
      have hcell : wr.cell? ⟨b, o + k, none⟩ = some (.string ⟨s.toArray⟩) := by
        rw [cell_of_row wr b _ cur 9 fz ((HB.out.block b (Array.getElem?_eq_some_iff.1 Hh.out).1 hbr).trans Hh.out)]
        exact Hc.out k (strV s) (by rw [List.getElem?_map, hs]; rfl)
      obtain ⟨T, rest, hts, hps, hle, -⟩ := HP.out.head
      obtain ⟨c1, f1⟩ := cell_at hps 1 (u := .string ⟨T.text.toArray⟩) rfl
      have hdr : ss.drop k = s :: ss.drop (k + 1) := by
        obtain ⟨h1, h2⟩ := List.getElem?_eq_some_iff.1 hs
        rw [List.drop_eq_getElem_cons hlt, h2]
      have HM' : Hid (mustsT ss ts = (mustT s ts').next fun _ a => mustsT (ss.drop (k + 1)) a) := by show _ = _; rw [HM.out, hdr]; rfl
      have hsn : ([] == s) = false := by
        rw [beq_eq_false_iff_ne]
        exact fun e => hne.out s (List.mem_of_getElem? hs) e.symm
      have htake := take_T t r wr ts' (· == s) hsn ht hr7 (Hg.out.rb HB.out hr7) HP
      have hhd : headTx ts' = T.text := by rw [hts]; rfl
      rw [hhd] at htake
      have Htake := Lib.hid htake
      clear htake hsn hdr hs hts hps hle hhd
      go_wp2_with fail
      refine PRes.step Htake.out ?_ ?_
      · intro T' a hx e w1 hv hp1 hb1
        unfold TokIs at hv
        subst hv
        have HP1 := Lib.hid hp1
        have HB1 := Lib.hid (HB.out.trans hb1)
        have HM1 : Hid (mustsT ss ts = mustsT (ss.drop (k + 1)) a) := by
          show _ = _
          rw [HM'.out]
          show PR.next (takeT _ _) _ = _
          rw [hx]; rfl
        clear hx hp1 hb1
        go_wp2_with fail
        go_roundg (ss.length - (k + 1))
        case measure => rw [Hgk.out]; omega
        case rel => exact ⟨k + 1, a, by go_num, rfl, by omega, HP1, HB1, HM1⟩
      · intro p hx w1 hb1
        have HB1 := Lib.hid (HB.out.trans hb1)
        have HM1 : Hid (mustsT ss ts = .bad p) := by
          show _ = _
          rw [HM'.out]
          show PR.next (takeT _ _) _ = _
          rw [hx]; rfl
        clear hx hb1
        unfold wrongE
        go_wp2_with fail
        refine ⟨rfl, ?_⟩
        show PRes t r (mustsT ss ts) UnitIs w _ _
        rw [HM1.out]
        exact ⟨rfl, HB1.out⟩
    · have hke : k = ss.length := by omega
      have hI3 : ¬ (k : Int) < (ss.length : Int) := by omega
      have HM' : Hid (mustsT ss ts = .ok () ts') := by show _ = _; rw [HM.out, hke, List.drop_length]; rfl
      go_wp2_with fail
      go_end0
      show PRes t r (mustsT ss ts) UnitIs w _ _
      rw [HM'.out]
      exact ⟨rfl, HP.out, HB.out⟩
/-- What must is called with: a new slice of strings. -/
theorem slT_new (w : World) (cs : List Value) (ty : TypeId) : SlT (w.alloc (.cells cs.toArray ty)) (w.alloc (.cells cs.toArray ty)).heap.size ty (some ⟨w.heap.size, 0, none⟩) cs :=
  .inr ⟨w.heap.size, 0, cs.toArray, (0, 0), rfl, by simp, heap_new _ _, fun j u hu => by simpa using hu⟩
theorem must1 (s : Bytes) (ts : List Tok) {α : Type} (f : List Tok → PR α) : (mustsT [s] ts).next (fun _ a => f a) = (mustT s ts).next fun _ a => f a := by
  unfold mustsT
  cases mustT s ts <;> rfl
theorem must2 (s s' : Bytes) (ts : List Tok) {α : Type} (f : List Tok → PR α) : (mustsT [s, s'] ts).next (fun _ a => f a) = (mustT s ts).next fun _ a => (mustT s' a).next fun _ b => f b := by
  unfold mustsT mustsT
  cases mustT s ts with
  | bad p => rfl
  | ok T a =>
    show PR.next (PR.next (mustT s' a) _) _ = PR.next (mustT s' a) _
    cases mustT s' a <;> rfl
end Go.Proofs.YtimmffncfkcpfaaGreatDoor
