/-
  The walk of the statement LangConcat: it returns true for every list of codes.
-/
import Derived.Test.YtafgmbchdcfkcaaDoorU6
import Derived.Maps.Own
import Derived.Maps.Views
namespace Go.Proofs.YtafgmbchdcfkcaaDoor
open Go Go.RowKit Go.Walks Go.Maps

/-- The names so far, as a map. -/
def nameD (ns : List Bytes) : DataW Unit := ns.foldl (fun m n => m.put (.string n) (.lit (.bool true))) (.map [])
theorem nameD_snoc (ns : List Bytes) (n : Bytes) : nameD (ns ++ [n]) = (nameD ns).put (.string n) (.lit (.bool true)) := by unfold nameD; rw [List.foldl_append]; rfl
theorem at_fold (n : Bytes) (z : DataW Unit) : ∀ (ns : List Bytes) (m : DataW Unit), IsMap m → (ns.foldl (fun m n => m.put (.string n) (.lit (.bool true))) m).atKey (.string n) z = if n ∈ ns then .lit (.bool true) else m.atKey (.string n) z
  | [], m, _ => by simp
  | x :: ns, m, hm => by
    rw [List.foldl_cons, at_fold n z ns _ (hm.put _ _)]
    by_cases h : n ∈ ns
    · rw [if_pos h, if_pos (List.mem_cons_of_mem _ h)]
    · rw [if_neg h]
      by_cases e : n = x
      · subst e
        rw [if_pos (by simp), atKey_put_same hm (by trivial)]
      · rw [if_neg (by simp [e, h]), atKey_put_other (fun h => e (by injection h))]
theorem at_name (ns : List Bytes) (n : Bytes) : (nameD ns).atKey (.string n) (.lit (.bool false)) = .lit (.bool (decide (n ∈ ns))) := by
  unfold nameD
  rw [at_fold n _ ns _ isMap_empty]
  by_cases h : n ∈ ns
  · rw [if_pos h, decide_eq_true h]
  · rw [if_neg h, decide_eq_false h]; rfl
set_option maxRecDepth 100000 in
theorem zero4 (w : World) : (zeroValue 4).run Tryd.prog w = .ok (.bool false) w := by kernel_rfl
theorem plain_bool {P : Program} {e : TypeId} (he : P.underlying e = some .bool) {v : Value} {x : Bool} {ps : List MemPlace} (h : plainElem (H := Unit) P e v = some (.lit (.bool x), ps)) : v = .bool x := by
  unfold plainElem at h
  rw [he] at h
  cases v <;> simp at h
  rw [h.1]
/-- Is the name there? -/
theorem look_name {w : World} {b k : Nat} {ns : List Bytes} (h : w.ownsMap Tryd.prog 9 (plainElem Tryd.prog 4) b k (nameD ns)) {n : Bytes} (hn : n.length ≤ maxLen) :
    (Instr.lookup 57 (.map (some b)) (.string ⟨n.toArray⟩) false).run Tryd.prog w = .ok (.bool (decide (n ∈ ns))) w := by
  have hk : keyOf Tryd.prog 9 (.string ⟨n.toArray⟩) = some (.string n) := Go.WideMaps.keyOf_string_mk Tryd.underlying9 (by show n.toArray.size ≤ maxLen; rw [List.size_toArray]; exact hn)
  obtain ⟨v, ps, hrun, hv⟩ := h.lookup (string_keyed Tryd.underlying9) Tryd.underlying57 (zero4 w) (plainElem_bool Tryd.underlying4 false) hk
  rw [at_name] at hv
  rw [hrun, plain_bool Tryd.underlying4 hv]

def txK (Cs : List Code) (k : Nat) : Bytes := (Cs.take k).flatMap printT
def nmK (Cs : List Code) (k : Nat) : List Bytes := (Cs.take k).map Code.name
theorem take_snoc {α : Type} {l : List α} {k : Nat} {x : α} (h : l[k]? = some x) : l.take (k + 1) = l.take k ++ [x] := by
  obtain ⟨hk, rfl⟩ := List.getElem?_eq_some_iff.1 h
  rw [List.take_add_one, h]; rfl
/-- What the loop of LangConcat carries. -/
structure CatS (w : World) (Cs : List Code) (k : Nat) (W : World) : Prop where
  below : Below w.heap.size w W
  map : W.ownsMap Tryd.prog 9 (plainElem Tryd.prog 4) w.heap.size k (nameD (nmK Cs k))
  ok : ∀ C ∈ Cs.take k, Ok C
  nd : (nmK Cs k).Nodup
  len : (txK Cs k).length ≤ 2000
theorem CatS.start (w : World) (Cs : List Code) : CatS w Cs 0 (w.alloc (.map #[] 0)) :=
  ⟨(Below.refl _ _).alloc (Nat.le_refl _) _, World.ownsMap_made _ _ _ _, by simp, by simp [nmK], by simp [txK]⟩
theorem CatS.call {w W W' : World} {Cs : List Code} {k : Nat} (h : CatS w Cs k W) (hb : Below W.heap.size W W') : CatS w Cs k W' :=
  ⟨h.below.trans (hb.mono h.below.size), h.map.kept (row := none) ⟨hb.os, hb.tape, hb.output, hb.size, fun i hi _ => hb.block i hi⟩ (by simp), h.ok, h.nd, h.len⟩
theorem CatS.next {w W W' : World} {Cs : List Code} {k : Nat} {C : Code} (h : CatS w Cs k W) (hC : Cs[k]? = some C) (hok : Ok C) (hn : C.name ∉ nmK Cs k) (hl : (txK Cs k).length + (printT C).length ≤ 2000)
    (hown : W'.ownsMap Tryd.prog 9 (plainElem Tryd.prog 4) w.heap.size (k + 1) ((nameD (nmK Cs k)).put (.string C.name) (.lit (.bool true)))) (hg : W.grownBy W' (some w.heap.size)) : CatS w Cs (k + 1) W' ∧ txK Cs k ++ printT C = txK Cs (k + 1) := by
  have e1 : nmK Cs (k + 1) = nmK Cs k ++ [C.name] := by unfold nmK; rw [take_snoc hC, List.map_append]; rfl
  have e2 : txK Cs (k + 1) = txK Cs k ++ printT C := by unfold txK; rw [take_snoc hC, List.flatMap_append]; simp
  refine ⟨⟨h.below.grown hg h.below.size (fun j hj => by cases hj; exact Nat.le_refl _), by rw [e1, nameD_snoc]; exact hown, ?_, ?_, by rw [e2, List.length_append]; exact hl⟩, e2.symm⟩
  · rw [take_snoc hC]
    intro D hD
    rcases List.mem_append.1 hD with hD | hD
    · exact h.ok D hD
    · rw [List.mem_singleton] at hD; rw [hD]; exact hok
  · rw [e1, List.nodup_append]
    refine ⟨h.nd, by simp, fun a ha b hb e => ?_⟩
    rw [List.mem_singleton] at hb
    exact hn (by rw [← hb, ← e]; exact ha)

set_option maxRecDepth 100000 in
set_option maxHeartbeats 8000000 in
theorem lawConcat_any (Cs : List Code) (A : Option Addr) (c : Nat) (cc : List Value) (w : World) (Hg : Hid (Gl w)) (Hs : Hid (Sl w w.heap.size A cc)) (Hc : Hid (CodesS w Cs cc)) (HL : Hid (∀ C ∈ Cs, CodeL C ∧ C.name.length ≤ maxLen)) (hlen : Cs.length ≤ maxLen) :
    Calls Tryd.prog 10 #[.slice A Cs.length c] w (BoolR true w) := by
  have hmm := @run_makeMap Tryd.prog
  by_cases h8 : Cs.length ≤ 8
  · have h8' : ¬ (8 : Int) < (Cs.length : Int) := by omega
    go_enter Tryd.func10, Tryd.ntmps10
    go_wp2_with fail
    go_loopg [3, 19] Cs.length (fun g s3 s19 wr => ∃ k : Nat, s19 = .int .i64 (k : Int) ∧ g = Cs.length - k ∧ k ≤ Cs.length ∧ s3 = .string ⟨(txK Cs k).toArray⟩ ∧ Hid (CatS w Cs k wr))
    case atStart => exact ⟨0, rfl, rfl, by omega, rfl, CatS.start w Cs⟩
    case round =>
      obtain ⟨k, rfl, hgk, hk, rfl, HS⟩ := hrel
      have Hgk := Lib.hid hgk
      clear hgk
      by_cases hlt : k < Cs.length
      · obtain ⟨C, hC⟩ : ∃ x, Cs[k]? = some x := ⟨_, List.getElem?_eq_getElem hlt⟩
        obtain ⟨b1, o1, A1, q1, hA, hb1, k1, s1⟩ := codeS_at Hs.out Hc.out HS.out.below hC
        obtain ⟨hCL, hCn⟩ := HL.out C (List.mem_of_getElem? hC)
        subst hA
        have k0 := (HS.out.below.cell (p := ⟨b1, o1 + k * 5, none⟩) hb1).trans k1.1
        have kk1 := (HS.out.below.cell (p := ⟨b1, o1 + k * 5 + 1, none⟩) hb1).trans k1.2.1
        have kk2 := (HS.out.below.cell (p := ⟨b1, o1 + k * 5 + 2, none⟩) hb1).trans k1.2.2.1
        have kk3 := (HS.out.below.cell (p := ⟨b1, o1 + k * 5 + 3, none⟩) hb1).trans k1.2.2.2.1
        have kk4 := (HS.out.below.cell (p := ⟨b1, o1 + k * 5 + 4, none⟩) hb1).trans k1.2.2.2.2
        clear k1
        have hI1 : (0 : Int) ≤ (k : Int) := by omega
        have hI2 : (k : Int) < (Cs.length : Int) := by omega
        have S1 : Hid (CatS w Cs k (wr.alloc (.cells (codeV C A1 q1) 24))) := HS.out.call ((Below.refl _ _).alloc (Nat.le_refl _) _)
        have D1 : Hid (CB (wr.alloc (.cells (codeV C A1 q1) 24)) wr.heap.size C A1 q1) := ⟨heap_new _ _, s1.below ((Below.refl _ _).alloc (Nat.le_refl _) _)⟩
        have hp : ∀ W, CodeS W C (codeV C A1 q1).toList → Gl W → Calls Tryd.prog 11 #[.agg (codeV C A1 q1)] W (PrintR (printB C) W) := fun W hc hg => print_any C (codeV C A1 q1).toList W hg hc hCL hCn
        obtain ⟨x0, x1, x2, x3, x4⟩ := D1.out.cellsC
        have hpk := fun h => printB_ok (C := C) hCL.par h
        obtain ⟨pr, hpr⟩ : ∃ x, x = printB C := ⟨_, rfl⟩
        rw [← hpr] at hp hpk
        obtain ⟨tx, v⟩ := pr
        dsimp only at hpk
        have HP := Lib.hid hp
        have Hn := Lib.hid hCn
        have HC := Lib.hid hC
        clear hp hpr s1 hCL hCn hC HS
        by_cases hv : v = 0
        · subst hv
          obtain ⟨htx, hok, hl2⟩ := hpk rfl
          obtain rfl : tx = printT C := congrArg Prod.fst htx
          have Hok := Lib.hid hok
          clear hpk htx hok
          have z1 : ((txK Cs k).length : Int) ≤ 2000 := by have := S1.out.len; omega
          have z2 : ((printT C).length : Int) ≤ 2000 := by omega
          have z3 : (0 : Int) ≤ ((txK Cs k).length : Int) := by omega
          have z4 : (0 : Int) ≤ ((printT C).length : Int) := by omega
          have hkey : keyOf Tryd.prog 9 (.string ⟨C.name.toArray⟩) = some (.string C.name) := Go.WideMaps.keyOf_string_mk Tryd.underlying9 (by show C.name.toArray.size ≤ maxLen; rw [List.size_toArray]; exact Hn.out)
          go_wp2_with fail
          refine (HP.out _ D1.out.code (Hg.out.below S1.out.below)).mono ?_
          rintro e w1 ⟨rfl, hb1⟩
          have S2 := Lib.hid (S1.out.call hb1)
          have D2 := Lib.hid (D1.out.below hb1)
          clear hb1 S1 D1 x0 x1 x2 x3 x4
          dsimp only
          obtain ⟨x0, x1, x2, x3, x4⟩ := D2.out.cellsC
          have hlook := look_name S2.out.map Hn.out
          by_cases hm : C.name ∈ nmK Cs k
          · rw [decide_eq_true hm] at hlook
            go_wp2_with fail
            refine (sanity_any _ (Hg.out.below S2.out.below)).mono ?_
            rintro e w2 ⟨rfl, hb2⟩
            have B2 := Lib.hid (S2.out.call hb2).below
            clear hb2 S2 D2 x0 x1 x2 x3 x4 hlook
            go_wp2_with fail
            go_ret
            exact ⟨rfl, B2.out⟩
          · rw [decide_eq_false hm] at hlook
            have Hm := Lib.hid hm
            clear hm
            by_cases hbig : (2000 : Int) < ((txK Cs k).length : Int) + ((printT C).length : Int)
            · go_wp2_with fail
              refine (sanity_any _ (Hg.out.below S2.out.below)).mono ?_
              rintro e w2 ⟨rfl, hb2⟩
              have B2 := Lib.hid (S2.out.call hb2).below
              clear hb2 S2 D2 x0 x1 x2 x3 x4 hlook
              go_wp2_with fail
              go_ret
              exact ⟨rfl, B2.out⟩
            · have hsz : ¬ 9223372036854775807 < (txK Cs k).length + (printT C).length := by omega
              go_wp2_with (at_mapUpdate; refine wpList_mapUpdate_own _ rfl _ _ _ 57 rfl 9 4 (string_keyed Tryd.underlying9) Tryd.underlying57 _ w.heap.size k _ rfl S2.out.map (by unfold maxLen; omega) _ _ _ rfl rfl hkey _ [] (plainElem_bool Tryd.underlying4 true) ?_; intro w5 hown hgrow)
              obtain ⟨S5, e5⟩ := S2.out.next HC.out Hok.out Hm.out (by omega) hown hgrow
              have HS5 := Lib.hid S5
              clear S5 hown hgrow S2 D2 x0 x1 x2 x3 x4 hlook
              go_roundg (Cs.length - (k + 1))
              case measure => rw [Hgk.out]; omega
              case rel => exact ⟨k + 1, by go_num, rfl, by omega, by rw [← e5, ← cat_eq], HS5⟩
        · have hv1 : ((v : Int) != 0) = true := by rw [bne_iff_ne]; omega
          go_wp2_with fail
          refine (HP.out _ D1.out.code (Hg.out.below S1.out.below)).mono ?_
          rintro e w1 ⟨rfl, hb1⟩
          have S2 := Lib.hid (S1.out.call hb1)
          clear hb1 S1 D1 x0 x1 x2 x3 x4
          dsimp only
          go_wp2_with fail
          refine (sanity_any _ (Hg.out.below S2.out.below)).mono ?_
          rintro e w2 ⟨rfl, hb2⟩
          have B2 := Lib.hid (S2.out.call hb2).below
          clear hb2 S2
          go_wp2_with fail
          go_ret
          exact ⟨rfl, B2.out⟩
      · obtain rfl : k = Cs.length := by omega
        have hS := HS.out
        have e1 : txK Cs Cs.length = Cs.flatMap printT := by unfold txK; rw [List.take_length]
        have e2 : nmK Cs Cs.length = Cs.map Code.name := by unfold nmK; rw [List.take_length]
        have hall : parseB false (txK Cs Cs.length) = .ok Cs := by
          rw [e1]
          exact round_all (fun C hC => hS.ok C (by rw [List.take_length]; exact hC)) h8 (by rw [← e2]; exact hS.nd) (by rw [← e1]; exact hS.len)
        have H20 : Hid (∀ W, Gl W → Calls Tryd.prog 20 #[.string ⟨(txK Cs Cs.length).toArray⟩] W fun e w' => Below W.heap.size W w' ∧ ∃ A c cc, e = .returned (.tuple #[.slice A Cs.length c, .int .i64 0, .int .i64 0]) ∧ Sl w' w'.heap.size A cc ∧ CodesS w' Cs cc) := fun W hg => all_txt hg hall
        have B0 := Lib.hid hS.below
        clear hS HS hall e1 e2
        go_wp2_with fail
        refine (H20.out _ (Hg.out.below B0.out)).mono ?_
        rintro e w1 ⟨hb1, A2, c2, cc2, rfl, hs2, hC2⟩
        have B1 := Lib.hid (B0.out.trans (hb1.mono B0.out.size))
        have S1 := Lib.hid hs2
        have C1 := Lib.hid hC2
        clear hb1 hs2 hC2 B0
        go_wp2_with fail
        refine (sanity_any _ (Hg.out.below B1.out)).mono ?_
        rintro e w2 ⟨rfl, hb2⟩
        have B2 := Lib.hid (B1.out.trans (hb2.mono B1.out.size))
        have hcall := sameAllR_any Cs Cs A A2 c c2 cc cc2 w2 ((Hs.out.below B2.out).more B2.out.size) ((S1.out.below hb2).more hb2.size) (Hc.out.below B2.out) (C1.out.below hb2) (fun C hC => (HL.out C hC).1) (fun C hC => (HL.out C hC).1) hlen
        rw [sameAllB_self] at hcall
        have Hcall := Lib.hid hcall
        clear hb2 B1 S1 C1 hcall
        go_wp2_with fail
        refine Hcall.out.mono ?_
        rintro e w3 ⟨rfl, hb3⟩
        have B3 := Lib.hid (B2.out.trans (hb3.mono B2.out.size))
        clear hb3 B2
        go_wp2_with fail
        go_ret
        exact ⟨rfl, B3.out⟩
  · have h8' : (8 : Int) < (Cs.length : Int) := by omega
    go_enter Tryd.func10, Tryd.ntmps10
    go_wp2_with fail
    refine (sanity_any _ Hg.out).mono ?_
    rintro e w2 ⟨rfl, hb2⟩
    have B2 := Lib.hid hb2
    clear hb2
    go_wp2_with fail
    go_ret
    exact ⟨rfl, B2.out⟩
end Go.Proofs.YtafgmbchdcfkcaaDoor
