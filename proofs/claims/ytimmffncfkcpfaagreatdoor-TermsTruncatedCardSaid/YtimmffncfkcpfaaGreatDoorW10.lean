/-
  The walk of values: the numbers of an item by their words; and of add's fail.
-/
import Derived.Test.YtimmffncfkcpfaaGreatDoorW8
import Derived.Test.YtimmffncfkcpfaaGreatDoorW9
import Derived.Test.YtimmffncfkcpfaaGreatDoorV5
import Derived.Maps.Own
import Derived.Maps.OwnSet
import Derived.Maps.Views
namespace Go.Proofs.YtimmffncfkcpfaaGreatDoor
open Go Go.RowKit Go.Walks Go.Maps

/-- The numbers so far, as a map. -/
def putN (m : DataW Unit) (f : Field) : DataW Unit := if numB f.2.text = true then m.put (.string f.1) (.lit (.int .i64 (valD f.2.text : Nat))) else m
def mapD (fs : List Field) : DataW Unit := fs.foldl putN (.map [])
theorem mapD_snoc (fs : List Field) (f : Field) : mapD (fs ++ [f]) = putN (mapD fs) f := by unfold mapD; rw [List.foldl_append]; rfl
theorem putN_map {m : DataW Unit} (h : IsMap m) (f : Field) : IsMap (putN m f) := by
  unfold putN
  split
  · exact h.put _ _
  · exact h
theorem numOf_none {w : Bytes} : ∀ {fs : List Field}, w ∉ fs.map Prod.fst → numOfF w fs = none
  | [], _ => rfl
  | f :: fs, h => by
    rw [List.map_cons, List.mem_cons, not_or] at h
    rw [numOfF, if_neg (fun e => h.1 e.1.symm)]
    exact numOf_none h.2
theorem at_fold (w : Bytes) (z : DataW Unit) : ∀ (fs : List Field) (m : DataW Unit), IsMap m → (fs.map Prod.fst).Nodup → (fs.foldl putN m).atKey (.string w) z = (match numOfF w fs with | some n => .lit (.int .i64 (n : Nat)) | none => m.atKey (.string w) z) ∧ has (fs.foldl putN m) (.string w) = ((numOfF w fs).isSome || has m (.string w))
  | [], m, _, _ => ⟨rfl, rfl⟩
  | f :: fs, m, hm, hn => by
    rw [List.map_cons, List.nodup_cons] at hn
    obtain ⟨i1, i2⟩ := at_fold w z fs (putN m f) (putN_map hm f) hn.2
    rw [List.foldl_cons, i1, i2, numOfF]
    by_cases h : f.1 = w ∧ numB f.2.text = true
    · rw [if_pos h]
      have h0 : numOfF w fs = none := numOf_none (by rw [← h.1]; exact hn.1)
      rw [h0]
      have hp : putN m f = m.put (.string w) (.lit (.int .i64 (valD f.2.text : Nat))) := by unfold putN; rw [if_pos h.2, h.1]
      rw [hp, atKey_put_same hm (by trivial), has_put_same hm (by trivial)]
      exact ⟨rfl, rfl⟩
    · rw [if_neg h]
      have hp : (putN m f).atKey (.string w) z = m.atKey (.string w) z ∧ has (putN m f) (.string w) = has m (.string w) := by
        unfold putN
        split
        · rename_i hb
          have hne : (Lit.string w) ≠ .string f.1 := fun e => h ⟨by injection e with e; exact e.symm, hb⟩
          exact ⟨atKey_put_other hne _ _, has_put_other hne _⟩
        · exact ⟨rfl, rfl⟩
      rw [hp.1, hp.2]
      exact ⟨rfl, rfl⟩
set_option maxRecDepth 100000 in
theorem zero3 (w : World) : (zeroValue 3).run Tryz.prog w = .ok (.int .i64 0) w := by kernel_rfl
theorem key_str {n : Bytes} (hn : n.length ≤ maxLen) : keyOf Tryz.prog 9 (.string ⟨n.toArray⟩) = some (.string n) := Go.WideMaps.keyOf_string_mk Tryz.underlying9 (by show n.toArray.size ≤ maxLen; rw [List.size_toArray]; exact hn)
/-- The map of an item's numbers. -/
def MapIs (w : World) (b : Nat) (fs : List Field) : Prop := ∃ k, w.ownsMap Tryz.prog 9 (plainElem Tryz.prog 3) b k (mapD fs)
theorem MapIs.below {w w' : World} {b : Nat} {fs : List Field} (h : MapIs w b fs) (hb : Below w.heap.size w w') : MapIs w' b fs := by
  obtain ⟨k, h⟩ := h
  exact ⟨k, h.kept (row := none) ⟨hb.os, hb.tape, hb.output, hb.size, fun i hi _ => hb.block i hi⟩ (by simp)⟩
set_option maxRecDepth 100000 in
theorem MapIs.look {w : World} {b : Nat} {fs : List Field} (h : MapIs w b fs) (hn : (fs.map Prod.fst).Nodup) {n : Bytes} (hl : n.length ≤ maxLen) :
    (Instr.lookup 108 (.map (some b)) (.string ⟨n.toArray⟩) false).run Tryz.prog w = .ok (.int .i64 (nF n fs : Nat)) w := by
  obtain ⟨k, h⟩ := h
  obtain ⟨c, hrun, hat, -⟩ := h.lookup_int (string_keyed Tryz.underlying9) Tryz.underlying108 Tryz.underlying3 (zero3 w) (key_str hl)
  rw [hrun]
  have := (at_fold n (.lit (.int .i64 0)) fs (.map []) isMap_empty hn).1
  unfold mapD at hat
  rw [this] at hat
  have hc : c = (nF n fs : Nat) := by
    unfold nF
    cases hx : numOfF n fs with
    | some v =>
      rw [hx] at hat
      have hat : (DataW.lit (.int .i64 (v : Nat)) : DataW Unit) = .lit (.int .i64 c) := hat
      injection hat with hat
      injection hat with _ hat
      exact hat.symm
    | none =>
      rw [hx] at hat
      have hat : (DataW.lit (.int .i64 0) : DataW Unit) = .lit (.int .i64 c) := hat
      injection hat with hat
      injection hat with _ hat
      exact hat.symm
  rw [hc]
set_option maxRecDepth 100000 in
theorem MapIs.look_ok {w : World} {b : Nat} {fs : List Field} (h : MapIs w b fs) (hn : (fs.map Prod.fst).Nodup) {n : Bytes} (hl : n.length ≤ maxLen) :
    (Instr.lookup 108 (.map (some b)) (.string ⟨n.toArray⟩) true).run Tryz.prog w = .ok (.tuple #[.int .i64 (nF n fs : Nat), .bool (numOfF n fs).isSome]) w := by
  obtain ⟨k, h⟩ := h
  obtain ⟨v, ps, hrun, hv⟩ := h.look_ok (string_keyed Tryz.underlying9) Tryz.underlying108 (zero3 w) (plainElem_int Tryz.underlying3 (by decide)) (key_str hl)
  rw [hrun]
  obtain ⟨h1, h2⟩ := at_fold n (.lit (.int .i64 0)) fs (.map []) isMap_empty hn
  obtain ⟨c, rfl, hc, -⟩ := plainElem_int_inv Tryz.underlying3 hv
  simp only [Prod.mk.injEq] at hc
  have hc := hc.1
  unfold mapD at hc ⊢
  rw [h1] at hc
  rw [h2]
  have e : c = (nF n fs : Nat) := by
    unfold nF
    cases hx : numOfF n fs with
    | some v =>
      rw [hx] at hc
      have hc : (DataW.lit (.int .i64 (v : Nat)) : DataW Unit) = .lit (.int .i64 c) := hc
      injection hc with hc
      injection hc with _ hc
      exact hc.symm
    | none =>
      rw [hx] at hc
      have hc : (DataW.lit (.int .i64 0) : DataW Unit) = .lit (.int .i64 c) := hc
      injection hc with hc
      injection hc with _ hc
      exact hc.symm
  rw [e, show has (.map [] : DataW Unit) (.string n) = false from rfl, Bool.or_false]

/-- What a field's text is. -/
def FOk (f : Field) : Prop := (wordB f.2.text = true ∨ numB f.2.text = true) ∧ f.2.text.length ≤ 2000 ∧ f.1.length ≤ 2000
def MapR (fs : List Field) (w : World) (e : Ending) (w' : World) : Prop := ∃ b, e = .returned (.map (some b)) ∧ MapIs w' b fs ∧ Below w.heap.size w w' ∧ w.heap.size ≤ b
theorem word_atoi {l : Bytes} (h : wordB l = true) : (∀ v, Lib.atoiAll l ≠ .ok v) := fun v e => by
  cases l with
  | nil => cases h
  | cons c r =>
    unfold wordB at h
    rw [Bool.and_eq_true] at h
    have hs : NoSign (c :: r) := fun d s e => by
      injection e with e _
      subst e
      have := isL_range h.1
      omega
    have := (atoi_ok hs e).2.1 c (by simp)
    rw [isL_not_D h.1] at this
    cases this

set_option maxRecDepth 100000 in
set_option maxHeartbeats 4000000 in
theorem values_any (tn : Bool) (fs : List Field) (A : Option Addr) (c : Nat) (w : World) (hl : fs.length ≤ 100) (Hg : Hid (Gl w)) (Hs : Hid (Sl w w.heap.size A (fieldCells fs))) (Hf : Hid (∀ f ∈ fs, FOk f)) :
    Calls Tryz.prog 56 #[.agg #[.bool tn, .slice A fs.length c]] w (MapR fs w) := by
  have hmm := @run_makeMap Tryz.prog
  go_enter Tryz.func56, Tryz.ntmps56
  go_wp2_with fail
  obtain ⟨W0, hW0⟩ : ∃ W0, W0 = (w.alloc (.cells #[.bool tn, .slice A fs.length c] 62)).alloc (.map #[] 0) := ⟨_, rfl⟩
  have HB0 : Hid (Below w.heap.size w W0) := by rw [hW0]; exact ((Below.refl _ _).alloc (Nat.le_refl _) _).alloc (by simp) _
  have HM0 : Hid (W0.ownsMap Tryz.prog 9 (plainElem Tryz.prog 3) (w.heap.size + 1) 0 (mapD ([] : List Field))) := by
    have := World.ownsMap_made (w.alloc (.cells #[.bool tn, .slice A fs.length c] 62)) Tryz.prog 9 (plainElem (H := Unit) Tryz.prog 3)
    have e : (w.alloc (.cells #[.bool tn, .slice A fs.length c] 62)).heap.size = w.heap.size + 1 := by simp
    rw [e] at this
    rw [hW0]; exact this
  try rw [← hW0]
  clear hW0
  go_loopg [12] fs.length (fun g s12 wr => ∃ k : Nat, s12 = .int .i64 (k : Int) ∧ g = fs.length - k ∧ k ≤ fs.length ∧ Hid (Below w.heap.size w wr) ∧ Hid (∃ j, j ≤ k ∧ wr.ownsMap Tryz.prog 9 (plainElem Tryz.prog 3) (w.heap.size + 1) j (mapD (fs.take k))))
  case atStart => exact ⟨0, rfl, rfl, Nat.zero_le _, HB0, ⟨0, Nat.le_refl _, HM0.out⟩⟩
  case round =>
    obtain ⟨k, rfl, hgk, hk, HB, HM⟩ := hrel
    have Hgk := Lib.hid hgk
    clear hgk
    by_cases hlt : k < fs.length
    · have hI1 : (0 : Int) ≤ (k : Int) := by omega
      have hI2 : (k : Int) < (fs.length : Int) := by omega
      obtain ⟨f, hf⟩ : ∃ x, fs[k]? = some x := ⟨_, List.getElem?_eq_getElem hlt⟩
      obtain ⟨b, o, hA, hb, hcells⟩ := sl_at (f := fieldCs) (s := 3) (fun _ => rfl) Hs.out hf (by omega)
      subst hA
      have k0 := (HB.out.cell (p := ⟨b, o + (k * 3 + 0), none⟩) hb).trans (hcells 0 _ rfl)
      have k1 := (HB.out.cell (p := ⟨b, o + (k * 3 + 1), none⟩) hb).trans (hcells 1 _ rfl)
      have k2 := (HB.out.cell (p := ⟨b, o + (k * 3 + 2), none⟩) hb).trans (hcells 2 _ rfl)
      rw [Nat.add_zero] at k0
      rw [← Nat.add_assoc] at k1 k2
      unfold strV at k0 k1
      obtain ⟨hfo, hfl, hfw⟩ := Hf.out f (List.mem_of_getElem? hf)
      have hl1 : f.2.text.length ≤ 281474976710656 := by omega
      have hl2 : f.2.text.length ≤ 9223372036854775806 := by omega
      have htk : fs.take (k + 1) = fs.take k ++ [f] := by rw [List.take_add_one, hf]; rfl
      have hsnoc : mapD (fs.take (k + 1)) = putN (mapD (fs.take k)) f := by rw [htk, mapD_snoc]
      have Hsn := Lib.hid hsnoc
      have HGw := Lib.hid (Hg.out.below HB.out)
      clear hcells hf htk hsnoc
      cases hn : numB f.2.text with
      | true =>
        have h72 := fun W => Tryz.strconv_Atoi_ok ⟨f.2.text.toArray⟩ hl2 _ (atoi_num hn).1 W
        have H72 := Lib.hid h72
        have Hp : Hid (putN (mapD (fs.take k)) f = (mapD (fs.take k)).put (.string f.1) (.lit (.int .i64 (valD f.2.text : Nat)))) := by show _ = _; unfold putN; rw [if_pos hn]
        have hv := (atoi_num hn).2
        have hwf : (Lit.int .i64 ((valD f.2.text : Nat) : Int)).wf = true := by
          show decide _ = true
          exact decide_eq_true (by show (_ : Int) ≤ 9223372036854775807; omega)
        obtain ⟨v, hvd⟩ : ∃ v : Nat, v = valD f.2.text := ⟨_, rfl⟩
        rw [← hvd] at H72 Hp hv hwf
        clear hn h72 hvd hfo
        go_wp2_with fail
        refine (H72.out _).mono ?_
        rintro e w1 ⟨rfl, hw1⟩
        have hb1 : Below (wr.alloc (.cells #[.string ⟨f.1.toArray⟩, .string ⟨f.2.text.toArray⟩, .int .i64 (f.2.at_ : Int)] 65)).heap.size (wr.alloc (.cells #[.string ⟨f.1.toArray⟩, .string ⟨f.2.text.toArray⟩, .int .i64 (f.2.at_ : Int)] 65)) w1 := by
          rcases hw1 with rfl | ⟨t, rfl⟩
          · exact Below.refl _ _
          · exact Lib.bytesWorld_below _ _ _
        have hbA := HB.out.alloc HB.out.size (.cells #[.string ⟨f.1.toArray⟩, .string ⟨f.2.text.toArray⟩, .int .i64 (f.2.at_ : Int)] 65)
        have HB1 := Lib.hid (hbA.trans (hb1.mono hbA.size))
        have hn0 := heap_new wr (.cells #[.string ⟨f.1.toArray⟩, .string ⟨f.2.text.toArray⟩, .int .i64 (f.2.at_ : Int)] 65)
        have HR1 := Lib.hid (below_cells hn0 hb1)
        obtain ⟨j, hj, hmap⟩ := HM.out
        have HM1 : Hid (w1.ownsMap Tryz.prog 9 (plainElem Tryz.prog 3) (w.heap.size + 1) j (mapD (fs.take k))) := (hmap.alloc _).kept (row := none) ⟨hb1.os, hb1.tape, hb1.output, hb1.size, fun i hi _ => hb1.block i hi⟩ (by simp)
        obtain ⟨y0, -⟩ := cell_at HR1.out 0 (u := .string ⟨f.1.toArray⟩) rfl
        have hkey := key_str (n := f.1) (by unfold maxLen; omega)
        have hjm : j < maxLen := by unfold maxLen; omega
        clear hb1 hw1 hbA hn0 hmap
        go_wp2_with (at_mapUpdate; refine wpList_mapUpdate_own _ rfl _ _ _ 108 rfl 9 3 (string_keyed Tryz.underlying9) Tryz.underlying108 _ (w.heap.size + 1) j _ rfl HM1.out hjm _ _ _ rfl rfl hkey _ [] (plainElem_int Tryz.underlying3 hwf) ?_; intro w5 hown hgrow)
        have HO := Lib.hid hown
        have HGr := Lib.hid hgrow
        clear hown hgrow hkey
        go_roundg (fs.length - (k + 1))
        case measure => rw [Hgk.out]; omega
        case rel => exact ⟨k + 1, by go_num, rfl, by omega, HB1.out.grown HGr.out HB1.out.size (fun j hj => by cases hj; omega), ⟨j + 1, by omega, by rw [Hsn.out, Hp.out]; exact HO.out⟩⟩
      | false =>
        have hw : wordB f.2.text = true := by
          rcases hfo with h | h
          · exact h
          · rw [hn] at h; cases h
        have hno := word_atoi hw
        have Hp : Hid (putN (mapD (fs.take k)) f = mapD (fs.take k)) := by show _ = _; unfold putN; rw [if_neg (by rw [hn]; simp)]
        have h72 : ∀ W, Gl W → Calls Tryz.prog 71 #[.string ⟨f.2.text.toArray⟩] W fun e w' => ∃ (v : Int) (N : Nat), e = .returned (.tuple #[.int .i64 v, .iface 143 (.pointer (some ⟨N, 0, none⟩))]) ∧ Below W.heap.size W w' := fun W hg => by
          rcases atoi_cases f.2.text with ⟨v, hv⟩ | hv | hv
          · exact absurd hv (hno v)
          · obtain ⟨ev, hc, hev⟩ := hg.rng
            refine (Tryz.strconv_Atoi_range ⟨f.2.text.toArray⟩ hl1 hv ev W hc hev).mono ?_
            rintro e w' ⟨N, rfl, -, -, hb⟩
            exact ⟨_, N, rfl, hb⟩
          · obtain ⟨ev, hc, hev⟩ := hg.syn
            refine (Tryz.strconv_Atoi_syntax ⟨f.2.text.toArray⟩ hl1 hv ev W hc hev).mono ?_
            rintro e w' ⟨N, rfl, -, -, hb⟩
            exact ⟨_, N, rfl, hb⟩
        have H72 := Lib.hid h72
        clear hn h72 hno hw hfo
        go_wp2_with fail
        refine (H72.out _ (HGw.out.below ((Below.refl _ _).alloc (Nat.le_refl _) _))).mono ?_
        rintro e w1 ⟨v, N, rfl, hb1⟩
        have hbA := HB.out.alloc HB.out.size (.cells #[.string ⟨f.1.toArray⟩, .string ⟨f.2.text.toArray⟩, .int .i64 (f.2.at_ : Int)] 65)
        have HB1 := Lib.hid (hbA.trans (hb1.mono hbA.size))
        obtain ⟨j, hj, hmap⟩ := HM.out
        have HM1 : Hid (w1.ownsMap Tryz.prog 9 (plainElem Tryz.prog 3) (w.heap.size + 1) j (mapD (fs.take k))) := (hmap.alloc _).kept (row := none) ⟨hb1.os, hb1.tape, hb1.output, hb1.size, fun i hi _ => hb1.block i hi⟩ (by simp)
        clear hb1 hbA hmap
        go_wp2_with fail
        go_roundg (fs.length - (k + 1))
        case measure => rw [Hgk.out]; omega
        case rel => exact ⟨k + 1, by go_num, rfl, by omega, HB1, ⟨j, by omega, by rw [Hsn.out, Hp.out]; exact HM1.out⟩⟩
    · have hI3 : ¬ (k : Int) < (fs.length : Int) := by omega
      have hke : fs.take k = fs := List.take_of_length_le (by omega)
      have Hke := Lib.hid hke
      clear hke
      go_wp2_with fail
      go_ret
      obtain ⟨j, -, hmap⟩ := HM.out
      rw [Hke.out] at hmap
      exact ⟨_, rfl, ⟨j, hmap⟩, HB.out, by omega⟩
set_option maxRecDepth 100000 in
theorem fail_no (f : Field) (en : Int) (w : World) : Calls Tryz.prog 53 #[.bool false, .agg (fieldCs f).toArray, .int .i64 en] w fun e w' => e = .returned (.tuple #[]) ∧ Below w.heap.size w w' := by
  unfold fieldCs strV
  go_enter Tryz.func53, Tryz.ntmps53
  go_wp2_with fail
  go_end0
  exact ⟨rfl, (Below.refl _ _).alloc (Nat.le_refl _) _⟩
set_option maxRecDepth 100000 in
theorem fail_yes (f : Field) (en : Int) (w : World) : Calls Tryz.prog 53 #[.bool true, .agg (fieldCs f).toArray, .int .i64 en] w fun e w' => e = wrongE f.2.at_ en ∧ Below w.heap.size w w' := by
  unfold fieldCs strV
  go_enter Tryz.func53, Tryz.ntmps53
  go_wp2_with fail
  exact ⟨rfl, rfl, (Below.refl _ _).alloc (Nat.le_refl _) _⟩
end Go.Proofs.YtimmffncfkcpfaaGreatDoor
