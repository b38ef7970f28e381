/-
  The walk of parse's closure: the codes of a text are read, then built.
-/
import Derived.Test.YtafgmbchdcfkcaaDoorKt
import Derived.Test.YtafgmbchdcfkcaaDoorW8
import Derived.Deep.RegionLaw
import Derived.Deep.RegionHeld3
import Derived.Deep.DeepCutAuto
import Derived.Deep.QuietTactic
import Derived.BigQuiet
import Derived.Deep.MidRow
namespace Go.Proofs.YtafgmbchdcfkcaaDoor
open Go Go.RowKit Go.Walks

/-- What parse's closure has captured. -/
structure Cap (w : World) (r gr gt gs go : Nat) (t : ByteArray) (sg : Bool) : Prop where
  at_ : Rd w r t 0
  vr : w.heap[gr]? = some (.cells #[.pointer (some ⟨r, 0, none⟩)] 86)
  vt : w.heap[gt]? = some (.cells #[.string t] 9)
  vs : w.heap[gs]? = some (.cells #[.bool sg] 4)
  vo : w.heap[go]? = some (.cells #[.slice none 0 0] 34)
/-- While the sources are read. -/
structure P1 (w : World) (r : Nat) (t : ByteArray) (A : Option Addr) (n c : Nat) (sc : List Value) (l : List Src) (ts : List Tok) (W : World) : Prop where
  at_ : PAt W r t ts
  rb : RB r w W
  o : W.ownsRow w.heap.size 95 13 (.slice A n c) n sc
  ss : SrcsT W l sc
section
variable {w W W' : World} {r n c : Nat} {t : ByteArray} {A : Option Addr} {sc : List Value} {l : List Src} {ts : List Tok} {gr gt gs go : Nat} {sg : Bool}
theorem P1.drewN (h : P1 w r t A n c sc l ts W) (q : Nat) : P1 w r t A n c sc l ts (W.drewN q) := ⟨h.at_, h.rb.drewN q, h.o, h.ss.keep (KeepT.drewN W q) (KeepT.drewN W q)⟩
theorem P1.call {ts' : List Tok} (h : P1 w r t A n c sc l ts W) (hb : RB r W W') (hp : PAt W' r t ts') : P1 w r t A n c sc l ts' W' := by
  obtain ⟨cr, hcr⟩ := h.at_.cells
  exact ⟨hp, h.rb.trans hb, own_rb h.o hb hcr (by decide), h.ss.keep (KeepT.rb hb hcr (by decide)) (KeepT.rb hb hcr (by decide))⟩
theorem P1.step {S : Src} {news : List Value} {A' : Option Addr} {c' : Nat} {o : Obj} (h : P1 w r t A n c sc l ts W) (hS : SrcCs W S news) (ho : W'.ownsRow w.heap.size 95 13 (.slice A' (n + 1) c') (n + 1) (sc ++ news)) (hg : (W.alloc o).grownBy W' (Value.slice A n c).ownBlock) :
    P1 w r t A' (n + 1) c' (sc ++ news) (l ++ [S]) ts W' := by
  obtain ⟨cr, hcr⟩ := h.at_.cells
  have k := keep_append (ty := 117) (by decide) h.o hg
  have k2 := keep_append (ty := 92) (by decide) h.o hg
  exact ⟨h.at_.row (row_grownOwn h.o hg hcr (by decide)), rb_grownOwn h.rb h.o hg, ho, (h.ss.keep k k2).snoc (hS.keep k k2)⟩
theorem one_row {w W : World} {r g : Nat} {v : Value} {ty : TypeId} {cs : Array Value} {t' : TypeId} (hb : RB r w W) (hr : w.heap[r]? = some (.cells cs t')) (h : w.heap[g]? = some (.cells #[v] ty)) (ht : ty ≠ t') : W.heap[g]? = some (.cells #[v] ty) ∧ W.cell? ⟨g, 0, none⟩ = some v := by
  have h2 := hb.row (cells_other h hr (Ne.symm ht)) h
  exact ⟨h2, (cell_at h2 0 rfl).1⟩
theorem Cap.cells (h : Cap w r gr gt gs go t sg) (hb : RB r w W) : W.cell? ⟨gr, 0, none⟩ = some (.pointer (some ⟨r, 0, none⟩)) ∧ W.cell? ⟨gt, 0, none⟩ = some (.string t) ∧ W.cell? ⟨gs, 0, none⟩ = some (.bool sg) ∧ W.heap[go]? = some (.cells #[.slice none 0 0] 34) :=
  ⟨(one_row hb h.at_ h.vr (by decide)).2, (one_row hb h.at_ h.vt (by decide)).2, (one_row hb h.at_ h.vs (by decide)).2, (one_row hb h.at_ h.vo (by decide)).1⟩
end

theorem list13 : ∀ (cs : List Value), cs.length = 13 → ∃ v0 v1 v2 v3 v4 v5 v6 v7 v8 v9 v10 v11 v12, cs = [v0, v1, v2, v3, v4, v5, v6, v7, v8, v9, v10, v11, v12]
  | [v0, v1, v2, v3, v4, v5, v6, v7, v8, v9, v10, v11, v12], _ => ⟨v0, v1, v2, v3, v4, v5, v6, v7, v8, v9, v10, v11, v12, rfl⟩
theorem list5 : ∀ (cs : List Value), cs.length = 5 → ∃ v0 v1 v2 v3 v4, cs = [v0, v1, v2, v3, v4]
  | [v0, v1, v2, v3, v4], _ => ⟨v0, v1, v2, v3, v4, rfl⟩
theorem spl13 (nm fl dt : Tok) (A : Option Addr) (n c : Nat) (dm : Option Tok) : spl z13 0 (sCs nm fl dt (.slice A n c) dm).toList = sCs nm fl dt (.slice A n c) dm := by cases dm <;> kernel_rfl
/-- All old blocks but r and go lie as they lay. -/
structure RB2 (r go : Nat) (w w' : World) : Prop where
  os : w'.os = w.os
  tape : w'.tape = w.tape
  output : w'.output = w.output
  size : w.heap.size ≤ w'.heap.size
  block : ∀ k : Nat, k < w.heap.size → k ≠ r → k ≠ go → w'.heap[k]? = w.heap[k]?
theorem rb_two {r go : Nat} {w w' : World} (h : RB r w w') : RB2 r go w w' := ⟨h.os, h.tape, h.output, h.size, fun k hk h1 _ => h.block k hk h1⟩
theorem RB2.then {r go : Nat} {w w' w'' : World} (h : RB r w w') (k : RB go w' w'') : RB2 r go w w'' :=
  ⟨k.os.trans h.os, k.tape.trans h.tape, k.output.trans h.output, Nat.le_trans h.size k.size, fun i hi h1 h2 => (k.block i (Nat.lt_of_lt_of_le hi h.size) h2).trans (h.block i hi h1)⟩
def ParseP (r go : Nat) (x : BR (List Code)) (w : World) (e : Ending) (w' : World) : Prop := RB2 r go w w' ∧ match x with
  | .ok Cs => e = .returned (.tuple #[]) ∧ ∃ A c cc, w'.heap[go]? = some (.cells #[.slice A Cs.length c] 34) ∧ SlT w' w'.heap.size 24 A cc ∧ CodesT w' Cs cc
  | .bad p en => e = wrongE p en

set_option maxRecDepth 100000 in
set_option maxHeartbeats 16000000 in
theorem parse1_any (t : ByteArray) (r gr gt gs go : Nat) (sg : Bool) (w : World) (ht : t.size ≤ 2000) (hr7 : 7 ≤ r) (Hg : Hid (Gl w)) (Hc : Hid (Cap w r gr gt gs go t sg)) (hmm : ∀ w : World, (Instr.makeMap 57 none).run Tryd.prog w = .ok (.map (some w.heap.size)) (w.alloc (.map #[] 0))) :
    Calls Tryd.prog 56 #[.pointer (some ⟨gr, 0, none⟩), .pointer (some ⟨gt, 0, none⟩), .pointer (some ⟨gs, 0, none⟩), .pointer (some ⟨go, 0, none⟩)] w (ParseP r go (parseB sg t.data.toList) w) := by
  obtain ⟨N, hN⟩ : ∃ N, N = (toks t.data.toList 0).length := ⟨_, rfl⟩
  have HP0 : Hid (PAt w r t (toks t.data.toList 0)) := ⟨0, by omega, Hc.out.at_, rfl⟩
  have hN2 : N ≤ 2001 := by rw [hN]; exact toks_len2 t ht
  have Hpb : Hid (parseB sg t.data.toList = srcsB (srcsT sg (N + 1) [] (toks t.data.toList 0))) := by
    show _ = _
    unfold parseB
    rw [if_neg (by rw [size_l]; omega), hN]
  obtain ⟨c1, c2, c3, -⟩ := Hc.out.cells (RB.refl r w)
  go_enter Tryd.func56, Tryd.ntmps56
  go_wp2_with fail
  refine (skip_T ht HP0.out).mono ?_
  rintro e w1 ⟨rfl, hp1, hb1⟩
  have HP1 := Lib.hid hp1
  have HB1 := Lib.hid hb1
  clear hp1 hb1 c1 c2 c3
  go_wp2_with fail
  go_loopg [4] N (fun g s4 wr => ∃ (A : Option Addr) (n c f : Nat) (sc : List Value) (l : List Src) (ts : List Tok), s4 = .slice A n c ∧ n = l.length ∧ g = f ∧ ts.length ≤ f ∧ f + n ≤ 2001 ∧ Hid (P1 w r t A n c sc l ts wr) ∧ Hid (PH wr r t ts) ∧ Hid (srcsT sg (N + 1) [] (toks t.data.toList 0) = srcsT sg (f + 1) l ts) ∧ Hid (∀ S ∈ l, SrcOk S))
  case atStart => exact ⟨none, 0, 0, N, [], [], _, rfl, rfl, rfl, Nat.le_of_eq hN.symm, by omega, ⟨HP1.out.at, HB1.out, own_nil _ _ _ _, rfl⟩, HP1.out, rfl, fun S hS => by cases hS⟩
  case round =>
    obtain ⟨A, n, c, f, sc, l, ts, rfl, hn, hgf, hlf, hfn, HP, HPH, HS, HO⟩ := hrel
    have Hn := Lib.hid hn
    have Hgf := Lib.hid hgf
    clear hn hgf
    obtain ⟨c1, c2, c3, -⟩ := Hc.out.cells HP.out.rb
    obtain ⟨d0, d1, e0, e1⟩ := two_cells HPH.out.2.1
    go_upto_region 2 with fail
    go_cut [24] (fun s24 wx => ∃ b, s24 = .bool b ∧ Hid (b = true ↔ (headK ts ≠ 4 ∨ (sg = true ∧ l = []))) ∧ Hid (P1 w r t A n c sc l ts wx) ∧ Hid (PH wx r t ts))
    case first =>
      have hk := HPH.out.kind
      by_cases h4 : headK ts = 4
      · have hat := hk.1 h4
        have hlt : ¬ (headAt ts : Int) < (t.size : Int) := by omega
        have hlt2 : decide ((headAt ts : Int) < (t.size : Int)) = false := decide_eq_false hlt
        have hlt3 : decide (headAt ts < t.size) = false := decide_eq_false (by omega)
        have hlt4 : ¬ headAt ts < t.size := by omega
        clear hk hat
        cases sg with
        | false =>
          go_quiet (fail)
          go_wp2_with fail
          go_meet
          exact ⟨_, rfl, (show _ ↔ _ by simp [h4]), HP.out.drewN _, HPH.out⟩
        | true =>
          by_cases hl0 : l = []
          · have hn0 : ((n : Int) == 0) = true := by rw [Hn.out, hl0]; rfl
            go_quiet (fail)
            go_wp2_with fail
            go_meet
            exact ⟨_, rfl, (show _ ↔ _ by simp [h4, hl0]), HP.out.drewN _, HPH.out⟩
          · have hn0 : ((n : Int) == 0) = false := by
              rw [beq_eq_false_iff_ne, Hn.out]
              intro e
              exact hl0 (List.eq_nil_of_length_eq_zero (by omega))
            go_quiet (fail)
            go_wp2_with fail
            go_meet
            exact ⟨_, rfl, (show _ ↔ _ by simp [h4, hl0]), HP.out.drewN _, HPH.out⟩
      · have hat := hk.2 h4
        have hlt2 : decide ((headAt ts : Int) < (t.size : Int)) = true := decide_eq_true (by omega)
        have hlt3 : decide (headAt ts < t.size) = true := decide_eq_true hat
        clear hk hat
        go_quiet (fail)
        go_wp2_with fail
        go_meet
        exact ⟨_, rfl, (show _ ↔ _ by simp [h4]), HP.out.drewN _, HPH.out⟩
    case rest =>
      obtain ⟨b, rfl, hb, hPc, hHc⟩ := hcut
      have HP' := Lib.hid hPc.out
      have HPH' := Lib.hid hHc.out
      have Hb := Lib.hid hb.out
      obtain ⟨c1, c2, c3, -⟩ := Hc.out.cells HP'.out.rb
      clear hb hPc hHc HP HPH
      cases b with
      | true =>
        have hE := Hb.out.1 rfl
        by_cases hX : sg = true ∧ l ≠ []
        · obtain ⟨rfl, hl0⟩ := hX
          have hn0 : (0 : Int) < (n : Int) := by
            rw [Hn.out]
            have := List.length_pos_iff.2 hl0
            omega
          have hn1 : 0 < n := by omega
          have Hbad : Hid (parseB true t.data.toList = .bad (headAt ts) 3) := by show _ = _; rw [Hpb.out, HS.out, srcsT, if_pos hE, if_pos ⟨rfl, hl0⟩]; rfl
          clear hE hl0
          go_wp2_with (go_at_call 58; refine (fail_any t r (headAt ts) _ HPH'.out.2.1).mono ?_; rintro e w' ⟨rfl, hw⟩; rw [hw]; clear hw; unfold wrongE)
          exact ⟨rfl, by show ParseP r go (parseB true t.data.toList) w _ _; rw [Hbad.out]; exact ⟨rb_two HP'.out.rb, rfl⟩⟩
        · have Hst : Hid (srcsT sg (N + 1) [] (toks t.data.toList 0) = (codeT ts).next fun S a => srcsT sg f (l ++ [S]) a) := by show _ = _; rw [HS.out, srcsT, if_pos hE, if_neg hX]
          have HE := Lib.hid hE
          have hlen : ts.length ≤ 2001 := by omega
          clear hE
          go_upto_region 4 with fail
          go_cut [32] (fun s32 wx => s32 = .bool false ∧ wx = wc)
          case first =>
            cases sg with
            | false =>
              go_wp2_with fail
              go_meet
              exact ⟨rfl, rfl⟩
            | true =>
              have hl0 : l = [] := by
                by_cases h : l = []
                · exact h
                · exact absurd ⟨rfl, h⟩ hX
              have hn0 : n = 0 := by rw [Hn.out, hl0]; rfl
              clear hX hl0
              subst hn0
              go_wp2_with fail
              go_meet
              exact ⟨rfl, rfl⟩
          case rest =>
            obtain ⟨rfl, hwc⟩ := hcut
            rw [hwc]
            clear hwc hX
            go_wp2_with fail
            refine PRes.step (code_T t r _ ts ht hlen hr7 (Hg.out.rb HP'.out.rb hr7) HP'.out.at_) ?_ ?_
            · intro S a hx e w4 hv hp4 hb4
              obtain ⟨lq1, lq2, lq3, lq4, lq5⟩ := codeT_ok hx
              have Hok : Hid (SrcOk S) := ⟨by omega, fun R hR => by have := lq3 R hR; omega, by have := HP'.out.at_.short _ lq4; omega⟩
              have Hst2 : Hid (srcsT sg (N + 1) [] (toks t.data.toList 0) = srcsT sg f (l ++ [S]) a) := by show _ = _; rw [Hst.out, hx]; rfl
              obtain ⟨cs, rfl, hS⟩ := hv
              obtain ⟨v0, v1, v2, v3, v4, v5, v6, v7, v8, v9, v10, v11, v12, rfl⟩ := list13 cs hS.len
              have HS4 := Lib.hid hS
              have HP4 := Lib.hid (HP'.out.call hb4 hp4)
              have hf0 : 0 < f := by omega
              have hla : a.length ≤ f - 1 := by omega
              clear hx hb4 hp4 hS lq1 lq2 lq3 lq4 lq5
              have hb1 : n + 1 ≤ maxLen := by unfold maxLen; omega
              have hb2 : (n + 1) * 152 ≤ 140737488355328 := by omega
              go_wp2_with (at_builtin; refine wpList_append_sl rfl _ _ 90 rfl rfl rfl so90 (HP4.out.o.alloc _) (m := 1) (news := [v0, v1, v2, v3, v4, v5, v6, v7, v8, v9, v10, v11, v12]) rfl (Sl.new _ _ _) HS4.out.one hb1 hb2 (Nat.le_trans HP4.out.rb.size (by simp)) ?_; intro A5 c5 w5 ho5 hg5; have HP5 := Lib.hid (HP4.out.step HS4.out ho5 hg5); obtain ⟨t1, t2, t3, -⟩ := Hc.out.cells HP5.out.rb; clear ho5 hg5)
              refine (skip_T ht HP5.out.at_).mono ?_
              rintro e w6 ⟨rfl, hp6, hb6⟩
              have HP6 := Lib.hid (HP5.out.call hb6 hp6.at)
              have HH6 := Lib.hid hp6
              clear hp6 hb6 t1 t2 t3
              go_wp2_with fail
              go_roundg (f - 1)
              case measure => rw [Hgf.out]; omega
              case rel => exact ⟨A5, n + 1, c5, f - 1, _, l ++ [S], a, rfl, by rw [Hn.out]; simp, rfl, hla, by omega, HP6.out, HH6.out, (by show _ = _; rw [Hst2.out, Nat.sub_add_cancel hf0]), fun S' hS' => by
                rcases List.mem_append.1 hS' with h | h
                · exact HO.out S' h
                · rw [List.mem_singleton] at h; rw [h]; exact Hok.out⟩
            · intro p hx w4 hb
              have Hbad : Hid (parseB sg t.data.toList = .bad p 3) := by show _ = _; rw [Hpb.out, Hst.out, hx]; rfl
              have HB := Lib.hid (HP'.out.rb.trans hb)
              clear hx hb
              unfold wrongE
              go_wp2_with fail
              exact ⟨rfl, by show ParseP r go (parseB sg t.data.toList) w _ _; rw [Hbad.out]; exact ⟨rb_two HB.out, rfl⟩⟩
      | false =>
        have hE : ¬ (headK ts ≠ 4 ∨ (sg = true ∧ l = [])) := fun h => by have := Hb.out.2 h; cases this
        have Hpc : Hid (parseB sg t.data.toList = codesB [] [] l) := by show _ = _; rw [Hpb.out, HS.out, srcsT, if_neg hE]; rfl
        clear hE HS HPH' Hpb c1 c2 c3
        go_wp2_with fail
        have hgo : wc.heap[go]? = some (.cells #[.slice none 0 0] 34) := (Hc.out.cells HP'.out.rb).2.2.2
        have Hgo := Lib.hid hgo
        have hn2 : n ≤ 2001 := by omega
        clear hgo hlf hfn
        go_loopg [43] n (fun g s43 wr => ∃ (k : Nat) (ns : List Bytes) (A' : Option Addr) (c' : Nat) (cc : List Value) (Cs : List Code), g = n - k ∧ s43 = .int .i64 (k : Int) ∧ k ≤ n ∧ ns.length = k ∧ k ≤ 8 ∧ Hid (P2 wc go wc.heap.size k ns A' k c' cc Cs wr) ∧ Hid (codesB [] [] l = codesB ns Cs (l.drop k)))
        case atStart => exact ⟨0, [], none, 0, [], [], rfl, rfl, by omega, rfl, by omega, P2.start Hgo.out, rfl⟩
        case round =>
          obtain ⟨k, ns, A', c', cc, Cs, hgk, rfl, hk, hnk, hk8, HQ, HB⟩ := hrel
          have Hgk := Lib.hid hgk
          have Hnk := Lib.hid hnk
          clear hgk hnk
          by_cases hlt : k < n
          · obtain ⟨S, hS⟩ : ∃ S, l[k]? = some S := ⟨_, List.getElem?_eq_getElem (by rw [← Hn.out]; exact hlt)⟩
            obtain ⟨b, o, Ar, cr, rc, hA, hrg, hs1, hs2, hs3⟩ := src_at HP'.out.o HP'.out.ss HQ.out.rb Hgo.out hS
            subst hA
            have Hrg := Lib.hid hrg
            have Hs1 := Lib.hid hs1
            have Hs2 := Lib.hid hs2
            have Hs3 := Lib.hid hs3
            have Hok := Lib.hid (HO.out S (List.mem_of_getElem? hS))
            have HS := Lib.hid hS
            clear hrg hs1 hs2 hs3 hS
            have hI1 : (0 : Int) ≤ (k : Int) := by omega
            have hI2 : (k : Int) < (n : Int) := by omega
            have hsz : (Tryd.prog.info? 95).map (·.size) = some (sCs S.name S.field S.data (.slice Ar S.rows.length cr) S.dom).toList.length := by rw [Array.length_toList, sCs_size]; exact info95
            have hsz2 : (Tryd.prog.info? 95).map (·.size) = some (sCs S.name S.field S.data (.slice Ar S.rows.length cr) S.dom).size := by rw [sCs_size]; exact info95
            have hth : (wr.alloc (.cells z13 95)).there wr.heap.size 0 (sCs S.name S.field S.data (.slice Ar S.rows.length cr) S.dom).size := there_of_row (heap_new wr (.cells z13 95)) 0 _ (by rw [sCs_size]; decide)
            go_upto_region 11 with (first | (refine wpList_load_mid rfl 95 _ rfl b (o + k * 13) rfl (sCs S.name S.field S.data (.slice Ar S.rows.length cr) S.dom).toList _ Hrg.out Tryd.underlying95 rfl hsz ?_) | (refine wpList_store_mid rfl 95 _ _ rfl wr.heap.size 0 (sCs S.name S.field S.data (.slice Ar S.rows.length cr) S.dom) rfl rfl hth hsz2 (sCs_one _ _ _ _ _ _ _) ?_))
            obtain ⟨Wx, hWx⟩ : ∃ Wx, Wx = (wr.alloc (.cells z13 95)).setCells wr.heap.size 0 (sCs S.name S.field S.data (.slice Ar S.rows.length cr) S.dom).toList := ⟨_, rfl⟩
            have hQx : P2 wc go wc.heap.size k ns A' k c' cc Cs Wx := by rw [hWx]; exact HQ.out.below (Below.setCells (Nat.le_refl _) _ _ ((Below.refl _ _).alloc (Nat.le_refl _) _))
            have hXx : Wx.heap[wr.heap.size]? = some (.cells (sCs S.name S.field S.data (.slice Ar S.rows.length cr) S.dom) 95) := by rw [hWx, heap_setCells (w := wr) _ 0 (heap_new wr (.cells z13 95)), spl13]
            have hSx : SlT Wx Wx.heap.size 117 Ar rc := by rw [hWx]; exact Hs1.out.keepT (KeepT.below (Below.setCells (Nat.le_refl _) _ _ ((Below.refl _ _).alloc (Nat.le_refl _) _))) (by rw [size_setCells]; simp)
            have hRx : RowsCs Wx S.rows rc := by rw [hWx]; exact Hs2.out.keep (KeepT.below (Below.setCells (Nat.le_refl _) _ _ ((Below.refl _ _).alloc (Nat.le_refl _) _)))
            rw [← hWx]
            clear hWx hth hsz2
            have HQx := Lib.hid hQx
            have HXx := Lib.hid hXx
            have HSx := Lib.hid hSx
            have HRx := Lib.hid hRx
            have g0 := (cell_at hXx 0 (u := .int .i64 (S.name.at_ : Int)) rfl).1
            have g2 := (cell_at hXx 2 (u := strV S.name.text) rfl).1
            clear hQx hXx hSx hRx
            have hsl : S.name.text.length ≤ maxLen := by have := Hok.out.name; unfold maxLen; omega
            by_cases h8 : k < 8
            rotate_left
            · have hn8 : ¬ (k : Int) < 8 := by omega
              have Hbad : Hid (parseB sg t.data.toList = .bad S.name.at_ 2) := by show _ = _; rw [Hpc.out, HB.out, codesB_step HS.out, Hnk.out, if_neg h8]
              clear h8
              go_wp2_with (go_at_call 60; refine (demand_no _ _ _).mono ?_; rintro e w' ⟨rfl, hw⟩; rw [hw]; clear hw; unfold wrongE)
              exact ⟨rfl, by show ParseP r go (parseB sg t.data.toList) w _ _; rw [Hbad.out]; exact ⟨RB2.then HP'.out.rb HQx.out.rb, rfl⟩⟩
            have hn8 : (k : Int) < 8 := by omega
            have hlook := HQx.out.nm.look hsl
            by_cases hm : S.name.text ∈ ns
            · have Hbad : Hid (parseB sg t.data.toList = .bad S.name.at_ 4) := by show _ = _; rw [Hpc.out, HB.out, codesB_step HS.out, Hnk.out, if_pos h8, if_pos hm]
              rw [decide_eq_true hm] at hlook
              clear hm
              go_upto_region 12 with (go_at_call 60; refine (demand_ok _ _ _).mono ?_; rintro e w' ⟨rfl, hw⟩; rw [hw]; clear hw)
              go_wp2_with (go_at_call 60; refine (demand_no _ _ _).mono ?_; rintro e w' ⟨rfl, hw⟩; rw [hw]; clear hw; unfold wrongE)
              exact ⟨rfl, by show ParseP r go (parseB sg t.data.toList) w _ _; rw [Hbad.out]; exact ⟨RB2.then HP'.out.rb HQx.out.rb, rfl⟩⟩
            have Hcb : Hid (codesB [] [] l = (buildS S).next fun C => codesB (ns ++ [S.name.text]) (Cs ++ [C]) (l.drop (k + 1))) := by show _ = _; rw [HB.out, codesB_step HS.out, Hnk.out, if_pos h8, if_neg hm]
            rw [decide_eq_false hm] at hlook
            clear hm
            have hnm : k < maxLen := by unfold maxLen; omega
            go_upto_region 14 with (first | (go_at_call 60; refine (demand_ok _ _ _).mono ?_; rintro e w' ⟨rfl, hw⟩; rw [hw]; clear hw) | (refine wpList_names rfl _ _ _ rfl wc.heap.size k ns S.name.text rfl rfl rfl HQx.out.nm hnm hsl ?_; intro Wy hny hgy; have HQy' := Lib.hid (HQx.out.put hny hgy); have HXy' := Lib.hid ((hgy.block _ (by have := (Array.getElem?_eq_some_iff.1 HXx.out).1; exact this) (fun e => by have := HQ.out.lt.1; injection e with e; omega)).trans HXx.out); have HSy' := Lib.hid (HSx.out.keepT (keep_map HQx.out.nm.row.choose_spec.choose_spec hgy) hgy.size); have HRy' := Lib.hid (HRx.out.keep (keep_map HQx.out.nm.row.choose_spec.choose_spec hgy)); clear hny hgy))
            have HQy := Lib.hid HQy'.out.drew
            have HXy := Lib.hid (show Wy.drew.heap[wr.heap.size]? = _ from HXy'.out)
            have hL := src_any S Ar cr rc Wy.drew HSy' (HRy'.out.keep (KeepT.drewN Wy 1)) Hok Hs3
            obtain ⟨f3, -⟩ := HQy.out.cell
            have hb1 : k + 1 ≤ maxLen := by unfold maxLen; omega
            have hb2 : (k + 1) * 64 ≤ 140737488355328 := by omega
            clear hlook g0 g2
            cases hbs : buildS S with
            | bad p en =>
              rw [hbs] at hL
              have HL := Lib.hid hL
              clear hL
              have Hbad : Hid (parseB sg t.data.toList = .bad p en) := by show _ = _; rw [Hpc.out, Hcb.out, hbs]; rfl
              refine wp_region_held_drew (S := fun w' => w'.rangeAt wr.heap.size 0 (sCs S.name S.field S.data (.slice Ar S.rows.length cr) S.dom).toList) (by kernel_rfl) (P2.held HXy.out) (fun hHeld => ?_)
              refine wpAnyH_take (i := 1) (v := _) rfl (by kernel_rfl) (by kernel_rfl) (by kernel_rfl) (fun _ _ _ h => h) (yieldsIf_load_mid (by rfl) 95 _ rfl wr.heap.size 0 rfl (sCs S.name S.field S.data (.slice Ar S.rows.length cr) S.dom).toList _ (fun _ h => h) Tryd.underlying95 rfl hsz) hHeld ?_
              refine wpAnyH_ready (rs := [0, 2]) (by kernel_rfl) (by simp) ?_
              refine AllReadyH.cons rfl (fun K hK => ?_) ?_
              · go_simp
                refine hK.out _ _ hHeld (fun hHeld => ?_)
                clear hK K
                refine wpAnyH_ready (rs := [2]) (by kernel_rfl) (by simp) ?_
                refine AllReadyH.cons rfl (fun K hK => ?_) AllReadyH.nil
                go_simp
                go_wp2_with (go_at_call 61; refine HL.out.mono ?_; rintro e w6 ⟨rfl, hb6⟩; have HB6 := Lib.hid (HQy.out.below hb6).rb; clear hb6; unfold wrongE)
                exact ⟨rfl, by show ParseP r go (parseB sg t.data.toList) w _ _; rw [Hbad.out]; exact ⟨RB2.then HP'.out.rb HB6.out, rfl⟩⟩
              refine AllReadyH.cons rfl (fun K hK => ?_) AllReadyH.nil
              go_simp
              go_wp2_with (go_at_call 61; refine HL.out.mono ?_; rintro e w6 ⟨rfl, hb6⟩; have HB6 := Lib.hid (HQy.out.below hb6).rb; clear hb6; unfold wrongE)
              exact ⟨rfl, by show ParseP r go (parseB sg t.data.toList) w _ _; rw [Hbad.out]; exact ⟨RB2.then HP'.out.rb HB6.out, rfl⟩⟩
            | ok C =>
              rw [hbs] at hL
              have HL := Lib.hid hL
              clear hL
              have Hnx : Hid (codesB [] [] l = codesB (ns ++ [S.name.text]) (Cs ++ [C]) (l.drop (k + 1))) := by show _ = _; rw [Hcb.out, hbs]; rfl
              refine wp_region_held_drew (S := fun w' => w'.rangeAt wr.heap.size 0 (sCs S.name S.field S.data (.slice Ar S.rows.length cr) S.dom).toList) (by kernel_rfl) (P2.held HXy.out) (fun hHeld => ?_)
              refine wpAnyH_take (i := 1) (v := _) rfl (by kernel_rfl) (by kernel_rfl) (by kernel_rfl) (fun _ _ _ h => h) (yieldsIf_load_mid (by rfl) 95 _ rfl wr.heap.size 0 rfl (sCs S.name S.field S.data (.slice Ar S.rows.length cr) S.dom).toList _ (fun _ h => h) Tryd.underlying95 rfl hsz) hHeld ?_
              refine wpAnyH_ready (rs := [0, 2]) (by kernel_rfl) (by simp) ?_
              refine AllReadyH.cons rfl (fun K hK => ?_) ?_
              · go_simp
                refine hK.out _ _ hHeld (fun hHeld => ?_)
                clear hK K
                refine wpAnyH_ready (rs := [2]) (by kernel_rfl) (by simp) ?_
                refine AllReadyH.cons rfl (fun K hK => ?_) AllReadyH.nil
                go_simp
                go_wp2_with (go_at_call 61; refine HL.out.mono ?_; rintro e w6 ⟨⟨cs, rfl, hC⟩, hb6⟩; obtain ⟨u0, u1, u2, u3, u4, rfl⟩ := list5 cs hC.len; have HC6 := Lib.hid hC; have HQ6 := Lib.hid (HQy.out.below hb6); have HX6 := Lib.hid ((hb6.block _ (Array.getElem?_eq_some_iff.1 HXy.out).1).trans HXy.out); have hKeep6 := P2.held HX6.out; have hKeep6a := fun o : Obj => P2.held ((Below.heap_alloc _ o _ (Array.getElem?_eq_some_iff.1 HX6.out).1).trans HX6.out); obtain ⟨t3, -⟩ := HQ6.out.cell; have t3a := cell_alloc t3; clear hC hb6)
                refine hK.out _ _ hKeep6 (fun hHeld => ?_)
                clear hK K
                refine wpAnyH_ready (rs := [3]) (by kernel_rfl) (by simp) ?_
                refine AllReadyH.cons rfl (fun K hK => ?_) AllReadyH.nil
                go_simp
                refine hK.out _ _ (hKeep6a _) (fun hHeld => ?_)
                clear hK K
                refine wpAnyH_ready (rs := [4]) (by kernel_rfl) (by simp) ?_
                refine AllReadyH.cons rfl (fun K hK => ?_) AllReadyH.nil
                refine step_append_sl rfl _ _ 34 rfl rfl rfl so34 (HQ6.out.o.alloc _) (m := 1) (news := [u0, u1, u2, u3, u4]) rfl (Sl.new _ _ _) HC6.out.one hb1 hb2 (Nat.le_trans HQ6.out.rb.size (by simp)) ?_
                intro A5 c5 w7 ho5 hg5
                have HO5 := Lib.hid ho5
                have HG5 := Lib.hid hg5
                have hx7 := (row_grownOwn HQ6.out.o hg5 HX6.out (by decide)).trans HX6.out
                have hv7 := (row_grownOwn HQ6.out.o hg5 HQ6.out.vo (by decide)).trans HQ6.out.vo
                have hKeep7 := P2.held hx7
                have hKeep8 := P2.held ((KeepT.setCell (ty := 95) hv7 (by decide) 0 (.slice A5 (k + 1) c5)).keep _ _ _ hx7)
                obtain ⟨e9, h9⟩ := HQ6.out.cell2 hg5
                clear ho5 hg5 hx7 hv7
                (try go_simp)
                refine hK.out _ _ hKeep7 (fun hHeld => ?_)
                clear hK K
                refine wpAnyH_ready (rs := [5]) (by kernel_rfl) (by simp) ?_
                refine AllReadyH.cons rfl (fun K hK => ?_) AllReadyH.nil
                go_simp
                refine hK.out _ _ hKeep8 (fun hHeld => ?_)
                clear hK K
                refine wpAnyH_done (by kernel_rfl) ?_ _
                go_wp2_with fail
                go_roundg (n - (k + 1))
                case measure => rw [Hgk.out]; omega
                case rel => exact ⟨k + 1, ns ++ [S.name.text], A5, c5, _, Cs ++ [C], rfl, by go_num, by omega, by rw [List.length_append, Hnk.out]; rfl, by omega, HQ6.out.step HC6.out HO5.out HG5.out, Hnx.out⟩
              refine AllReadyH.cons rfl (fun K hK => ?_) AllReadyH.nil
              go_simp
              go_wp2_with (go_at_call 61; refine HL.out.mono ?_; rintro e w6 ⟨⟨cs, rfl, hC⟩, hb6⟩; obtain ⟨u0, u1, u2, u3, u4, rfl⟩ := list5 cs hC.len; have HC6 := Lib.hid hC; have HQ6 := Lib.hid (HQy.out.below hb6); have HX6 := Lib.hid ((hb6.block _ (Array.getElem?_eq_some_iff.1 HXy.out).1).trans HXy.out); have hKeep6 := P2.held HX6.out; have hKeep6a := fun o : Obj => P2.held ((Below.heap_alloc _ o _ (Array.getElem?_eq_some_iff.1 HX6.out).1).trans HX6.out); obtain ⟨t3, -⟩ := HQ6.out.cell; have t3a := cell_alloc t3; clear hC hb6)
              refine hK.out _ _ hKeep6 (fun hHeld => ?_)
              clear hK K
              refine wpAnyH_ready (rs := [0, 3]) (by kernel_rfl) (by simp) ?_
              refine AllReadyH.cons rfl (fun K hK => ?_) ?_
              · go_simp
                refine hK.out _ _ hHeld (fun hHeld => ?_)
                clear hK K
                refine wpAnyH_ready (rs := [3]) (by kernel_rfl) (by simp) ?_
                refine AllReadyH.cons rfl (fun K hK => ?_) AllReadyH.nil
                go_simp
                refine hK.out _ _ (hKeep6a _) (fun hHeld => ?_)
                clear hK K
                refine wpAnyH_ready (rs := [4]) (by kernel_rfl) (by simp) ?_
                refine AllReadyH.cons rfl (fun K hK => ?_) AllReadyH.nil
                refine step_append_sl rfl _ _ 34 rfl rfl rfl so34 (HQ6.out.o.alloc _) (m := 1) (news := [u0, u1, u2, u3, u4]) rfl (Sl.new _ _ _) HC6.out.one hb1 hb2 (Nat.le_trans HQ6.out.rb.size (by simp)) ?_
                intro A5 c5 w7 ho5 hg5
                have HO5 := Lib.hid ho5
                have HG5 := Lib.hid hg5
                have hx7 := (row_grownOwn HQ6.out.o hg5 HX6.out (by decide)).trans HX6.out
                have hv7 := (row_grownOwn HQ6.out.o hg5 HQ6.out.vo (by decide)).trans HQ6.out.vo
                have hKeep7 := P2.held hx7
                have hKeep8 := P2.held ((KeepT.setCell (ty := 95) hv7 (by decide) 0 (.slice A5 (k + 1) c5)).keep _ _ _ hx7)
                obtain ⟨e9, h9⟩ := HQ6.out.cell2 hg5
                clear ho5 hg5 hx7 hv7
                (try go_simp)
                refine hK.out _ _ hKeep7 (fun hHeld => ?_)
                clear hK K
                refine wpAnyH_ready (rs := [5]) (by kernel_rfl) (by simp) ?_
                refine AllReadyH.cons rfl (fun K hK => ?_) AllReadyH.nil
                go_simp
                refine hK.out _ _ hKeep8 (fun hHeld => ?_)
                clear hK K
                refine wpAnyH_done (by kernel_rfl) ?_ _
                go_wp2_with fail
                go_roundg (n - (k + 1))
                case measure => rw [Hgk.out]; omega
                case rel => exact ⟨k + 1, ns ++ [S.name.text], A5, c5, _, Cs ++ [C], rfl, by go_num, by omega, by rw [List.length_append, Hnk.out]; rfl, by omega, HQ6.out.step HC6.out HO5.out HG5.out, Hnx.out⟩
              refine AllReadyH.cons rfl (fun K hK => ?_) AllReadyH.nil
              go_simp
              refine hK.out _ _ (hKeep6a _) (fun hHeld => ?_)
              clear hK K
              refine wpAnyH_ready (rs := [0]) (by kernel_rfl) (by simp) ?_
              refine AllReadyH.cons rfl (fun K hK => ?_) AllReadyH.nil
              go_simp
              refine hK.out _ _ hHeld (fun hHeld => ?_)
              clear hK K
              refine wpAnyH_ready (rs := [4]) (by kernel_rfl) (by simp) ?_
              refine AllReadyH.cons rfl (fun K hK => ?_) AllReadyH.nil
              refine step_append_sl rfl _ _ 34 rfl rfl rfl so34 (HQ6.out.o.alloc _) (m := 1) (news := [u0, u1, u2, u3, u4]) rfl (Sl.new _ _ _) HC6.out.one hb1 hb2 (Nat.le_trans HQ6.out.rb.size (by simp)) ?_
              intro A5 c5 w7 ho5 hg5
              have HO5 := Lib.hid ho5
              have HG5 := Lib.hid hg5
              have hx7 := (row_grownOwn HQ6.out.o hg5 HX6.out (by decide)).trans HX6.out
              have hv7 := (row_grownOwn HQ6.out.o hg5 HQ6.out.vo (by decide)).trans HQ6.out.vo
              have hKeep7 := P2.held hx7
              have hKeep8 := P2.held ((KeepT.setCell (ty := 95) hv7 (by decide) 0 (.slice A5 (k + 1) c5)).keep _ _ _ hx7)
              obtain ⟨e9, h9⟩ := HQ6.out.cell2 hg5
              clear ho5 hg5 hx7 hv7
              (try go_simp)
              refine hK.out _ _ hKeep7 (fun hHeld => ?_)
              clear hK K
              refine wpAnyH_ready (rs := [5]) (by kernel_rfl) (by simp) ?_
              refine AllReadyH.cons rfl (fun K hK => ?_) AllReadyH.nil
              go_simp
              refine hK.out _ _ hKeep8 (fun hHeld => ?_)
              clear hK K
              refine wpAnyH_done (by kernel_rfl) ?_ _
              go_wp2_with fail
              go_roundg (n - (k + 1))
              case measure => rw [Hgk.out]; omega
              case rel => exact ⟨k + 1, ns ++ [S.name.text], A5, c5, _, Cs ++ [C], rfl, by go_num, by omega, by rw [List.length_append, Hnk.out]; rfl, by omega, HQ6.out.step HC6.out HO5.out HG5.out, Hnx.out⟩
          · have hke : k = n := by omega
            have Hfin : Hid (parseB sg t.data.toList = .ok Cs) := by show _ = _; rw [Hpc.out, HB.out, hke, Hn.out, List.drop_length]; rfl
            clear hlt Hgk HB
            go_wp2_with fail
            first | go_end0 | refine bodyPost_ret (results_none rfl _ _ _) rfl ?_
            show ParseP r go (parseB sg t.data.toList) w _ _
            rw [Hfin.out]
            have hv := HQ.out.vo
            rw [HQ.out.len] at hv
            exact ⟨RB2.then HP'.out.rb HQ.out.rb, rfl, A', c', cc, hv, HQ.out.slt, HQ.out.cs⟩
end Go.Proofs.YtafgmbchdcfkcaaDoor
