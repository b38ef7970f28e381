/-
  The walk of the statement LangSpaces: it returns true for every code and choice.
-/
import Derived.Test.YtafgmbchdcfkcaaDoorU6
import Derived.Test.YtafgmbchdcfkcaaDoorP3
import Derived.Test.YtafgmbchdcfkcaaDoorR3
import Derived.Deep.DeepCutAuto
namespace Go.Proofs.YtafgmbchdcfkcaaDoor
open Go Go.RowKit Go.Walks

set_option maxRecDepth 100000 in
theorem len_any {B b : Nat} {l : Bytes} {g : Option Nat} {w : World} (h : BdAt w B b l g) : Calls Tryd.prog 25 #[.pointer (some ⟨b, 0, none⟩)] w fun e w' => e = .returned (.int .i64 (l.length : Int)) ∧ w' = w := by
  obtain ⟨hB, p, v, hp, hb, ho, hg⟩ := id h
  obtain ⟨A, c, rfl, -, -, -⟩ := SlT.of_own ho
  obtain ⟨x1, -⟩ := cell_at hb 1 rfl
  have hlt := h.lt
  clear hp hb ho hg h
  go_enter Tryd.func25, Tryd.ntmps25
  go_wp2_with fail
  go_ret
  exact ⟨rfl, rfl⟩
theorem keep46 {W W' : World} {B b : Nat} {l : Bytes} {g : Option Nat} (h : BdAt W B b l g) (hw : Wr b g W W') : KeepT 46 W W' := by
  refine ⟨hw.size, fun i cur fz hh => (hw.block i (Array.getElem?_eq_some_iff.1 hh).1 (fun e => ?_) (fun e => ?_)).trans hh⟩
  · subst e
    obtain ⟨_, p, v, _, hb, _⟩ := h
    rw [hb] at hh
    injection hh with hh
    injection hh with _ hh
    exact absurd hh (by decide)
  · obtain ⟨cur', fz', h5⟩ := h.type e
    rw [h5] at hh
    injection hh with hh
    injection hh with _ hh
    exact absurd hh (by decide)
/-- What the loop of LangSpaces carries; w: the world ahead of the builder's block. -/
structure SpS (w : World) (At : Option Addr) (ts : List Tok) (l : Bytes) (W : World) : Prop where
  below : Below w.heap.size w W
  bd : ∃ g, BdAt W w.heap.size w.heap.size l g
  toks : SlT W W.heap.size 46 At (tokRs ts)
section
variable {w W W' : World} {At : Option Addr} {ts : List Tok} {l s : Bytes}
theorem SpS.call (h : SpS w At ts l W) (hb : Below W.heap.size W W') : SpS w At ts l W' :=
  ⟨h.below.trans (hb.mono h.below.size), by obtain ⟨g, h'⟩ := h.bd; exact ⟨g, h'.below hb⟩, h.toks.below hb hb.size⟩
theorem SpS.wrote {e : Ending} {g : Option Nat} (h : SpS w At ts l W) (hd : BdAt W w.heap.size w.heap.size l g) (hw : WroteP w.heap.size w.heap.size l s g W e W') : SpS w At ts (l ++ s) W' := by
  obtain ⟨_, g', h1, _, h3⟩ := hw
  exact ⟨h.below.trans (hd.wr_below h3 h.below.size), ⟨g', h1⟩, h.toks.keepT (keep46 hd h3) h3.size⟩
end
theorem wroteP_wr {B b : Nat} {l s : Bytes} {g : Option Nat} {w w' : World} {e : Ending} (h : WroteP B b l s g w e w') : Wr b g w w' := by obtain ⟨_, g', _, _, h3⟩ := h; exact h3
theorem weave_ne {last : Nat} {cs : List Nat} {x : Bytes} {k : Nat} {K : List Key} (hx : x ≠ []) : weave last cs ((k, x, 0) :: K) ≠ [] := by
  rw [weave]
  intro e
  have := congrArg List.length e
  simp only [List.length_append, List.length_nil] at this
  exact hx (List.length_eq_zero_iff.1 (by omega))

theorem toksF_tl : ∀ (f : Nat) (s : Bytes) (a : Nat) (T : Tok), T ∈ toksF f s a → T.text.length ≤ s.length
  | 0, _, _, T, h => by cases h
  | f + 1, s, a, T, h => by
    have h1 : (lexT (s.drop (skipS false s)) (a + skipS false s)).text.length ≤ s.length := by
      rw [lexT_len]
      have := lexLen_le (s.drop (skipS false s))
      rw [List.length_drop] at this
      omega
    simp only [toksF] at h
    split at h
    · rw [List.mem_singleton] at h; rw [h]; exact h1
    · rcases List.mem_cons.1 h with h | h
      · rw [h]; exact h1
      · have := toksF_tl f _ _ T h
        rw [List.length_drop] at this
        omega
theorem gapIf_len (last n k : Nat) : (gapIf last n k).length ≤ 10 := by
  unfold gapIf
  split
  · have h : ∀ g ∈ gapsL, g.length ≤ 10 := by decide
    have hlt : n / 2 % 5 < gapsL.length := Nat.mod_lt _ (by decide)
    unfold gapAt
    rw [List.getElem?_eq_getElem hlt]
    exact h _ (List.getElem_mem hlt)
  · simp
theorem weave_len {M : Nat} : ∀ (K : List Key) (last : Nat) (cs : List Nat), (∀ k ∈ K, k.2.1.length ≤ M) → (weave last cs K).length ≤ K.length * (M + 10)
  | [], _, _, _ => by simp [weave]
  | k :: K, last, cs, h => by
    have ih := weave_len K k.1 cs.tail (fun k' hk' => h k' (by simp [hk']))
    have h1 := h k (by simp)
    have h2 := gapIf_len last (cs.head?.getD 0) k.1
    rw [weave, List.length_append, List.length_append, List.length_cons, Nat.add_mul, Nat.one_mul]
    omega
theorem weave_step {ts : List Tok} {k last : Nat} {ch : List Nat} {T : Tok} (hT : ts[k]? = some T) : weave last (ch.drop k) ((ts.drop k).map key) = gapIf last (ch[k]?.getD 0) T.kind ++ (T.text ++ weave T.kind (ch.drop (k + 1)) ((ts.drop (k + 1)).map key)) := by
  obtain ⟨hk, rfl⟩ := List.getElem?_eq_some_iff.1 hT
  rw [List.drop_eq_getElem_cons hk, List.map_cons, weave, List.tail_drop, List.head?_drop]
  rfl

set_option maxRecDepth 100000 in
set_option maxHeartbeats 8000000 in
theorem lawSpaces_any (a : Code) (ch : List Nat) (ca : List Value) (B : Option Addr) (c0 : Nat) (w : World) (Hg : Hid (Gl w)) (HG : Hid (Gaps w)) (Ha : Hid (CodeS w a ca)) (La : Hid (CodeL a)) (hn : a.name.length ≤ maxLen)
    (Hch : Hid (Sl w w.heap.size B (ch.map fun n : Nat => .int .u8 (n : Int)))) (H255 : Hid (∀ n ∈ ch, n ≤ 255)) :
    Calls Tryd.prog 8 #[.agg ca.toArray, .slice B ch.length c0] w (BoolR true w) := by
  obtain ⟨A, c, mc, rfl, h1, h2⟩ := id Ha.out
  clear h1 h2
  have B0 := Lib.hid ((Below.refl w.heap.size w).alloc (Nat.le_refl _) (.cells (codeV a A c) 24))
  have D0 : Hid (CB (w.alloc (.cells (codeV a A c) 24)) w.heap.size a A c) := ⟨heap_new _ _, Ha.out.below B0.out⟩
  have hp : ∀ W, CodeS W a (codeV a A c).toList → Gl W → Calls Tryd.prog 11 #[.agg (codeV a A c)] W (PrintR (printB a) W) := fun W hc hg => print_any a (codeV a A c).toList W hg hc La hn
  obtain ⟨x0, x1, x2, x3, x4⟩ := D0.out.cellsC
  clear Ha
  by_cases hen : (printB a).2 = 0
  · obtain ⟨hpr, hok, hlen⟩ := printB_ok La.out.par hen
    rw [hpr] at hp
    have hw := fun cs => parse_weave hok 3 cs
    have hks := keys_text hok
    clear hen hpr hok
    obtain ⟨tx, htx⟩ : ∃ x, x = printT a := ⟨_, rfl⟩
    rw [← htx] at hp hw hlen hks
    clear htx
    have HP := Lib.hid hp
    clear hp
    by_cases h5 : (500 : Int) < (tx.length : Int)
    · go_enter Tryd.func8, Tryd.ntmps8
      go_wp2_with fail
      refine (HP.out _ D0.out.code (Hg.out.below B0.out)).mono ?_
      rintro e w1 ⟨rfl, hb1⟩
      have B1 := Lib.hid (B0.out.trans (hb1.mono B0.out.size))
      clear hb1 B0 D0 x0 x1 x2 x3 x4
      dsimp only
      go_wp2_with fail
      refine (sanity_any _ (Hg.out.below B1.out)).mono ?_
      rintro e w2 ⟨rfl, hb2⟩
      have B2 := Lib.hid (B1.out.trans (hb2.mono B1.out.size))
      clear hb2 B1
      go_wp2_with fail
      go_ret
      exact ⟨rfl, B2.out⟩
    · have HT : Hid (∀ W, Calls Tryd.prog 23 #[.string ⟨tx.toArray⟩] W (TokensP (toks tx 0) W)) := fun W => tokens_any ⟨tx.toArray⟩ W (by show tx.toArray.size ≤ 2000; rw [List.size_toArray]; exact hlen)
      have hkeys : (toks tx 0).map key = keys tx := by rw [toks_keys, List.drop_zero]
      obtain ⟨ts, hts⟩ : ∃ x, x = toks tx 0 := ⟨_, rfl⟩
      have hbig : (weave 3 ch ((toks tx 0).map key)).length ≤ 10000000 := by
        have h1 := weave_len (M := 2000) ((toks tx 0).map key) 3 ch (fun k hk => by
          obtain ⟨T, hT, rfl⟩ := List.mem_map.1 hk
          have := toksF_tl _ _ _ T hT
          rw [List.drop_zero] at this
          exact Nat.le_trans this hlen)
        have h3 : (toks tx 0).length ≤ 2001 := toks_len2 ⟨tx.toArray⟩ (by show tx.toArray.size ≤ 2000; rw [List.size_toArray]; exact hlen)
        rw [List.length_map] at h1
        have h4 := Nat.mul_le_mul_right (2000 + 10) h3
        omega
      have hN : (toks tx 0).length ≤ 2001 := toks_len2 ⟨tx.toArray⟩ (by show tx.toArray.size ≤ 2000; rw [List.size_toArray]; exact hlen)
      rw [← hts] at hkeys HT hbig hN
      have Hbig := Lib.hid hbig
      clear hbig
      have Hkeys := Lib.hid hkeys
      have Hw := Lib.hid hw
      have Hks := Lib.hid hks
      clear hts hkeys hw hks hlen
      go_enter Tryd.func8, Tryd.ntmps8
      go_wp2_with fail
      refine (HP.out _ D0.out.code (Hg.out.below B0.out)).mono ?_
      rintro e w1 ⟨rfl, hb1⟩
      have B1 := Lib.hid (B0.out.trans (hb1.mono B0.out.size))
      have D1 := Lib.hid (D0.out.below hb1)
      clear hb1 B0 D0 x0 x1 x2 x3 x4
      dsimp only
      go_wp2_with fail
      refine (HT.out _).mono ?_
      rintro e w2 ⟨At, ct, rfl, hs2, hb2⟩
      have S2 : Hid (SpS w1 At ts [] w2) := ⟨(((Below.refl w1.heap.size w1).alloc (Nat.le_refl _) _)).trans (hb2.mono (by simp)), ⟨none, (BdAt.start w1 (Nat.le_refl _)).below hb2⟩, hs2⟩
      clear hs2 hb2 HT
      go_wp2_with fail
      go_loopg [8, 31] ts.length (fun g s8 s31 wr => ∃ (k last : Nat) (l : Bytes), s8 = .int .i64 (last : Int) ∧ s31 = .int .i64 (k : Int) ∧ g = ts.length - k ∧ k ≤ ts.length ∧ Hid (SpS w1 At ts l wr) ∧ Hid (weave 3 ch (ts.map key) = l ++ weave last (ch.drop k) ((ts.drop k).map key)))
      case atStart => exact ⟨0, 3, [], rfl, rfl, by omega, by omega, S2, by show _ = _; simp⟩
      case round =>
        obtain ⟨k, last, l, rfl, rfl, hgk, hk, HS, HW⟩ := hrel
        have Hgk := Lib.hid hgk
        clear hgk
        by_cases hlt : k < ts.length
        · obtain ⟨T, hT⟩ : ∃ x, ts[k]? = some x := ⟨_, List.getElem?_eq_getElem hlt⟩
          have HT := Lib.hid hT
          have hTC : ∃ tb tq, At = some ⟨tb, tq, none⟩ ∧ (wr.cell? ⟨tb, tq + k * 4, none⟩ = some (strV T.text) ∧ wr.cell? ⟨tb, tq + k * 4 + 1, none⟩ = some (.int .i64 (T.at_ : Int)) ∧ wr.cell? ⟨tb, tq + k * 4 + 2, none⟩ = some (.int .i64 (T.kind : Int)) ∧ wr.cell? ⟨tb, tq + k * 4 + 3, none⟩ = some (.int .i64 (T.n : Int))) := by
            have hat := tokRs_at ts k T hT
            rcases HS.out.toks.sl with he | ⟨tb, tq, e, _, hc⟩
            · have := hat 0 _ rfl
              rw [he] at this
              simp at this
            · exact ⟨tb, tq, e, hc _ _ (hat 0 _ rfl), by rw [Nat.add_assoc]; exact hc _ _ (hat 1 _ rfl), by rw [Nat.add_assoc]; exact hc _ _ (hat 2 _ rfl), by rw [Nat.add_assoc]; exact hc _ _ (hat 3 _ rfl)⟩
          obtain ⟨tb, tq, rfl, k0, k1, k2, k3⟩ := hTC
          have hI1 : (0 : Int) ≤ (k : Int) := by omega
          have hI2 : (k : Int) < (ts.length : Int) := by omega
          obtain ⟨m, hm⟩ : ∃ m, m = ch[k]?.getD 0 := ⟨_, rfl⟩
          obtain ⟨W1, hW1⟩ : ∃ W, W = wr.alloc (.cells (tokR T) 46) := ⟨_, rfl⟩
          have HB1 : Hid (Below wr.heap.size wr W1) := by rw [hW1]; exact (Below.refl _ _).alloc (Nat.le_refl _) _
          have S1 := Lib.hid (HS.out.call HB1.out)
          have T1 : Hid (W1.heap[wr.heap.size]? = some (.cells (tokR T) 46)) := by rw [hW1]; exact heap_new _ _
          have HW1 := Lib.hid hW1
          have Hlt : Hid (k + 1 ≤ ts.length) := by show _ ≤ _; omega
          have HM := Lib.hid hm
          have HWs : Hid (weave last (ch.drop k) ((ts.drop k).map key) = gapIf last m T.kind ++ (T.text ++ weave T.kind (ch.drop (k + 1)) ((ts.drop (k + 1)).map key))) := by
            show _ = _
            rw [weave_step HT.out, ← hm]
          have HLn : Hid (l.length + (gapIf last m T.kind).length + T.text.length ≤ 10000000) := by
            show _ ≤ _
            have h1 := Hbig.out
            rw [HW.out, HWs.out, List.length_append, List.length_append, List.length_append] at h1
            omega
          have hm255 : m ≤ 255 := by
            rw [hm]
            cases hc : ch[k]? with
            | none => simp
            | some v => exact H255.out v (List.mem_of_getElem? hc)
          have hmI : (m : Int) ≤ 255 := by omega
          have hm0 : (0 : Int) ≤ (m : Int) := by omega
          clear hT hW1 hm
          go_upto_if 39 with fail
          go_cut [11] (fun s11 wx => s11 = .int .i64 (m : Int) ∧ wx = W1)
          case first =>
            by_cases hk2 : k < ch.length
            · obtain ⟨v, hv⟩ : ∃ x, ch[k]? = some x := ⟨_, List.getElem?_eq_getElem hk2⟩
              obtain rfl : m = v := by rw [HM.out, hv]; rfl
              have hcv : (ch.map fun n : Nat => Value.int .u8 (n : Int))[k]? = some (.int .u8 (m : Int)) := by rw [List.getElem?_map, hv]; rfl
              rcases Hch.out with he | ⟨cb, co, rfl, hcb, hcc⟩
              · rw [he] at hcv; simp at hcv
              · have hbw := B1.out.trans (HS.out.below.mono B1.out.size)
                have hce := (hbw.cell (p := ⟨cb, co + k, none⟩) hcb).trans (hcc _ _ hcv)
                have hcb2 : cb < wr.heap.size := Nat.lt_of_lt_of_le hcb hbw.size
                have hJ : (k : Int) < (ch.length : Int) := by omega
                clear hbw hcc hv hcv
                go_wp2_with fail
                go_meet
                exact ⟨rfl, HW1.out.symm⟩
            · obtain rfl : m = 0 := by rw [HM.out, List.getElem?_eq_none (by omega)]; rfl
              have hJ : ¬ (k : Int) < (ch.length : Int) := by omega
              go_wp2_with fail
              go_meet
              exact ⟨rfl, HW1.out.symm⟩
          case rest =>
            obtain ⟨rfl, rfl⟩ := hcut
            have q0 := (cell_at T1.out 0 (u := strV T.text) rfl).1
            have q2 := (cell_at T1.out 2 (u := .int .i64 (T.kind : Int)) rfl).1
            go_upto_region 12 with fail
            go_cut [56] (fun s56 wx => s56 = .bool (decide ((last < 3 ∧ T.kind < 3) ∨ m % 2 = 1)) ∧ wx = wc)
            case first =>
              by_cases ha : (last : Int) < 3
              · by_cases hb : (T.kind : Int) < 3
                · go_wp2_with fail
                  go_meet
                  exact ⟨congrArg Value.bool (decide_eq_true (.inl ⟨by omega, by omega⟩)).symm, rfl⟩
                · go_wp2_with fail
                  go_meet
                  exact ⟨congrArg Value.bool (by rw [Bool.eq_iff_iff]; simp only [beq_iff_eq, decide_eq_true_eq]; omega), rfl⟩
              · go_wp2_with fail
                go_meet
                exact ⟨congrArg Value.bool (by rw [Bool.eq_iff_iff]; simp only [beq_iff_eq, decide_eq_true_eq]; omega), rfl⟩
            case rest =>
              obtain ⟨rfl, rfl⟩ := hcut
              go_upto_if 56 with fail
              go_cut [10] (fun s10 wx => s10 = .pointer (some ⟨wr.heap.size, 0, none⟩) ∧ Hid (SpS w1 (some ⟨tb, tq, none⟩) ts (l ++ gapIf last m T.kind) wx ∧ wx.heap[wr.heap.size]? = some (.cells (tokR T) 46)))
              case first =>
                by_cases hG : (last < 3 ∧ T.kind < 3) ∨ m % 2 = 1
                · have e5 : gapIf last m T.kind = gapAt m := by unfold gapIf; rw [if_pos hG]
                  have hlt : m / 2 % 5 < gapsL.length := Nat.mod_lt _ (by decide)
                  have hgj : gapsL[m / 2 % 5]? = some (gapAt m) := by unfold gapAt; rw [List.getElem?_eq_getElem hlt]; rfl
                  have hgw : Gaps wc := HG.out.below (B1.out.trans (S1.out.below.mono B1.out.size))
                  have hgc := hgw _ _ hgj
                  obtain ⟨g, hbd⟩ := S1.out.bd
                  have Hbd := Lib.hid hbd
                  rw [e5] at HLn
                  have E5 := Lib.hid e5
                  clear hgj hgw hlt hbd e5
                  go_wp2_with fail
                  refine (write_any (gapAt m) Hbd.out (by have := HLn.out; omega) S1.out.below.size).mono ?_
                  rintro e w4 hw4
                  have S4 := Lib.hid (S1.out.wrote Hbd.out hw4)
                  have T4 := Lib.hid ((keep46 Hbd.out (wroteP_wr hw4)).keep _ _ _ T1.out)
                  obtain ⟨rfl, -⟩ := hw4
                  clear S1 T1 Hbd hgc q0 q2
                  go_wp2_with fail
                  go_meet
                  exact ⟨rfl, by rw [E5.out]; exact S4.out, T4.out⟩
                · have e5 : gapIf last m T.kind = [] := by unfold gapIf; rw [if_neg hG]
                  have E5 := Lib.hid e5
                  clear e5
                  go_wp2_with fail
                  go_meet
                  exact ⟨rfl, by rw [E5.out, List.append_nil]; exact S1.out, T1.out⟩
              case rest =>
                clear S1 T1 q0 q2
                obtain ⟨rfl, hcu⟩ := hcut
                obtain ⟨hs5, ht5⟩ := hcu.out
                have S5 := Lib.hid hs5
                have T5 := Lib.hid ht5
                obtain ⟨g, hbd⟩ := hs5.bd
                have Hbd := Lib.hid hbd
                clear hcu hs5 ht5 hbd
                have q0 := (cell_at T5.out 0 (u := strV T.text) rfl).1
                go_wp2_with fail
                refine (write_any T.text Hbd.out (by have := HLn.out; rw [List.length_append]; omega) S5.out.below.size).mono ?_
                rintro e w4 hw4
                have S6 := Lib.hid (S5.out.wrote Hbd.out hw4)
                have T6 := Lib.hid ((keep46 Hbd.out (wroteP_wr hw4)).keep _ _ _ T5.out)
                obtain ⟨rfl, -⟩ := hw4
                clear S5 T5 Hbd q0
                have q2 := (cell_at T6.out 2 (u := .int .i64 (T.kind : Int)) rfl).1
                go_wp2_with fail
                go_roundg (ts.length - (k + 1))
                case measure => rw [Hgk.out]; omega
                case rel => exact ⟨k + 1, T.kind, l ++ gapIf last m T.kind ++ T.text, rfl, by go_num, rfl, Hlt.out, S6, by show _ = _; rw [HW.out, HWs.out]; simp only [List.append_assoc]⟩
        · obtain rfl : k = ts.length := by omega
          have hl : weave 3 ch (ts.map key) = l := by
            have := HW.out
            rw [List.drop_length] at this
            rw [this]
            show l ++ [] = l
            rw [List.append_nil]
          have hne : l ≠ [] := by
            rw [← hl, Hkeys.out, Hks.out]
            exact weave_ne (by simp [kCode])
          have hpl : l.length ≤ 2000 → parseB true l = .ok [a] := fun h => by
            have := Hw.out ch
            rw [← Hkeys.out, hl] at this
            exact this h
          have Hne := Lib.hid hne
          have Hpl := Lib.hid hpl
          obtain ⟨g, hbd⟩ := HS.out.bd
          have Hbd := Lib.hid hbd
          clear hl hne hpl hbd HW Hw Hks Hkeys
          go_wp2_with fail
          refine (len_any Hbd.out).mono ?_
          rintro e w4 ⟨rfl, rfl⟩
          by_cases hbig2 : (2000 : Int) < (l.length : Int)
          · go_wp2_with fail
            refine (sanity_any _ (Hg.out.below (B1.out.trans (HS.out.below.mono B1.out.size)))).mono ?_
            rintro e w5 ⟨rfl, hb5⟩
            have B5 := Lib.hid ((B1.out.trans (HS.out.below.mono B1.out.size)).trans (hb5.mono (B1.out.trans (HS.out.below.mono B1.out.size)).size))
            clear hb5 HS Hbd D1 B1
            go_wp2_with fail
            go_ret
            exact ⟨rfl, B5.out⟩
          · have H18 : Hid (∀ W, Gl W → Calls Tryd.prog 18 #[.string ⟨l.toArray⟩] W fun e w' => Below W.heap.size W w' ∧ ∃ A c, e = .returned (.tuple #[.agg (codeV a A c), .int .i64 0, .int .i64 0]) ∧ CodeS w' a (codeV a A c).toList) := fun W hg => parse_txt hg (Hpl.out (by omega))
            go_wp2_with fail
            refine (string_any Hbd.out Hne.out).mono ?_
            rintro e w5 ⟨rfl, hw5⟩
            have hbe := HS.out.below.trans (Hbd.out.wr_below hw5 HS.out.below.size)
            have D5 := Lib.hid (D1.out.below hbe)
            have B5 := Lib.hid (B1.out.trans (hbe.mono B1.out.size))
            clear hbe hw5 HS Hbd D1 B1
            go_wp2_with fail
            refine (H18.out _ (Hg.out.below B5.out)).mono ?_
            rintro e w6 ⟨hb6, A6, c6, rfl, hC6⟩
            have B6 := Lib.hid ((B5.out.trans (hb6.mono B5.out.size)).alloc (B5.out.trans (hb6.mono B5.out.size)).size (.cells (codeV a A6 c6) 24))
            have D6 := Lib.hid ((D5.out.below hb6).below ((Below.refl _ _).alloc (Nat.le_refl _) (.cells (codeV a A6 c6) 24)))
            have F6 : Hid (CB (w6.alloc (.cells (codeV a A6 c6) 24)) w6.heap.size a A6 c6) := ⟨heap_new _ _, hC6.below ((Below.refl _ _).alloc (Nat.le_refl _) _)⟩
            clear hb6 hC6 B5 D5
            go_wp2_with fail
            refine (sanity_any _ (Hg.out.below B6.out)).mono ?_
            rintro e w7 ⟨rfl, hb7⟩
            have B7 := Lib.hid (B6.out.trans (hb7.mono B6.out.size))
            have D7 := Lib.hid (D6.out.below hb7)
            have F7 := Lib.hid (F6.out.below hb7)
            clear hb7 B6 D6 F6
            obtain ⟨x0, x1, x2, x3, x4⟩ := D7.out.cellsC
            obtain ⟨y0, y1, y2, y3, y4⟩ := F7.out.cellsC
            go_wp2_with fail
            refine (sameR_self La.out D7.out F7.out).mono ?_
            rintro e w8 ⟨rfl, hb8⟩
            have B8 := Lib.hid (B7.out.trans (hb8.mono B7.out.size))
            clear hb8 B7 D7 F7 x0 x1 x2 x3 x4 y0 y1 y2 y3 y4
            go_wp2_with fail
            go_ret
            exact ⟨rfl, B8.out⟩
  · obtain ⟨pr, hpr⟩ : ∃ x, x = printB a := ⟨_, rfl⟩
    rw [← hpr] at hp hen
    obtain ⟨tx, v⟩ := pr
    dsimp only at hen
    have HP := Lib.hid hp
    have hv1 : ((v : Int) != 0) = true := by rw [bne_iff_ne]; omega
    clear hp hpr hen
    go_enter Tryd.func8, Tryd.ntmps8
    go_wp2_with fail
    refine (HP.out _ D0.out.code (Hg.out.below B0.out)).mono ?_
    rintro e w1 ⟨rfl, hb1⟩
    have B1 := Lib.hid (B0.out.trans (hb1.mono B0.out.size))
    clear hb1 B0 D0 x0 x1 x2 x3 x4
    dsimp only
    go_wp2_with fail
    refine (sanity_any _ (Hg.out.below B1.out)).mono ?_
    rintro e w2 ⟨rfl, hb2⟩
    have B2 := Lib.hid (B1.out.trans (hb2.mono B1.out.size))
    clear hb2 B1
    go_wp2_with fail
    go_ret
    exact ⟨rfl, B2.out⟩
end Go.Proofs.YtafgmbchdcfkcaaDoor
