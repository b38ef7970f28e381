/-
  The walk of the reference's Tokens.
  The walks of the reference's parser: next, take.
-/
import Derived.Test.YtimmffncfkcpfaaGreatDoorQ1
import Derived.Test.YtimmffncfkcpfaaGreatDoorW15
import Derived.Deep.RegionHeld3
namespace Go.Proofs.YtimmffncfkcpfaaGreatDoor
open Go Go.RowKit Go.Walks

def rtokCs (T : Tok) : List Value := [strV T.text, .int .i64 (T.at_ : Int)]
def rtokCells (ts : List Tok) : List Value := ts.flatMap rtokCs
theorem rtokCells_snoc (ts : List Tok) (T : Tok) : rtokCells (ts ++ [T]) = rtokCells ts ++ rtokCs T := by simp [rtokCells]
theorem rtok_len (T : Tok) : (rtokCs T).length = 2 := rfl
theorem so112 : SliceOf Tryz.prog 112 73 2 24 := SliceOf.mk (z := .agg #[.string ⟨#[]⟩, .int .i64 0]) Tryz.underlying112 (by omega) (by kernel_rfl) rfl
theorem below_append {w W W' : World} {e : TypeId} {size n : Nat} {v : Value} {xs : List Value} {o : Obj} (hb : Below w.heap.size w W) (ho : W.ownsRow w.heap.size e size v n xs) (hg : (W.alloc o).grownBy W' v.ownBlock) : Below w.heap.size w W' := by
  have ha := hb.alloc hb.size o
  refine ⟨hg.os.trans ha.os, hg.tape.trans ha.tape, hg.output.trans ha.output, Nat.le_trans ha.size hg.size, fun k hk => (hg.block k (Nat.lt_of_lt_of_le hk ha.size) (fun e => ?_)).trans (ha.block k hk)⟩
  rcases ho.2 with ⟨h', _⟩ | ⟨g, cap, cur, h', hle, _⟩
  · rw [h'] at e; simp [Value.ownBlock] at e
  · rw [h'] at e
    have : k = g := by simpa [Value.ownBlock] using e
    omega
/-- While the tokens are read. -/
structure RTS (w : World) (A : Option Addr) (n c : Nat) (acc : List Tok) (W : World) : Prop where
  below : Below w.heap.size w W
  o : W.ownsRow w.heap.size 73 2 (.slice A n c) n (rtokCells acc)
def RTokP (t : ByteArray) (w : World) (e : Ending) (w' : World) : Prop := ∃ (acc : List Tok) (stop : Nat) (A : Option Addr) (c : Nat), e = .returned (.tuple #[.slice A acc.length c, .int .i64 (stop : Int)]) ∧ toks t.data.toList 0 = acc ++ [⟨[], stop⟩] ∧ stop ≤ t.size ∧ acc.length ≤ t.size ∧ SlT w' w'.heap.size 73 A (rtokCells acc) ∧ acc.length ≤ c ∧ c ≤ maxLen ∧ Below w.heap.size w w'
theorem RTS.res {w W : World} {A : Option Addr} {n c : Nat} {acc : List Tok} {t : ByteArray} {stop : Nat} (h : RTS w A n c acc W) (hn : n = acc.length) (hE : toks t.data.toList 0 = acc ++ [⟨[], stop⟩]) (hs : stop ≤ t.size) (ha : acc.length ≤ t.size) : RTokP t w (.returned (.tuple #[.slice A n c, .int .i64 (stop : Int)])) W := by
  obtain ⟨A', c', e', hs', h1, h2⟩ := SlT.of_own h.o
  injection e' with e1 _ e3
  subst e1 e3 hn
  exact ⟨acc, stop, A, c, rfl, hE, hs, ha, hs', h1, h2, h.below⟩

set_option maxRecDepth 100000 in
set_option maxHeartbeats 4000000 in
theorem rtokens_any (t : ByteArray) (w : World) (ht : t.size ≤ 2000) : Calls Tryz.prog 58 #[.string t] w (RTokP t w) := by
  have HL : Hid (t.data.toList.length = t.size) := (Lib.size_eq t).symm
  have H73 : Hid (∀ (q : Nat) W, q ≤ t.size → Calls Tryz.prog 73 #[.string t, .int .i64 (q : Int)] W fun e w' => e = .returned (.int .i64 ((q + skipS false (t.data.toList.drop q) : Nat) : Int)) ∧ w' = W) := fun q W h => skip_any t q W (by unfold maxLen; omega) h
  have hk0 := skipS_le false (t.data.toList.drop 0)
  rw [List.length_drop, HL.out] at hk0
  obtain ⟨p0, hp0⟩ : ∃ p, p = 0 + skipS false (t.data.toList.drop 0) := ⟨_, rfl⟩
  have h0 := H73.out 0 w (Nat.zero_le _)
  rw [← hp0] at h0
  have Hc0 := Lib.hid h0
  have Hp0 := Lib.hid hp0
  have hp0s : p0 ≤ t.size := by omega
  clear h0 hk0 hp0
  go_enter Tryz.func58, Tryz.ntmps58
  go_wp2_with (go_at_call 73; refine Hc0.out.mono ?_; rintro e w' ⟨rfl, hw'⟩; have hw2 := hw'.symm; subst hw2)
  go_loopg [4, 5] t.size (fun g s4 s5 wr => ∃ (A : Option Addr) (n c q p : Nat) (acc : List Tok), s4 = .slice A n c ∧ s5 = .int .i64 (p : Int) ∧ g = t.size - q ∧ q ≤ t.size ∧ n ≤ q ∧ p ≤ t.size ∧ n = acc.length ∧ Hid (p = q + skipS false (t.data.toList.drop q)) ∧ Hid (RTS w A n c acc wr) ∧ Hid (toks t.data.toList 0 = acc ++ toks t.data.toList q))
  case atStart => exact ⟨none, 0, 0, 0, p0, [], rfl, rfl, rfl, Nat.zero_le _, Nat.le_refl _, hp0s, rfl, Hp0.out, ⟨Below.refl _ _, own_nil _ _ _ _⟩, rfl⟩
  case round =>
    obtain ⟨A, n, c, q, p, acc, rfl, rfl, hg, hq, hnq, hp, hn, HPq, HT, HE⟩ := hrel
    have Hg := Lib.hid hg
    have Hn := Lib.hid hn
    clear hg hn
    have hnx : nextT t.data.toList q = ⟨lexS (t.data.toList.drop p), p⟩ := by unfold nextT; rw [← HPq.out]
    have hte := toks_eq t.data.toList q
    rw [hnx] at hte
    dsimp only at hte
    have HTE := Lib.hid hte
    clear hnx hte
    by_cases hlt : p < t.size
    · have hI1 : (p : Int) < (t.size : Int) := by omega
      obtain ⟨tx, htx⟩ : ∃ x, x = lexS (t.data.toList.drop p) := ⟨_, rfl⟩
      have H74 := length_any t p wr (by unfold maxLen; omega) hlt
      rw [← htx] at H74 HTE
      have Hlen := Lib.hid H74
      clear H74
      by_cases h0 : tx = []
      · have Hfin : Hid (toks t.data.toList 0 = acc ++ [⟨[], p⟩]) := by
          show _ = _
          rw [HE.out, HTE.out, if_pos h0, h0]
        subst h0
        clear htx
        go_wp2_with (go_at_call 74; refine Hlen.out.mono ?_; rintro e w' ⟨rfl, hw'⟩; have hw2 := hw'.symm; subst hw2)
        go_ret2
        exact HT.out.res Hn.out Hfin.out hp (by have := Hn.out; omega)
      · have hpos : 0 < tx.length := List.length_pos_iff.2 h0
        have hle := lexS_le (t.data.toList.drop p)
        rw [← htx, List.length_drop, HL.out] at hle
        have hpn : p + tx.length ≤ t.size := by omega
        have hsl : t.extract p (p + tx.length) = ⟨tx.toArray⟩ := by
          apply bytes_ext
          rw [Lib.extract_data, show p + tx.length - p = tx.length by omega, htx, ← lexS_take]
        have HN2 : Hid (toks t.data.toList 0 = (acc ++ [⟨tx, p⟩]) ++ toks t.data.toList (p + tx.length)) := by
          show _ = _
          rw [HE.out, HTE.out, if_neg h0, List.append_assoc]; rfl
        have hk := skipS_le false (t.data.toList.drop (p + tx.length))
        rw [List.length_drop, HL.out] at hk
        have hnz : ((tx.length : Int) == 0) = false := by rw [beq_eq_false_iff_ne]; omega
        obtain ⟨p2, hp2⟩ : ∃ x, x = p + tx.length + skipS false (t.data.toList.drop (p + tx.length)) := ⟨_, rfl⟩
        have h73 := fun W => H73.out (p + tx.length) W hpn
        rw [← hp2] at h73
        have Hnext := Lib.hid h73
        have Hp2 := Lib.hid hp2
        have hp2s : p2 ≤ t.size := by omega
        have hb1 : n + 1 ≤ maxLen := by unfold maxLen; omega
        have hb2 : (n + 1) * 24 ≤ 140737488355328 := by omega
        have hqp : q < p + tx.length := by have := HPq.out; omega
        clear h73 hk hp2 hle htx h0
        go_wp2_with (first | (go_at_call 74; refine Hlen.out.mono ?_; rintro e w' ⟨rfl, hw'⟩; have hw2 := hw'.symm; subst hw2) | (at_builtin; refine wpList_append_sl rfl _ _ 112 rfl rfl rfl so112 (HT.out.o.alloc _) (m := 1) (news := [.string ⟨tx.toArray⟩, .int .i64 (p : Int)]) rfl (Sl.new _ _ _) ?_ hb1 hb2 (Nat.le_trans HT.out.below.size (by simp)) ?_; (intro u hu; simp at hu; rcases hu with rfl | rfl <;> rfl); intro A5 c5 w5 ho5 hg5; have HT5 : Hid (RTS w A5 (n + 1) c5 (acc ++ [⟨tx, p⟩]) w5) := ⟨below_append HT.out.below HT.out.o hg5, by rw [rtokCells_snoc]; exact ho5⟩; clear ho5 hg5) | (go_at_call 73; refine (Hnext.out _).mono ?_; rintro e w6 ⟨rfl, hw6⟩; have hw2 := hw6.symm; subst hw2))
        go_roundg (t.size - (p + tx.length))
        case measure => rw [Hg.out]; omega
        case rel => exact ⟨A5, n + 1, c5, p + tx.length, p2, acc ++ [(⟨tx, p⟩ : Tok)], by go_num, rfl, rfl, hpn, by omega, hp2s, by rw [List.length_append, ← Hn.out]; rfl, Hp2, HT5, HN2⟩
    · have hI1 : ¬ (p : Int) < (t.size : Int) := by omega
      have hdr : t.data.toList.drop p = [] := List.drop_of_length_le (by rw [HL.out]; omega)
      have Hfin : Hid (toks t.data.toList 0 = acc ++ [⟨[], p⟩]) := by
        show _ = _
        rw [HE.out, HTE.out, hdr]; rfl
      clear hdr
      go_wp2_with fail
      go_ret2
      exact HT.out.res Hn.out Hfin.out hp (by have := Hn.out; omega)
end Go.Proofs.YtimmffncfkcpfaaGreatDoor
namespace Go.Proofs.YtimmffncfkcpfaaGreatDoor
open Go Go.RowKit Go.Walks

theorem toksF_tl : ∀ (f : Nat) (s : Bytes) (a : Nat) (T : Tok), T ∈ toksF f s a → T.text.length ≤ s.length
  | 0, _, _, T, h => by cases h
  | f + 1, s, a, T, h => by
    have h1 := lexS_le (s.drop (skipS false s))
    rw [List.length_drop] at h1
    simp only [toksF] at h
    split at h
    · rw [List.mem_singleton] at h; rw [h]; exact Nat.zero_le _
    · rcases List.mem_cons.1 h with h | h
      · rw [h]; show (lexS _).length ≤ _; omega
      · have := toksF_tl f _ _ T h
        rw [List.length_drop] at this
        omega
theorem toks_tl {l : Bytes} {a : Nat} {T : Tok} (h : T ∈ toks l a) : T.text.length ≤ l.length := by
  have := toksF_tl _ _ _ T h
  rw [List.length_drop] at this
  omega
/-- The reference's parser: the tokens left, and where it has gone wrong. -/
structure RSt where
  ts : List Tok
  bad : Option Nat
def headR (S : RSt) : Tok := S.ts.head?.getD tok0
def takeR (b : Bool) (S : RSt) : Tok × RSt := match S.bad with
  | some _ => (tok0, S)
  | none => if b = true ∧ 2 ≤ S.ts.length then (headR S, ⟨S.ts.tail, none⟩) else (tok0, ⟨S.ts, some (headR S).at_⟩)
def parCs (A : Option Addr) (c : Nat) (acc : List Tok) (stop i : Nat) (bad : Option Nat) : Array Value := #[.slice A acc.length c, .int .i64 (stop : Int), .int .i64 (i : Int), .bool bad.isSome, .int .i64 ((bad.getD 0 : Nat) : Int)]
/-- The reference's parser in memory. -/
structure RP (W : World) (r : Nat) (A : Option Addr) (c : Nat) (acc : List Tok) (stop : Nat) (S : RSt) : Prop where
  row : ∃ i, i ≤ acc.length ∧ S.ts = (acc ++ [(⟨[], stop⟩ : Tok)]).drop i ∧ W.heap[r]? = some (.cells (parCs A c acc stop i S.bad) 117)
  sl : SlT W W.heap.size 73 A (rtokCells acc)
section
variable {W W' : World} {r c stop : Nat} {A : Option Addr} {acc : List Tok} {S : RSt}
theorem RP.below (h : RP W r A c acc stop S) (hb : Below W.heap.size W W') : RP W' r A c acc stop S := by
  obtain ⟨i, h1, h2, h3⟩ := h.row
  exact ⟨⟨i, h1, h2, (hb.block _ (Array.getElem?_eq_some_iff.1 h3).1).trans h3⟩, h.sl.below hb hb.size⟩
theorem RP.lt (h : RP W r A c acc stop S) : r < W.heap.size := by obtain ⟨i, h1, h2, h3⟩ := h.row; exact (Array.getElem?_eq_some_iff.1 h3).1
theorem five_cells {w : World} {g : Nat} {t : TypeId} {a b c d e : Value} (h : w.heap[g]? = some (.cells #[a, b, c, d, e] t)) :
    w.cell? ⟨g, 0, none⟩ = some a ∧ w.cell? ⟨g, 1, none⟩ = some b ∧ w.cell? ⟨g, 2, none⟩ = some c ∧ w.cell? ⟨g, 3, none⟩ = some d ∧ w.cell? ⟨g, 4, none⟩ = some e ∧ w.frozen? ⟨g, 0, none⟩ = false := by
  simp [World.cell?, World.frozen?, h]
set_option maxRecDepth 100000 in
theorem info73 : (Tryz.prog.info? 73).map (·.size) = some 2 := by kernel_rfl
set_option maxRecDepth 100000 in
theorem res59 (tmps : Array Value) (w : World) (g : Nat) (a b : Value) (hp : tmps.getD 2 undef = .pointer (some ⟨g, 0, none⟩)) (hg : w.heap[g]? = some (.cells #[a, b] 73)) :
    (results Tryz.f59 tmps).run Tryz.prog w = .ok (.agg #[a, b]) w :=
  results_cell_row (p := 2) (ty := 73) rfl tmps w g 73 #[a, b] (0, 0) _ hp hg Tryz.underlying73 rfl info73
end

theorem below_set2 {w W : World} {g : Nat} (h : Below g w W) (u v : Value) : Below g w ((W.setCell ⟨g, 0, none⟩ u).setCell ⟨g, 1, none⟩ v) :=
  (h.setCell (p := ⟨g, 0, none⟩) (Nat.le_refl _) u).setCell (p := ⟨g, 1, none⟩) (Nat.le_refl _) v

set_option maxRecDepth 100000 in
set_option maxHeartbeats 4000000 in
theorem next_any {r c stop : Nat} {A : Option Addr} {acc : List Tok} {S : RSt} (w : World) (H : Hid (RP w r A c acc stop S)) (hn : acc.length ≤ 2000) (hcap : acc.length ≤ c) :
    Calls Tryz.prog 59 #[.pointer (some ⟨r, 0, none⟩)] w fun e w' => e = .returned (TokV (headR S)) ∧ Below w.heap.size w w' := by
  obtain ⟨i, hi, hts, hrow⟩ := H.out.row
  unfold parCs at hrow
  obtain ⟨W1, hW1⟩ : ∃ W, W = w.alloc (.cells #[.string ⟨#[]⟩, .int .i64 0] 73) := ⟨_, rfl⟩
  have HB1 : Hid (Below w.heap.size w W1) := by rw [hW1]; exact (Below.refl _ _).alloc (Nat.le_refl _) _
  have hr1 := below_cells hrow HB1.out
  have HR1 := Lib.hid hr1
  have HN1 : Hid (W1.heap[w.heap.size]? = some (.cells #[.string ⟨#[]⟩, .int .i64 0] 73)) := by rw [hW1]; exact heap_new _ _
  obtain ⟨n, hne⟩ : ∃ n, n = acc.length := ⟨_, rfl⟩
  rw [← hne] at hi hr1 hn hcap HR1
  have HNE := Lib.hid hne
  have HTS := Lib.hid hts
  have HSL := Lib.hid H.out.sl
  clear hrow hts hne
  obtain ⟨x0, x1, x2, x3, x4, -⟩ := five_cells hr1
  clear hr1
  have hrl := H.out.lt
  by_cases hlt : i < n
  · have hI0 : (0 : Int) ≤ (i : Int) := by omega
    have hI1 : (i : Int) < (n : Int) := by omega
    go_enter Tryz.func59, Tryz.ntmps59
    go_upto_region 1 with fail
    rw [← hW1]
    clear hW1
    go_quiet (fail)
    go_wp2_with fail
    obtain ⟨W2, hW2⟩ : ∃ W, W = W1.drewN nq := ⟨_, rfl⟩
    have HB2 : Hid (Below W1.heap.size W1 W2) := by rw [hW2]; exact below_drewN (Below.refl _ _) _
    rw [← hW2]
    clear hW2 x0 x1 x2 x3 x4
    have hr2 := below_cells HR1.out HB2.out
    have HN2 := Lib.hid (below_cells HN1.out HB2.out)
    have HBW := Lib.hid (HB1.out.trans (HB2.out.mono HB1.out.size))
    obtain ⟨T, hT⟩ : ∃ x, acc[i]? = some x := ⟨_, List.getElem?_eq_getElem (by have := HNE.out; omega)⟩
    obtain ⟨tb, to_, hA, htb, hcells⟩ := sl_at rtok_len HSL.out.sl hT (by omega)
    subst hA
    have k0 := (HBW.out.cell (p := ⟨tb, to_ + (i * 2 + 0), none⟩) htb).trans (hcells 0 _ rfl)
    have k1 := (HBW.out.cell (p := ⟨tb, to_ + (i * 2 + 1), none⟩) htb).trans (hcells 1 _ rfl)
    rw [Nat.add_zero] at k0
    rw [← Nat.add_assoc] at k1
    have HH : Hid (headR S = T) := by
      show _ = _
      unfold headR
      rw [HTS.out, List.head?_drop, List.getElem?_append_left (by have := HNE.out; omega), hT]; rfl
    unfold strV at k0
    obtain ⟨x0, -, x2, -, -, -⟩ := five_cells hr2
    obtain ⟨z0, z1, z2⟩ := two_cells HN2.out
    have HK : Hid (∀ W', Below w.heap.size W2 W' → ((W'.cell? ⟨r, 0, none⟩ = some (.slice (some ⟨tb, to_, none⟩) n c) ∧ W'.cell? ⟨r, 2, none⟩ = some (.int .i64 (i : Int))) ∧ W'.cell? ⟨tb, to_ + i * 2, none⟩ = some (.string ⟨T.text.toArray⟩)) ∧ W'.cell? ⟨tb, to_ + i * 2 + 1, none⟩ = some (.int .i64 (T.at_ : Int))) := fun W' hb =>
      ⟨⟨⟨(hb.cell (p := ⟨r, 0, none⟩) hrl).trans x0, (hb.cell (p := ⟨r, 2, none⟩) hrl).trans x2⟩, (hb.cell (p := ⟨tb, to_ + i * 2, none⟩) htb).trans k0⟩, (hb.cell (p := ⟨tb, to_ + i * 2 + 1, none⟩) htb).trans k1⟩
    clear hcells hT hr2 htb
    go_region_held3 (fun w' => ((w'.cell? ⟨r, 0, none⟩ = some (.slice (some ⟨tb, to_, none⟩) n c) ∧ w'.cell? ⟨r, 2, none⟩ = some (.int .i64 (i : Int))) ∧ w'.cell? ⟨tb, to_ + i * 2, none⟩ = some (.string ⟨T.text.toArray⟩)) ∧ w'.cell? ⟨tb, to_ + i * 2 + 1, none⟩ = some (.int .i64 (T.at_ : Int)))
      ((refine HK.out _ ?_; first | exact (Below.refl _ _).drew | exact (((Below.refl _ _).setCell (Nat.le_refl _) _).setCell (Nat.le_refl _) _).drew | exact (((Below.refl _ _).drew.setCell (Nat.le_refl _) _).setCell (Nat.le_refl _) _) | exact Below.drew (Below.setCell (p := ⟨w.heap.size, 1, none⟩) (Below.setCell (p := ⟨w.heap.size, 0, none⟩) (Below.refl _ _) (Nat.le_refl _) _) (Nat.le_refl _) _))) (fail)
    go_wp2_with fail
    refine bodyPost_ret (res59 _ _ w.heap.size (.string ⟨T.text.toArray⟩) (.int .i64 (T.at_ : Int)) rfl (set_at (set_at HN2.out 0 _) 1 _)) rfl ?_
    exact ⟨by rw [HH.out]; rfl, (below_set2 HBW.out _ _).drew⟩
  · have hke : i = n := by omega
    subst hke
    have hI1 : ¬ (i : Int) < (i : Int) := by omega
    have HH : Hid (headR S = ⟨[], stop⟩) := by
      show _ = _
      unfold headR
      rw [HTS.out, List.head?_drop, List.getElem?_append_right (by have := HNE.out; omega), ← HNE.out, Nat.sub_self]; rfl
    go_enter Tryz.func59, Tryz.ntmps59
    go_upto_region 1 with fail
    rw [← hW1]
    clear hW1
    go_quiet (fail)
    go_upto_region 3 with fail
    obtain ⟨W2, hW2⟩ : ∃ W, W = W1.drewN nq := ⟨_, rfl⟩
    have HB2 : Hid (Below W1.heap.size W1 W2) := by rw [hW2]; exact below_drewN (Below.refl _ _) _
    rw [← hW2]
    clear hW2 x0 x1 x2 x3 x4
    have HN2 := Lib.hid (below_cells HN1.out HB2.out)
    have HBW := Lib.hid (HB1.out.trans (HB2.out.mono HB1.out.size))
    obtain ⟨-, x1, -, -, -, -⟩ := five_cells (below_cells HR1.out HB2.out)
    obtain ⟨z0, z1, z2⟩ := two_cells HN2.out
    go_wp2_with fail
    refine bodyPost_ret (res59 _ _ w.heap.size (.string ⟨#[]⟩) (.int .i64 (stop : Int)) rfl (set_at (set_at HN2.out 0 _) 1 _)) rfl ?_
    exact ⟨by rw [HH.out]; rfl, below_set2 HBW.out _ _⟩
end Go.Proofs.YtimmffncfkcpfaaGreatDoor
