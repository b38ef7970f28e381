/-
  The walk of item's second closure: a word and a number.
-/
import Derived.Test.YtimmffncfkcpfaaGreatDoorW6
namespace Go.Proofs.YtimmffncfkcpfaaGreatDoor
open Go Go.RowKit Go.Walks

theorem lexS_nosign (s : Bytes) : NoSign (lexS s) := by
  intro d rr e
  cases s with
  | nil => cases e
  | cons c s =>
    rw [lexS_cons] at e
    split at e
    · rename_i hS
      injection e with e _
      subst e
      unfold isS at hS
      simp only [Bool.or_eq_true, beq_iff_eq] at hS
      rcases hS with (rfl | rfl) | rfl <;> decide
    · split at e
      · have hm : d ∈ runT (c :: s) := by rw [e]; simp
        have := List.all_eq_true.1 (List.all_takeWhile (p := isAN) (l := c :: s)) d hm
        unfold isAN isL isD at this
        simp at this; omega
      · cases e
theorem PS.nosign {w : World} {r : Nat} {t : ByteArray} {T : Tok} {rest : List Tok} (h : PS w r t (T :: rest)) : NoSign T.text := by
  obtain ⟨a, h1, h2, -⟩ := h
  obtain ⟨T', rest', e1, e2, -, -⟩ := toks_head (l := t.data.toList) (a := a) (by rw [size_l]; exact h1)
  rw [h2] at e1
  injection e1 with e1 _
  rw [e1, ← e2]
  exact lexS_nosign _
set_option maxRecDepth 100000 in
set_option maxHeartbeats 4000000 in
theorem number_T (t : ByteArray) (r gx gp gz n c : Nat) (tn : Bool) (A : Option Addr) (fs : List Field) (w W : World) (ts : List Tok) (word : Bytes) (hw : word ≠ []) (ht : t.size ≤ 2000) (hr7 : 7 ≤ r) (hfs : fs.length ≤ 100) (Hg : Hid (Gl w)) (Hp : Hid (IS w r t gx gp gz tn A n c fs ts W)) :
    Calls Tryz.prog 51 #[.string ⟨word.toArray⟩, .pointer (some ⟨gp, 0, none⟩), .pointer (some ⟨gx, 0, none⟩)] W (IRes w r t gx gp gz tn fs (numF word ts) W) := by
  obtain ⟨p1, -⟩ := cell_at Hp.out.p 0 (u := .pointer (some ⟨r, 0, none⟩)) rfl
  have hPa : IS w r t gx gp gz tn A n c fs ts (W.alloc (.cells #[.string ⟨word.toArray⟩] 9)) := Hp.out.below ((Below.refl _ _).alloc (Nat.le_refl _) _)
  have hmust := musts_T t r (W.alloc (.cells #[.string ⟨word.toArray⟩] 9)) ts [word] (some ⟨W.heap.size, 0, none⟩) 1 (fun s hs => by rw [List.mem_singleton] at hs; rw [hs]; exact hw) (by simp) (by simp) ht hr7 (hPa.gl Hg.out hr7) hPa.at_ (slT_new W [strV word] 9)
  have Hmust := Lib.hid hmust
  have HPa := Lib.hid hPa
  clear hmust hPa
  go_enter Tryz.func51, Tryz.ntmps51
  go_wp2_with fail
  refine PRes.step Hmust.out ?_ ?_
  rotate_left
  · intro p hx wb hb
    have Hx : Hid (numF word ts = .bad p) := by
      show _ = _
      unfold numF
      rw [← must1 word ts (fun a => (takeT numB a).next fun T b => .ok (word, T) b), hx]; rfl
    have HB := Lib.hid (HPa.out.rb.trans hb)
    clear hx hb
    unfold wrongE
    go_wp2_with fail
    refine ⟨rfl, ?_⟩
    show IRes w r t gx gp gz tn fs (numF word ts) W _ _
    rw [Hx.out]
    exact ⟨rfl, HB.out⟩
  intro _ ts1 hx e W1 hv hp1 hb1
  unfold UnitIs at hv
  subst hv
  have Hk : Hid (numF word ts = (takeT numB ts1).next fun T b => .ok (word, T) b) := by
    show _ = _
    unfold numF
    rw [← must1 word ts (fun a => (takeT numB a).next fun T b => .ok (word, T) b), hx]; rfl
  have HP := Lib.hid (HPa.out.call hb1 hp1)
  clear hx hp1 hb1 p1
  obtain ⟨T, rest, hts, hps, hle, -⟩ := HP.out.at_.head
  have hns : NoSign T.text := by
    have h := HP.out.at_
    rw [hts] at h
    exact h.nosign
  obtain ⟨c1, f1⟩ := cell_at hps 1 (u := .string ⟨T.text.toArray⟩) rfl
  obtain ⟨x1, g1⟩ := cell_at HP.out.x 1 (u := .slice A n c) rfl
  obtain ⟨p1, -⟩ := cell_at HP.out.p 0 (u := .pointer (some ⟨r, 0, none⟩)) rfl
  have hhd : headTx ts1 = T.text := by rw [hts]; rfl
  have hlen : T.text.length ≤ 140737488355328 := by omega
  have HD := Lib.hid (HP.out.below ((Below.refl _ _).drew))
  have H56 := Lib.hid (isNumber_any T.text W1.drew hlen hns (show Hid (Gl W1.drew) from HD.out.gl Hg.out hr7))
  have H58 : Hid (∀ W1', Below W1.drew.heap.size W1.drew W1' → Calls Tryz.prog 50 #[.pointer (some ⟨r, 0, none⟩), .bool (numB T.text)] W1' (PRes t r (takeT numB ts1) TokIs W1')) := fun W1' hb => by
    have hI := HD.out.below hb
    have := take_T t r W1' ts1 numB rfl ht hr7 (hI.gl Hg.out hr7) hI.at_
    rw [hhd] at this
    exact this
  have Hps := Lib.hid hps
  clear hts hps hle hhd
  cases hx : takeT numB ts1 with
  | bad p =>
    have Hx : Hid (numF word ts = .bad p) := by show _ = _; rw [Hk.out, hx]; rfl
    rw [hx] at H58
    clear hx
    go_wp2_with fail
    refine wp_region_held_drew (S := fun w' => (w'.cell? ⟨gx, 1, none⟩ = some (.slice A n c) ∧ w'.cell? ⟨gp, 0, none⟩ = some (.pointer (some ⟨r, 0, none⟩))) ∧ w'.cell? ⟨r, 1, none⟩ = some (.string ⟨T.text.toArray⟩)) (by kernel_rfl) ⟨⟨x1, p1⟩, c1⟩ (fun hHeld => ?_)
    refine wpAnyH_take (i := 0) (v := ?_) rfl (by kernel_rfl) (by kernel_rfl) (by kernel_rfl) (fun _ _ _ h => h) (Or.inl ⟨by rfl, ?_⟩) hHeld ?_
    rotate_left
    · intro w hSw; (try dsimp only at hSw); go_simp
      with_reducible rfl
    refine wpAnyH_take (i := 1) (v := ?_) rfl (by kernel_rfl) (by kernel_rfl) (by kernel_rfl) (fun _ _ _ h => h) (Or.inl ⟨by rfl, ?_⟩) hHeld ?_
    rotate_left
    · intro w hSw; (try dsimp only at hSw); go_simp
      with_reducible rfl
    refine wpAnyH_take (i := 2) (v := ?_) rfl (by kernel_rfl) (by kernel_rfl) (by kernel_rfl) (fun _ _ _ h => h) (Or.inl ⟨by rfl, ?_⟩) hHeld ?_
    rotate_left
    · intro w hSw; (try dsimp only at hSw); go_simp
      with_reducible rfl
    refine wpAnyH_take (i := 3) (v := ?_) rfl (by kernel_rfl) (by kernel_rfl) (by kernel_rfl) (fun _ _ _ h => h) (Or.inl ⟨by rfl, ?_⟩) hHeld ?_
    rotate_left
    · intro w hSw; (try dsimp only at hSw); go_simp
      with_reducible rfl
    refine wpAnyH_take (i := 4) (v := ?_) rfl (by kernel_rfl) (by kernel_rfl) (by kernel_rfl) (fun _ _ _ h => h) (Or.inl ⟨by rfl, ?_⟩) hHeld ?_
    rotate_left
    · intro w hSw; (try dsimp only at hSw); go_simp
      with_reducible rfl
    refine wpAnyH_take (i := 5) (v := ?_) rfl (by kernel_rfl) (by kernel_rfl) (by kernel_rfl) (fun _ _ _ h => h) (Or.inl ⟨by rfl, ?_⟩) hHeld ?_
    rotate_left
    · intro w hSw; (try dsimp only at hSw); go_simp
      with_reducible rfl
    refine wpAnyH_take (i := 6) (v := ?_) rfl (by kernel_rfl) (by kernel_rfl) (by kernel_rfl) (fun _ _ _ h => h) (Or.inl ⟨by rfl, ?_⟩) hHeld ?_
    rotate_left
    · intro w hSw; (try dsimp only at hSw); go_simp
      with_reducible rfl
    refine wpAnyH_take (i := 7) (v := ?_) rfl (by kernel_rfl) (by kernel_rfl) (by kernel_rfl) (fun _ _ _ h => h) (Or.inl ⟨by rfl, ?_⟩) hHeld ?_
    rotate_left
    · intro w hSw; (try dsimp only at hSw); go_simp
      with_reducible rfl
    refine wpAnyH_take (i := 8) (v := ?_) rfl (by kernel_rfl) (by kernel_rfl) (by kernel_rfl) (fun _ _ _ h => h) (Or.inl ⟨by rfl, ?_⟩) hHeld ?_
    rotate_left
    · intro w hSw; (try dsimp only at hSw); go_simp
      with_reducible rfl
    refine wpAnyH_ready (rs := [9]) (by kernel_rfl) (by simp) ?_
    refine AllReadyH.cons rfl (fun K hK => ?_) AllReadyH.nil
    go_simp
    go_at_call 48
    refine H56.out.mono ?_
    rintro e w1 ⟨rfl, hb1'⟩
    have HB1 := Lib.hid hb1'
    have HP1 := Lib.hid (HD.out.below hb1')
    obtain ⟨y1, k1⟩ := cell_at HP1.out.x 1 (u := .slice A n c) rfl
    obtain ⟨q1, -⟩ := cell_at HP1.out.p 0 (u := .pointer (some ⟨r, 0, none⟩)) rfl
    obtain ⟨d1, -⟩ := cell_at (below_cells (show W1.drew.heap[r]? = _ from Hps.out) hb1') 1 (u := .string ⟨T.text.toArray⟩) rfl
    clear hb1'
    dsimp only
    refine hK.out _ _ ⟨⟨y1, q1⟩, d1⟩ (fun hHeld => ?_)
    refine wpAnyH_ready (rs := [10]) (by kernel_rfl) (by simp) ?_
    refine AllReadyH.cons rfl (fun K hK => ?_) AllReadyH.nil
    go_simp
    go_at_call 50
    refine (H58.out _ HB1.out).mono ?_
    rintro e w2 ⟨rfl, hb2'⟩
    have HB2 := Lib.hid hb2'
    clear hb2'
    unfold wrongE
    dsimp only
    refine ⟨rfl, ?_⟩
    show IRes w r t gx gp gz tn fs (numF word ts) W _ _
    rw [Hx.out]
    exact ⟨rfl, (HD.out.rb.trans (RB.of_below HB1.out)).trans HB2.out⟩
  | ok T' a =>
    have Hx : Hid (numF word ts = .ok (word, T') a) := by show _ = _; rw [Hk.out, hx]; rfl
    rw [hx] at H58
    clear hx
    have hb1 : n + 1 ≤ maxLen := by have := HP.out.len; unfold maxLen; omega
    have hb2 : (n + 1) * 40 ≤ 140737488355328 := by have := HP.out.len; omega
    go_wp2_with fail
    refine wp_region_held_drew (S := fun w' => w'.cell? ⟨gp, 0, none⟩ = some (.pointer (some ⟨r, 0, none⟩))) (by kernel_rfl) p1 (fun hHeld => ?_)
    refine wpAnyH_take (i := 0) (v := ?_) rfl (by kernel_rfl) (by kernel_rfl) (by kernel_rfl) (fun _ _ _ h => h) (Or.inl ⟨by rfl, ?_⟩) hHeld ?_
    rotate_left
    · intro w hSw; (try dsimp only at hSw); go_simp
      with_reducible rfl
    refine wpAnyH_take (i := 2) (v := ?_) rfl (by kernel_rfl) (by kernel_rfl) (by kernel_rfl) (fun _ _ _ h => h) (Or.inl ⟨by rfl, ?_⟩) hHeld ?_
    rotate_left
    · intro w hSw; (try dsimp only at hSw); go_simp
      with_reducible rfl
    refine wpAnyH_take (i := 3) (v := ?_) rfl (by kernel_rfl) (by kernel_rfl) (by kernel_rfl) (fun _ _ _ h => h) (Or.inl ⟨by rfl, ?_⟩) hHeld ?_
    rotate_left
    · intro w hSw; (try dsimp only at hSw); go_simp
      with_reducible rfl
    refine wpAnyH_take (i := 4) (v := ?_) rfl (by kernel_rfl) (by kernel_rfl) (by kernel_rfl) (fun _ _ _ h => h) (Or.inl ⟨by rfl, ?_⟩) hHeld ?_
    rotate_left
    · intro w hSw; (try dsimp only at hSw); go_simp
      with_reducible rfl
    refine wpAnyH_take (i := 5) (v := ?_) rfl (by kernel_rfl) (by kernel_rfl) (by kernel_rfl) (fun _ _ _ h => h) (Or.inl ⟨by rfl, ?_⟩) hHeld ?_
    rotate_left
    · intro w hSw; (try dsimp only at hSw); go_simp
      with_reducible rfl
    refine wpAnyH_take (i := 6) (v := ?_) rfl (by kernel_rfl) (by kernel_rfl) (by kernel_rfl) (fun _ _ _ h => h) (Or.inl ⟨by rfl, ?_⟩) hHeld ?_
    rotate_left
    · intro w hSw; (try dsimp only at hSw); go_simp
      with_reducible rfl
    refine wpAnyH_take (i := 7) (v := ?_) rfl (by kernel_rfl) (by kernel_rfl) (by kernel_rfl) (fun _ _ _ h => h) (Or.inl ⟨by rfl, ?_⟩) hHeld ?_
    rotate_left
    · intro w hSw; (try dsimp only at hSw); go_simp
      with_reducible rfl
    refine wpAnyH_ready (rs := [1, 8]) (by kernel_rfl) (by simp) ?_
    refine AllReadyH.cons rfl (fun K hK => ?_) (AllReadyH.cons rfl (fun K hK => ?_) AllReadyH.nil)
    · go_simp
      refine hK.out _ _ ?_ (fun hHeld => ?_)
      · first | exact p1 | exact q1 | exact r1 | exact r2 _ | exact r3 | exact r4 _
      refine wpAnyH_ready (rs := [8]) (by kernel_rfl) (by simp) ?_
      refine AllReadyH.cons rfl (fun K hK => ?_) AllReadyH.nil
      go_simp
      refine hK.out _ _ ?_ (fun hHeld => ?_)
      · first | exact p1 | exact q1 | exact r1 | exact r2 _ | exact r3 | exact r4 _
      refine wpAnyH_ready (rs := [9]) (by kernel_rfl) (by simp) ?_
      refine AllReadyH.cons rfl (fun K hK => ?_) AllReadyH.nil
      go_simp
      go_at_call 48
      refine H56.out.mono ?_
      rintro e w1 ⟨rfl, hb1'⟩
      have HB1 := Lib.hid hb1'
      have HP1 := Lib.hid (HD.out.below hb1')
      obtain ⟨y1, k1⟩ := cell_at HP1.out.x 1 (u := .slice A n c) rfl
      obtain ⟨q1, -⟩ := cell_at HP1.out.p 0 (u := .pointer (some ⟨r, 0, none⟩)) rfl
      clear hb1'
      dsimp only
      refine hK.out _ _ ?_ (fun hHeld => ?_)
      · first | exact p1 | exact q1 | exact r1 | exact r2 _ | exact r3 | exact r4 _
      refine wpAnyH_ready (rs := [10]) (by kernel_rfl) (by simp) ?_
      refine AllReadyH.cons rfl (fun K hK => ?_) AllReadyH.nil
      go_simp
      go_at_call 50
      refine (H58.out _ HB1.out).mono ?_
      rintro e w2 ⟨hv, hp2, hb2'⟩
      unfold TokIs at hv
      subst hv
      have HB2 := Lib.hid hb2'
      have HP2 := Lib.hid (HP1.out.call hb2' hp2)
      obtain ⟨z1, l1⟩ := cell_at HP2.out.x 1 (u := .slice A n c) rfl
      have z2 := HP2.out.cella
      obtain ⟨r1, -⟩ := cell_at HP2.out.p 0 (u := .pointer (some ⟨r, 0, none⟩)) rfl
      have r2 := HP2.out.cellp
      clear hp2 hb2'
      dsimp only
      refine hK.out _ _ ?_ (fun hHeld => ?_)
      · first | exact p1 | exact q1 | exact r1 | exact r2 _ | exact r3 | exact r4 _
      refine wpAnyH_take (i := 11) (v := ?_) rfl (by kernel_rfl) (by kernel_rfl) (by kernel_rfl) (fun _ _ _ h => h) (Or.inl ⟨by rfl, ?_⟩) hHeld ?_
      rotate_left
      · intro w hSw; (try dsimp only at hSw); go_simp
        with_reducible rfl
      refine wpAnyH_ready (rs := [12]) (by kernel_rfl) (by simp) ?_
      refine AllReadyH.cons rfl (fun K hK => ?_) AllReadyH.nil
      go_simp
      refine hK.out _ _ ?_ (fun hHeld => ?_)
      · first | exact p1 | exact q1 | exact r1 | exact r2 _ | exact r3 | exact r4 _
      refine wpAnyH_ready (rs := [13]) (by kernel_rfl) (by simp) ?_
      refine AllReadyH.cons rfl (fun K hK => ?_) AllReadyH.nil
      refine step_append_sl rfl _ _ 60 rfl rfl rfl so78 (HP2.out.own' _) (m := 1) (news := fieldCs (word, T')) rfl (Sl.new _ _ _) (one3 _) hb1 hb2 (HP2.out.le _) ?_
      intro A5 c5 w7 ho5 hg5
      have HO5 := Lib.hid ho5
      have HG5 := Lib.hid hg5
      obtain ⟨⟨x5, l5⟩, x6, l6⟩ := HP2.out.grown hg5
      obtain ⟨r3, r4⟩ := HP2.out.grownp hg5
      clear ho5 hg5
      refine hK.out _ _ ?_ (fun hHeld => ?_)
      · first | exact p1 | exact q1 | exact r1 | exact r2 _ | exact r3 | exact r4 _
      refine wpAnyH_take (i := 14) (v := ?_) rfl (by kernel_rfl) (by kernel_rfl) (by kernel_rfl) (fun _ _ _ h => h) (Or.inl ⟨by rfl, ?_⟩) hHeld ?_
      rotate_left
      · intro w hSw; (try dsimp only at hSw); go_simp
        with_reducible rfl
      refine wpAnyH_ready (rs := [15]) (by kernel_rfl) (by simp) ?_
      refine AllReadyH.cons rfl (fun K hK => ?_) AllReadyH.nil
      go_simp
      refine hK.out _ _ ?_ (fun hHeld => ?_)
      · first | exact p1 | exact q1 | exact r1 | exact r2 _ | exact r3 | exact r4 _
      refine wpAnyH_done (by kernel_rfl) ?_ _
      go_end0
      show IRes w r t gx gp gz tn fs (numF word ts) W _ _
      rw [Hx.out]
      exact ⟨rfl, _, _, _, HP2.out.step HO5.out HG5.out⟩
    · go_simp
      refine hK.out _ _ ?_ (fun hHeld => ?_)
      · first | exact p1 | exact q1 | exact r1 | exact r2 _ | exact r3 | exact r4 _
      refine wpAnyH_ready (rs := [1, 9]) (by kernel_rfl) (by simp) ?_
      refine AllReadyH.cons rfl (fun K hK => ?_) (AllReadyH.cons rfl (fun K hK => ?_) AllReadyH.nil)
      · go_simp
        refine hK.out _ _ ?_ (fun hHeld => ?_)
        · first | exact p1 | exact q1 | exact r1 | exact r2 _ | exact r3 | exact r4 _
        refine wpAnyH_ready (rs := [9]) (by kernel_rfl) (by simp) ?_
        refine AllReadyH.cons rfl (fun K hK => ?_) AllReadyH.nil
        go_simp
        go_at_call 48
        refine H56.out.mono ?_
        rintro e w1 ⟨rfl, hb1'⟩
        have HB1 := Lib.hid hb1'
        have HP1 := Lib.hid (HD.out.below hb1')
        obtain ⟨y1, k1⟩ := cell_at HP1.out.x 1 (u := .slice A n c) rfl
        obtain ⟨q1, -⟩ := cell_at HP1.out.p 0 (u := .pointer (some ⟨r, 0, none⟩)) rfl
        clear hb1'
        dsimp only
        refine hK.out _ _ ?_ (fun hHeld => ?_)
        · first | exact p1 | exact q1 | exact r1 | exact r2 _ | exact r3 | exact r4 _
        refine wpAnyH_ready (rs := [10]) (by kernel_rfl) (by simp) ?_
        refine AllReadyH.cons rfl (fun K hK => ?_) AllReadyH.nil
        go_simp
        go_at_call 50
        refine (H58.out _ HB1.out).mono ?_
        rintro e w2 ⟨hv, hp2, hb2'⟩
        unfold TokIs at hv
        subst hv
        have HB2 := Lib.hid hb2'
        have HP2 := Lib.hid (HP1.out.call hb2' hp2)
        obtain ⟨z1, l1⟩ := cell_at HP2.out.x 1 (u := .slice A n c) rfl
        have z2 := HP2.out.cella
        obtain ⟨r1, -⟩ := cell_at HP2.out.p 0 (u := .pointer (some ⟨r, 0, none⟩)) rfl
        have r2 := HP2.out.cellp
        clear hp2 hb2'
        dsimp only
        refine hK.out _ _ ?_ (fun hHeld => ?_)
        · first | exact p1 | exact q1 | exact r1 | exact r2 _ | exact r3 | exact r4 _
        refine wpAnyH_take (i := 11) (v := ?_) rfl (by kernel_rfl) (by kernel_rfl) (by kernel_rfl) (fun _ _ _ h => h) (Or.inl ⟨by rfl, ?_⟩) hHeld ?_
        rotate_left
        · intro w hSw; (try dsimp only at hSw); go_simp
          with_reducible rfl
        refine wpAnyH_ready (rs := [12]) (by kernel_rfl) (by simp) ?_
        refine AllReadyH.cons rfl (fun K hK => ?_) AllReadyH.nil
        go_simp
        refine hK.out _ _ ?_ (fun hHeld => ?_)
        · first | exact p1 | exact q1 | exact r1 | exact r2 _ | exact r3 | exact r4 _
        refine wpAnyH_ready (rs := [13]) (by kernel_rfl) (by simp) ?_
        refine AllReadyH.cons rfl (fun K hK => ?_) AllReadyH.nil
        refine step_append_sl rfl _ _ 60 rfl rfl rfl so78 (HP2.out.own' _) (m := 1) (news := fieldCs (word, T')) rfl (Sl.new _ _ _) (one3 _) hb1 hb2 (HP2.out.le _) ?_
        intro A5 c5 w7 ho5 hg5
        have HO5 := Lib.hid ho5
        have HG5 := Lib.hid hg5
        obtain ⟨⟨x5, l5⟩, x6, l6⟩ := HP2.out.grown hg5
        obtain ⟨r3, r4⟩ := HP2.out.grownp hg5
        clear ho5 hg5
        refine hK.out _ _ ?_ (fun hHeld => ?_)
        · first | exact p1 | exact q1 | exact r1 | exact r2 _ | exact r3 | exact r4 _
        refine wpAnyH_take (i := 14) (v := ?_) rfl (by kernel_rfl) (by kernel_rfl) (by kernel_rfl) (fun _ _ _ h => h) (Or.inl ⟨by rfl, ?_⟩) hHeld ?_
        rotate_left
        · intro w hSw; (try dsimp only at hSw); go_simp
          with_reducible rfl
        refine wpAnyH_ready (rs := [15]) (by kernel_rfl) (by simp) ?_
        refine AllReadyH.cons rfl (fun K hK => ?_) AllReadyH.nil
        go_simp
        refine hK.out _ _ ?_ (fun hHeld => ?_)
        · first | exact p1 | exact q1 | exact r1 | exact r2 _ | exact r3 | exact r4 _
        refine wpAnyH_done (by kernel_rfl) ?_ _
        go_end0
        show IRes w r t gx gp gz tn fs (numF word ts) W _ _
        rw [Hx.out]
        exact ⟨rfl, _, _, _, HP2.out.step HO5.out HG5.out⟩
      · go_simp
        go_at_call 48
        refine H56.out.mono ?_
        rintro e w1 ⟨rfl, hb1'⟩
        have HB1 := Lib.hid hb1'
        have HP1 := Lib.hid (HD.out.below hb1')
        obtain ⟨y1, k1⟩ := cell_at HP1.out.x 1 (u := .slice A n c) rfl
        obtain ⟨q1, -⟩ := cell_at HP1.out.p 0 (u := .pointer (some ⟨r, 0, none⟩)) rfl
        clear hb1'
        dsimp only
        refine hK.out _ _ ?_ (fun hHeld => ?_)
        · first | exact p1 | exact q1 | exact r1 | exact r2 _ | exact r3 | exact r4 _
        refine wpAnyH_ready (rs := [1, 10]) (by kernel_rfl) (by simp) ?_
        refine AllReadyH.cons rfl (fun K hK => ?_) (AllReadyH.cons rfl (fun K hK => ?_) AllReadyH.nil)
        · go_simp
          refine hK.out _ _ ?_ (fun hHeld => ?_)
          · first | exact p1 | exact q1 | exact r1 | exact r2 _ | exact r3 | exact r4 _
          refine wpAnyH_ready (rs := [10]) (by kernel_rfl) (by simp) ?_
          refine AllReadyH.cons rfl (fun K hK => ?_) AllReadyH.nil
          go_simp
          go_at_call 50
          refine (H58.out _ HB1.out).mono ?_
          rintro e w2 ⟨hv, hp2, hb2'⟩
          unfold TokIs at hv
          subst hv
          have HB2 := Lib.hid hb2'
          have HP2 := Lib.hid (HP1.out.call hb2' hp2)
          obtain ⟨z1, l1⟩ := cell_at HP2.out.x 1 (u := .slice A n c) rfl
          have z2 := HP2.out.cella
          obtain ⟨r1, -⟩ := cell_at HP2.out.p 0 (u := .pointer (some ⟨r, 0, none⟩)) rfl
          have r2 := HP2.out.cellp
          clear hp2 hb2'
          dsimp only
          refine hK.out _ _ ?_ (fun hHeld => ?_)
          · first | exact p1 | exact q1 | exact r1 | exact r2 _ | exact r3 | exact r4 _
          refine wpAnyH_take (i := 11) (v := ?_) rfl (by kernel_rfl) (by kernel_rfl) (by kernel_rfl) (fun _ _ _ h => h) (Or.inl ⟨by rfl, ?_⟩) hHeld ?_
          rotate_left
          · intro w hSw; (try dsimp only at hSw); go_simp
            with_reducible rfl
          refine wpAnyH_ready (rs := [12]) (by kernel_rfl) (by simp) ?_
          refine AllReadyH.cons rfl (fun K hK => ?_) AllReadyH.nil
          go_simp
          refine hK.out _ _ ?_ (fun hHeld => ?_)
          · first | exact p1 | exact q1 | exact r1 | exact r2 _ | exact r3 | exact r4 _
          refine wpAnyH_ready (rs := [13]) (by kernel_rfl) (by simp) ?_
          refine AllReadyH.cons rfl (fun K hK => ?_) AllReadyH.nil
          refine step_append_sl rfl _ _ 60 rfl rfl rfl so78 (HP2.out.own' _) (m := 1) (news := fieldCs (word, T')) rfl (Sl.new _ _ _) (one3 _) hb1 hb2 (HP2.out.le _) ?_
          intro A5 c5 w7 ho5 hg5
          have HO5 := Lib.hid ho5
          have HG5 := Lib.hid hg5
          obtain ⟨⟨x5, l5⟩, x6, l6⟩ := HP2.out.grown hg5
          obtain ⟨r3, r4⟩ := HP2.out.grownp hg5
          clear ho5 hg5
          refine hK.out _ _ ?_ (fun hHeld => ?_)
          · first | exact p1 | exact q1 | exact r1 | exact r2 _ | exact r3 | exact r4 _
          refine wpAnyH_take (i := 14) (v := ?_) rfl (by kernel_rfl) (by kernel_rfl) (by kernel_rfl) (fun _ _ _ h => h) (Or.inl ⟨by rfl, ?_⟩) hHeld ?_
          rotate_left
          · intro w hSw; (try dsimp only at hSw); go_simp
            with_reducible rfl
          refine wpAnyH_ready (rs := [15]) (by kernel_rfl) (by simp) ?_
          refine AllReadyH.cons rfl (fun K hK => ?_) AllReadyH.nil
          go_simp
          refine hK.out _ _ ?_ (fun hHeld => ?_)
          · first | exact p1 | exact q1 | exact r1 | exact r2 _ | exact r3 | exact r4 _
          refine wpAnyH_done (by kernel_rfl) ?_ _
          go_end0
          show IRes w r t gx gp gz tn fs (numF word ts) W _ _
          rw [Hx.out]
          exact ⟨rfl, _, _, _, HP2.out.step HO5.out HG5.out⟩
        · go_simp
          go_at_call 50
          refine (H58.out _ HB1.out).mono ?_
          rintro e w2 ⟨hv, hp2, hb2'⟩
          unfold TokIs at hv
          subst hv
          have HB2 := Lib.hid hb2'
          have HP2 := Lib.hid (HP1.out.call hb2' hp2)
          obtain ⟨z1, l1⟩ := cell_at HP2.out.x 1 (u := .slice A n c) rfl
          have z2 := HP2.out.cella
          obtain ⟨r1, -⟩ := cell_at HP2.out.p 0 (u := .pointer (some ⟨r, 0, none⟩)) rfl
          have r2 := HP2.out.cellp
          clear hp2 hb2'
          dsimp only
          refine hK.out _ _ ?_ (fun hHeld => ?_)
          · first | exact p1 | exact q1 | exact r1 | exact r2 _ | exact r3 | exact r4 _
          refine wpAnyH_take (i := 11) (v := ?_) rfl (by kernel_rfl) (by kernel_rfl) (by kernel_rfl) (fun _ _ _ h => h) (Or.inl ⟨by rfl, ?_⟩) hHeld ?_
          rotate_left
          · intro w hSw; (try dsimp only at hSw); go_simp
            with_reducible rfl
          refine wpAnyH_ready (rs := [1, 12]) (by kernel_rfl) (by simp) ?_
          refine AllReadyH.cons rfl (fun K hK => ?_) (AllReadyH.cons rfl (fun K hK => ?_) AllReadyH.nil)
          · go_simp
            refine hK.out _ _ ?_ (fun hHeld => ?_)
            · first | exact p1 | exact q1 | exact r1 | exact r2 _ | exact r3 | exact r4 _
            refine wpAnyH_ready (rs := [12]) (by kernel_rfl) (by simp) ?_
            refine AllReadyH.cons rfl (fun K hK => ?_) AllReadyH.nil
            go_simp
            refine hK.out _ _ ?_ (fun hHeld => ?_)
            · first | exact p1 | exact q1 | exact r1 | exact r2 _ | exact r3 | exact r4 _
            refine wpAnyH_ready (rs := [13]) (by kernel_rfl) (by simp) ?_
            refine AllReadyH.cons rfl (fun K hK => ?_) AllReadyH.nil
            refine step_append_sl rfl _ _ 60 rfl rfl rfl so78 (HP2.out.own' _) (m := 1) (news := fieldCs (word, T')) rfl (Sl.new _ _ _) (one3 _) hb1 hb2 (HP2.out.le _) ?_
            intro A5 c5 w7 ho5 hg5
            have HO5 := Lib.hid ho5
            have HG5 := Lib.hid hg5
            obtain ⟨⟨x5, l5⟩, x6, l6⟩ := HP2.out.grown hg5
            obtain ⟨r3, r4⟩ := HP2.out.grownp hg5
            clear ho5 hg5
            refine hK.out _ _ ?_ (fun hHeld => ?_)
            · first | exact p1 | exact q1 | exact r1 | exact r2 _ | exact r3 | exact r4 _
            refine wpAnyH_take (i := 14) (v := ?_) rfl (by kernel_rfl) (by kernel_rfl) (by kernel_rfl) (fun _ _ _ h => h) (Or.inl ⟨by rfl, ?_⟩) hHeld ?_
            rotate_left
            · intro w hSw; (try dsimp only at hSw); go_simp
              with_reducible rfl
            refine wpAnyH_ready (rs := [15]) (by kernel_rfl) (by simp) ?_
            refine AllReadyH.cons rfl (fun K hK => ?_) AllReadyH.nil
            go_simp
            refine hK.out _ _ ?_ (fun hHeld => ?_)
            · first | exact p1 | exact q1 | exact r1 | exact r2 _ | exact r3 | exact r4 _
            refine wpAnyH_done (by kernel_rfl) ?_ _
            go_end0
            show IRes w r t gx gp gz tn fs (numF word ts) W _ _
            rw [Hx.out]
            exact ⟨rfl, _, _, _, HP2.out.step HO5.out HG5.out⟩
          · go_simp
            refine hK.out _ _ ?_ (fun hHeld => ?_)
            · first | exact p1 | exact q1 | exact r1 | exact r2 _ | exact r3 | exact r4 _
            refine wpAnyH_ready (rs := [1]) (by kernel_rfl) (by simp) ?_
            refine AllReadyH.cons rfl (fun K hK => ?_) AllReadyH.nil
            go_simp
            refine hK.out _ _ ?_ (fun hHeld => ?_)
            · first | exact p1 | exact q1 | exact r1 | exact r2 _ | exact r3 | exact r4 _
            refine wpAnyH_ready (rs := [13]) (by kernel_rfl) (by simp) ?_
            refine AllReadyH.cons rfl (fun K hK => ?_) AllReadyH.nil
            refine step_append_sl rfl _ _ 60 rfl rfl rfl so78 (HP2.out.own' _) (m := 1) (news := fieldCs (word, T')) rfl (Sl.new _ _ _) (one3 _) hb1 hb2 (HP2.out.le _) ?_
            intro A5 c5 w7 ho5 hg5
            have HO5 := Lib.hid ho5
            have HG5 := Lib.hid hg5
            obtain ⟨⟨x5, l5⟩, x6, l6⟩ := HP2.out.grown hg5
            obtain ⟨r3, r4⟩ := HP2.out.grownp hg5
            clear ho5 hg5
            refine hK.out _ _ ?_ (fun hHeld => ?_)
            · first | exact p1 | exact q1 | exact r1 | exact r2 _ | exact r3 | exact r4 _
            refine wpAnyH_take (i := 14) (v := ?_) rfl (by kernel_rfl) (by kernel_rfl) (by kernel_rfl) (fun _ _ _ h => h) (Or.inl ⟨by rfl, ?_⟩) hHeld ?_
            rotate_left
            · intro w hSw; (try dsimp only at hSw); go_simp
              with_reducible rfl
            refine wpAnyH_ready (rs := [15]) (by kernel_rfl) (by simp) ?_
            refine AllReadyH.cons rfl (fun K hK => ?_) AllReadyH.nil
            go_simp
            refine hK.out _ _ ?_ (fun hHeld => ?_)
            · first | exact p1 | exact q1 | exact r1 | exact r2 _ | exact r3 | exact r4 _
            refine wpAnyH_done (by kernel_rfl) ?_ _
            go_end0
            show IRes w r t gx gp gz tn fs (numF word ts) W _ _
            rw [Hx.out]
            exact ⟨rfl, _, _, _, HP2.out.step HO5.out HG5.out⟩
end Go.Proofs.YtimmffncfkcpfaaGreatDoor
