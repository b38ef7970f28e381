/-
  The walk of the reader's row, by tokens.
-/
import Derived.Test.YtafgmbchdcfkcaaDoorKp
namespace Go.Proofs.YtafgmbchdcfkcaaDoor
open Go Go.RowKit Go.Walks

theorem info117 : (Tryd.prog.info? 117).map (·.size) = some 4 := by kernel_rfl
theorem res78 (tmps : Array Value) (w : World) (g : Nat) (a b c d : Value) (hp : tmps.getD 2 undef = .pointer (some ⟨g, 0, none⟩)) (hg : w.heap[g]? = some (.cells #[a, b, c, d] 117)) :
    (results Tryd.f78 tmps).run Tryd.prog w = .ok (.agg #[a, b, c, d]) w :=
  results_cell_row (p := 2) (ty := 117) rfl tmps w g 117 #[a, b, c, d] (0, 0) _ hp hg Tryd.underlying117 rfl info117

/-- The cells of a row. -/
def RowCs (w : World) (R : Row) (cs : List Value) : Prop :=
  ∃ A1 c1 A2 c2, cs = [.int .i64 (R.at_ : Int), .bool R.loc, .slice A1 R.idx.length c1, .slice A2 R.coefs.length c2] ∧ SlT w w.heap.size 92 A1 (markCells R.idx) ∧ SlT w w.heap.size 92 A2 (markCells R.coefs)
theorem RowCs.keep {w w' : World} {R : Row} {cs : List Value} (h : RowCs w R cs) (k : KeepT 92 w w') : RowCs w' R cs := by
  obtain ⟨A1, c1, A2, c2, e, h1, h2⟩ := h
  exact ⟨A1, c1, A2, c2, e, h1.keepT k k.size, h2.keepT k k.size⟩
def RowIs (R : Row) (_ : World) (e : Ending) (w' : World) : Prop := ∃ cs : List Value, e = .returned (.agg cs.toArray) ∧ RowCs w' R cs

theorem kindT_len {k : Nat} {ts a : List Tok} {T : Tok} (h : kindT k ts = .ok T a) : a.length + 1 = ts.length := by
  cases ts with
  | nil => cases h
  | cons T' ts' =>
    simp only [kindT] at h
    split at h
    · injection h with _ h2; subst h2; simp
    · cases h
theorem mustT_len {s : Bytes} {ts a : List Tok} {p : Nat} (h : mustT s ts = .ok p a) : a.length + 1 = ts.length := by
  cases ts with
  | nil => cases h
  | cons T' ts' =>
    simp only [mustT] at h
    split at h
    · injection h with _ h2; subst h2; simp
    · cases h
theorem numsT_len {ts a : List Tok} {ns : List Tok} (h : numsT ts = .ok ns a) : a.length + ns.length = ts.length := by
  unfold numsT at h
  cases hk : kindT 2 ts with
  | bad p => rw [hk] at h; cases h
  | ok T b =>
    rw [hk, PR.next_ok] at h
    injection h with h1 h2
    subst h1; subst h2
    have := kindT_len hk
    have hl := congrArg List.length (List.takeWhile_append_dropWhile (p := isN) (l := b))
    rw [List.length_append] at hl
    simp only [List.length_cons]
    omega

set_option maxRecDepth 100000 in
set_option maxHeartbeats 4000000 in
theorem row_T (t : ByteArray) (r : Nat) (w : World) (ts : List Tok) (ht : t.size ≤ 2000) (hl : ts.length ≤ 2001) (hr7 : 7 ≤ r) (Hg : Hid (Gl w)) (Hp : Hid (PAt w r t ts)) :
    Calls Tryd.prog 78 #[.pointer (some ⟨r, 0, none⟩)] w (PRes t r (rowT ts) RowIs w) := by
  have hrw := Hp.out.lt
  have S0 := Lib.hid (St2.start (ty := 117) (z := #[.int .i64 0, .bool false, .slice none 0 0, .slice none 0 0]) (cs := #[.int .i64 0, .bool false, .slice none 0 0, .slice none 0 0]) Hp.out)
  obtain ⟨T, rest, hts, -⟩ := Hp.out.num
  subst hts
  go_enter Tryd.func78, Tryd.ntmps78
  go_wp2_with fail
  refine (skip_T ht S0.out.at_).mono ?_
  rintro e w1 ⟨rfl, hp1, hb1⟩
  have S1 := Lib.hid (S0.out.call hb1 hp1.at)
  obtain ⟨c0, c1, f0, f1⟩ := two_cells hp1.2.1
  obtain ⟨x0, x1, x2, x3, y0, y1, y2, y3⟩ := four_cells S1.out.g1
  clear hb1 hp1
  go_wp2_with fail
  have S1' := Lib.hid (S1.out.set 0 (.int .i64 (headAt (T :: rest) : Nat)) rfl)
  cases hloc : (T.text == kLocal) with
  | true =>
    refine (may_yes kLocal ht (by decide) (by decide) T S1'.out.at_ hloc).mono ?_
    rintro e w2 ⟨rfl, hp2, hb2⟩
    have S2 := Lib.hid (S1'.out.call hb2 hp2)
    clear hp2 hb2 c0 c1 f0 f1 x0 x1 x2 x3 y0 y1 y2 y3
    obtain ⟨x0, x1, x2, x3, y0, y1, y2, y3⟩ := four_cells S2.out.g1
    go_wp2_with fail
    have S2' := Lib.hid (S2.out.set 1 (.bool true) rfl)
    have Hn0 : Hid (rowT (T :: rest) = (numsT rest).next fun is b => (mustT kColon b).next fun _ c => rowEnd T.at_ true is c) := by
      show _ = _
      simp only [rowT, headIs, hloc, if_true, mustT, PR.next_ok, headAt]
    clear hloc
    simp only [List.length_cons] at hl
    refine PRes.step (nums_T t r _ rest ht (by omega) hr7 (S2'.out.gl Hg.out hr7) S2'.out.at_) ?_ ?_
    · intro is a1 hx e w3 hv hp3 hb3
      have hl3 := numsT_len hx
      have Hn1 : Hid (rowT (T :: rest) = (mustT kColon a1).next fun _ c => rowEnd T.at_ true is c) := by show _ = _; rw [Hn0.out, hx]; rfl
      obtain ⟨v1, rfl, ho⟩ := hv
      obtain ⟨A1, q1, rfl, hs1, -, -⟩ := SlT.of_own ho
      have HS1 := Lib.hid hs1
      have S3 := Lib.hid (S2'.out.call hb3 hp3)
      clear hx ho hs1 hb3 hp3 Hn0 x0 x1 x2 x3 y0 y1 y2 y3
      obtain ⟨x0, x1, x2, x3, y0, y1, y2, y3⟩ := four_cells S3.out.g1
      go_wp2_with fail
      have S3' := Lib.hid (S3.out.set 2 (.slice A1 is.length q1) rfl)
      have HS1' := Lib.hid (HS1.out.setCell (p := ⟨w.heap.size + 1, 2, none⟩) S3.out.g1 (by decide) (.slice A1 is.length q1))
      refine PRes.step (must_T kColon ht (by decide) (by decide) S3'.out.at_) ?_ ?_
      · intro p4 a2 hx e w4 hv hp4 hb4
        subst hv
        have hl4 := mustT_len hx
        have Hn2 : Hid (rowT (T :: rest) = rowEnd T.at_ true is a2) := by show _ = _; rw [Hn1.out, hx]; rfl
        have S4 := Lib.hid (S3'.out.call hb4 hp4)
        obtain ⟨cr, hcr⟩ := S3'.out.at_.cells
        have HS4 := Lib.hid (HS1'.out.keepT (KeepT.rb hb4 hcr (by decide)) (B' := w4.heap.size) (by have := hb4.size; rw [World.size_setCell] at this; exact this))
        clear hx hb4 hp4 hcr Hn1 x0 x1 x2 x3 y0 y1 y2 y3
        go_wp2_with fail
        refine PRes.step (nums_T t r _ a2 ht (by omega) hr7 (S4.out.gl Hg.out hr7) S4.out.at_) ?_ ?_
        · intro cs a3 hx e w5 hv hp5 hb5
          have Hn3 : Hid (rowT (T :: rest) = (mustT kSemi a3).next fun _ e => .ok ⟨T.at_, true, is, cs⟩ e) := by show _ = _; rw [Hn2.out, rowEnd, hx]; rfl
          obtain ⟨v2, rfl, ho⟩ := hv
          obtain ⟨A2, q2, rfl, hs2, -, -⟩ := SlT.of_own ho
          have HT2 := Lib.hid hs2
          have S5 := Lib.hid (S4.out.call hb5 hp5)
          obtain ⟨cr, hcr⟩ := S4.out.at_.cells
          have HS5 := Lib.hid (HS4.out.keepT (KeepT.rb hb5 hcr (by decide)) (B' := w5.heap.size) hb5.size)
          clear hx ho hs2 hb5 hp5 hcr Hn2
          obtain ⟨x0, x1, x2, x3, y0, y1, y2, y3⟩ := four_cells S5.out.g1
          go_wp2_with fail
          have S5' := Lib.hid (S5.out.set 3 (.slice A2 cs.length q2) rfl)
          have HT5 := Lib.hid (HT2.out.setCell (p := ⟨w.heap.size + 1, 3, none⟩) S5.out.g1 (by decide) (.slice A2 cs.length q2))
          have HS5' := Lib.hid (HS5.out.setCell (p := ⟨w.heap.size + 1, 3, none⟩) S5.out.g1 (by decide) (.slice A2 cs.length q2))
          refine PRes.step (must_T kSemi ht (by decide) (by decide) S5'.out.at_) ?_ ?_
          · intro p6 a4 hx e w6 hv hp6 hb6
            subst hv
            have Hn4 : Hid (rowT (T :: rest) = .ok ⟨T.at_, true, is, cs⟩ a4) := by show _ = _; rw [Hn3.out, hx]; rfl
            have S6 := Lib.hid (S5'.out.call hb6 hp6)
            obtain ⟨cr, hcr⟩ := S5'.out.at_.cells
            have hk := KeepT.rb (ty := 92) hb6 hcr (by decide)
            have hsz : w5.heap.size ≤ w6.heap.size := by have := hb6.size; rw [World.size_setCell] at this; exact this
            have HS6 := Lib.hid (HS5'.out.keepT hk (B' := w6.heap.size) hsz)
            have HT6 := Lib.hid (HT5.out.keepT hk (B' := w6.heap.size) hsz)
            clear hx hb6 hp6 hcr hk hsz Hn3 x0 x1 x2 x3 y0 y1 y2 y3
            obtain ⟨x0, x1, x2, x3, -, -, -, -⟩ := four_cells S6.out.g1
            obtain ⟨z0, z1, z2, z3, y0, y1, y2, y3⟩ := four_cells S6.out.g0
            have hne := S6.out.ne
            go_wp2_with fail
            refine bodyPost_ret (res78 _ _ w.heap.size _ _ _ _ rfl (set_four S6.out.g0 _ _ _ _)) rfl ?_
            show PRes t r (rowT (T :: rest)) RowIs w _ _
            rw [Hn4.out]
            refine ⟨⟨[_, _, _, _], rfl, ?_⟩, (((S6.out.at_.setNew hne.1).setNew hne.1).setNew hne.1).setNew hne.1, (((S6.out.rb.setNew (Nat.le_refl _) _ _).setNew (Nat.le_refl _) _ _).setNew (Nat.le_refl _) _ _).setNew (Nat.le_refl _) _ _⟩
            have k0 := KeepT.setCell (ty := 92) S6.out.g0 (by decide) 0 (.int .i64 (headAt (T :: rest) : Nat))
            have k1 := KeepT.setCell (ty := 92) (set_at S6.out.g0 0 (.int .i64 (headAt (T :: rest) : Nat))) (by decide) 1 (.bool true)
            have k2 := KeepT.setCell (ty := 92) (set_at (set_at S6.out.g0 0 (.int .i64 (headAt (T :: rest) : Nat))) 1 (.bool true)) (by decide) 2 (.slice A1 is.length q1)
            have k3 := KeepT.setCell (ty := 92) (set_at (set_at (set_at S6.out.g0 0 (.int .i64 (headAt (T :: rest) : Nat))) 1 (.bool true)) 2 (.slice A1 is.length q1)) (by decide) 3 (.slice A2 cs.length q2)
            have kk := ((k0.trans k1).trans k2).trans k3
            exact ⟨A1, q1, A2, q2, rfl, HS6.out.keepT kk kk.size, HT6.out.keepT kk kk.size⟩
          · intro p hx w6 hb
            have Hnt : Hid (rowT (T :: rest) = .bad p) := by show _ = _; rw [Hn3.out, hx]; rfl
            have HB := Lib.hid (S5'.out.rb.trans hb)
            clear hx hb
            unfold wrongE
            go_wp2_with fail
            exact ⟨rfl, by show PRes t r (rowT (T :: rest)) RowIs w _ _; rw [Hnt.out]; exact ⟨rfl, HB.out⟩⟩
        · intro p hx w5 hb
          have Hnt : Hid (rowT (T :: rest) = .bad p) := by show _ = _; rw [Hn2.out, rowEnd, hx]; rfl
          have HB := Lib.hid (S4.out.rb.trans hb)
          clear hx hb
          unfold wrongE
          go_wp2_with fail
          exact ⟨rfl, by show PRes t r (rowT (T :: rest)) RowIs w _ _; rw [Hnt.out]; exact ⟨rfl, HB.out⟩⟩
      · intro p hx w4 hb
        have Hnt : Hid (rowT (T :: rest) = .bad p) := by show _ = _; rw [Hn1.out, hx]; rfl
        have HB := Lib.hid (S3'.out.rb.trans hb)
        clear hx hb
        unfold wrongE
        go_wp2_with fail
        exact ⟨rfl, by show PRes t r (rowT (T :: rest)) RowIs w _ _; rw [Hnt.out]; exact ⟨rfl, HB.out⟩⟩
    · intro p hx w3 hb
      have Hnt : Hid (rowT (T :: rest) = .bad p) := by show _ = _; rw [Hn0.out, hx]; rfl
      have HB := Lib.hid (S2'.out.rb.trans hb)
      clear hx hb
      unfold wrongE
      go_wp2_with fail
      exact ⟨rfl, by show PRes t r (rowT (T :: rest)) RowIs w _ _; rw [Hnt.out]; exact ⟨rfl, HB.out⟩⟩
  | false =>
    refine (may_no kLocal ht (by decide) T S1'.out.at_ hloc).mono ?_
    rintro e w2 ⟨rfl, hp2, hb2⟩
    have S2 := Lib.hid (S1'.out.call hb2 hp2)
    clear hp2 hb2 c0 c1 f0 f1 x0 x1 x2 x3 y0 y1 y2 y3
    obtain ⟨x0, x1, x2, x3, y0, y1, y2, y3⟩ := four_cells S2.out.g1
    go_wp2_with fail
    have S2' := Lib.hid (S2.out.set 1 (.bool false) rfl)
    have Hn0 : Hid (rowT (T :: rest) = (mustT kParity (T :: rest)).next fun _ a => rowEnd T.at_ false [] a) := by
      show _ = _
      simp only [rowT, headIs, hloc, Bool.false_eq_true, if_false, headAt]
    clear hloc
    refine PRes.step (must_T kParity ht (by decide) (by decide) S2'.out.at_) ?_ ?_
    · intro p4 a2 hx e w4 hv hp4 hb4
      subst hv
      have hl4 := mustT_len hx
      have Hn2 : Hid (rowT (T :: rest) = rowEnd T.at_ false [] a2) := by show _ = _; rw [Hn0.out, hx]; rfl
      have S4 := Lib.hid (S2'.out.call hb4 hp4)
      clear hx hb4 hp4 Hn0 x0 x1 x2 x3 y0 y1 y2 y3
      go_wp2_with fail
      refine PRes.step (nums_T t r _ a2 ht (by omega) hr7 (S4.out.gl Hg.out hr7) S4.out.at_) ?_ ?_
      · intro cs a3 hx e w5 hv hp5 hb5
        have Hn3 : Hid (rowT (T :: rest) = (mustT kSemi a3).next fun _ e => .ok ⟨T.at_, false, [], cs⟩ e) := by show _ = _; rw [Hn2.out, rowEnd, hx]; rfl
        obtain ⟨v2, rfl, ho⟩ := hv
        obtain ⟨A2, q2, rfl, hs2, -, -⟩ := SlT.of_own ho
        have HT2 := Lib.hid hs2
        have S5 := Lib.hid (S4.out.call hb5 hp5)
        clear hx ho hs2 hb5 hp5 Hn2
        obtain ⟨x0, x1, x2, x3, y0, y1, y2, y3⟩ := four_cells S5.out.g1
        go_wp2_with fail
        have S5' := Lib.hid (S5.out.set 3 (.slice A2 cs.length q2) rfl)
        have HT5 := Lib.hid (HT2.out.setCell (p := ⟨w.heap.size + 1, 3, none⟩) S5.out.g1 (by decide) (.slice A2 cs.length q2))
        refine PRes.step (must_T kSemi ht (by decide) (by decide) S5'.out.at_) ?_ ?_
        · intro p6 a4 hx e w6 hv hp6 hb6
          subst hv
          have Hn4 : Hid (rowT (T :: rest) = .ok ⟨T.at_, false, [], cs⟩ a4) := by show _ = _; rw [Hn3.out, hx]; rfl
          have S6 := Lib.hid (S5'.out.call hb6 hp6)
          obtain ⟨cr, hcr⟩ := S5'.out.at_.cells
          have hk := KeepT.rb (ty := 92) hb6 hcr (by decide)
          have hsz : w5.heap.size ≤ w6.heap.size := by have := hb6.size; rw [World.size_setCell] at this; exact this
          have HT6 := Lib.hid (HT5.out.keepT hk (B' := w6.heap.size) hsz)
          clear hx hb6 hp6 hcr hk hsz Hn3 x0 x1 x2 x3 y0 y1 y2 y3
          obtain ⟨x0, x1, x2, x3, -, -, -, -⟩ := four_cells S6.out.g1
          obtain ⟨z0, z1, z2, z3, y0, y1, y2, y3⟩ := four_cells S6.out.g0
          have hne := S6.out.ne
          go_wp2_with fail
          refine bodyPost_ret (res78 _ _ w.heap.size _ _ _ _ rfl (set_four S6.out.g0 _ _ _ _)) rfl ?_
          show PRes t r (rowT (T :: rest)) RowIs w _ _
          rw [Hn4.out]
          refine ⟨⟨[_, _, _, _], rfl, ?_⟩, (((S6.out.at_.setNew hne.1).setNew hne.1).setNew hne.1).setNew hne.1, (((S6.out.rb.setNew (Nat.le_refl _) _ _).setNew (Nat.le_refl _) _ _).setNew (Nat.le_refl _) _ _).setNew (Nat.le_refl _) _ _⟩
          have k0 := KeepT.setCell (ty := 92) S6.out.g0 (by decide) 0 (.int .i64 (headAt (T :: rest) : Nat))
          have k1 := KeepT.setCell (ty := 92) (set_at S6.out.g0 0 (.int .i64 (headAt (T :: rest) : Nat))) (by decide) 1 (.bool false)
          have k2 := KeepT.setCell (ty := 92) (set_at (set_at S6.out.g0 0 (.int .i64 (headAt (T :: rest) : Nat))) 1 (.bool false)) (by decide) 2 (.slice none 0 0)
          have k3 := KeepT.setCell (ty := 92) (set_at (set_at (set_at S6.out.g0 0 (.int .i64 (headAt (T :: rest) : Nat))) 1 (.bool false)) 2 (.slice none 0 0)) (by decide) 3 (.slice A2 cs.length q2)
          have kk := ((k0.trans k1).trans k2).trans k3
          exact ⟨none, 0, A2, q2, rfl, .inl rfl, HT6.out.keepT kk kk.size⟩
        · intro p hx w6 hb
          have Hnt : Hid (rowT (T :: rest) = .bad p) := by show _ = _; rw [Hn3.out, hx]; rfl
          have HB := Lib.hid (S5'.out.rb.trans hb)
          clear hx hb
          unfold wrongE
          go_wp2_with fail
          exact ⟨rfl, by show PRes t r (rowT (T :: rest)) RowIs w _ _; rw [Hnt.out]; exact ⟨rfl, HB.out⟩⟩
      · intro p hx w5 hb
        have Hnt : Hid (rowT (T :: rest) = .bad p) := by show _ = _; rw [Hn2.out, rowEnd, hx]; rfl
        have HB := Lib.hid (S4.out.rb.trans hb)
        clear hx hb
        unfold wrongE
        go_wp2_with fail
        exact ⟨rfl, by show PRes t r (rowT (T :: rest)) RowIs w _ _; rw [Hnt.out]; exact ⟨rfl, HB.out⟩⟩
    · intro p hx w4 hb
      have Hnt : Hid (rowT (T :: rest) = .bad p) := by show _ = _; rw [Hn0.out, hx]; rfl
      have HB := Lib.hid (S2'.out.rb.trans hb)
      clear hx hb
      unfold wrongE
      go_wp2_with fail
      exact ⟨rfl, by show PRes t r (rowT (T :: rest)) RowIs w _ _; rw [Hnt.out]; exact ⟨rfl, HB.out⟩⟩
end Go.Proofs.YtafgmbchdcfkcaaDoor
