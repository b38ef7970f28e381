/-
  The walk of the reference's build.
-/
import Derived.Test.YtafgmbchdcfkcaaDoorR16
import Derived.Deep.RegionHeld3
import Derived.Deep.DeepCutAuto
import Derived.RegionTactic
import Derived.Deep.MidRow
namespace Go.Proofs.YtafgmbchdcfkcaaDoor
open Go Go.RowKit Go.Walks

/-- What a line that was read is. -/
structure GoodP (P : PL) : Prop where
  a : ∃ N r, P.a = N :: r
  la : P.a.length ≤ 2010
  lb : P.b.length ≤ 2010
  key : (P.key = kField ∨ P.key = kData ∨ P.key = kDomain) ∨ ((P.key = kLocal ∨ P.key = kParity) ∧ ∃ p, P.at_ = some p)

theorem LMs.at_ : ∀ {Ls : List LV} {Ps : List PL} {k : Nat} {L : LV}, LMs Ls Ps → Ls[k]? = some L → ∃ P, Ps[k]? = some P ∧ LM L P
  | _, _, k, L, .nil, hk => by simp at hk
  | _, _, 0, L, .cons h _, hk => by
    simp at hk
    subst hk
    exact ⟨_, rfl, h⟩
  | _, _, k + 1, L, .cons _ t, hk => by
    obtain ⟨P, h1, h2⟩ := t.at_ (k := k) (by simpa using hk)
    exact ⟨P, by simpa using h1, h2⟩
theorem LMs.len : ∀ {Ls : List LV} {Ps : List PL}, LMs Ls Ps → Ls.length = Ps.length
  | _, _, .nil => rfl
  | _, _, .cons _ t => by simp [t.len]
theorem buildL_step {s : BSt} {Ps : List PL} {k : Nat} {P : PL} (h : Ps[k]? = some P) : buildL s (Ps.drop k) = (stepL s P).next fun s' => buildL s' (Ps.drop (k + 1)) := by
  have hl := List.getElem?_eq_some_iff.1 h
  rw [List.drop_eq_getElem_cons hl.1, hl.2, buildL]

/-- What a row's check hands back. -/
def lineP67 (_ : World) (x : BR (List Int)) (v1 v2 v3 : Value) (w' : World) : Prop := match x with
  | .ok row => ∃ A c, v1 = .slice A row.length c ∧ v2 = .int .i64 0 ∧ v3 = .int .i64 0 ∧ SlT w' w'.heap.size 3 A (row.map intC)
  | .bad p en => v1 = .slice none 0 0 ∧ v2 = .int .i64 (p : Int) ∧ v3 = .int .i64 (en : Int)
def LineT (x : BR (List Int)) (w : World) (e : Ending) (w' : World) : Prop := ∃ v1 v2 v3, e = .returned (.tuple #[v1, v2, v3]) ∧ Below w.heap.size w w' ∧ lineP67 w x v1 v2 v3 w'
theorem lineT_of {x : BR (List Int)} {w w' : World} {e : Ending} (h : RowR x w e w') : LineT x w e w' := by
  obtain ⟨hb, h⟩ := h
  cases x with
  | ok row =>
    obtain ⟨A, c, rfl, hs⟩ := h
    exact ⟨_, _, _, rfl, hb, A, c, rfl, rfl, rfl, hs⟩
  | bad p en =>
    subst h
    exact ⟨_, _, _, rfl, hb, rfl, rfl, rfl⟩
theorem parityB_bad {at_ : Nat} {a : List Tok} {d t q en : Nat} (h : parityB at_ a d t = .bad q en) : en = 1 := by
  unfold parityB at h
  split at h
  · injection h with _ h; exact h.symm
  · split at h
    · injection h with _ h; exact h.symm
    · split at h
      · injection h with _ h; exact h.symm
      · cases h
theorem localB_bad {at_ : Nat} {a b : List Tok} {d t q en : Nat} (h : localB at_ a b d t = .bad q en) : en = 1 := by
  unfold localB at h
  split at h
  · injection h with _ h; exact h.symm
  · split at h
    · injection h with _ h; exact h.symm
    · split at h
      · injection h with _ h; exact h.symm
      · cases h
theorem lineB_bad {s : BSt} {P : PL} {q en : Nat} (h : lineB s P = .bad q en) : en = 1 := by
  unfold lineB at h
  split at h
  · exact localB_bad h
  · exact parityB_bad h
theorem topN_le (f : Nat) : topN f ≤ 65535 := by unfold topN; split <;> omega
theorem parity_T {K : Tok} {a : List Tok} {A B : Option Addr} {c m d data top : Nat} {w : World} (hd : data ≤ 31) (htop : top ≤ 65535) (Hs : SlT w w.heap.size 46 A (tokRs a)) :
    Calls Tryd.prog 67 #[.agg #[strV K.text, .int .i64 (K.at_ : Int), .int .i64 (K.kind : Int), .int .i64 (K.n : Int), .slice A a.length c, .slice B m d], .int .i64 (data : Int), .int .i64 (top : Int)] w (LineT (parityB K.at_ a data top) w) :=
  (parity_R K a A B c m d data top w hd htop Hs).mono fun _ _ h => lineT_of h
theorem local_T {K : Tok} {a bb : List Tok} {A B : Option Addr} {c d data top : Nat} {w : World} (hd : data ≤ 31) (ha : a.length ≤ 2010) (hbl : bb.length ≤ 2010) (Hs : SlT w w.heap.size 46 A (tokRs a)) (Hs2 : SlT w w.heap.size 46 B (tokRs bb)) :
    Calls Tryd.prog 68 #[.agg #[strV K.text, .int .i64 (K.at_ : Int), .int .i64 (K.kind : Int), .int .i64 (K.n : Int), .slice A a.length c, .slice B bb.length d], .int .i64 (data : Int), .int .i64 (top : Int)] w (LineT (localB K.at_ a bb data top) w) :=
  (local_R K a bb A B c d data top w hd ha hbl Hs Hs2).mono fun _ _ h => lineT_of h

set_option maxRecDepth 100000 in
set_option maxHeartbeats 16000000 in
theorem build_R (N : Tok) (Ls : List LV) (Ps : List PL) (At : Option Addr) (ct : Nat) (cs : List Value) (w : World) (hlen : Ls.length ≤ 2010) (Hs : Hid (SlT w w.heap.size 101 At cs)) (Hl : Hid (LnsCs w Ls cs)) (HM : Hid (LMs Ls Ps)) (HG : Hid (∀ P ∈ Ps, GoodP P)) :
    Calls Tryd.prog 45 #[.agg (srcR N (.slice At Ls.length ct))] w (BuiltR (buildN N Ps) w) := by
  have Q0 := Lib.hid (SQ.start w N (.slice At Ls.length ct))
  obtain ⟨⟨c0, c1, c2, c3, c4⟩, f1, f2, f3, f4⟩ := Q0.out.cells
  obtain ⟨x1, -⟩ := cell_at Q0.out.x 1 rfl
  by_cases hnm : N.text.length ≤ 12
  · have hn1 : ¬ (12 : Int) < (N.text.length : Int) := by omega
    have hn2 : ¬ 12 < N.text.length := by omega
    have Hb0 : Hid (buildN N Ps = (buildL ⟨0, 0, [], 0⟩ Ps).next fun s => .ok (endL N.text s)) := by show _ = _; unfold buildN; rw [if_pos hnm]
    clear hnm
    go_enter Tryd.func45, Tryd.ntmps45
    go_wp2_with fail
    clear c0 c1 c2 c3 c4 f1 f2 f3 f4 x1 hn1 hn2
    rw [show w.heap.size + 1 + 1 = w.heap.size + 2 from rfl]
    go_loopg [6] Ls.length (fun g s6 wr => ∃ (k : Nat) (s : BSt) (A : Option Addr) (n c : Nat) (mc : List Value), s6 = .int .i64 (k : Int) ∧ g = Ls.length - k ∧ k ≤ Ls.length ∧ s.d ≤ 31 ∧ n ≤ 32 ∧ Hid (SQ w (srcR N (.slice At Ls.length ct)) N.text s.f s.d A n c s.u mc s.rows wr) ∧ Hid (buildL ⟨0, 0, [], 0⟩ Ps = buildL s (Ps.drop k)))
    case atStart => exact ⟨0, ⟨0, 0, [], 0⟩, none, 0, 0, [], rfl, rfl, by omega, by simp, by omega, Q0.out, rfl⟩
    case round =>
      obtain ⟨k, s, A, n, c, mc, rfl, hgk, hk, hs31, hn32, HQ, HB⟩ := hrel
      have Hgk := Lib.hid hgk
      clear hgk Q0
      obtain ⟨x4, -⟩ := cell_at HQ.out.x 4 rfl
      by_cases hlt : k < Ls.length
      · obtain ⟨L, hL⟩ : ∃ L, Ls[k]? = some L := ⟨_, List.getElem?_eq_getElem hlt⟩
        obtain ⟨P, hP, hLM⟩ := HM.out.at_ hL
        have HG1 := Lib.hid (HG.out P (List.mem_of_getElem? hP))
        have HB1 : Hid (buildL ⟨0, 0, [], 0⟩ Ps = (stepL s P).next fun s' => buildL s' (Ps.drop (k + 1))) := by show _ = _; rw [HB.out, buildL_step hP]
        have HLM := Lib.hid hLM
        obtain ⟨b, o, A1, q1, A2, q2, hA, hrg, hsa, hsb⟩ := line_cells Hs.out Hl.out HQ.out.below hL
        rw [hA] at x4
        have Hrg := Lib.hid hrg
        have Hsa := Lib.hid hsa
        have Hsb := Lib.hid hsb
        clear hL hP hLM hA hrg hsa hsb
        have hI1 : (0 : Int) ≤ (k : Int) := by omega
        have hI2 : (k : Int) < (Ls.length : Int) := by omega
        go_upto_region 8 with (refine wpList_load_mid rfl 101 _ rfl b (o + k * 6) rfl (lineV L.K A1 L.a.length q1 A2 L.b.length q2) _ Hrg.out Tryd.underlying101 rfl (info101 (lineV L.K A1 L.a.length q1 A2 L.b.length q2).toArray rfl) ?_)
        obtain ⟨N1, rr, hPa⟩ := HG1.out.a
        have hLa : L.a = N1 :: rr := HLM.out.a.trans hPa
        have S7 := Lib.hid (HQ.out.alloc (.cells (lineV L.K A1 L.a.length q1 A2 L.b.length q2).toArray 101))
        have H7 := Lib.hid (heap_new wr (.cells (lineV L.K A1 L.a.length q1 A2 L.b.length q2).toArray 101))
        have Hsa7 := Lib.hid (Hsa.out.below ((Below.refl _ _).alloc (Nat.le_refl _) (.cells (lineV L.K A1 L.a.length q1 A2 L.b.length q2).toArray 101)) (by simp : wr.heap.size ≤ (wr.alloc (.cells (lineV L.K A1 L.a.length q1 A2 L.b.length q2).toArray 101)).heap.size))
        have Hsb7 := Lib.hid (Hsb.out.below ((Below.refl _ _).alloc (Nat.le_refl _) (.cells (lineV L.K A1 L.a.length q1 A2 L.b.length q2).toArray 101)) (by simp : wr.heap.size ≤ (wr.alloc (.cells (lineV L.K A1 L.a.length q1 A2 L.b.length q2).toArray 101)).heap.size))
        have hgw : wr.heap.size < (wr.alloc (.cells (lineV L.K A1 L.a.length q1 A2 L.b.length q2).toArray 101)).heap.size := by simp
        generalize hW7 : wr.alloc (.cells (lineV L.K A1 L.a.length q1 A2 L.b.length q2).toArray 101) = W7 at S7 H7 Hsa7 Hsb7 hgw
        clear hW7 x4
        obtain ⟨b2, o2, hA1, m1, m3⟩ := tok_head Hsa7.out hLa
        obtain ⟨y0, -⟩ := cell_at H7.out 0 rfl
        obtain ⟨y1, -⟩ := cell_at H7.out 1 rfl
        obtain ⟨y4, -⟩ := cell_at H7.out 4 rfl
        subst hA1
        obtain ⟨y2, -⟩ := cell_at H7.out 2 rfl
        obtain ⟨y3, -⟩ := cell_at H7.out 3 rfl
        obtain ⟨y5, -⟩ := cell_at H7.out 5 rfl
        have hp1 : 0 < L.a.length := by rw [hLa]; simp
        have hp2 : (0 : Int) < (L.a.length : Int) := by omega
        have HPa := Lib.hid hPa
        obtain ⟨⟨c0, c1, c2, c3, c4⟩, f1, f2, f3, f4⟩ := S7.out.cells
        clear hPa hLa
        rcases HG1.out.key with (hkey | hkey | hkey) | ⟨hkey, p, hat⟩
        · have t_kField : (L.K.text == [102, 105, 101, 108, 100]) = true := by rw [HLM.out.key, hkey]; rfl
          have t_kData : (L.K.text == [100, 97, 116, 97]) = false := by rw [HLM.out.key, hkey]; rfl
          have t_kDomain : (L.K.text == [100, 111, 109, 97, 105, 110]) = false := by rw [HLM.out.key, hkey]; rfl
          have t_kLocal : (L.K.text == [108, 111, 99, 97, 108]) = false := by rw [HLM.out.key, hkey]; rfl
          have Hst : Hid (stepL s P = if N1.n = 8 ∨ N1.n = 16 then .ok { s with f := N1.n } else .bad N1.at_ 1) := by show _ = _; unfold stepL; rw [HPa.out]; simp only [hkey, if_true]
          clear hkey HG1
          by_cases h8 : N1.n = 8
          · have e1 : ((N1.n : Int) != 8) = false := by rw [bne_eq_false_iff_eq]; omega
            have Hnx : Hid (buildL ⟨0, 0, [], 0⟩ Ps = buildL { s with f := N1.n } (Ps.drop (k + 1))) := by show _ = _; rw [HB1.out, Hst.out, if_pos (.inl h8)]; rfl
            clear h8
            go_wp2_with fail
            go_roundg (Ls.length - (k + 1))
            case measure => rw [Hgk.out]; omega
            case rel => exact ⟨k + 1, { s with f := N1.n }, A, n, c, mc, by go_num, rfl, by omega, hs31, hn32, S7.out.setF N1.n, Hnx.out⟩
          · have e1 : ((N1.n : Int) != 8) = true := by rw [bne_iff_ne]; omega
            by_cases h16 : N1.n = 16
            · have e2 : ((N1.n : Int) != 16) = false := by rw [bne_eq_false_iff_eq]; omega
              have Hnx : Hid (buildL ⟨0, 0, [], 0⟩ Ps = buildL { s with f := N1.n } (Ps.drop (k + 1))) := by show _ = _; rw [HB1.out, Hst.out, if_pos (.inr h16)]; rfl
              clear h8 h16
              go_wp2_with fail
              go_roundg (Ls.length - (k + 1))
              case measure => rw [Hgk.out]; omega
              case rel => exact ⟨k + 1, { s with f := N1.n }, A, n, c, mc, by go_num, rfl, by omega, hs31, hn32, S7.out.setF N1.n, Hnx.out⟩
            · have e2 : ((N1.n : Int) != 16) = true := by rw [bne_iff_ne]; omega
              have Hbad : Hid (buildN N Ps = .bad N1.at_ 1) := by show _ = _; rw [Hb0.out, HB1.out, Hst.out, if_neg (fun h => h.elim h8 h16)]; rfl
              clear h8 h16
              go_wp2_with (refine wpList_store_mid rfl 24 _ _ rfl (w.heap.size + 1) 0 z5 rfl rfl S7.out.zc (by exact info24) (by kernel_rfl) ?_)
              refine bodyPost_ret (res45 _ _ (w.heap.size + 1) _ _ _ rfl rfl rfl S7.out.bad.1 rfl) rfl ?_
              show BuiltR (buildN N Ps) w _ _
              rw [Hbad.out]
              exact ⟨S7.out.bad.2, rfl⟩
        · have t_kField : (L.K.text == [102, 105, 101, 108, 100]) = false := by rw [HLM.out.key, hkey]; rfl
          have t_kData : (L.K.text == [100, 97, 116, 97]) = true := by rw [HLM.out.key, hkey]; rfl
          have t_kDomain : (L.K.text == [100, 111, 109, 97, 105, 110]) = false := by rw [HLM.out.key, hkey]; rfl
          have t_kLocal : (L.K.text == [108, 111, 99, 97, 108]) = false := by rw [HLM.out.key, hkey]; rfl
          have Hst : Hid (stepL s P = if 1 ≤ N1.n ∧ N1.n ≤ 31 then .ok { s with d := N1.n } else .bad N1.at_ 1) := by show _ = _; unfold stepL; rw [HPa.out]; simp only [hkey]; rfl
          clear hkey HG1
          by_cases h1 : N1.n < 1
          · have e1 : (N1.n : Int) < 1 := by omega
            have e2 : decide ((N1.n : Int) < 1) = true := decide_eq_true e1
            have Hbad : Hid (buildN N Ps = .bad N1.at_ 1) := by show _ = _; rw [Hb0.out, HB1.out, Hst.out, if_neg (fun h => by omega)]; rfl
            go_wp2_with (refine wpList_store_mid rfl 24 _ _ rfl (w.heap.size + 1) 0 z5 rfl rfl S7.out.zc (by exact info24) (by kernel_rfl) ?_)
            refine bodyPost_ret (res45 _ _ (w.heap.size + 1) _ _ _ rfl rfl rfl S7.out.bad.1 rfl) rfl ?_
            show BuiltR (buildN N Ps) w _ _
            rw [Hbad.out]
            exact ⟨S7.out.bad.2, rfl⟩
          · have e1 : ¬ (N1.n : Int) < 1 := by omega
            have e2 : decide ((N1.n : Int) < 1) = false := decide_eq_false e1
            by_cases h31 : N1.n ≤ 31
            · have e3 : ¬ (31 : Int) < (N1.n : Int) := by omega
              have e4 : decide ((31 : Int) < (N1.n : Int)) = false := decide_eq_false e3
              have e5 : decide (31 < N1.n) = false := decide_eq_false (by omega)
              have Hnx : Hid (buildL ⟨0, 0, [], 0⟩ Ps = buildL { s with d := N1.n } (Ps.drop (k + 1))) := by show _ = _; rw [HB1.out, Hst.out, if_pos ⟨by omega, h31⟩]; rfl
              go_wp2_with fail
              go_roundg (Ls.length - (k + 1))
              case measure => rw [Hgk.out]; omega
              case rel => exact ⟨k + 1, { s with d := N1.n }, A, n, c, mc, by go_num, rfl, by omega, h31, hn32, S7.out.setD N1.n, Hnx.out⟩
            · have e3 : (31 : Int) < (N1.n : Int) := by omega
              have e4 : decide ((31 : Int) < (N1.n : Int)) = true := decide_eq_true e3
              have e5 : decide (31 < N1.n) = true := decide_eq_true (by omega)
              have Hbad : Hid (buildN N Ps = .bad N1.at_ 1) := by show _ = _; rw [Hb0.out, HB1.out, Hst.out, if_neg (fun h => h31 h.2)]; rfl
              go_wp2_with (refine wpList_store_mid rfl 24 _ _ rfl (w.heap.size + 1) 0 z5 rfl rfl S7.out.zc (by exact info24) (by kernel_rfl) ?_)
              refine bodyPost_ret (res45 _ _ (w.heap.size + 1) _ _ _ rfl rfl rfl S7.out.bad.1 rfl) rfl ?_
              show BuiltR (buildN N Ps) w _ _
              rw [Hbad.out]
              exact ⟨S7.out.bad.2, rfl⟩
        · have t_kField : (L.K.text == [102, 105, 101, 108, 100]) = false := by rw [HLM.out.key, hkey]; rfl
          have t_kData : (L.K.text == [100, 97, 116, 97]) = false := by rw [HLM.out.key, hkey]; rfl
          have t_kDomain : (L.K.text == [100, 111, 109, 97, 105, 110]) = true := by rw [HLM.out.key, hkey]; rfl
          have t_kLocal : (L.K.text == [108, 111, 99, 97, 108]) = false := by rw [HLM.out.key, hkey]; rfl
          have hnr := S7.out.len
          have Hst : Hid (stepL s P = if 1 ≤ N1.n ∧ N1.n ≤ s.d + n then .ok { s with u := N1.n } else .bad N1.at_ 1) := by show _ = _; unfold stepL; rw [HPa.out, hnr]; simp only [hkey]; rfl
          clear hkey HG1 hnr
          by_cases h1 : N1.n < 1
          · have e1 : (N1.n : Int) < 1 := by omega
            have e2 : decide ((N1.n : Int) < 1) = true := decide_eq_true e1
            have Hbad : Hid (buildN N Ps = .bad N1.at_ 1) := by show _ = _; rw [Hb0.out, HB1.out, Hst.out, if_neg (fun h => by omega)]; rfl
            go_wp2_with (refine wpList_store_mid rfl 24 _ _ rfl (w.heap.size + 1) 0 z5 rfl rfl S7.out.zc (by exact info24) (by kernel_rfl) ?_)
            refine bodyPost_ret (res45 _ _ (w.heap.size + 1) _ _ _ rfl rfl rfl S7.out.bad.1 rfl) rfl ?_
            show BuiltR (buildN N Ps) w _ _
            rw [Hbad.out]
            exact ⟨S7.out.bad.2, rfl⟩
          · have e1 : ¬ (N1.n : Int) < 1 := by omega
            have e2 : decide ((N1.n : Int) < 1) = false := decide_eq_false e1
            by_cases h31 : N1.n ≤ s.d + n
            · have e3 : ¬ (s.d : Int) + (n : Int) < (N1.n : Int) := by omega
              have e4 : decide ((s.d : Int) + (n : Int) < (N1.n : Int)) = false := decide_eq_false e3
              have e5 : decide (s.d + n < N1.n) = false := decide_eq_false (by omega)
              have Hnx : Hid (buildL ⟨0, 0, [], 0⟩ Ps = buildL { s with u := N1.n } (Ps.drop (k + 1))) := by show _ = _; rw [HB1.out, Hst.out, if_pos ⟨by omega, h31⟩]; rfl
              go_wp2_with fail
              go_roundg (Ls.length - (k + 1))
              case measure => rw [Hgk.out]; omega
              case rel => exact ⟨k + 1, { s with u := N1.n }, A, n, c, mc, by go_num, rfl, by omega, hs31, hn32, S7.out.setU N1.n, Hnx.out⟩
            · have e3 : (s.d : Int) + (n : Int) < (N1.n : Int) := by omega
              have e4 : decide ((s.d : Int) + (n : Int) < (N1.n : Int)) = true := decide_eq_true e3
              have e5 : decide (s.d + n < N1.n) = true := decide_eq_true (by omega)
              have Hbad : Hid (buildN N Ps = .bad N1.at_ 1) := by show _ = _; rw [Hb0.out, HB1.out, Hst.out, if_neg (fun h => h31 h.2)]; rfl
              go_wp2_with (refine wpList_store_mid rfl 24 _ _ rfl (w.heap.size + 1) 0 z5 rfl rfl S7.out.zc (by exact info24) (by kernel_rfl) ?_)
              refine bodyPost_ret (res45 _ _ (w.heap.size + 1) _ _ _ rfl rfl rfl S7.out.bad.1 rfl) rfl ?_
              show BuiltR (buildN N Ps) w _ _
              rw [Hbad.out]
              exact ⟨S7.out.bad.2, rfl⟩
        · obtain ⟨⟨z0, z1, z2, z3, z4⟩, g1, g2, g3, g4⟩ := S7.out.cells
          have hnr := S7.out.len
          have Hst : Hid (stepL s P = if s.d + n < 32 then (lineB s P).next fun row => .ok { s with rows := s.rows ++ [row] } else .bad p 2) := by
            show _ = _
            rcases hkey with hkey | hkey
            · unfold stepL; rw [HPa.out, hnr, hat]; simp only [hkey]; rfl
            · unfold stepL; rw [HPa.out, hnr, hat]; simp only [hkey]; rfl
          have hKat : L.K.at_ = p := HLM.out.at_ p hat
          have hla : L.a.length ≤ 2010 := by rw [HLM.out.a]; exact HG1.out.la
          have hlb : L.b.length ≤ 2010 := by rw [HLM.out.b]; exact HG1.out.lb
          have t_kField : (L.K.text == [102, 105, 101, 108, 100]) = false := by rw [HLM.out.key]; rcases hkey with hkey | hkey <;> rw [hkey] <;> rfl
          have t_kData : (L.K.text == [100, 97, 116, 97]) = false := by rw [HLM.out.key]; rcases hkey with hkey | hkey <;> rw [hkey] <;> rfl
          have t_kDomain : (L.K.text == [100, 111, 109, 97, 105, 110]) = false := by rw [HLM.out.key]; rcases hkey with hkey | hkey <;> rw [hkey] <;> rfl
          have HKat := Lib.hid hKat
          have Hat := Lib.hid hat
          have Hkey := Lib.hid hkey
          clear HG1 hnr hat hKat hkey
          by_cases h32 : s.d + n < 32
          · have e1 : ¬ (32 : Int) ≤ (s.d : Int) + (n : Int) := by omega
            have e2 : decide ((32 : Int) ≤ (s.d : Int) + (n : Int)) = false := decide_eq_false e1
            have e3 : decide (32 ≤ s.d + n) = false := decide_eq_false (by omega)
            go_upto_region 13 with fail
            have HKS : Hid (∀ w' : World, Below W7.heap.size W7 w' → ((w'.cell? ⟨wr.heap.size, 0, none⟩ = some (strV L.K.text) ∧ w'.cell? ⟨wr.heap.size, 1, none⟩ = some (.int .i64 (L.K.at_ : Int))) ∧ (w'.cell? ⟨wr.heap.size, 2, none⟩ = some (.int .i64 (L.K.kind : Int)) ∧ w'.cell? ⟨wr.heap.size, 3, none⟩ = some (.int .i64 (L.K.n : Int))) ∧ w'.cell? ⟨wr.heap.size, 4, none⟩ = some (.slice (some ⟨b2, o2, none⟩) L.a.length q1) ∧ w'.cell? ⟨wr.heap.size, 5, none⟩ = some (.slice A2 L.b.length q2)) ∧ w'.cell? ⟨w.heap.size + 2, 1, none⟩ = some (.int .i64 (s.f : Int)) ∧ w'.cell? ⟨w.heap.size + 2, 2, none⟩ = some (.int .i64 (s.d : Int))) := by
              have hl := S7.out.lt
              exact fun w' hb => ⟨⟨⟨(hb.cell (p := ⟨wr.heap.size, 0, none⟩) hgw).trans y0, (hb.cell (p := ⟨wr.heap.size, 1, none⟩) hgw).trans y1⟩, ⟨(hb.cell (p := ⟨wr.heap.size, 2, none⟩) hgw).trans y2, (hb.cell (p := ⟨wr.heap.size, 3, none⟩) hgw).trans y3⟩, (hb.cell (p := ⟨wr.heap.size, 4, none⟩) hgw).trans y4, (hb.cell (p := ⟨wr.heap.size, 5, none⟩) hgw).trans y5⟩, (hb.cell (p := ⟨w.heap.size + 2, 1, none⟩) hl).trans c1, (hb.cell (p := ⟨w.heap.size + 2, 2, none⟩) hl).trans c2⟩
            go_cut [10, 11, 12] (fun s10 s11 s12 wx => Hid (Below W7.heap.size W7 wx) ∧ Hid (lineP67 W7 (parityB L.K.at_ L.a s.d (topN s.f)) s10 s11 s12 wx))
            case first =>
              go_region_held3 (fun w' => ((w'.cell? ⟨wr.heap.size, 0, none⟩ = some (strV L.K.text) ∧ w'.cell? ⟨wr.heap.size, 1, none⟩ = some (.int .i64 (L.K.at_ : Int))) ∧ (w'.cell? ⟨wr.heap.size, 2, none⟩ = some (.int .i64 (L.K.kind : Int)) ∧ w'.cell? ⟨wr.heap.size, 3, none⟩ = some (.int .i64 (L.K.n : Int))) ∧ w'.cell? ⟨wr.heap.size, 4, none⟩ = some (.slice (some ⟨b2, o2, none⟩) L.a.length q1) ∧ w'.cell? ⟨wr.heap.size, 5, none⟩ = some (.slice A2 L.b.length q2)) ∧ w'.cell? ⟨w.heap.size + 2, 1, none⟩ = some (.int .i64 (s.f : Int)) ∧ w'.cell? ⟨w.heap.size + 2, 2, none⟩ = some (.int .i64 (s.d : Int)))
                (first | exact HKS.out _ HB6.out | exact HKS.out _ (Below.refl _ _).drew)
                (first | (go_at_call 38; refine (topR_any _ _).mono ?_; rintro e w' ⟨rfl, rfl⟩) | (go_at_call 67; refine (parity_T hs31 (topN_le s.f) (Hsa7.out.below (Below.refl _ _).drew (by exact Nat.le_refl _))).mono ?_; rintro e w6 ⟨v1, v2, v3, rfl, hb6, hx6⟩; have HB6 := Lib.hid ((Below.refl W7.heap.size W7).drew.trans hb6); have HX6 := Lib.hid hx6; clear hb6 hx6))
              all_goals
                go_wp2_with fail
                go_meet
                exact ⟨HB6.out, HX6.out⟩
            case rest =>
            obtain ⟨hb8, hx8⟩ := hcut
            have HX8 := Lib.hid hx8.out
            have S8 := Lib.hid (S7.out.call hb8.out)
            have H8 := Lib.hid ((hb8.out.block _ hgw).trans H7.out)
            have Hsa8 := Lib.hid (Hsa7.out.below hb8.out hb8.out.size)
            have Hsb8 := Lib.hid (Hsb7.out.below hb8.out hb8.out.size)
            have hgc := Nat.lt_of_lt_of_le hgw hb8.out.size
            clear hb8 hx8 HKS c0 c1 c2 c3 c4 f1 f2 f3 f4 z0 z1 z2 z3 z4 g1 g2 g3 g4 y0 y1 y2 y3 y4 y5 m1 m3
            obtain ⟨y0, -⟩ := cell_at H8.out 0 rfl
            obtain ⟨y1, -⟩ := cell_at H8.out 1 rfl
            obtain ⟨y2, -⟩ := cell_at H8.out 2 rfl
            obtain ⟨y3, -⟩ := cell_at H8.out 3 rfl
            obtain ⟨y4, -⟩ := cell_at H8.out 4 rfl
            obtain ⟨y5, -⟩ := cell_at H8.out 5 rfl
            obtain ⟨⟨c0, c1, c2, c3, c4⟩, f1, f2, f3, f4⟩ := S8.out.cells
            have hb1 : n + 1 ≤ maxLen := by unfold maxLen; omega
            have hb2 : (n + 1) * 24 ≤ 140737488355328 := by omega
            have hbn : n + 1 ≤ 32 := by omega
            have Hst2 : Hid (stepL s P = (lineB s P).next fun row => .ok { s with rows := s.rows ++ [row] }) := by show _ = _; rw [Hst.out, if_pos h32]
            clear e1 e2 e3 h32
            rcases Hkey.out with hkey | hkey
            · have t_kLocal : (L.K.text == [108, 111, 99, 97, 108]) = true := by rw [HLM.out.key, hkey]; rfl
              have Hlb : Hid (lineB s P = localB L.K.at_ L.a L.b s.d (topN s.f)) := by show _ = _; unfold lineB; rw [if_pos hkey, Hat.out, HKat.out, HLM.out.a, HLM.out.b]; rfl
              clear hkey HX8
              have HKS : Hid (∀ w' : World, Below wc.heap.size wc w' → ((w'.cell? ⟨wr.heap.size, 0, none⟩ = some (strV L.K.text) ∧ w'.cell? ⟨wr.heap.size, 1, none⟩ = some (.int .i64 (L.K.at_ : Int))) ∧ (w'.cell? ⟨wr.heap.size, 2, none⟩ = some (.int .i64 (L.K.kind : Int)) ∧ w'.cell? ⟨wr.heap.size, 3, none⟩ = some (.int .i64 (L.K.n : Int))) ∧ w'.cell? ⟨wr.heap.size, 4, none⟩ = some (.slice (some ⟨b2, o2, none⟩) L.a.length q1) ∧ w'.cell? ⟨wr.heap.size, 5, none⟩ = some (.slice A2 L.b.length q2)) ∧ w'.cell? ⟨w.heap.size + 2, 1, none⟩ = some (.int .i64 (s.f : Int)) ∧ w'.cell? ⟨w.heap.size + 2, 2, none⟩ = some (.int .i64 (s.d : Int))) := by
                have hl := S8.out.lt
                exact fun w' hb => ⟨⟨⟨(hb.cell (p := ⟨wr.heap.size, 0, none⟩) hgc).trans y0, (hb.cell (p := ⟨wr.heap.size, 1, none⟩) hgc).trans y1⟩, ⟨(hb.cell (p := ⟨wr.heap.size, 2, none⟩) hgc).trans y2, (hb.cell (p := ⟨wr.heap.size, 3, none⟩) hgc).trans y3⟩, (hb.cell (p := ⟨wr.heap.size, 4, none⟩) hgc).trans y4, (hb.cell (p := ⟨wr.heap.size, 5, none⟩) hgc).trans y5⟩, (hb.cell (p := ⟨w.heap.size + 2, 1, none⟩) hl).trans c1, (hb.cell (p := ⟨w.heap.size + 2, 2, none⟩) hl).trans c2⟩
              go_upto_region 15 with fail
              obtain ⟨W8, hW8⟩ : ∃ W8, W8 = wc := ⟨_, rfl⟩
              rw [← hW8] at HKS S8 Hsa8 Hsb8
              rw [← hW8]
              clear hW8 H8 y0 y1 y2 y3 y4 y5 c0 c1 c2 c3 c4 f1 f2 f3 f4 hgc
              go_cut [10, 11, 12] (fun s10 s11 s12 wx => Hid (Below W8.heap.size W8 wx) ∧ Hid (lineP67 W8 (localB L.K.at_ L.a L.b s.d (topN s.f)) s10 s11 s12 wx))
              case first =>
                go_region_held3 (fun w' => ((w'.cell? ⟨wr.heap.size, 0, none⟩ = some (strV L.K.text) ∧ w'.cell? ⟨wr.heap.size, 1, none⟩ = some (.int .i64 (L.K.at_ : Int))) ∧ (w'.cell? ⟨wr.heap.size, 2, none⟩ = some (.int .i64 (L.K.kind : Int)) ∧ w'.cell? ⟨wr.heap.size, 3, none⟩ = some (.int .i64 (L.K.n : Int))) ∧ w'.cell? ⟨wr.heap.size, 4, none⟩ = some (.slice (some ⟨b2, o2, none⟩) L.a.length q1) ∧ w'.cell? ⟨wr.heap.size, 5, none⟩ = some (.slice A2 L.b.length q2)) ∧ w'.cell? ⟨w.heap.size + 2, 1, none⟩ = some (.int .i64 (s.f : Int)) ∧ w'.cell? ⟨w.heap.size + 2, 2, none⟩ = some (.int .i64 (s.d : Int)))
                  (first | exact HKS.out _ HB6.out | exact HKS.out _ (Below.refl _ _).drew)
                  (first | (go_at_call 38; refine (topR_any _ _).mono ?_; rintro e w' ⟨rfl, rfl⟩) | (go_at_call 68; refine (local_T hs31 hla hlb (Hsa8.out.below (Below.refl _ _).drew (by exact Nat.le_refl _)) (Hsb8.out.below (Below.refl _ _).drew (by exact Nat.le_refl _))).mono ?_; rintro e w6 ⟨v1, v2, v3, rfl, hb6, hx6⟩; have HB6 := Lib.hid ((Below.refl W8.heap.size W8).drew.trans hb6); have HX6 := Lib.hid hx6; clear hb6 hx6))
                all_goals
                  go_wp2_with fail
                  go_meet
                  exact ⟨HB6.out, HX6.out⟩
              case rest =>
              obtain ⟨hb9, hx9⟩ := hcut
              have hX := hx9.out
              have S9 := Lib.hid (S8.out.call hb9.out)
              clear hb9 hx9 HKS S8
              obtain ⟨⟨c0, c1, c2, c3, c4⟩, f1, f2, f3, f4⟩ := S9.out.cells
              rw [← Hlb.out] at hX
              cases hlb : lineB s P with
              | ok row =>
                rw [hlb] at hX
                obtain ⟨Ar, cr, rfl, rfl, rfl, hsr⟩ := hX
                have Hsr := Lib.hid hsr
                have Hnx : Hid (buildL ⟨0, 0, [], 0⟩ Ps = buildL { s with rows := s.rows ++ [row] } (Ps.drop (k + 1))) := by show _ = _; rw [HB1.out, Hst2.out, hlb]; rfl
                clear hsr hlb
                go_wp2_with (at_builtin; refine wpList_append_sl rfl _ _ 22 rfl rfl rfl so22 (S9.out.own.alloc _) (m := 1) (news := [.slice Ar row.length cr]) rfl (Sl.new _ _ _) (fun u hu => by rw [List.mem_singleton] at hu; rw [hu]; rfl) hb1 hb2 (Nat.le_trans S9.out.below.size (by simp)) ?_; intro A5 c5 w9 ho5 hg5; have HO5 := Lib.hid ho5; have HG5 := Lib.hid hg5; obtain ⟨e9, h9⟩ := S9.out.cell2 hg5; clear ho5 hg5)
                go_roundg (Ls.length - (k + 1))
                case measure => rw [Hgk.out]; omega
                case rel => exact ⟨k + 1, { s with rows := s.rows ++ [row] }, A5, n + 1, c5, _, by go_num, rfl, by omega, hs31, hbn, S9.out.step rfl Hsr.out HO5.out HG5.out, Hnx.out⟩
              | bad q en =>
                have hen := lineB_bad hlb
                subst hen
                rw [hlb] at hX
                obtain ⟨rfl, rfl, rfl⟩ := hX
                have Hbad : Hid (buildN N Ps = .bad q 1) := by show _ = _; rw [Hb0.out, HB1.out, Hst2.out, hlb]; rfl
                clear hlb
                go_wp2_with (refine wpList_store_mid rfl 24 _ _ rfl (w.heap.size + 1) 0 z5 rfl rfl S9.out.zc (by exact info24) (by kernel_rfl) ?_)
                refine bodyPost_ret (res45 _ _ (w.heap.size + 1) _ _ _ rfl rfl rfl S9.out.bad.1 rfl) rfl ?_
                show BuiltR (buildN N Ps) w _ _
                rw [Hbad.out]
                exact ⟨S9.out.bad.2, rfl⟩
            · have t_kLocal : (L.K.text == [108, 111, 99, 97, 108]) = false := by rw [HLM.out.key, hkey]; rfl
              have Hlb : Hid (lineB s P = parityB L.K.at_ L.a s.d (topN s.f)) := by show _ = _; unfold lineB; rw [if_neg (by rw [hkey]; decide), Hat.out, HKat.out, HLM.out.a]; rfl
              clear hkey
              have hX := HX8.out
              clear HX8
              obtain ⟨⟨c0, c1, c2, c3, c4⟩, f1, f2, f3, f4⟩ := S8.out.cells
              rw [← Hlb.out] at hX
              cases hlb : lineB s P with
              | ok row =>
                rw [hlb] at hX
                obtain ⟨Ar, cr, rfl, rfl, rfl, hsr⟩ := hX
                have Hsr := Lib.hid hsr
                have Hnx : Hid (buildL ⟨0, 0, [], 0⟩ Ps = buildL { s with rows := s.rows ++ [row] } (Ps.drop (k + 1))) := by show _ = _; rw [HB1.out, Hst2.out, hlb]; rfl
                clear hsr hlb
                go_wp2_with (at_builtin; refine wpList_append_sl rfl _ _ 22 rfl rfl rfl so22 (S8.out.own.alloc _) (m := 1) (news := [.slice Ar row.length cr]) rfl (Sl.new _ _ _) (fun u hu => by rw [List.mem_singleton] at hu; rw [hu]; rfl) hb1 hb2 (Nat.le_trans S8.out.below.size (by simp)) ?_; intro A5 c5 w9 ho5 hg5; have HO5 := Lib.hid ho5; have HG5 := Lib.hid hg5; obtain ⟨e9, h9⟩ := S8.out.cell2 hg5; clear ho5 hg5)
                go_roundg (Ls.length - (k + 1))
                case measure => rw [Hgk.out]; omega
                case rel => exact ⟨k + 1, { s with rows := s.rows ++ [row] }, A5, n + 1, c5, _, by go_num, rfl, by omega, hs31, hbn, S8.out.step rfl Hsr.out HO5.out HG5.out, Hnx.out⟩
              | bad q en =>
                have hen := lineB_bad hlb
                subst hen
                rw [hlb] at hX
                obtain ⟨rfl, rfl, rfl⟩ := hX
                have Hbad : Hid (buildN N Ps = .bad q 1) := by show _ = _; rw [Hb0.out, HB1.out, Hst2.out, hlb]; rfl
                clear hlb
                go_wp2_with (refine wpList_store_mid rfl 24 _ _ rfl (w.heap.size + 1) 0 z5 rfl rfl S8.out.zc (by exact info24) (by kernel_rfl) ?_)
                refine bodyPost_ret (res45 _ _ (w.heap.size + 1) _ _ _ rfl rfl rfl S8.out.bad.1 rfl) rfl ?_
                show BuiltR (buildN N Ps) w _ _
                rw [Hbad.out]
                exact ⟨S8.out.bad.2, rfl⟩
          · have e1 : (32 : Int) ≤ (s.d : Int) + (n : Int) := by omega
            have e2 : decide ((32 : Int) ≤ (s.d : Int) + (n : Int)) = true := decide_eq_true e1
            have e3 : decide (32 ≤ s.d + n) = true := decide_eq_true (by omega)
            have Hbad : Hid (buildN N Ps = .bad p 2) := by show _ = _; rw [Hb0.out, HB1.out, Hst.out, if_neg h32]; rfl
            clear h32
            obtain ⟨zz0, zg0⟩ := cell_at S7.out.z 0 (u := strV []) rfl
            obtain ⟨zz1, zg1⟩ := cell_at S7.out.z 1 (u := .int .i64 0) rfl
            obtain ⟨zz2, zg2⟩ := cell_at S7.out.z 2 (u := .int .i64 0) rfl
            obtain ⟨zz3, zg3⟩ := cell_at S7.out.z 3 (u := .slice none 0 0) rfl
            obtain ⟨zz4, zg4⟩ := cell_at S7.out.z 4 (u := .int .i64 0) rfl
            have hne1 : ¬ w.heap.size + 1 = wr.heap.size := by have := HQ.out.lt; omega
            have hne2 : ¬ wr.heap.size = w.heap.size + 1 := by have := HQ.out.lt; omega
            go_wp2_with fail
            go_region
            all_goals
              go_wp2_with fail
              refine bodyPost_ret (res45 _ _ (w.heap.size + 1) z5 (.int .i64 (p : Int)) (.int .i64 2) (by rw [← HKat.out]; rfl) rfl rfl S7.out.bad.1 rfl) rfl ?_
              show BuiltR (buildN N Ps) w _ _
              rw [Hbad.out]
              exact ⟨S7.out.bad.2.drew, rfl⟩
      · have hke : k = Ls.length := by omega
        subst hke
        have hPl := HM.out.len
        have hnr := HQ.out.len
        have Hend0 : Hid (buildN N Ps = .ok (endL N.text s)) := by show _ = _; rw [Hb0.out, HB.out, hPl, List.drop_length]; rfl
        obtain ⟨⟨c0, c1, c2, c3, c4⟩, f1, f2, f3, f4⟩ := HQ.out.cells
        clear hPl HB Hgk hlt
        by_cases hu : s.u = 0
        · have e1 : ((s.u : Int) == 0) = true := by rw [beq_iff_eq]; omega
          have Hend : Hid (buildN N Ps = .ok ⟨N.text, s.f, s.d, s.rows, ((s.d + n : Nat) : Int)⟩) := by show _ = _; rw [Hend0.out, endL, if_pos hu, hnr]
          have HU := Lib.hid (HQ.out.setU (s.d + n))
          clear hu hnr Hend0
          go_upto_region 33 with fail
          rw [show (s.d : Int) + (n : Int) = ((s.d + n : Nat) : Int) by omega]
          go_wp2_with (first | (refine wpList_load_row rfl 24 _ rfl (w.heap.size + 2) rfl 24 #[strV N.text, .int .i64 (s.f : Int), .int .i64 (s.d : Int), .slice A n c, .int .i64 ((s.d + n : Nat) : Int)] (0, 0) _ HU.out.gc Tryd.underlying24 rfl (by exact info24) ?_) | (refine wpList_store_mid rfl 24 _ _ rfl (w.heap.size + 1) 0 #[strV N.text, .int .i64 (s.f : Int), .int .i64 (s.d : Int), .slice A n c, .int .i64 ((s.d + n : Nat) : Int)] rfl rfl HU.out.zc (by exact info24) (code_one _ _ _ _ _ _ _) ?_))
          obtain ⟨o1, o2, o3⟩ := HU.out.out
          refine bodyPost_ret (res45 _ _ (w.heap.size + 1) _ _ _ rfl rfl rfl o2 rfl) rfl ?_
          show BuiltR (buildN N Ps) w _ _
          rw [Hend.out]
          exact ⟨o3, _, rfl, o1⟩
        · have e1 : ((s.u : Int) == 0) = false := by rw [beq_eq_false_iff_ne]; omega
          have Hend : Hid (buildN N Ps = .ok ⟨N.text, s.f, s.d, s.rows, (s.u : Int)⟩) := by show _ = _; rw [Hend0.out, endL, if_neg hu]
          clear hu hnr Hend0
          go_wp2_with (first | (refine wpList_load_row rfl 24 _ rfl (w.heap.size + 2) rfl 24 #[strV N.text, .int .i64 (s.f : Int), .int .i64 (s.d : Int), .slice A n c, .int .i64 (s.u : Int)] (0, 0) _ HQ.out.gc Tryd.underlying24 rfl (by exact info24) ?_) | (refine wpList_store_mid rfl 24 _ _ rfl (w.heap.size + 1) 0 #[strV N.text, .int .i64 (s.f : Int), .int .i64 (s.d : Int), .slice A n c, .int .i64 (s.u : Int)] rfl rfl HQ.out.zc (by exact info24) (code_one _ _ _ _ _ _ _) ?_))
          obtain ⟨o1, o2, o3⟩ := HQ.out.out
          refine bodyPost_ret (res45 _ _ (w.heap.size + 1) _ _ _ rfl rfl rfl o2 rfl) rfl ?_
          show BuiltR (buildN N Ps) w _ _
          rw [Hend.out]
          exact ⟨o3, _, rfl, o1⟩
  · have hn1 : (12 : Int) < (N.text.length : Int) := by omega
    have hn2 : 12 < N.text.length := by omega
    have Hbad : Hid (buildN N Ps = .bad N.at_ 2) := by show _ = _; unfold buildN; rw [if_neg hnm]
    clear hnm
    go_enter Tryd.func45, Tryd.ntmps45
    go_wp2_with fail
    go_region
    all_goals
      go_wp2_with fail
      refine bodyPost_ret (res45 _ _ (w.heap.size + 1) _ _ _ rfl rfl rfl (Q0.out.drewN 1).z rfl) rfl ?_
      show BuiltR (buildN N Ps) w _ _
      rw [Hbad.out]
      exact ⟨(Q0.out.drewN 1).below, rfl⟩
end Go.Proofs.YtafgmbchdcfkcaaDoor
