/-
  The walk of the reference's Parse.
  The walk of the reference's Parse.
-/
import Derived.Test.YtafgmbchdcfkcaaDoorR18
import Derived.Test.YtafgmbchdcfkcaaDoorW14
namespace Go.Proofs.YtafgmbchdcfkcaaDoor
open Go Go.RowKit Go.Walks

theorem parse_bad {t : ByteArray} (ht : t.size ≤ 2000) {p : Nat} (h : codeT (toks t.data.toList 0) = .bad p) : parseB true t.data.toList = .bad p 3 := by
  unfold parseB
  rw [if_neg (by rw [size_l]; omega), srcsT, if_pos (.inr ⟨rfl, rfl⟩), if_neg (fun h => h.2 rfl), h]
  rfl
theorem parse_ok {t : ByteArray} (ht : t.size ≤ 2000) {S : Src} {a : List Tok} (h : codeT (toks t.data.toList 0) = .ok S a) : parseB true t.data.toList = if headK a = 4 then (buildS S).next fun C => .ok [C] else .bad (headAt a) 3 := by
  unfold parseB
  rw [if_neg (by rw [size_l]; omega), srcsT, if_pos (.inr ⟨rfl, rfl⟩), if_neg (fun h => h.2 rfl), h, PR.next_ok]
  have hN : 0 < (toks t.data.toList 0).length := by
    cases hl : toks t.data.toList 0 with
    | nil => rw [hl] at h; cases h
    | cons T ts => simp
  obtain ⟨N, hN⟩ : ∃ N, (toks t.data.toList 0).length = N + 1 := ⟨_, (Nat.sub_add_cancel hN).symm⟩
  rw [hN, srcsT]
  by_cases h4 : headK a = 4
  · rw [if_neg (by simp [h4]), if_pos h4]
    show codesB [] [] [S] = _
    rw [codesB, if_pos (by simp), if_neg (by simp)]
    cases buildS S <;> rfl
  · rw [if_pos (.inl h4), if_pos ⟨rfl, by simp⟩, if_neg h4]
    rfl
/-- Behind the check for the end. -/
def EndP (gp : Nat) (l : List Tok) (A : Option Addr) (c : Nat) (t : Bytes) (ts : List Tok) (w : World) (e : Ending) (w' : World) : Prop := (∃ T, e = .returned (.agg (tokR T))) ∧ RB gp w w' ∧ ∃ i, ((∃ S a, RP w' gp l A c i (-1) ∧ codeT ts = .ok S a ∧ headK a = 4) ∨ (∃ p : Nat, RP w' gp l A c i (p : Int) ∧ parseB true t = .bad p 3))
theorem end_R {t : ByteArray} (ht : t.size ≤ 2000) {l : List Tok} (hlt : l = toks t.data.toList 0) (hl : l.length ≤ 2001) {gp : Nat} {A : Option Addr} {c : Nat} {w : World} (h : RAt w gp l A c (codeU (.ok () l))) :
    Calls Tryd.prog 44 #[.pointer (some ⟨gp, 0, none⟩), .int .i64 4] w (EndP gp l A c t.data.toList l w) := by
  cases hx : codeT l with
  | bad p =>
    have hc : codeU (.ok () l) = .bad p := by show (codeT l).next _ = _; rw [hx]; rfl
    rw [hc] at h
    obtain ⟨i, hp, hi⟩ := h
    refine (rkind_any l A c i gp p 4 l[i] w hl hp (List.getElem?_eq_getElem hi)).mono ?_
    rintro e w' ⟨rfl, hrp, hrb⟩
    have hb : isK_ (p : Int) l[i] 4 = false := by unfold isK_; rw [decide_eq_false (by omega)]; rfl
    rw [hb] at hrp
    simp only [Bool.false_eq_true, if_false] at hrp
    rw [if_neg (by omega)] at hrp
    exact ⟨⟨_, rfl⟩, hrb, i, .inr ⟨p, hrp, parse_bad ht (by rw [← hlt]; exact hx)⟩⟩
  | ok S a =>
    have hc : codeU (.ok () l) = .ok () a := by show (codeT l).next _ = _; rw [hx]; rfl
    rw [hc] at h
    obtain ⟨i, hp, hi, rfl⟩ := h
    refine (rkind_any l A c i gp (-1) 4 l[i] w hl hp (List.getElem?_eq_getElem hi)).mono ?_
    rintro e w' ⟨rfl, hrp, hrb⟩
    have hhd : l.drop i = l[i] :: l.drop (i + 1) := drop_get hi
    have hpk := parse_ok ht (S := S) (a := l.drop i) (by rw [← hlt]; exact hx)
    by_cases h4 : l[i].kind = 4
    · have hb : isK_ (-1) l[i] 4 = true := by unfold isK_; simp [h4]
      rw [hb] at hrp
      simp only [if_true] at hrp
      exact ⟨⟨_, rfl⟩, hrb, i + 1, .inl ⟨S, l.drop i, hrp, hx, (by rw [hhd]; exact h4)⟩⟩
    · have hb : isK_ (-1) l[i] 4 = false := by unfold isK_; simp [h4]
      rw [hb] at hrp
      simp only [Bool.false_eq_true, if_false] at hrp
      rw [if_pos (by omega)] at hrp
      rw [hhd] at hpk
      rw [if_neg (show ¬ headK (l[i] :: l.drop (i + 1)) = 4 from h4)] at hpk
      exact ⟨⟨_, rfl⟩, hrb, i, .inr ⟨l[i].at_, hrp, hpk⟩⟩
theorem res19 (tmps : Array Value) (w : World) (g : Nat) (cs : Array Value) (u v : Value) (h3 : tmps.getD 3 undef = u) (h4 : tmps.getD 4 undef = v) (hp : tmps.getD 2 undef = .pointer (some ⟨g, 0, none⟩)) (hg : w.heap[g]? = some (.cells cs 24)) (hs : cs.size = 5) :
    (results Tryd.f19 tmps).run Tryd.prog w = .ok (.tuple #[.agg cs, u, v]) w := by
  have h3' : tmps[3]?.getD undef = u := by simpa using h3
  have h4' : tmps[4]?.getD undef = v := by simpa using h4
  have hp' : tmps[2]?.getD undef = .pointer (some ⟨g, 0, none⟩) := by simpa using hp
  simp [results, Tryd.results19, h3', h4', hp', asAddr, run_loadVar_row w g 24 24 cs (0, 0) _ hg Tryd.underlying24 rfl (by rw [hs]; exact info24)]
/-- The lines of a code that was read are good. -/
theorem good_src {ts a : List Tok} {S : Src} (h : codeT ts = .ok S a) (hl : ts.length ≤ 2001) : ∀ P ∈ srcL S, GoodP P := by
  obtain ⟨-, -, h3, -, -⟩ := codeT_ok h
  have hg := codeT_good h
  intro P hP
  unfold srcL at hP
  simp only [List.mem_append, List.mem_map, List.mem_cons, List.not_mem_nil, or_false, Option.mem_toList, Option.map_eq_some_iff] at hP
  rcases hP with ((rfl | rfl) | ⟨R, hR, rfl⟩) | ⟨D, _, rfl⟩
  · exact ⟨⟨_, _, rfl⟩, by simp [fieldL], by simp [fieldL], .inl (.inl rfl)⟩
  · exact ⟨⟨_, _, rfl⟩, by simp [fieldL], by simp [fieldL], .inl (.inr (.inl rfl))⟩
  · obtain ⟨g1, g2, g3⟩ := hg R hR
    obtain ⟨l1, l2⟩ := h3 R hR
    cases hl : R.loc with
    | true =>
      have e : rowL R = ⟨kLocal, some R.at_, R.idx, R.coefs⟩ := by unfold rowL; rw [hl]; rfl
      rw [e]
      obtain ⟨T, r, hT⟩ := List.exists_cons_of_ne_nil (g1 hl)
      exact ⟨⟨T, r, hT⟩, by show R.idx.length ≤ _; omega, by show R.coefs.length ≤ _; omega, .inr ⟨.inl rfl, _, rfl⟩⟩
    | false =>
      have e : rowL R = ⟨kParity, some R.at_, R.coefs, []⟩ := by unfold rowL; rw [hl]; rfl
      rw [e]
      obtain ⟨T, r, hT⟩ := List.exists_cons_of_ne_nil g3
      exact ⟨⟨T, r, hT⟩, by show R.coefs.length ≤ _; omega, by simp, .inr ⟨.inr rfl, _, rfl⟩⟩
  · exact ⟨⟨_, _, rfl⟩, by simp [fieldL], by simp [fieldL], .inl (.inr (.inr rfl))⟩
theorem buildS_bad {S : Src} {p en : Nat} (h : buildS S = .bad p en) : en = 1 ∨ en = 2 := by
  have rows : ∀ (Rs : List Row) (d tp : Nat) (acc : List (List Int)), buildRows d tp acc Rs = .bad p en → en = 1 ∨ en = 2 := by
    intro Rs
    induction Rs with
    | nil => intro d tp acc h; cases h
    | cons R Rs ih =>
      intro d tp acc h
      rw [buildRows] at h
      split at h
      · cases hb : buildRow R d tp with
        | bad q e =>
          rw [hb] at h
          injection h with h1 h2
          subst h1; subst h2
          unfold buildRow at hb
          split at hb
          · injection hb with _ hb; exact .inl hb.symm
          · split at hb
            · injection hb with _ hb; exact .inl hb.symm
            · split at hb
              · injection hb with _ hb; exact .inl hb.symm
              · split at hb
                · injection hb with _ hb; exact .inl hb.symm
                · cases hb
        | ok row => rw [hb] at h; exact ih _ _ _ h
      · injection h with _ h; exact .inr h.symm
  unfold buildS at h
  split at h
  · split at h
    · split at h
      · cases hb : buildRows S.data.n (topN S.field.n) [] S.rows with
        | bad q e =>
          rw [hb] at h
          injection h with h1 h2
          subst h1; subst h2
          exact rows _ _ _ _ hb
        | ok rs =>
          rw [hb] at h
          change buildDom S rs = _ at h
          unfold buildDom at h
          split at h
          · cases h
          · split at h
            · cases h
            · injection h with _ h; exact .inl h.symm
      · injection h with _ h; exact .inl h.symm
    · injection h with _ h; exact .inl h.symm
  · injection h with _ h; exact .inr h.symm
end Go.Proofs.YtafgmbchdcfkcaaDoor
namespace Go.Proofs.YtafgmbchdcfkcaaDoor
open Go Go.RowKit Go.Walks

set_option maxRecDepth 100000 in
set_option maxHeartbeats 8000000 in
theorem parseR_any (t : ByteArray) (w : World) : Calls Tryd.prog 19 #[.string t] w (ParseRes (parseB true t.data.toList) w) := by
  have hz0 := heap_new w (.cells z5 24)
  by_cases hsz : 2000 < t.size
  · have hi : (2000 : Int) < (t.size : Int) := by omega
    have Hb : Hid (parseB true t.data.toList = .bad 0 2) := by show _ = _; unfold parseB; rw [if_pos (by rw [size_l]; exact hsz)]
    go_enter Tryd.func19, Tryd.ntmps19
    go_wp2_with fail
    refine bodyPost_ret (res19 _ _ w.heap.size z5 _ _ rfl rfl rfl hz0 rfl) rfl ?_
    show ParseRes (parseB true t.data.toList) w _ _
    rw [Hb.out]
    exact ⟨(Below.refl _ _).alloc (Nat.le_refl _) _, rfl⟩
  · have ht : t.size ≤ 2000 := by omega
    have hi : ¬ (2000 : Int) < (t.size : Int) := by omega
    have hN := toks_len2 t ht
    have Hw := Lib.hid (wfl_toks t.data.toList)
    obtain ⟨l, hl⟩ : ∃ l, l = toks t.data.toList 0 := ⟨_, rfl⟩
    have HlE := Lib.hid hl
    have htok := tokens_any t (w.alloc (.cells z5 24)) ht
    rw [← hl] at hN Hw htok
    have Htok := Lib.hid htok
    have Hz0 := Lib.hid hz0
    have hlen : 0 < l.length := by
      rw [hl]
      obtain ⟨T, rest, h⟩ := toks_head (l := t.data.toList) (a := 0) (by omega)
      rw [h.eq]; simp
    clear hz0 htok hl
    go_enter Tryd.func19, Tryd.ntmps19
    go_wp2_with fail
    refine Htok.out.mono ?_
    rintro e w1 ⟨A, c, rfl, hs, hb⟩
    have hz1 : w1.heap[w.heap.size]? = some (.cells z5 24) := (hb.block _ (by simp)).trans Hz0.out
    have hg1 : w.heap.size < w1.heap.size := (Array.getElem?_eq_some_iff.1 hz1).1
    have HB1 := Lib.hid (((Below.refl w.heap.size w).alloc (Nat.le_refl _) (.cells z5 24)).trans (hb.mono (by simp)))
    have hx : RAt (w1.alloc (.cells #[.slice A l.length c, .int .i64 ((0 : Nat) : Int), .int .i64 (-1)] 74)) w1.heap.size l A c (.ok () l) := ⟨0, ⟨heap_new _ _, hs.below ((Below.refl _ _).alloc (Nat.le_refl _) _) (by simp)⟩, hlen, rfl⟩
    have HX := Lib.hid hx
    have Hz1 := Lib.hid ((Below.heap_alloc _ (.cells #[.slice A l.length c, .int .i64 ((0 : Nat) : Int), .int .i64 (-1)] 74) _ hg1).trans hz1)
    have HB1' := Lib.hid (HB1.out.alloc HB1.out.size (.cells #[.slice A l.length c, .int .i64 ((0 : Nat) : Int), .int .i64 (-1)] 74))
    clear hs hb hz1 hx
    go_wp2_with fail
    refine (code_R Hw.out hN w1.heap.size A c _ HX.out).mono ?_
    rintro e w2 ⟨N, Ls, A2, c2, cs, rfl, hs2, hl2, hlen2, hval, hr, hb2⟩
    have Hz2 := Lib.hid (hb2.row (by omega) Hz1.out)
    have HB2 := Lib.hid (HB1'.out.trans (hb2.below (by omega) HB1'.out.size))
    have HS2 := Lib.hid hs2
    have HL2 := Lib.hid hl2
    have HV := Lib.hid hval
    have hgp2 : w1.heap.size < w2.heap.size := by have := hb2.size; rw [World.size_alloc] at this; omega
    have HR2 := Lib.hid (hr.below ((Below.refl _ _).alloc (Nat.le_refl _) (.cells (srcR N (.slice A2 Ls.length c2)) 77)))
    have h62 := Lib.hid (heap_new w2 (.cells (srcR N (.slice A2 Ls.length c2)) 77))
    have Hz3 := Lib.hid ((Below.heap_alloc _ (.cells (srcR N (.slice A2 Ls.length c2)) 77) _ (by omega)).trans Hz2.out)
    have HB3 := Lib.hid (HB2.out.alloc HB2.out.size (.cells (srcR N (.slice A2 Ls.length c2)) 77))
    clear hs2 hl2 hval hr hb2 Hz1 Hz2 HX
    go_wp2_with fail
    refine (end_R ht HlE.out hN HR2.out).mono ?_
    rintro e w3 ⟨⟨T, rfl⟩, hb3, i, hcase⟩
    have Hz4 := Lib.hid (hb3.row (by omega) Hz3.out)
    have h63 := Lib.hid (hb3.row (by omega) h62.out)
    have HB4 := Lib.hid (HB3.out.trans (hb3.below (by omega) HB3.out.size))
    have k46 : KeepT 46 w2 w3 := by
      obtain ⟨cr, hcr⟩ := HR2.out.row
      exact (KeepT.alloc _ _).trans (KeepT.rb hb3 hcr (by decide))
    have k101 : KeepT 101 w2 w3 := by
      obtain ⟨cr, hcr⟩ := HR2.out.row
      exact (KeepT.alloc _ _).trans (KeepT.rb hb3 hcr (by decide))
    have HS3 := Lib.hid (HS2.out.keepT k101 k101.size)
    have HL3 := Lib.hid (HL2.out.keep k46)
    clear hb3 Hz3 h62 k46 k101 HS2 HL2 HR2
    unfold tokR
    rcases hcase with ⟨S, a, hrp, hcd, h4⟩ | ⟨p, hrp, hpb⟩
    · obtain ⟨-, -, c2', -, -, -⟩ := hrp.cells
      obtain ⟨hN', hM⟩ := HV.out () l S a rfl hcd
      have hgood := good_src hcd hN
      have hpk := parse_ok ht (S := S) (a := a) (by rw [← HlE.out]; exact hcd)
      rw [if_pos h4] at hpk
      have hbn : buildN N (srcL S) = buildS S := by rw [hN']; exact buildN_eq (codeT_good hcd)
      have hcall := build_R N Ls (srcL S) A2 c2 cs w3 hlen2 HS3.out HL3.out hM hgood
      rw [hbn] at hcall
      have Hcall := Lib.hid hcall
      have Hpk := Lib.hid hpk
      clear hrp hN' hM hgood hpk hbn hcall hcd h4 HV HS3 HL3
      go_wp2_with (refine wpList_load_row rfl 77 _ rfl w2.heap.size rfl 77 (srcR N (.slice A2 Ls.length c2)) (0, 0) _ h63.out Tryd.underlying77 rfl (info77 _ rfl) ?_)
      refine Hcall.out.mono ?_
      rintro e w5 ⟨hb5, hcase⟩
      have Hz5 := Lib.hid ((hb5.block _ (Array.getElem?_eq_some_iff.1 Hz4.out).1).trans Hz4.out)
      have HB5 := Lib.hid (HB4.out.trans (hb5.mono HB4.out.size))
      clear hb5 Hz4 c2'
      cases hbs : buildS S with
      | ok C =>
        rw [hbs] at hcase
        obtain ⟨cv, rfl, hC⟩ := hcase
        obtain ⟨v0, v1, v2, v3, v4, hcv⟩ := list5 cv.toList hC.len
        have hcv' : cv = #[v0, v1, v2, v3, v4] := by rw [← Array.toList_inj]; exact hcv
        subst hcv'
        have HC := Lib.hid hC
        have Hp2 : Hid (parseB true t.data.toList = .ok [C]) := by show _ = _; rw [Hpk.out, hbs]; rfl
        have hone : (#[v0, v1, v2, v3, v4] : Array Value).all (·.oneCell') = true := all_oneCell_toArray (cs := [v0, v1, v2, v3, v4]) hC.one
        clear hbs hC hcv
        go_wp2_with (refine wpList_store_mid rfl 24 _ _ rfl w.heap.size 0 #[v0, v1, v2, v3, v4] rfl rfl (there_of_row Hz5.out 0 5 (Nat.le_refl _)) info24 hone ?_)
        have hr : (w5.setCells w.heap.size 0 [v0, v1, v2, v3, v4]).heap[w.heap.size]? = some (.cells #[v0, v1, v2, v3, v4] 24) := by
          rw [heap_setCells (w := w) _ 0 Hz5.out]
          rfl
        have kk : ∀ ty : TypeId, 24 ≠ ty → KeepT ty w5 (w5.setCells w.heap.size 0 [v0, v1, v2, v3, v4]) := fun ty hty => KeepT.setCells hty _ 0 Hz5.out
        refine bodyPost_ret (res19 _ _ w.heap.size _ _ _ rfl rfl rfl hr rfl) rfl ?_
        show ParseRes (parseB true t.data.toList) w _ _
        rw [Hp2.out]
        exact ⟨Below.setCells (Nat.le_refl _) _ _ HB5.out, C, #[v0, v1, v2, v3, v4], rfl, rfl, HC.out.keep (kk 61 (by decide)) (kk 3 (by decide))⟩
      | bad q en =>
        rw [hbs] at hcase
        change e = _ at hcase
        subst hcase
        have Hp2 : Hid (parseB true t.data.toList = .bad q en) := by show _ = _; rw [Hpk.out, hbs]; rfl
        clear hbs
        go_wp2_with (refine wpList_store_mid rfl 24 _ _ rfl w.heap.size 0 z5 rfl rfl (there_of_row Hz5.out 0 5 (Nat.le_refl _)) info24 (by kernel_rfl) ?_)
        have hr : (w5.setCells w.heap.size 0 z5.toList).heap[w.heap.size]? = some (.cells z5 24) := by
          rw [heap_setCells (w := w) _ 0 Hz5.out]
          rfl
        refine bodyPost_ret (res19 _ _ w.heap.size z5 _ _ rfl rfl rfl hr rfl) rfl ?_
        show ParseRes (parseB true t.data.toList) w _ _
        rw [Hp2.out]
        exact ⟨Below.setCells (Nat.le_refl _) _ _ HB5.out, rfl⟩
    · obtain ⟨-, -, c2', -, -, -⟩ := hrp.cells
      have Hpb := Lib.hid hpb
      have q1 : (0 : Int) ≤ (p : Int) := by omega
      obtain ⟨zz0, zg0⟩ := cell_at Hz4.out 0 (u := strV []) rfl
      obtain ⟨zz1, zg1⟩ := cell_at Hz4.out 1 (u := .int .i64 0) rfl
      obtain ⟨zz2, zg2⟩ := cell_at Hz4.out 2 (u := .int .i64 0) rfl
      obtain ⟨zz3, zg3⟩ := cell_at Hz4.out 3 (u := .slice none 0 0) rfl
      obtain ⟨zz4, zg4⟩ := cell_at Hz4.out 4 (u := .int .i64 0) rfl
      have hn1 : ¬ w1.heap.size = w.heap.size := by omega
      have hn2 : ¬ w.heap.size = w1.heap.size := by omega
      clear hrp hpb HV HS3 HL3
      go_wp2_with fail
      go_region
      all_goals
        go_wp2_with fail
        have hr := heap_setCells (w := w) [strV [], .int .i64 0, .int .i64 0, .slice none 0 0, .int .i64 0] 0 Hz4.out
        refine bodyPost_ret (res19 _ _ w.heap.size z5 _ _ rfl rfl rfl hr rfl) rfl ?_
        show ParseRes (parseB true t.data.toList) w _ _
        rw [Hpb.out]
        exact ⟨(Below.setCells (Nat.le_refl _) [strV [], .int .i64 0, .int .i64 0, .slice none 0 0, .int .i64 0] 0 HB4.out).drew, rfl⟩
end Go.Proofs.YtafgmbchdcfkcaaDoor
