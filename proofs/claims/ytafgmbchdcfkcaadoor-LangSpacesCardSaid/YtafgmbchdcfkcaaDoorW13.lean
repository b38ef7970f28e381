/-
  The walks of parse, Parse and ParseAll.
-/
import Derived.Test.YtafgmbchdcfkcaaDoorW12
import Derived.Test.YtafgmbchdcfkcaaDoorW11
import Derived.RegionTactic
namespace Go.Proofs.YtafgmbchdcfkcaaDoor
open Go Go.RowKit Go.Walks

theorem next_bad_ne {α β : Type} {x : BR α} {f : α → BR β} (hx : ∀ p e, x = .bad p e → e ≠ 0) (hf : ∀ a p e, x = .ok a → f a = .bad p e → e ≠ 0) {p e : Nat} (h : x.next f = .bad p e) : e ≠ 0 := by
  cases x with
  | ok a => exact hf a p e rfl h
  | bad q d =>
    have : BR.bad q d = BR.bad (α := β) p e := h
    injection this with _ h2
    subst h2
    exact hx q d rfl
theorem buildRow_ne {R : Row} {d t p e : Nat} (h : buildRow R d t = .bad p e) : e ≠ 0 := by
  unfold buildRow at h
  split at h
  · injection h with _ h; omega
  · split at h
    · injection h with _ h; omega
    · split at h
      · injection h with _ h; omega
      · split at h
        · injection h with _ h; omega
        · cases h
theorem buildRows_ne {d t : Nat} : ∀ (Rs : List Row) {acc : List (List Int)} {p e : Nat}, buildRows d t acc Rs = .bad p e → e ≠ 0
  | [], _, _, _, h => by cases h
  | R :: Rs, acc, p, e, h => by
    rw [buildRows] at h
    split at h
    · exact next_bad_ne (fun _ _ h => buildRow_ne h) (fun a _ _ _ h => buildRows_ne Rs h) h
    · injection h with _ h; omega
theorem buildS_ne {S : Src} {p e : Nat} (h : buildS S = .bad p e) : e ≠ 0 := by
  unfold buildS at h
  split at h
  · split at h
    · split at h
      · refine next_bad_ne (fun _ _ h => buildRows_ne _ h) (fun a p e _ h => ?_) h
        unfold buildDom at h
        split at h
        · cases h
        · split at h
          · cases h
          · injection h with _ h; omega
      · injection h with _ h; omega
    · injection h with _ h; omega
  · injection h with _ h; omega
theorem codesB_ne : ∀ (l : List Src) {ns : List Bytes} {acc : List Code} {p e : Nat}, codesB ns acc l = .bad p e → e ≠ 0
  | [], _, _, _, _, h => by cases h
  | S :: l, ns, acc, p, e, h => by
    rw [codesB] at h
    split at h
    · split at h
      · injection h with _ h; omega
      · exact next_bad_ne (fun _ _ h => buildS_ne h) (fun a _ _ _ h => codesB_ne l h) h
    · injection h with _ h; omega
theorem parseB_ne {sg : Bool} {t : Bytes} {p e : Nat} (h : parseB sg t = .bad p e) : e ≠ 0 := by
  unfold parseB at h
  split at h
  · injection h with _ h; omega
  · unfold srcsB at h
    split at h
    · injection h with _ h; omega
    · exact codesB_ne _ h
theorem codesB_len : ∀ (l : List Src) {ns : List Bytes} {acc Cs : List Code}, codesB ns acc l = .ok Cs → Cs.length = acc.length + l.length
  | [], _, _, _, h => by injection h with h; subst h; simp
  | S :: l, ns, acc, Cs, h => by
    rw [codesB] at h
    split at h
    · split at h
      · cases h
      · cases hb : buildS S with
        | bad p e => rw [hb] at h; cases h
        | ok C =>
          rw [hb] at h
          have := codesB_len l (show codesB (ns ++ [S.name.text]) (acc ++ [C]) l = .ok Cs from h)
          rw [this]
          simp
          omega
    · cases h
theorem srcsT_len {f : Nat} : ∀ {l l' : List Src} {ts ts' : List Tok}, l.length ≤ 1 → srcsT true (f + 1) l ts = .ok l' ts' → ts.length ≤ f → l'.length = 1 := by
  induction f with
  | zero =>
    intro l l' ts ts' hl h hts
    have hnil : ts = [] := List.eq_nil_of_length_eq_zero (by omega)
    subst hnil
    rw [srcsT] at h
    split at h
    · split at h
      · cases h
      · have hc : codeT [] = .bad 0 := rfl
        rw [hc] at h; cases h
    · rename_i hc
      injection h with h _
      subst h
      have : l ≠ [] := fun e => hc (.inr ⟨rfl, e⟩)
      have := List.length_pos_iff.2 this
      omega
  | succ f ih =>
    intro l l' ts ts' hl h hts
    rw [srcsT] at h
    split at h
    · split at h
      · cases h
      · rename_i hx
        have hl0 : l = [] := by
          by_cases e : l = []
          · exact e
          · exact absurd ⟨rfl, e⟩ hx
        subst hl0
        cases hc : codeT ts with
        | bad p => rw [hc] at h; cases h
        | ok S a =>
          rw [hc, PR.next_ok] at h
          have := (codeT_ok hc).1
          exact ih (by simp) h (by omega)
    · rename_i hc
      injection h with h _
      subst h
      have : l ≠ [] := fun e => hc (.inr ⟨rfl, e⟩)
      have := List.length_pos_iff.2 this
      omega
theorem parseB_one {t : Bytes} {Cs : List Code} (h : parseB true t = .ok Cs) : Cs.length = 1 := by
  unfold parseB at h
  split at h
  · cases h
  · unfold srcsB at h
    split at h
    · cases h
    · rename_i l _ hs
      have h1 := srcsT_len (by simp) hs (Nat.le_refl _)
      have h2 := codesB_len _ h
      simp at h2
      omega

theorem res42 (tmps : Array Value) (w : World) (g : Nat) (a b v : Value) (h4 : tmps.getD 4 undef = v) (hp : tmps.getD 5 undef = .pointer (some ⟨g, 0, none⟩)) (hg : w.heap[g]? = some (.cells #[a, b] 69)) :
    (results Tryd.f42 tmps).run Tryd.prog w = .ok (.tuple #[v, .agg #[a, b]]) w := by
  have h4' : tmps[4]?.getD undef = v := by simpa using h4
  have hp' : tmps[5]?.getD undef = .pointer (some ⟨g, 0, none⟩) := by simpa using hp
  simp [results, Tryd.results42, h4', hp', asAddr, run_loadVar_row w g 69 69 #[a, b] (0, 0) _ hg Tryd.underlying69 rfl info69]
def ParsedP (x : BR (List Code)) (w : World) (e : Ending) (w' : World) : Prop := Below w.heap.size w w' ∧ match x with
  | .ok Cs => ∃ A c cc, e = .returned (.tuple #[.slice A Cs.length c, .agg #[.int .i64 0, .int .i64 0]]) ∧ SlT w' w'.heap.size 24 A cc ∧ CodesT w' Cs cc
  | .bad p en => e = .returned (.tuple #[.slice none 0 0, .agg #[.int .i64 (p : Int), .int .i64 (en : Int)]])

theorem alloc_get (w : World) (o : Obj) (i : Nat) : (w.alloc o).heap[i]? = if i = w.heap.size then some o else w.heap[i]? := by
  show (w.heap.push o)[i]? = _
  rw [Array.getElem?_push]
theorem six_blocks (w : World) (o0 o1 o2 o3 o4 o5 : Obj) {W : World} (hW : W = (((((w.alloc o0).alloc o1).alloc o2).alloc o3).alloc o4).alloc o5) :
    W.heap.size = w.heap.size + 6 ∧ Below w.heap.size w W ∧ W.heap[w.heap.size]? = some o0 ∧ W.heap[w.heap.size + 1]? = some o1 ∧ W.heap[w.heap.size + 2]? = some o2 ∧ W.heap[w.heap.size + 3]? = some o3 ∧ W.heap[w.heap.size + 4]? = some o4 ∧ W.heap[w.heap.size + 5]? = some o5 := by
  subst hW
  refine ⟨by simp, (((((((Below.refl _ _).alloc (Nat.le_refl _) _).alloc (by simp) _).alloc (by simp; omega) _).alloc (by simp; omega) _).alloc (by simp; omega) _).alloc (by simp; omega) _), ?_, ?_, ?_, ?_, ?_, ?_⟩
  all_goals
    simp only [alloc_get, World.size_alloc]
    (try simp only [if_true])
    repeat (first | rw [if_pos (by omega)] | rw [if_neg (by omega)])
theorem Cap.alloc {w : World} {r gr gt gs go : Nat} {t : ByteArray} {sg : Bool} (h : Cap w r gr gt gs go t sg) (o : Obj) : Cap (w.alloc o) r gr gt gs go t sg := by
  have k : ∀ {g : Nat} {x : Obj}, w.heap[g]? = some x → (w.alloc o).heap[g]? = some x := fun h => (Below.heap_alloc _ _ _ (Array.getElem?_eq_some_iff.1 h).1).trans h
  exact ⟨k h.at_, k h.vr, k h.vt, k h.vs, k h.vo⟩

/-- What guard gives back round parse's closure. -/
def GuardedP (w : World) (go : Nat) (x : BR (List Code)) (e : Ending) (w' : World) : Prop := Below w.heap.size w w' ∧ w'.heap[w.heap.size + 2]? = some (.cells #[.int .i64 0, .int .i64 0] 69) ∧ match x with
  | .ok Cs => e = .returned (.agg #[.int .i64 0, .int .i64 0]) ∧ ∃ A c cc, w'.heap[go]? = some (.cells #[.slice A Cs.length c] 34) ∧ SlT w' w'.heap.size 24 A cc ∧ CodesT w' Cs cc
  | .bad p en => e = .returned (.agg #[.int .i64 (p : Int), .int .i64 (en : Int)])
theorem guarded (t : ByteArray) (sg : Bool) (w W : World) (ht : t.size ≤ 2000) (hg : Gl w) (hs : W.heap.size = w.heap.size + 6) (hb : Below w.heap.size w W) (hx : W.heap[w.heap.size + 2]? = some (.cells #[.int .i64 0, .int .i64 0] 69)) (hc : Cap W (w.heap.size + 3) (w.heap.size + 4) w.heap.size (w.heap.size + 1) (w.heap.size + 5) t sg) (hmm : ∀ w : World, (Instr.makeMap 57 none).run Tryd.prog w = .ok (.map (some w.heap.size)) (w.alloc (.map #[] 0))) :
    Calls Tryd.prog 55 #[.func (.func 56) #[] #[.pointer (some ⟨w.heap.size + 4, 0, none⟩), .pointer (some ⟨w.heap.size, 0, none⟩), .pointer (some ⟨w.heap.size + 1, 0, none⟩), .pointer (some ⟨w.heap.size + 5, 0, none⟩)]] W (GuardedP w (w.heap.size + 5) (parseB sg t.data.toList)) := by
  have h7 := hg.size
  have hg2 : Gl (W.alloc (.cells #[.int .i64 0, .int .i64 0] 69)) := (hg.below hb).below ((Below.refl _ _).alloc (Nat.le_refl _) _)
  refine (guard_any _ W _ (parse1_any t _ _ _ _ _ sg (W.alloc (.cells #[.int .i64 0, .int .i64 0] 69)) ht (by omega) hg2 (hc.alloc _) hmm) ?_).mono ?_
  · intro e w' hp
    refine ⟨(hp.1.block W.heap.size (by simp) (by omega) (by omega)).trans (heap_new _ _), ?_⟩
    have h2 := hp.2
    cases hx : parseB sg t.data.toList with
    | ok Cs => rw [hx] at h2; exact .inl h2.1
    | bad p en => rw [hx] at h2; exact .inr ⟨p, en, h2⟩
  · rintro e w' ⟨e0, w0, hp, hrb, hcase⟩
    have hrow : w0.heap[W.heap.size]? = some (.cells #[.int .i64 0, .int .i64 0] 69) := (hp.1.block W.heap.size (by simp) (by omega) (by omega)).trans (heap_new _ _)
    have hbl : Below w.heap.size w w0 := by
      have ha := hb.alloc (by rw [hs]; omega) (.cells #[.int .i64 0, .int .i64 0] 69)
      exact ⟨hp.1.os.trans ha.os, hp.1.tape.trans ha.tape, hp.1.output.trans ha.output, Nat.le_trans ha.size hp.1.size, fun k hk => (hp.1.block k (Nat.lt_of_lt_of_le hk ha.size) (by omega) (by omega)).trans (ha.block k hk)⟩
    have hbl' : Below w.heap.size w w' := hbl.trans (hrb.below (by omega) (by have := hbl.size; omega))
    have hx2 : w'.heap[w.heap.size + 2]? = some (.cells #[.int .i64 0, .int .i64 0] 69) := by
      refine hrb.row (by omega) ?_
      refine (hp.1.block _ (by simp; omega) (by omega) (by omega)).trans ?_
      exact (Below.heap_alloc _ _ _ (by omega)).trans hx
    have h2 := hp.2
    refine ⟨hbl', hx2, ?_⟩
    cases hx : parseB sg t.data.toList with
    | ok Cs =>
      rw [hx] at h2
      obtain ⟨rfl, A, c, cc, h3, h4, h5⟩ := h2
      rcases hcase with ⟨-, h⟩ | ⟨p, en, h, -⟩
      · exact ⟨h, A, c, cc, hrb.row (by have := (Array.getElem?_eq_some_iff.1 h3).1; omega) h3, h4.keepT (KeepT.rb hrb hrow (by decide)) hrb.size, h5.keep (KeepT.rb hrb hrow (by decide)) (KeepT.rb hrb hrow (by decide))⟩
      · cases h
    | bad p en =>
      rw [hx] at h2
      rcases hcase with ⟨h, -⟩ | ⟨p', en', h, h'⟩
      · rw [h2] at h; cases h
      · rw [h2] at h
        simp only [wrongE, Ending.panicked.injEq, List.cons.injEq, PanicEntry.mk.injEq, Value.iface.injEq, Value.agg.injEq, Array.mk.injEq, Value.int.injEq] at h
        obtain ⟨⟨⟨_, ⟨_, h6⟩, ⟨_, h7⟩, _⟩, _⟩, _⟩ := h
        rw [h', ← h6, ← h7]

set_option maxRecDepth 100000 in
set_option maxHeartbeats 4000000 in
theorem parse_any (t : ByteArray) (sg : Bool) (w : World) (Hg : Hid (Gl w)) : Calls Tryd.prog 42 #[.string t, .bool sg] w (ParsedP (parseB sg t.data.toList) w) := by
  have hmf : ∀ (fn : Fn) (first cap : Array Value) (w : World), (Instr.makeFunc fn first cap).run Tryd.prog w = .ok (.func fn first cap) w := fun _ _ _ _ => rfl
  have hmm := fun w => run_makeMap (P := Tryd.prog) 57 w
  by_cases hsz : 2000 < t.size
  · have hi : (2000 : Int) < (t.size : Int) := by omega
    have Hb : Hid (parseB sg t.data.toList = .bad 0 2) := by show _ = _; unfold parseB; rw [if_pos (by rw [size_l]; exact hsz)]
    go_enter Tryd.func42, Tryd.ntmps42
    go_wp2_with fail
    have hr : (((w.alloc (.cells #[.string t] 9)).alloc (.cells #[.bool sg] 4)).alloc (.cells #[.int .i64 0, .int .i64 2] 69)).heap[w.heap.size + 1 + 1]? = some (.cells #[.int .i64 0, .int .i64 2] 69) := by
      have := heap_new ((w.alloc (.cells #[.string t] 9)).alloc (.cells #[.bool sg] 4)) (.cells #[.int .i64 0, .int .i64 2] 69)
      simpa using this
    refine bodyPost_ret (res42 _ _ (w.heap.size + 1 + 1) _ _ _ rfl rfl hr) rfl ?_
    show ParsedP (parseB sg t.data.toList) w _ _
    rw [Hb.out]
    exact ⟨(((Below.refl _ _).alloc (Nat.le_refl _) _).alloc (by simp) _).alloc (by simp; omega) _, rfl⟩
  · have ht : t.size ≤ 2000 := by omega
    have hi : ¬ (2000 : Int) < (t.size : Int) := by omega
    have Hne : Hid (∀ p en, parseB sg t.data.toList = .bad p en → en ≠ 0) := fun p en h => parseB_ne h
    go_enter Tryd.func42, Tryd.ntmps42
    go_wp2_with fail
    obtain ⟨W5, hW5⟩ : ∃ W5, W5 = (((((w.alloc (.cells #[.string t] 9)).alloc (.cells #[.bool sg] 4)).alloc (.cells #[.int .i64 0, .int .i64 0] 69)).alloc (.cells #[.string t, .int .i64 0] 88)).alloc (.cells #[.pointer (some ⟨w.heap.size + 1 + 1 + 1, 0, none⟩)] 86)).alloc (.cells #[.slice none 0 0] 34) := ⟨_, rfl⟩
    rw [← hW5]
    obtain ⟨q1, q2, b0, b1, b2, b3, b4, b5⟩ := six_blocks _ _ _ _ _ _ _ hW5
    have hcall := guarded t sg w W5 ht Hg.out q1 q2 b2 ⟨b3, b4, b0, b1, b5⟩ hmm
    have Hcall := Lib.hid hcall
    clear hcall hmm hmf hW5 q2 b0 b1 b2 b3 b4 b5
    refine Hcall.out.mono ?_
    rintro e w6 ⟨hb6, hx6, hcase⟩
    have HB6 := Lib.hid hb6
    have HX6 := Lib.hid hx6
    have hs6 : w.heap.size + 2 < w6.heap.size := (Array.getElem?_eq_some_iff.1 hx6).1
    clear hb6
    have hx7 : (w6.alloc (.cells #[.int .i64 0, .int .i64 0] 69)).heap[w.heap.size + 1 + 1]? = some (.cells #[.int .i64 0, .int .i64 0] 69) := (Below.heap_alloc _ _ _ hs6).trans hx6
    have hx8 : ∀ p en : Int, (w6.alloc (.cells #[.int .i64 p, .int .i64 en] 69)).heap[w.heap.size + 1 + 1]? = some (.cells #[.int .i64 0, .int .i64 0] 69) := fun p en => (Below.heap_alloc _ _ _ hs6).trans hx6
    have HX8 := Lib.hid hx8
    obtain ⟨x0, x1, x2, x3⟩ := two_cells hx7
    obtain ⟨z0, z1, z2, z3⟩ := two_cells (show w6.heap[w.heap.size + 1 + 1]? = _ from hx6)
    clear hx6 hx7 hx8
    cases hp : parseB sg t.data.toList with
    | ok Cs =>
      rw [hp] at hcase
      obtain ⟨rfl, A, c, cc, h1, h2, h3⟩ := hcase
      have y0 := cell_alloc (show w6.cell? ⟨w.heap.size + 1 + 1 + 1 + 1 + 1, 0, none⟩ = some (.slice A Cs.length c) from (cell_at h1 0 rfl).1)
      have H1 := Lib.hid h1
      have H2 := Lib.hid h2
      have H3 := Lib.hid h3
      have Hp := Lib.hid hp
      clear h1 h2 h3 hp
      go_wp2_with fail
      go_region
      all_goals
        go_wp2_with fail
        have hr := set_at (set_at HX6.out 0 (.int .i64 0)) 1 (.int .i64 0)
        have hr2 := (Below.heap_alloc _ (.cells #[.int .i64 0, .int .i64 0] 69) _ (Array.getElem?_eq_some_iff.1 hr).1).trans hr
        refine bodyPost_ret (res42 _ _ (w.heap.size + 1 + 1) _ _ _ rfl rfl hr2) rfl ?_
        have kk : ∀ ty : TypeId, 69 ≠ ty → KeepT ty w6 (((w6.setCell ⟨w.heap.size + 1 + 1, 0, none⟩ (.int .i64 0)).setCell ⟨w.heap.size + 1 + 1, 1, none⟩ (.int .i64 0)).alloc (.cells #[.int .i64 0, .int .i64 0] 69)).drew := fun ty hty => ((KeepT.setCell HX6.out hty 0 (.int .i64 0)).trans (KeepT.setCell (set_at HX6.out 0 (.int .i64 0)) hty 1 (.int .i64 0))).trans (KeepT.trans (KeepT.alloc _ (.cells #[.int .i64 0, .int .i64 0] 69)) (KeepT.drewN _ 1))
        have hbb : Below w.heap.size w (((w6.setCell ⟨w.heap.size + 1 + 1, 0, none⟩ (.int .i64 0)).setCell ⟨w.heap.size + 1 + 1, 1, none⟩ (.int .i64 0)).alloc (.cells #[.int .i64 0, .int .i64 0] 69)).drew := (((HB6.out.setCell (p := ⟨w.heap.size + 1 + 1, 0, none⟩) (by show w.heap.size ≤ w.heap.size + 1 + 1; omega) _).setCell (p := ⟨w.heap.size + 1 + 1, 1, none⟩) (by show w.heap.size ≤ w.heap.size + 1 + 1; omega) _).alloc (by simp; omega) _).drew
        show ParsedP (parseB sg t.data.toList) w _ _
        rw [Hp.out]
        exact ⟨hbb, A, c, cc, rfl, H2.out.keepT (kk 24 (by decide)) (kk 24 (by decide)).size, H3.out.keep (kk 61 (by decide)) (kk 3 (by decide))⟩
    | bad p en =>
      rw [hp] at hcase
      subst hcase
      have hne : ((en : Int) == 0) = false := by
        rw [beq_eq_false_iff_ne]
        have := Hne.out p en hp
        omega
      have Hp := Lib.hid hp
      clear hp x0 x1 x2 x3
      obtain ⟨x0, x1, x2, x3⟩ := two_cells (HX8.out p en)
      go_wp2_with fail
      go_region
      all_goals
        go_wp2_with fail
        have hr := set_at (set_at HX6.out 0 (.int .i64 (p : Int))) 1 (.int .i64 (en : Int))
        have hr2 := (Below.heap_alloc _ (.cells #[.int .i64 (p : Int), .int .i64 (en : Int)] 69) _ (Array.getElem?_eq_some_iff.1 hr).1).trans hr
        refine bodyPost_ret (res42 _ _ (w.heap.size + 1 + 1) _ _ _ rfl rfl hr2) rfl ?_
        show ParsedP (parseB sg t.data.toList) w _ _
        rw [Hp.out]
        exact ⟨(((HB6.out.setCell (p := ⟨w.heap.size + 1 + 1, 0, none⟩) (by show w.heap.size ≤ w.heap.size + 1 + 1; omega) _).setCell (p := ⟨w.heap.size + 1 + 1, 1, none⟩) (by show w.heap.size ≤ w.heap.size + 1 + 1; omega) _).alloc (by simp; omega) _).drew, rfl⟩
end Go.Proofs.YtafgmbchdcfkcaaDoor
