/-
  The walk of item: a class or a contract is read.
-/
import Derived.Test.YtimmffncfkcpfaaGreatDoorW7
import Derived.Deep.DeepCutAuto
namespace Go.Proofs.YtimmffncfkcpfaaGreatDoor
open Go Go.RowKit Go.Walks

theorem own_nil (w : World) (B : Nat) (e : TypeId) (size : Nat) : w.ownsRow B e size (.slice none 0 0) 0 [] := ⟨by simp, .inl ⟨rfl, rfl⟩⟩
theorem info80 : (Tryz.prog.info? 62).map (·.size) = some 2 := by kernel_rfl
theorem res40 (tmps : Array Value) (w : World) (g : Nat) (a b : Value) (hp : tmps.getD 2 undef = .pointer (some ⟨g, 0, none⟩)) (hg : w.heap[g]? = some (.cells #[a, b] 62)) :
    (results Tryz.f17 tmps).run Tryz.prog w = .ok (.agg #[a, b]) w :=
  results_cell_row (p := 2) (ty := 62) rfl tmps w g 62 #[a, b] (0, 0) _ hp hg Tryz.underlying62 rfl info80
def ItemIs (x : Item) (w : World) (e : Ending) (w' : World) : Prop := ∃ A c, e = .returned (.agg #[.bool x.tenant, .slice A x.fields.length c]) ∧ w'.ownsRow w.heap.size 65 3 (.slice A x.fields.length c) x.fields.length (fieldCells x.fields)
section
variable {w W W' : World} {r gx gp gz n c : Nat} {t : ByteArray} {tn : Bool} {A : Option Addr} {fs : List Field} {ts ts' : List Tok}
theorem IS.must (h : IS w r t gx gp gz tn A n c fs ts W) (hg : Gl w) (hr7 : 7 ≤ r) (ht : t.size ≤ 2000) (ss : List Bytes) (hne : ∀ s ∈ ss, s ≠ []) (h0 : ss ≠ []) (hl : ss.length ≤ 100) (cs : Array Value) (hcs : cs = (ss.map strV).toArray) (k : Nat) (hk : k = ss.length) :
    Calls Tryz.prog 52 #[.pointer (some ⟨r, 0, none⟩), .slice (some ⟨W.heap.size, 0, none⟩) k k] (W.alloc (.cells cs 9)) (fun e w' => match mustsT ss ts with
      | .ok _ a => e = .returned (.tuple #[]) ∧ IS w r t gx gp gz tn A n c fs a w'
      | .bad p => e = wrongE p 3 ∧ RB r w w') := by
  subst hcs hk
  have hI : IS w r t gx gp gz tn A n c fs ts (W.alloc (.cells (ss.map strV).toArray 9)) := h.below ((Below.refl _ _).alloc (Nat.le_refl _) _)
  refine (musts_T t r _ ts ss (some ⟨W.heap.size, 0, none⟩) ss.length hne h0 hl ht hr7 (hI.gl hg hr7) hI.at_ (slT_new W (ss.map strV) 9)).mono ?_
  intro e w' h'
  unfold PRes at h'
  cases hx : mustsT ss ts with
  | ok u a =>
    rw [hx] at h'
    exact ⟨h'.1, hI.call h'.2.2 h'.2.1⟩
  | bad p =>
    rw [hx] at h'
    exact ⟨h'.1, hI.rb.trans h'.2⟩
theorem IRes.step {P : Program} {f : FuncId} {args : Array Value} {x : PR Field} {W0 : World} {R : Ending → World → Prop} (h : Calls P f args W (IRes w r t gx gp gz tn fs x W0))
    (hok : ∀ F a, x = .ok F a → ∀ A n c w', IS w r t gx gp gz tn A n c (fs ++ [F]) a w' → R (.returned (.tuple #[])) w') (hbad : ∀ p, x = .bad p → ∀ w', RB r w w' → R (wrongE p 3) w') : Calls P f args W R := by
  refine h.mono ?_
  intro e w' hp
  cases x with
  | ok F a =>
    obtain ⟨rfl, A, n, c, h1⟩ := hp
    exact hok F a rfl A n c w' h1
  | bad p =>
    obtain ⟨rfl, hb⟩ := hp
    exact hbad p rfl w' hb
theorem must_step {P : Program} {f : FuncId} {args : Array Value} {x : PR Unit} {R : Ending → World → Prop} (h : Calls P f args W (fun e w' => match x with
      | .ok _ a => e = .returned (.tuple #[]) ∧ IS w r t gx gp gz tn A n c fs a w'
      | .bad p => e = wrongE p 3 ∧ RB r w w'))
    (hok : ∀ a, x = .ok () a → ∀ w', IS w r t gx gp gz tn A n c fs a w' → R (.returned (.tuple #[])) w') (hbad : ∀ p, x = .bad p → ∀ w', RB r w w' → R (wrongE p 3) w') : Calls P f args W R := by
  refine h.mono ?_
  intro e w' hp
  cases x with
  | ok u a => obtain ⟨rfl, h1⟩ := hp; exact hok a rfl w' h1
  | bad p => obtain ⟨rfl, hb⟩ := hp; exact hbad p rfl w' hb
end

theorem must1_ok {s : Bytes} {ts a : List Tok} (h : mustsT [s] ts = .ok () a) : ∃ T, mustT s ts = .ok T a := by
  unfold mustsT mustsT at h
  cases hm : mustT s ts with
  | ok T b =>
    rw [hm] at h
    have h : PR.ok () b = PR.ok () a := h
    injection h with _ h
    exact ⟨T, by rw [h]⟩
  | bad p => rw [hm] at h; cases h
theorem must1_bad {s : Bytes} {ts : List Tok} {p : Nat} (h : mustsT [s] ts = .bad p) : mustT s ts = .bad p := by
  unfold mustsT mustsT at h
  cases hm : mustT s ts with
  | ok T b => rw [hm] at h; cases h
  | bad q =>
    rw [hm] at h
    have h : (PR.bad q : PR Unit) = .bad p := h
    injection h with h
    rw [h]
theorem must2_ok {ts a : List Tok} {fs : List Field} (h : mustsT [kSemi, kClose] ts = .ok () a) : closeT fs ts = .ok fs a := by
  unfold mustsT mustsT mustsT at h
  unfold closeT
  cases hm : mustT kSemi ts with
  | ok T b =>
    rw [hm] at h
    rw [PR.next_ok]
    have h : (mustT kClose b).next (fun _ a => PR.ok () a) = .ok () a := h
    cases hk : mustT kClose b with
    | ok T' d =>
      rw [hk] at h
      have h : PR.ok () d = PR.ok () a := h
      injection h with _ h
      rw [h]; rfl
    | bad q => rw [hk] at h; cases h
  | bad p => rw [hm] at h; cases h
theorem must2_bad {ts : List Tok} {p : Nat} {fs : List Field} (h : mustsT [kSemi, kClose] ts = .bad p) : closeT fs ts = .bad p := by
  unfold mustsT mustsT mustsT at h
  unfold closeT
  cases hm : mustT kSemi ts with
  | ok T b =>
    rw [hm] at h
    rw [PR.next_ok]
    have h : (mustT kClose b).next (fun _ a => PR.ok () a) = .bad p := h
    cases hk : mustT kClose b with
    | ok T' d => rw [hk] at h; cases h
    | bad q =>
      rw [hk] at h
      have h : (PR.bad q : PR Unit) = .bad p := h
      injection h with h
      rw [h]; rfl
  | bad q =>
    rw [hm] at h
    have h : (PR.bad q : PR Unit) = .bad p := h
    injection h with h
    rw [h]; rfl
theorem IS.start {w : World} {r : Nat} {t : ByteArray} {ts : List Tok} (h : PS w r t ts) (tn : Bool) : IS w r t (w.heap.size + 1 + 1) w.heap.size (w.heap.size + 1) tn none 0 0 [] ts
    (((w.alloc (.cells #[.pointer (some ⟨r, 0, none⟩)] 52)).alloc (.cells #[.bool false, .slice none 0 0] 62)).alloc (.cells #[.bool tn, .slice none 0 0] 62)) := by
  have h1 := heap_new w (.cells #[.pointer (some ⟨r, 0, none⟩)] 52)
  have h2 := heap_new (w.alloc (.cells #[.pointer (some ⟨r, 0, none⟩)] 52)) (.cells #[.bool false, .slice none 0 0] 62)
  have h3 := heap_new ((w.alloc (.cells #[.pointer (some ⟨r, 0, none⟩)] 52)).alloc (.cells #[.bool false, .slice none 0 0] 62)) (.cells #[.bool tn, .slice none 0 0] 62)
  have e1 : (w.alloc (.cells #[.pointer (some ⟨r, 0, none⟩)] 52)).heap.size = w.heap.size + 1 := by simp
  have e2 : ((w.alloc (.cells #[.pointer (some ⟨r, 0, none⟩)] 52)).alloc (.cells #[.bool false, .slice none 0 0] 62)).heap.size = w.heap.size + 1 + 1 := by simp
  rw [e1] at h2
  rw [e2] at h3
  have hb := ((((Below.refl w.heap.size w).alloc (Nat.le_refl _) (.cells #[.pointer (some ⟨r, 0, none⟩)] 52)).alloc (by simp) (.cells #[.bool false, .slice none 0 0] 62)).alloc (by simp; omega) (.cells #[.bool tn, .slice none 0 0] 62))
  refine ⟨h.below hb, RB.of_below hb, h.lt, by omega, by omega, by omega, by omega, h3, ?_, ?_, own_nil _ _ _ _, rfl⟩
  · exact (Below.heap_alloc _ _ _ (by simp; omega)).trans ((Below.heap_alloc _ _ _ (by simp)).trans h1)
  · exact (Below.heap_alloc _ _ _ (by simp)).trans h2
theorem IS.done {w W : World} {r gx gp gz n c : Nat} {t : ByteArray} {tn : Bool} {A : Option Addr} {fs : List Field} {ts : List Tok} (h : IS w r t gx gp gz tn A n c fs ts W) (x : Item) (hx : x = ⟨tn, fs⟩) :
    ItemIs x w (.returned (.agg #[.bool tn, .slice A n c])) ((W.setCell ⟨gz, 0, none⟩ (.bool tn)).setCell ⟨gz, 1, none⟩ (.slice A n c)) ∧ PS ((W.setCell ⟨gz, 0, none⟩ (.bool tn)).setCell ⟨gz, 1, none⟩ (.slice A n c)) r t ts ∧ RB r w ((W.setCell ⟨gz, 0, none⟩ (.bool tn)).setCell ⟨gz, 1, none⟩ (.slice A n c)) := by
  subst hx
  have hz := h.z
  have := h.lt; have := h.lz
  have hl := h.len
  refine ⟨⟨A, c, by rw [← hl], ?_⟩, (h.at_.setNew (by omega)).setNew (by omega), (h.rb.setNew h.lz _ _).setNew h.lz _ _⟩
  show World.ownsRow _ _ _ _ (.slice A fs.length c) fs.length (fieldCells fs)
  rw [← hl]
  exact own_setCell (own_setCell h.own hz (by decide) 0 _) (set_at hz 0 _) (by decide) 1 _

set_option maxRecDepth 100000 in
set_option maxHeartbeats 1000000 in
theorem item_T (t : ByteArray) (r : Nat) (w : World) (ts : List Tok) (ht : t.size ≤ 2000) (hr7 : 7 ≤ r) (Hg : Hid (Gl w)) (Hp : Hid (PS w r t ts)) :
    Calls Tryz.prog 17 #[.pointer (some ⟨r, 0, none⟩)] w (PRes t r (itemT ts) ItemIs w) := by
  have hmf : ∀ (fn : Fn) (first cap : Array Value) (w : World), (Instr.makeFunc fn first cap).run Tryz.prog w = .ok (.func fn first cap) w := fun _ _ _ _ => rfl
  obtain ⟨T, rest, hts, hps, hle, -⟩ := Hp.out.head
  have ca : ∀ o1 o2 : Obj, ((w.alloc o1).alloc o2).cell? ⟨r, 1, none⟩ = some (.string ⟨T.text.toArray⟩) := fun o1 o2 => (cell_at (below_cells hps (((Below.refl w.heap.size w).alloc (Nat.le_refl _) o1).alloc (by simp) o2)) 1 rfl).1
  have hhd : headTx ts = T.text := by rw [hts]; rfl
  have hkT : (T.text == kTenant) = headIs kTenant ts := by rw [headIs_tx _ (by decide), hhd]
  have hkC : (T.text == kClass) = headIs kClass ts := by rw [headIs_tx _ (by decide), hhd]
  cases htn : headIs kTenant ts with
  | true =>
    have hq : (T.text == [116, 101, 110, 97, 110, 116]) = true := by rw [← htn, ← hkT]; rfl
    have S0 := Lib.hid (IS.start Hp.out true)
    have hN : itemT ts = (mustT kTenant ts).next fun _ a => (tenantT a).next fun fs b => .ok ⟨true, fs⟩ b := by unfold itemT; rw [if_pos htn]
    have HN := Lib.hid hN
    have S0d := Lib.hid (S0.out.below ((Below.refl _ _).drew))
    have htake := take_T t r _ ts (· == kTenant) (by decide) ht hr7 (S0d.out.gl Hg.out hr7) S0d.out.at_
    have hb0 : (headTx ts == kTenant) = true := by rw [hhd]; exact hq
    rw [hb0] at htake
    have Htake := Lib.hid htake
    clear hts hps hle hN htake hb0 hhd hkT hkC
    go_enter Tryz.func17, Tryz.ntmps17
    go_upto_region 4 with fail
    obtain ⟨W0, hW0⟩ : ∃ W0, W0 = ((w.alloc (.cells #[.pointer (some ⟨r, 0, none⟩)] 52)).alloc (.cells #[.bool false, .slice none 0 0] 62)).alloc (.cells #[.bool true, .slice none 0 0] 62) := ⟨_, rfl⟩
    rw [← hW0] at S0 S0d Htake
    rw [← hW0]
    clear hW0 ca hq htn
    obtain ⟨x0, -⟩ := cell_at S0.out.x 0 (u := .bool true) rfl
    obtain ⟨p0, -⟩ := cell_at S0.out.p 0 (u := .pointer (some ⟨r, 0, none⟩)) rfl
    refine wp_region_held_drew (S := fun w' => w'.cell? ⟨w.heap.size, 0, none⟩ = some (.pointer (some ⟨r, 0, none⟩)) ∧ w'.cell? ⟨w.heap.size + 1 + 1, 0, none⟩ = some (.bool true)) (by kernel_rfl) ⟨p0, x0⟩ (fun hHeld => ?_)
    refine wpAnyH_take (i := 0) (v := ?_) rfl (by kernel_rfl) (by kernel_rfl) (by kernel_rfl) (fun _ _ _ h => h) (Or.inl ⟨by rfl, ?_⟩) hHeld ?_
    rotate_left
    · intro w hSw; (try dsimp only at hSw); go_simp
      with_reducible rfl
    refine wpAnyH_take (i := 1) (v := ?_) rfl (by kernel_rfl) (by kernel_rfl) (by kernel_rfl) (fun _ _ _ h => h) (Or.inl ⟨by rfl, ?_⟩) hHeld ?_
    rotate_left
    · intro w hSw; (try dsimp only at hSw); go_simp
      with_reducible rfl
    refine wpAnyH_take (i := 2) (v := ?_) rfl (by kernel_rfl) (by kernel_rfl) (by kernel_rfl) (fun _ _ _ h => h) (Or.inl ⟨by rfl, ?_⟩) hHeld ?_
    rotate_left
    · intro w hSw; (try dsimp only at hSw); go_simp
      with_reducible rfl
    refine wpAnyH_take (i := 3) (v := ?_) rfl (by kernel_rfl) (by kernel_rfl) (by kernel_rfl) (fun _ _ _ h => h) (Or.inl ⟨by rfl, ?_⟩) hHeld ?_
    rotate_left
    · intro w hSw; (try dsimp only at hSw); go_simp
      with_reducible rfl
    refine wpAnyH_take (i := 4) (v := undef) rfl (by kernel_rfl) (by kernel_rfl) (by kernel_rfl) (fun _ _ _ h => h) (Or.inr ⟨by kernel_rfl, rfl⟩) hHeld ?_
    refine wpAnyH_take (i := 5) (v := undef) rfl (by kernel_rfl) (by kernel_rfl) (by kernel_rfl) (fun _ _ _ h => h) (Or.inr ⟨by kernel_rfl, rfl⟩) hHeld ?_
    refine wpAnyH_take (i := 6) (v := undef) rfl (by kernel_rfl) (by kernel_rfl) (by kernel_rfl) (fun _ _ _ h => h) (Or.inr ⟨by kernel_rfl, rfl⟩) hHeld ?_
    refine wpAnyH_take (i := 7) (v := undef) rfl (by kernel_rfl) (by kernel_rfl) (by kernel_rfl) (fun _ _ _ h => h) (Or.inr ⟨by kernel_rfl, rfl⟩) hHeld ?_
    refine wpAnyH_take (i := 8) (v := undef) rfl (by kernel_rfl) (by kernel_rfl) (by kernel_rfl) (fun _ _ _ h => h) (Or.inr ⟨by kernel_rfl, rfl⟩) hHeld ?_
    refine wpAnyH_take (i := 9) (v := undef) rfl (by kernel_rfl) (by kernel_rfl) (by kernel_rfl) (fun _ _ _ h => h) (Or.inr ⟨by kernel_rfl, rfl⟩) hHeld ?_
    refine wpAnyH_take (i := 10) (v := ?_) rfl (by kernel_rfl) (by kernel_rfl) (by kernel_rfl) (fun _ _ _ h => h) (Or.inl ⟨by rfl, ?_⟩) hHeld ?_
    rotate_left
    · intro w hSw; (try dsimp only at hSw); go_simp
      with_reducible rfl
    refine wpAnyH_ready (rs := [11]) (by kernel_rfl) (by simp) ?_
    refine AllReadyH.cons rfl (fun K hK => ?_) AllReadyH.nil
    go_simp
    go_at_call 50
    refine PRes.step Htake.out ?_ ?_
    rotate_left
    · intro p hx wb hb
      have h := HN.out
      unfold mustT at h
      rw [hx, PR.next_bad] at h
      have HE := Lib.hid h
      have HB := Lib.hid (S0d.out.rb.trans hb)
      clear h hx hb
      unfold wrongE
      dsimp only
      refine ⟨rfl, ?_⟩
      show PRes t r (itemT ts) ItemIs w _ _
      rw [HE.out]
      exact ⟨rfl, HB.out⟩
    intro T1 a hx e w1 hv hp1 hb1
    unfold TokIs at hv
    subst hv
    have h := HN.out
    unfold mustT at h
    rw [hx, PR.next_ok] at h
    unfold tenantT at h
    have S := Lib.hid (S0d.out.call hb1 hp1)
    clear HN hx hp1 hb1 x0 p0 S0 S0d Htake
    have HN := Lib.hid h
    clear h
    obtain ⟨x0, -⟩ := cell_at S.out.x 0 (u := .bool true) rfl
    obtain ⟨p0, -⟩ := cell_at S.out.p 0 (u := .pointer (some ⟨r, 0, none⟩)) rfl
    dsimp only
    refine hK.out _ _ ⟨p0, x0⟩ (fun hHeld => ?_)
    refine wpAnyH_done (by kernel_rfl) ?_ _
    clear hK K hHeld x0 p0
    obtain ⟨x0, -⟩ := cell_at S.out.x 0 (u := .bool true) rfl
    obtain ⟨p0, -⟩ := cell_at S.out.p 0 (u := .pointer (some ⟨r, 0, none⟩)) rfl
    go_wp2_with fail
    refine IRes.step (name_T t r _ _ _ _ _ true _ _ w _ _ [] ht hr7 (by simp <;> omega) Hg S) ?_ ?_
    rotate_left
    · intro p hx wb hb
      have h := HN.out
      rw [hx, PR.next_bad] at h
      have HE := Lib.hid h
      clear h hx
      have HB := Lib.hid hb
      clear hb
      unfold wrongE
      go_wp2_with fail
      refine ⟨rfl, ?_⟩
      show PRes t r (itemT ts) ItemIs w _ _
      rw [HE.out]
      exact ⟨rfl, HB.out⟩
    intro F1 a hx A1 n1 c1 w1 S'
    have h := HN.out
    rw [hx, PR.next_ok] at h
    clear HN S hx x0 p0
    have HN := Lib.hid h
    have S := Lib.hid S'
    clear h S'
    obtain ⟨x0, -⟩ := cell_at S.out.x 0 (u := .bool true) rfl
    obtain ⟨p0, -⟩ := cell_at S.out.p 0 (u := .pointer (some ⟨r, 0, none⟩)) rfl
    go_wp2_with fail
    refine must_step (S.out.must Hg.out hr7 ht [kOpen] (by decide) (by simp) (by simp) _ rfl _ rfl) ?_ ?_
    rotate_left
    · intro p hx wb hb
      have h := HN.out
      rw [must1_bad hx, PR.next_bad] at h
      have HE := Lib.hid h
      clear h hx
      have HB := Lib.hid hb
      clear hb
      unfold wrongE
      go_wp2_with fail
      refine ⟨rfl, ?_⟩
      show PRes t r (itemT ts) ItemIs w _ _
      rw [HE.out]
      exact ⟨rfl, HB.out⟩
    intro a hx w1 S'
    have h := HN.out
    obtain ⟨T1, h1⟩ := must1_ok hx
    rw [h1, PR.next_ok] at h
    clear HN S hx h1 x0 p0
    have HN := Lib.hid h
    have S := Lib.hid S'
    clear h S'
    obtain ⟨x0, -⟩ := cell_at S.out.x 0 (u := .bool true) rfl
    obtain ⟨p0, -⟩ := cell_at S.out.p 0 (u := .pointer (some ⟨r, 0, none⟩)) rfl
    go_wp2_with fail
    refine IRes.step (number_T t r _ _ _ _ _ true _ _ w _ _ kGuar (by decide) ht hr7 (by simp <;> omega) Hg S) ?_ ?_
    rotate_left
    · intro p hx wb hb
      have h := HN.out
      rw [hx, PR.next_bad] at h
      have HE := Lib.hid h
      clear h hx
      have HB := Lib.hid hb
      clear hb
      unfold wrongE
      go_wp2_with fail
      refine ⟨rfl, ?_⟩
      show PRes t r (itemT ts) ItemIs w _ _
      rw [HE.out]
      exact ⟨rfl, HB.out⟩
    intro F2 a hx A1 n1 c1 w1 S'
    have h := HN.out
    rw [hx, PR.next_ok] at h
    clear HN S hx x0 p0
    have HN := Lib.hid h
    have S := Lib.hid S'
    clear h S'
    obtain ⟨x0, -⟩ := cell_at S.out.x 0 (u := .bool true) rfl
    obtain ⟨p0, -⟩ := cell_at S.out.p 0 (u := .pointer (some ⟨r, 0, none⟩)) rfl
    go_wp2_with fail
    refine must_step (S.out.must Hg.out hr7 ht [kSemi] (by decide) (by simp) (by simp) _ rfl _ rfl) ?_ ?_
    rotate_left
    · intro p hx wb hb
      have h := HN.out
      rw [must1_bad hx, PR.next_bad] at h
      have HE := Lib.hid h
      clear h hx
      have HB := Lib.hid hb
      clear hb
      unfold wrongE
      go_wp2_with fail
      refine ⟨rfl, ?_⟩
      show PRes t r (itemT ts) ItemIs w _ _
      rw [HE.out]
      exact ⟨rfl, HB.out⟩
    intro a hx w1 S'
    have h := HN.out
    obtain ⟨T1, h1⟩ := must1_ok hx
    rw [h1, PR.next_ok] at h
    clear HN S hx h1 x0 p0
    have HN := Lib.hid h
    have S := Lib.hid S'
    clear h S'
    obtain ⟨p0, -⟩ := cell_at S.out.p 0 (u := .pointer (some ⟨r, 0, none⟩)) rfl
    obtain ⟨T9, rest9, hts9, hps9, -, -⟩ := S.out.at_.head
    obtain ⟨r0, -⟩ := cell_at hps9 1 (u := .string ⟨T9.text.toArray⟩) rfl
    have hhd : headTx a = T9.text := by rw [hts9]; rfl
    have Hhd := Lib.hid hhd
    clear hts9 hps9 hhd
    go_upto_if 64 with fail
    clear r0
    go_cut [] (fun wx => Hid (∃ s e A n c, optS a = .ok s e ∧ s.length ≤ 2 ∧ IS w r t (w.heap.size + 1 + 1) w.heap.size (w.heap.size + 1) true A n c (([] ++ [F1] ++ [F2]) ++ s) e wx))
    case first =>
      cases hh : headIs kSnap a with
      | true =>
        have hq : (T9.text == [115, 110, 97, 112, 115, 104, 111, 116, 115]) = true := by rw [← hh, headIs_tx _ (by decide), Hhd.out]; rfl
        rw [hq]
        have h : optS a = (numF kSnap a).next fun f a => (mustT kSemi a).next fun _ b => PR.ok [f] b := by unfold optS; rw [if_pos hh]
        have HN0 := HN
        clear hh HN
        have HN := Lib.hid h
        clear h
        obtain ⟨x0, -⟩ := cell_at S.out.x 0 (u := .bool true) rfl
        obtain ⟨p0, -⟩ := cell_at S.out.p 0 (u := .pointer (some ⟨r, 0, none⟩)) rfl
        go_wp2_with fail
        refine IRes.step (number_T t r _ _ _ _ _ true _ _ w _ _ kSnap (by decide) ht hr7 (by simp <;> omega) Hg S) ?_ ?_
        rotate_left
        · intro p hx wb hb
          have h := HN.out
          rw [hx, PR.next_bad] at h
          have HE := Lib.hid h
          clear h hx
          have HB := Lib.hid hb
          clear hb
          unfold wrongE
          go_wp2_with fail
          refine ⟨rfl, ?_⟩
          show PRes t r (itemT ts) ItemIs w _ _
          rw [HN0.out, HE.out]
          exact ⟨rfl, HB.out⟩
        intro F3 a hx A1 n1 c1 w1 S'
        have h := HN.out
        rw [hx, PR.next_ok] at h
        clear HN S hx x0 p0
        have HN := Lib.hid h
        have S := Lib.hid S'
        clear h S'
        obtain ⟨x0, -⟩ := cell_at S.out.x 0 (u := .bool true) rfl
        obtain ⟨p0, -⟩ := cell_at S.out.p 0 (u := .pointer (some ⟨r, 0, none⟩)) rfl
        go_wp2_with fail
        refine must_step (S.out.must Hg.out hr7 ht [kSemi] (by decide) (by simp) (by simp) _ rfl _ rfl) ?_ ?_
        rotate_left
        · intro p hx wb hb
          have h := HN.out
          rw [must1_bad hx, PR.next_bad] at h
          have HE := Lib.hid h
          clear h hx
          have HB := Lib.hid hb
          clear hb
          unfold wrongE
          go_wp2_with fail
          refine ⟨rfl, ?_⟩
          show PRes t r (itemT ts) ItemIs w _ _
          rw [HN0.out, HE.out]
          exact ⟨rfl, HB.out⟩
        intro a hx w1 S'
        have h := HN.out
        obtain ⟨T1, h1⟩ := must1_ok hx
        rw [h1, PR.next_ok] at h
        clear HN S hx h1 x0 p0
        have HN := Lib.hid h
        have S := Lib.hid S'
        clear h S'
        go_wp2_with fail
        go_meet
        exact ⟨_, a, _, _, _, HN.out, by simp, by first | exact S.out | (have h := S.out; rw [List.append_assoc] at h; exact h)⟩
      | false =>
        have hq : (T9.text == [115, 110, 97, 112, 115, 104, 111, 116, 115]) = false := by rw [← hh, headIs_tx _ (by decide), Hhd.out]; rfl
        rw [hq]
        have HO : Hid (optS a = .ok [] a) := by show _ = _; unfold optS; rw [if_neg (by rw [hh]; simp)]
        clear hh
        go_wp2_with fail
        go_meet
        exact ⟨[], a, _, _, _, HO.out, by simp, by rw [List.append_nil]; exact S.out⟩
    case rest =>
      obtain ⟨s1, e9, A9, n9, c9, hO, hl1, hS⟩ := hcut.out
      have h := HN.out
      rw [hO, PR.next_ok] at h
      clear HN hcut hO S Hhd p0
      have HN := Lib.hid h
      have S := Lib.hid hS
      clear h hS
      obtain ⟨a, ha⟩ : ∃ a, a = e9 := ⟨_, rfl⟩
      subst ha
      obtain ⟨p0, -⟩ := cell_at S.out.p 0 (u := .pointer (some ⟨r, 0, none⟩)) rfl
      obtain ⟨T9, rest9, hts9, hps9, -, -⟩ := S.out.at_.head
      obtain ⟨r0, -⟩ := cell_at hps9 1 (u := .string ⟨T9.text.toArray⟩) rfl
      have hhd : headTx a = T9.text := by rw [hts9]; rfl
      have Hhd := Lib.hid hhd
      clear hts9 hps9 hhd
      go_upto_if 75 with fail
      clear r0
      go_cut [] (fun wx => Hid (∃ s e A n c, optB a = .ok s e ∧ s.length ≤ 2 ∧ IS w r t (w.heap.size + 1 + 1) w.heap.size (w.heap.size + 1) true A n c (([] ++ [F1] ++ [F2] ++ s1) ++ s) e wx))
      case first =>
        cases hh : headIs kBurst a with
        | true =>
          have hq : (T9.text == [98, 117, 114, 115, 116]) = true := by rw [← hh, headIs_tx _ (by decide), Hhd.out]; rfl
          rw [hq]
          have h : optB a = (numF kBurst a).next fun f a => (numF kRank a).next fun g b => (mustT kSemi b).next fun _ c => PR.ok [f, g] c := by unfold optB; rw [if_pos hh]
          have HN0 := HN
          clear hh HN
          have HN := Lib.hid h
          clear h
          obtain ⟨x0, -⟩ := cell_at S.out.x 0 (u := .bool true) rfl
          obtain ⟨p0, -⟩ := cell_at S.out.p 0 (u := .pointer (some ⟨r, 0, none⟩)) rfl
          go_wp2_with fail
          refine IRes.step (number_T t r _ _ _ _ _ true _ _ w _ _ kBurst (by decide) ht hr7 (by simp <;> omega) Hg S) ?_ ?_
          rotate_left
          · intro p hx wb hb
            have h := HN.out
            rw [hx, PR.next_bad] at h
            have HE := Lib.hid h
            clear h hx
            have HB := Lib.hid hb
            clear hb
            unfold wrongE
            go_wp2_with fail
            refine ⟨rfl, ?_⟩
            show PRes t r (itemT ts) ItemIs w _ _
            rw [HN0.out, HE.out]
            exact ⟨rfl, HB.out⟩
          intro F4 a hx A1 n1 c1 w1 S'
          have h := HN.out
          rw [hx, PR.next_ok] at h
          clear HN S hx x0 p0
          have HN := Lib.hid h
          have S := Lib.hid S'
          clear h S'
          obtain ⟨x0, -⟩ := cell_at S.out.x 0 (u := .bool true) rfl
          obtain ⟨p0, -⟩ := cell_at S.out.p 0 (u := .pointer (some ⟨r, 0, none⟩)) rfl
          go_wp2_with fail
          refine IRes.step (number_T t r _ _ _ _ _ true _ _ w _ _ kRank (by decide) ht hr7 (by simp <;> omega) Hg S) ?_ ?_
          rotate_left
          · intro p hx wb hb
            have h := HN.out
            rw [hx, PR.next_bad] at h
            have HE := Lib.hid h
            clear h hx
            have HB := Lib.hid hb
            clear hb
            unfold wrongE
            go_wp2_with fail
            refine ⟨rfl, ?_⟩
            show PRes t r (itemT ts) ItemIs w _ _
            rw [HN0.out, HE.out]
            exact ⟨rfl, HB.out⟩
          intro F5 a hx A1 n1 c1 w1 S'
          have h := HN.out
          rw [hx, PR.next_ok] at h
          clear HN S hx x0 p0
          have HN := Lib.hid h
          have S := Lib.hid S'
          clear h S'
          obtain ⟨x0, -⟩ := cell_at S.out.x 0 (u := .bool true) rfl
          obtain ⟨p0, -⟩ := cell_at S.out.p 0 (u := .pointer (some ⟨r, 0, none⟩)) rfl
          go_wp2_with fail
          refine must_step (S.out.must Hg.out hr7 ht [kSemi] (by decide) (by simp) (by simp) _ rfl _ rfl) ?_ ?_
          rotate_left
          · intro p hx wb hb
            have h := HN.out
            rw [must1_bad hx, PR.next_bad] at h
            have HE := Lib.hid h
            clear h hx
            have HB := Lib.hid hb
            clear hb
            unfold wrongE
            go_wp2_with fail
            refine ⟨rfl, ?_⟩
            show PRes t r (itemT ts) ItemIs w _ _
            rw [HN0.out, HE.out]
            exact ⟨rfl, HB.out⟩
          intro a hx w1 S'
          have h := HN.out
          obtain ⟨T1, h1⟩ := must1_ok hx
          rw [h1, PR.next_ok] at h
          clear HN S hx h1 x0 p0
          have HN := Lib.hid h
          have S := Lib.hid S'
          clear h S'
          go_wp2_with fail
          go_meet
          exact ⟨_, a, _, _, _, HN.out, by simp, by first | exact S.out | (have h := S.out; rw [List.append_assoc] at h; exact h)⟩
        | false =>
          have hq : (T9.text == [98, 117, 114, 115, 116]) = false := by rw [← hh, headIs_tx _ (by decide), Hhd.out]; rfl
          rw [hq]
          have HO : Hid (optB a = .ok [] a) := by show _ = _; unfold optB; rw [if_neg (by rw [hh]; simp)]
          clear hh
          go_wp2_with fail
          go_meet
          exact ⟨[], a, _, _, _, HO.out, by simp, by rw [List.append_nil]; exact S.out⟩
      case rest =>
        obtain ⟨s2, e9, A9, n9, c9, hO, hl2, hS⟩ := hcut.out
        have h := HN.out
        rw [hO, PR.next_ok] at h
        clear HN hcut hO S Hhd p0
        have HN := Lib.hid h
        have S := Lib.hid hS
        clear h hS
        obtain ⟨a, ha⟩ : ∃ a, a = e9 := ⟨_, rfl⟩
        subst ha
        obtain ⟨x0, -⟩ := cell_at S.out.x 0 (u := .bool true) rfl
        obtain ⟨p0, -⟩ := cell_at S.out.p 0 (u := .pointer (some ⟨r, 0, none⟩)) rfl
        go_wp2_with fail
        refine must_step (S.out.must Hg.out hr7 ht [kClass] (by decide) (by simp) (by simp) _ rfl _ rfl) ?_ ?_
        rotate_left
        · intro p hx wb hb
          have h := HN.out
          rw [must1_bad hx, PR.next_bad] at h
          have HE := Lib.hid h
          clear h hx
          have HB := Lib.hid hb
          clear hb
          unfold wrongE
          go_wp2_with fail
          refine ⟨rfl, ?_⟩
          show PRes t r (itemT ts) ItemIs w _ _
          rw [HE.out]
          exact ⟨rfl, HB.out⟩
        intro a hx w1 S'
        have h := HN.out
        obtain ⟨T1, h1⟩ := must1_ok hx
        rw [h1, PR.next_ok] at h
        clear HN S hx h1 x0 p0
        have HN := Lib.hid h
        have S := Lib.hid S'
        clear h S'
        obtain ⟨x0, -⟩ := cell_at S.out.x 0 (u := .bool true) rfl
        obtain ⟨p0, -⟩ := cell_at S.out.p 0 (u := .pointer (some ⟨r, 0, none⟩)) rfl
        go_wp2_with fail
        refine IRes.step (name_T t r _ _ _ _ _ true _ _ w _ _ kClass ht hr7 (by simp <;> omega) Hg S) ?_ ?_
        rotate_left
        · intro p hx wb hb
          have h := HN.out
          rw [hx, PR.next_bad] at h
          have HE := Lib.hid h
          clear h hx
          have HB := Lib.hid hb
          clear hb
          unfold wrongE
          go_wp2_with fail
          refine ⟨rfl, ?_⟩
          show PRes t r (itemT ts) ItemIs w _ _
          rw [HE.out]
          exact ⟨rfl, HB.out⟩
        intro F6 a hx A1 n1 c1 w1 S'
        have h := HN.out
        rw [hx, PR.next_ok] at h
        clear HN S hx x0 p0
        have HN := Lib.hid h
        have S := Lib.hid S'
        clear h S'
        obtain ⟨x0, -⟩ := cell_at S.out.x 0 (u := .bool true) rfl
        obtain ⟨p0, -⟩ := cell_at S.out.p 0 (u := .pointer (some ⟨r, 0, none⟩)) rfl
        go_wp2_with fail
        refine must_step (S.out.must Hg.out hr7 ht [kSemi, kClose] (by decide) (by simp) (by simp) _ rfl _ rfl) ?_ ?_
        rotate_left
        · intro p hx wb hb
          have h := HN.out
          rw [must2_bad hx, PR.next_bad] at h
          have HE := Lib.hid h
          clear h hx
          have HB := Lib.hid hb
          clear hb
          unfold wrongE
          go_wp2_with fail
          refine ⟨rfl, ?_⟩
          show PRes t r (itemT ts) ItemIs w _ _
          rw [HE.out]
          exact ⟨rfl, HB.out⟩
        intro a hx w1 S'
        have h := HN.out
        rw [must2_ok hx, PR.next_ok] at h
        clear HN S hx x0 p0
        have HN := Lib.hid h
        have S := Lib.hid S'
        clear h S'
        obtain ⟨x0, -⟩ := cell_at S.out.x 0 (u := .bool true) rfl
        obtain ⟨x1, -⟩ := cell_at S.out.x 1 rfl
        obtain ⟨z0, y0⟩ := cell_at S.out.z 0 (u := .bool false) rfl
        obtain ⟨z1, y1⟩ := cell_at S.out.z 1 (u := .slice none 0 0) rfl
        go_wp2_with fail
        refine bodyPost_ret (res40 _ _ (w.heap.size + 1) _ _ rfl (set_at (set_at S.out.z 0 _) 1 _)) rfl ?_
        show PRes t r (itemT ts) ItemIs w _ _
        rw [HN.out]
        exact S.out.done _ rfl
  | false =>
    have hq : (T.text == [116, 101, 110, 97, 110, 116]) = false := by rw [← htn, ← hkT]; rfl
    obtain ⟨b, hb⟩ : ∃ b, b = headIs kClass ts := ⟨_, rfl⟩
    have hqc : (T.text == [99, 108, 97, 115, 115]) = b := by rw [hb, ← hkC]; rfl
    have S0 := Lib.hid (IS.start Hp.out false)
    have hN : itemT ts = (mustT kClass ts).next fun _ a => (classT a).next fun fs b => .ok ⟨false, fs⟩ b := by unfold itemT; rw [if_neg (by rw [htn]; simp)]
    have HN := Lib.hid hN
    have S0d := Lib.hid (S0.out.below ((Below.refl _ _).drew))
    have htake := take_T t r _ ts (· == kClass) (by decide) ht hr7 (S0d.out.gl Hg.out hr7) S0d.out.at_
    have hb0 : (headTx ts == kClass) = b := by rw [hhd]; exact hqc
    rw [hb0] at htake
    have Htake := Lib.hid htake
    have hw3 : ∀ o1 o2 o3 : Obj, (((w.alloc o1).alloc o2).alloc o3).cell? ⟨r, 1, none⟩ = some (.string ⟨T.text.toArray⟩) := fun o1 o2 o3 => (cell_at (below_cells hps ((((Below.refl w.heap.size w).alloc (Nat.le_refl _) o1).alloc (by simp) o2).alloc (by simp; omega) o3)) 1 rfl).1
    clear hts hps hle hN htake hb0 hhd hkT hkC hb
    go_enter Tryz.func17, Tryz.ntmps17
    go_upto_region 4 with fail
    obtain ⟨W0, hW0⟩ : ∃ W0, W0 = ((w.alloc (.cells #[.pointer (some ⟨r, 0, none⟩)] 52)).alloc (.cells #[.bool false, .slice none 0 0] 62)).alloc (.cells #[.bool false, .slice none 0 0] 62) := ⟨_, rfl⟩
    have r0 := hw3 (.cells #[.pointer (some ⟨r, 0, none⟩)] 52) (.cells #[.bool false, .slice none 0 0] 62) (.cells #[.bool false, .slice none 0 0] 62)
    rw [← hW0] at r0
    rw [← hW0] at S0 S0d Htake
    rw [← hW0]
    clear hW0 ca hq htn hw3
    obtain ⟨x0, -⟩ := cell_at S0.out.x 0 (u := .bool false) rfl
    obtain ⟨p0, -⟩ := cell_at S0.out.p 0 (u := .pointer (some ⟨r, 0, none⟩)) rfl
    refine wp_region_held_drew (S := fun w' => w'.cell? ⟨w.heap.size, 0, none⟩ = some (.pointer (some ⟨r, 0, none⟩)) ∧ w'.cell? ⟨w.heap.size + 1 + 1, 0, none⟩ = some (.bool false)) (by kernel_rfl) ⟨p0, x0⟩ (fun hHeld => ?_)
    refine wpAnyH_take (i := 0) (v := ?_) rfl (by kernel_rfl) (by kernel_rfl) (by kernel_rfl) (fun _ _ _ h => h) (Or.inl ⟨by rfl, ?_⟩) hHeld ?_
    rotate_left
    · intro w hSw; (try dsimp only at hSw); go_simp
      with_reducible rfl
    refine wpAnyH_take (i := 1) (v := ?_) rfl (by kernel_rfl) (by kernel_rfl) (by kernel_rfl) (fun _ _ _ h => h) (Or.inl ⟨by rfl, ?_⟩) hHeld ?_
    rotate_left
    · intro w hSw; (try dsimp only at hSw); go_simp
      with_reducible rfl
    refine wpAnyH_take (i := 2) (v := ?_) rfl (by kernel_rfl) (by kernel_rfl) (by kernel_rfl) (fun _ _ _ h => h) (Or.inl ⟨by rfl, ?_⟩) hHeld ?_
    rotate_left
    · intro w hSw; (try dsimp only at hSw); go_simp
      with_reducible rfl
    refine wpAnyH_take (i := 3) (v := ?_) rfl (by kernel_rfl) (by kernel_rfl) (by kernel_rfl) (fun _ _ _ h => h) (Or.inl ⟨by rfl, ?_⟩) hHeld ?_
    rotate_left
    · intro w hSw; (try dsimp only at hSw); go_simp
      with_reducible rfl
    refine wpAnyH_take (i := 4) (v := ?_) rfl (by kernel_rfl) (by kernel_rfl) (by kernel_rfl) (fun _ _ _ h => h) (Or.inl ⟨by kernel_rfl, ?_⟩) hHeld ?_
    rotate_left
    · intro w hSw; (try dsimp only at hSw); go_simp
      with_reducible rfl
    refine wpAnyH_take (i := 5) (v := ?_) rfl (by kernel_rfl) (by kernel_rfl) (by kernel_rfl) (fun _ _ _ h => h) (Or.inl ⟨by kernel_rfl, ?_⟩) hHeld ?_
    rotate_left
    · intro w hSw; (try dsimp only at hSw); go_simp
      with_reducible rfl
    refine wpAnyH_take (i := 6) (v := ?_) rfl (by kernel_rfl) (by kernel_rfl) (by kernel_rfl) (fun _ _ _ h => h) (Or.inl ⟨by kernel_rfl, ?_⟩) hHeld ?_
    rotate_left
    · intro w hSw; (try dsimp only at hSw); go_simp
      with_reducible rfl
    refine wpAnyH_take (i := 7) (v := ?_) rfl (by kernel_rfl) (by kernel_rfl) (by kernel_rfl) (fun _ _ _ h => h) (Or.inl ⟨by kernel_rfl, ?_⟩) hHeld ?_
    rotate_left
    · intro w hSw; (try dsimp only at hSw); go_simp
      with_reducible rfl
    refine wpAnyH_ready (rs := [8]) (by kernel_rfl) (by simp) ?_
    refine AllReadyH.cons rfl (fun K hK => ?_) AllReadyH.nil
    go_simp
    refine hK.out _ _ ⟨p0, x0⟩ (fun hHeld => ?_)
    clear hK K
    refine wpAnyH_take (i := 9) (v := ?_) rfl (by kernel_rfl) (by kernel_rfl) (by kernel_rfl) (fun _ _ _ h => h) (Or.inl ⟨by kernel_rfl, ?_⟩) hHeld ?_
    rotate_left
    · intro w hSw; (try dsimp only at hSw); go_simp
      with_reducible rfl
    refine wpAnyH_take (i := 10) (v := ?_) rfl (by kernel_rfl) (by kernel_rfl) (by kernel_rfl) (fun _ _ _ h => h) (Or.inl ⟨by rfl, ?_⟩) hHeld ?_
    rotate_left
    · intro w hSw; (try dsimp only at hSw); go_simp
      with_reducible rfl
    refine wpAnyH_ready (rs := [11]) (by kernel_rfl) (by simp) ?_
    refine AllReadyH.cons rfl (fun K hK => ?_) AllReadyH.nil
    go_simp
    go_at_call 50
    refine PRes.step Htake.out ?_ ?_
    rotate_left
    · intro p hx wb hb
      have h := HN.out
      unfold mustT at h
      rw [hx, PR.next_bad] at h
      have HE := Lib.hid h
      have HB := Lib.hid (S0d.out.rb.trans hb)
      clear h hx hb
      unfold wrongE
      dsimp only
      refine ⟨rfl, ?_⟩
      show PRes t r (itemT ts) ItemIs w _ _
      rw [HE.out]
      exact ⟨rfl, HB.out⟩
    intro T1 a hx e w1 hv hp1 hb1
    unfold TokIs at hv
    subst hv
    have h := HN.out
    unfold mustT at h
    rw [hx, PR.next_ok] at h
    unfold classT at h
    have S := Lib.hid (S0d.out.call hb1 hp1)
    clear HN hx hp1 hb1 x0 p0 S0 S0d Htake
    have HN := Lib.hid h
    clear h
    obtain ⟨x0, -⟩ := cell_at S.out.x 0 (u := .bool false) rfl
    obtain ⟨p0, -⟩ := cell_at S.out.p 0 (u := .pointer (some ⟨r, 0, none⟩)) rfl
    dsimp only
    refine hK.out _ _ ⟨p0, x0⟩ (fun hHeld => ?_)
    refine wpAnyH_done (by kernel_rfl) ?_ _
    clear hK K hHeld x0 p0
    obtain ⟨x0, -⟩ := cell_at S.out.x 0 (u := .bool false) rfl
    obtain ⟨p0, -⟩ := cell_at S.out.p 0 (u := .pointer (some ⟨r, 0, none⟩)) rfl
    go_wp2_with fail
    refine IRes.step (name_T t r _ _ _ _ _ false _ _ w _ _ [] ht hr7 (by simp <;> omega) Hg S) ?_ ?_
    rotate_left
    · intro p hx wb hb
      have h := HN.out
      rw [hx, PR.next_bad] at h
      have HE := Lib.hid h
      clear h hx
      have HB := Lib.hid hb
      clear hb
      unfold wrongE
      go_wp2_with fail
      refine ⟨rfl, ?_⟩
      show PRes t r (itemT ts) ItemIs w _ _
      rw [HE.out]
      exact ⟨rfl, HB.out⟩
    intro F11 a hx A1 n1 c1 w1 S'
    have h := HN.out
    rw [hx, PR.next_ok] at h
    clear HN S hx x0 p0
    have HN := Lib.hid h
    have S := Lib.hid S'
    clear h S'
    obtain ⟨x0, -⟩ := cell_at S.out.x 0 (u := .bool false) rfl
    obtain ⟨p0, -⟩ := cell_at S.out.p 0 (u := .pointer (some ⟨r, 0, none⟩)) rfl
    go_wp2_with fail
    refine must_step (S.out.must Hg.out hr7 ht [kOpen] (by decide) (by simp) (by simp) _ rfl _ rfl) ?_ ?_
    rotate_left
    · intro p hx wb hb
      have h := HN.out
      rw [must1_bad hx, PR.next_bad] at h
      have HE := Lib.hid h
      clear h hx
      have HB := Lib.hid hb
      clear hb
      unfold wrongE
      go_wp2_with fail
      refine ⟨rfl, ?_⟩
      show PRes t r (itemT ts) ItemIs w _ _
      rw [HE.out]
      exact ⟨rfl, HB.out⟩
    intro a hx w1 S'
    have h := HN.out
    obtain ⟨T1, h1⟩ := must1_ok hx
    rw [h1, PR.next_ok] at h
    clear HN S hx h1 x0 p0
    have HN := Lib.hid h
    have S := Lib.hid S'
    clear h S'
    obtain ⟨x0, -⟩ := cell_at S.out.x 0 (u := .bool false) rfl
    obtain ⟨p0, -⟩ := cell_at S.out.p 0 (u := .pointer (some ⟨r, 0, none⟩)) rfl
    go_wp2_with fail
    refine must_step (S.out.must Hg.out hr7 ht [kCode] (by decide) (by simp) (by simp) _ rfl _ rfl) ?_ ?_
    rotate_left
    · intro p hx wb hb
      have h := HN.out
      rw [must1_bad hx, PR.next_bad] at h
      have HE := Lib.hid h
      clear h hx
      have HB := Lib.hid hb
      clear hb
      unfold wrongE
      go_wp2_with fail
      refine ⟨rfl, ?_⟩
      show PRes t r (itemT ts) ItemIs w _ _
      rw [HE.out]
      exact ⟨rfl, HB.out⟩
    intro a hx w1 S'
    have h := HN.out
    obtain ⟨T1, h1⟩ := must1_ok hx
    rw [h1, PR.next_ok] at h
    clear HN S hx h1 x0 p0
    have HN := Lib.hid h
    have S := Lib.hid S'
    clear h S'
    obtain ⟨x0, -⟩ := cell_at S.out.x 0 (u := .bool false) rfl
    obtain ⟨p0, -⟩ := cell_at S.out.p 0 (u := .pointer (some ⟨r, 0, none⟩)) rfl
    go_wp2_with fail
    refine IRes.step (name_T t r _ _ _ _ _ false _ _ w _ _ kCode ht hr7 (by simp <;> omega) Hg S) ?_ ?_
    rotate_left
    · intro p hx wb hb
      have h := HN.out
      rw [hx, PR.next_bad] at h
      have HE := Lib.hid h
      clear h hx
      have HB := Lib.hid hb
      clear hb
      unfold wrongE
      go_wp2_with fail
      refine ⟨rfl, ?_⟩
      show PRes t r (itemT ts) ItemIs w _ _
      rw [HE.out]
      exact ⟨rfl, HB.out⟩
    intro F12 a hx A1 n1 c1 w1 S'
    have h := HN.out
    rw [hx, PR.next_ok] at h
    clear HN S hx x0 p0
    have HN := Lib.hid h
    have S := Lib.hid S'
    clear h S'
    obtain ⟨x0, -⟩ := cell_at S.out.x 0 (u := .bool false) rfl
    obtain ⟨p0, -⟩ := cell_at S.out.p 0 (u := .pointer (some ⟨r, 0, none⟩)) rfl
    go_wp2_with fail
    refine must_step (S.out.must Hg.out hr7 ht [kSemi] (by decide) (by simp) (by simp) _ rfl _ rfl) ?_ ?_
    rotate_left
    · intro p hx wb hb
      have h := HN.out
      rw [must1_bad hx, PR.next_bad] at h
      have HE := Lib.hid h
      clear h hx
      have HB := Lib.hid hb
      clear hb
      unfold wrongE
      go_wp2_with fail
      refine ⟨rfl, ?_⟩
      show PRes t r (itemT ts) ItemIs w _ _
      rw [HE.out]
      exact ⟨rfl, HB.out⟩
    intro a hx w1 S'
    have h := HN.out
    obtain ⟨T1, h1⟩ := must1_ok hx
    rw [h1, PR.next_ok] at h
    clear HN S hx h1 x0 p0
    have HN := Lib.hid h
    have S := Lib.hid S'
    clear h S'
    obtain ⟨x0, -⟩ := cell_at S.out.x 0 (u := .bool false) rfl
    obtain ⟨p0, -⟩ := cell_at S.out.p 0 (u := .pointer (some ⟨r, 0, none⟩)) rfl
    go_wp2_with fail
    refine IRes.step (number_T t r _ _ _ _ _ false _ _ w _ _ kLosses (by decide) ht hr7 (by simp <;> omega) Hg S) ?_ ?_
    rotate_left
    · intro p hx wb hb
      have h := HN.out
      rw [hx, PR.next_bad] at h
      have HE := Lib.hid h
      clear h hx
      have HB := Lib.hid hb
      clear hb
      unfold wrongE
      go_wp2_with fail
      refine ⟨rfl, ?_⟩
      show PRes t r (itemT ts) ItemIs w _ _
      rw [HE.out]
      exact ⟨rfl, HB.out⟩
    intro F13 a hx A1 n1 c1 w1 S'
    have h := HN.out
    rw [hx, PR.next_ok] at h
    clear HN S hx x0 p0
    have HN := Lib.hid h
    have S := Lib.hid S'
    clear h S'
    obtain ⟨x0, -⟩ := cell_at S.out.x 0 (u := .bool false) rfl
    obtain ⟨p0, -⟩ := cell_at S.out.p 0 (u := .pointer (some ⟨r, 0, none⟩)) rfl
    go_wp2_with fail
    refine must_step (S.out.must Hg.out hr7 ht [kSemi] (by decide) (by simp) (by simp) _ rfl _ rfl) ?_ ?_
    rotate_left
    · intro p hx wb hb
      have h := HN.out
      rw [must1_bad hx, PR.next_bad] at h
      have HE := Lib.hid h
      clear h hx
      have HB := Lib.hid hb
      clear hb
      unfold wrongE
      go_wp2_with fail
      refine ⟨rfl, ?_⟩
      show PRes t r (itemT ts) ItemIs w _ _
      rw [HE.out]
      exact ⟨rfl, HB.out⟩
    intro a hx w1 S'
    have h := HN.out
    obtain ⟨T1, h1⟩ := must1_ok hx
    rw [h1, PR.next_ok] at h
    clear HN S hx h1 x0 p0
    have HN := Lib.hid h
    have S := Lib.hid S'
    clear h S'
    obtain ⟨x0, -⟩ := cell_at S.out.x 0 (u := .bool false) rfl
    obtain ⟨p0, -⟩ := cell_at S.out.p 0 (u := .pointer (some ⟨r, 0, none⟩)) rfl
    go_wp2_with fail
    refine IRes.step (number_T t r _ _ _ _ _ false _ _ w _ _ kWhole (by decide) ht hr7 (by simp <;> omega) Hg S) ?_ ?_
    rotate_left
    · intro p hx wb hb
      have h := HN.out
      rw [hx, PR.next_bad] at h
      have HE := Lib.hid h
      clear h hx
      have HB := Lib.hid hb
      clear hb
      unfold wrongE
      go_wp2_with fail
      refine ⟨rfl, ?_⟩
      show PRes t r (itemT ts) ItemIs w _ _
      rw [HE.out]
      exact ⟨rfl, HB.out⟩
    intro F14 a hx A1 n1 c1 w1 S'
    have h := HN.out
    rw [hx, PR.next_ok] at h
    clear HN S hx x0 p0
    have HN := Lib.hid h
    have S := Lib.hid S'
    clear h S'
    obtain ⟨x0, -⟩ := cell_at S.out.x 0 (u := .bool false) rfl
    obtain ⟨p0, -⟩ := cell_at S.out.p 0 (u := .pointer (some ⟨r, 0, none⟩)) rfl
    go_wp2_with fail
    refine must_step (S.out.must Hg.out hr7 ht [kSemi, kClose] (by decide) (by simp) (by simp) _ rfl _ rfl) ?_ ?_
    rotate_left
    · intro p hx wb hb
      have h := HN.out
      rw [must2_bad hx, PR.next_bad] at h
      have HE := Lib.hid h
      clear h hx
      have HB := Lib.hid hb
      clear hb
      unfold wrongE
      go_wp2_with fail
      refine ⟨rfl, ?_⟩
      show PRes t r (itemT ts) ItemIs w _ _
      rw [HE.out]
      exact ⟨rfl, HB.out⟩
    intro a hx w1 S'
    have h := HN.out
    rw [must2_ok hx, PR.next_ok] at h
    clear HN S hx x0 p0
    have HN := Lib.hid h
    have S := Lib.hid S'
    clear h S'
    obtain ⟨x0, -⟩ := cell_at S.out.x 0 (u := .bool false) rfl
    obtain ⟨x1, -⟩ := cell_at S.out.x 1 rfl
    obtain ⟨z0, y0⟩ := cell_at S.out.z 0 (u := .bool false) rfl
    obtain ⟨z1, y1⟩ := cell_at S.out.z 1 (u := .slice none 0 0) rfl
    go_wp2_with fail
    refine bodyPost_ret (res40 _ _ (w.heap.size + 1) _ _ rfl (set_at (set_at S.out.z 0 _) 1 _)) rfl ?_
    show PRes t r (itemT ts) ItemIs w _ _
    rw [HN.out]
    exact S.out.done _ rfl
end Go.Proofs.YtimmffncfkcpfaaGreatDoor
