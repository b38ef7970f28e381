/-
  The walks of the law's example and sanity.
-/
import Derived.Test.YtdfhbnfhkckkbaaGreatDoorW29
import Derived.Test.YtdfhbnfhkckkbaaGreatDoorE1
namespace Go.Proofs.YtdfhbnfhkckkbaaGreatDoor
open Go Go.RowKit Go.Walks

set_option maxRecDepth 100000 in
theorem res34 (tmps : Array Value) (w : World) (g : Nat) (cs : Array Value) (hs : cs.size = 8) (hp : tmps.getD 0 undef = .pointer (some ⟨g, 0, none⟩)) (hg : w.heap[g]? = some (.cells cs 27)) :
    (results Tryz.f34 tmps).run Tryz.prog w = .ok (.agg cs) w :=
  results_cell_row (p := 0) (ty := 27) rfl tmps w g 27 cs (0, 0) _ hp hg Tryz.underlying27 rfl (by rw [hs]; exact info27)
theorem sl_row {W : World} {B g : Nat} {cs : Array Value} {t : TypeId} (h : W.heap[g]? = some (.cells cs t)) (hB : g < B) : Sl W B (some ⟨g, 0, none⟩) cs.toList := by
  refine .inr ⟨g, 0, rfl, hB, fun j u hu => ?_⟩
  rw [Nat.zero_add]
  exact (cell_at h j (by simpa using hu)).1
theorem ex_at {w W1 W2 W3 W4 : World} {g1 g2 g3 : Nat} (h1 : Below w.heap.size w W1) (e2 : g1 = W1.heap.size) (h2 : W2 = W1.alloc (.cells #[.string ⟨#[97, 34, 98]⟩] 9)) (e3 : g2 = W2.heap.size) (h3 : W3 = W2.alloc (.cells #[.int .i64 0] 3)) (e4 : g3 = W3.heap.size) (h4 : W4 = W3.alloc (.cells #[.int .i64 1, .slice (some ⟨g2, 0, none⟩) 1 1, .int .i64 19, .slice none 0 0] 67)) :
    Below w.heap.size w W4 ∧ ScriptS W4 exS (.agg (scrCs 6 2 9 1 20 30 (some ⟨g1, 0, none⟩) 1 1 (some ⟨g3, 0, none⟩) 2 2)) := by
  have b2 : Below W1.heap.size W1 W2 := by rw [h2]; exact (Below.refl _ _).alloc (Nat.le_refl _) _
  have b3 : Below W2.heap.size W2 W3 := by rw [h3]; exact (Below.refl _ _).alloc (Nat.le_refl _) _
  have b4 : Below W3.heap.size W3 W4 := by rw [h4]; exact (Below.refl _ _).alloc (Nat.le_refl _) _
  have r2 : W2.heap[g1]? = some (.cells #[.string ⟨#[97, 34, 98]⟩] 9) := by rw [h2, e2]; exact heap_new _ _
  have r3 : W3.heap[g2]? = some (.cells #[.int .i64 0] 3) := by rw [h3, e3]; exact heap_new _ _
  have r4 : W4.heap[g3]? = some (.cells #[.int .i64 1, .slice (some ⟨g2, 0, none⟩) 1 1, .int .i64 19, .slice none 0 0] 67) := by rw [h4, e4]; exact heap_new _ _
  have k2 := below_cells (below_cells r2 b3) b4
  have k3 := below_cells r3 b4
  have s2 : W2.heap.size = W1.heap.size + 1 := by rw [h2]; simp
  have s3 : W3.heap.size = W2.heap.size + 1 := by rw [h3]; simp
  have s4 : W4.heap.size = W3.heap.size + 1 := by rw [h4]; simp
  have bb := ((h1.trans (b2.mono h1.size)).trans (b3.mono (h1.trans (b2.mono h1.size)).size))
  refine ⟨bb.trans (b4.mono bb.size), 6, 2, 9, 1, 20, 30, some ⟨g1, 0, none⟩, 1, some ⟨g3, 0, none⟩, 2, rfl, rfl, ?_, ⟨_, sl_row r4 (by omega), some ⟨g2, 0, none⟩, 1, _, rfl, ?_, Nat.le_refl _, none, 0, [], rfl, .inl rfl, Nat.le_refl _, rfl⟩, Nat.le_refl _, Nat.le_refl _⟩
  · exact sl_row k2 (by omega)
  · exact sl_row k3 (by omega)
set_option maxRecDepth 100000 in
set_option maxHeartbeats 4000000 in
theorem example_any (w : World) : Calls Tryz.prog 34 #[] w fun e w' => Below w.heap.size w w' ∧ ∃ v, e = .returned v ∧ ScriptS w' exS v := by
  obtain ⟨W1, h1⟩ : ∃ W, W = w.alloc (.cells (scrCs 6 2 9 1 20 30 (some ⟨w.heap.size + 1, 0, none⟩) 1 1 (some ⟨w.heap.size + 1 + 1 + 1, 0, none⟩) 2 2) 27) := ⟨_, rfl⟩
  obtain ⟨W2, h2⟩ : ∃ W, W = W1.alloc (.cells #[.string ⟨#[97, 34, 98]⟩] 9) := ⟨_, rfl⟩
  obtain ⟨W3, h3⟩ : ∃ W, W = W2.alloc (.cells #[.int .i64 0] 3) := ⟨_, rfl⟩
  obtain ⟨W4, h4⟩ : ∃ W, W = W3.alloc (.cells #[.int .i64 1, .slice (some ⟨w.heap.size + 1 + 1, 0, none⟩) 1 1, .int .i64 19, .slice none 0 0] 67) := ⟨_, rfl⟩
  have s1 : w.heap.size + 1 = W1.heap.size := by rw [h1]; simp
  have s2 : w.heap.size + 1 + 1 = W2.heap.size := by rw [h2]; simp [s1]
  have s3 : w.heap.size + 1 + 1 + 1 = W3.heap.size := by rw [h3]; simp [s2]
  have b1 : Below w.heap.size w W1 := by rw [h1]; exact (Below.refl _ _).alloc (Nat.le_refl _) _
  have b2 : Below W1.heap.size W1 W2 := by rw [h2]; exact (Below.refl _ _).alloc (Nat.le_refl _) _
  have b3 : Below W2.heap.size W2 W3 := by rw [h3]; exact (Below.refl _ _).alloc (Nat.le_refl _) _
  have b4 : Below W3.heap.size W3 W4 := by rw [h4]; exact (Below.refl _ _).alloc (Nat.le_refl _) _
  have r1 : W1.heap[w.heap.size]? = some (.cells (scrCs 6 2 9 1 20 30 (some ⟨w.heap.size + 1, 0, none⟩) 1 1 (some ⟨w.heap.size + 1 + 1 + 1, 0, none⟩) 2 2) 27) := by rw [h1]; exact heap_new _ _
  have HR := Lib.hid (below_cells (below_cells (below_cells r1 b2) b3) b4)
  have HX := Lib.hid (ex_at b1 s1 h2 s2 h3 s3 h4)
  have HW : Hid ((((w.alloc (.cells #[.int .i64 6, .int .i64 2, .int .i64 9, .int .i64 1, .int .i64 20, .int .i64 30, .slice (some ⟨w.heap.size + 1, 0, none⟩) 1 1, .slice (some ⟨w.heap.size + 1 + 1 + 1, 0, none⟩) 2 2] 27)).alloc (.cells #[.string ⟨#[97, 34, 98]⟩] 9)).alloc (.cells #[.int .i64 0] 3)).alloc (.cells #[.int .i64 1, .slice (some ⟨w.heap.size + 1 + 1, 0, none⟩) 1 1, .int .i64 19, .slice none 0 0] 67) = W4) := by show _ = _; rw [h4, h3, h2, h1]; rfl
  clear h1 h2 h3 h4 s1 s2 s3 b1 b2 b3 b4 r1
  go_enter Tryz.func34, Tryz.ntmps34
  go_wp2_with fail
  rw [HW.out]
  refine bodyPost_ret (res34 _ _ w.heap.size _ rfl rfl HR.out) rfl ?_
  exact ⟨HX.out.1, _, rfl, HX.out.2⟩

/-- A script in a variable. -/
def SN (g : Nat) (cs : Array Value) (W : World) : Prop := W.heap[g]? = some (.cells cs 35) ∧ ScriptS W exS (.agg cs)
theorem SN.call {W W' : World} {g : Nat} {cs : Array Value} (h : SN g cs W) (hb : Below W.heap.size W W') : SN g cs W' := ⟨below_cells h.1 hb, h.2.below hb⟩
theorem SN.start {W : World} {cs : Array Value} (h : ScriptS W exS (.agg cs)) : SN W.heap.size cs (W.alloc (.cells cs 35)) := ⟨heap_new _ _, h.below ((Below.refl _ _).alloc (Nat.le_refl _) _)⟩
theorem bad_at {W0 W1 W2 : World} {g1 g2 : Nat} (e1 : g1 = W0.heap.size) (h1 : W1 = W0.alloc (.cells #[.int .i64 0] 3)) (e2 : g2 = W1.heap.size) (h2 : W2 = W1.alloc (.cells #[.int .i64 16, .slice none 0 0, .int .i64 1, .slice (some ⟨g1, 0, none⟩) 1 1] 69)) :
    Below W0.heap.size W0 W2 ∧ ScriptS W2 badS (.agg (scrCs 0 0 0 0 0 0 none 0 0 (some ⟨g2, 0, none⟩) 2 2)) := by
  have b1 : Below W0.heap.size W0 W1 := by rw [h1]; exact (Below.refl _ _).alloc (Nat.le_refl _) _
  have b2 : Below W1.heap.size W1 W2 := by rw [h2]; exact (Below.refl _ _).alloc (Nat.le_refl _) _
  have r1 : W1.heap[g1]? = some (.cells #[.int .i64 0] 3) := by rw [h1, e1]; exact heap_new _ _
  have r2 : W2.heap[g2]? = some (.cells #[.int .i64 16, .slice none 0 0, .int .i64 1, .slice (some ⟨g1, 0, none⟩) 1 1] 69) := by rw [h2, e2]; exact heap_new _ _
  have s1 : W1.heap.size = W0.heap.size + 1 := by rw [h1]; simp
  have s2 : W2.heap.size = W1.heap.size + 1 := by rw [h2]; simp
  refine ⟨b1.trans (b2.mono b1.size), 0, 0, 0, 0, 0, 0, none, 0, some ⟨g2, 0, none⟩, 2, rfl, rfl, .inl rfl, ⟨_, sl_row r2 (by omega), none, 0, _, rfl, .inl rfl, Nat.le_refl _, some ⟨g1, 0, none⟩, 1, [], rfl, ?_, Nat.le_refl _, rfl⟩, Nat.le_refl _, Nat.le_refl _⟩
  exact sl_row (below_cells r1 b2) (by omega)
theorem scr_arr {S : ScriptD} {w : World} {v : Value} (h : ScriptS w S v) : ∃ cs : Array Value, v = .agg cs ∧ cs.size = 8 := by
  obtain ⟨a, b, c, d, e, f, T, tc, U, uc, rfl, -⟩ := h
  exact ⟨_, rfl, rfl⟩

set_option maxRecDepth 100000 in
set_option maxHeartbeats 8000000 in
theorem sanity_any (w : World) (Hg : Hid (Gl w)) : Calls Tryz.prog 11 #[] w (BoolR true w) := by
  have HEX := Lib.hid example_any
  have Hexl : Hid (ScriptL exS) := check_okL (check_ok.1 (by rw [ex_check]))
  have HOwn : Hid (∀ v W, ScriptS W exS v → Calls Tryz.prog 13 #[v] W fun e w' => Below W.heap.size W w' ∧ ∃ v', e = .returned v' ∧ ScriptS w' exS v') := fun v W h => own_any exS v W h (by decide)
  have HSpec : Hid (∀ v W, ScriptS W exS v → Calls Tryz.prog 30 #[v] W fun e w' => Below W.heap.size W w' ∧ ∃ v', e = .returned v' ∧ ScriptS w' exS v') := fun v W h => spec_any exS v W h (by decide)
  have HPr : Hid (∀ v W, Below w.heap.size w W → ScriptS W exS v → Calls Tryz.prog 17 #[v] W fun e w' => e = .returned (.tuple #[.string ⟨#[97, 114, 114, 97, 121, 32, 54, 32, 50, 32, 57, 32, 49, 32, 50, 48, 32, 51, 48, 10, 116, 101, 120, 116, 32, 34, 97, 92, 34, 98, 34, 10, 99, 111, 100, 101, 32, 48, 10, 109, 111, 117, 110, 116, 10]⟩, .int .i64 0]) ∧ Below W.heap.size W w') := fun v W hb h => by
    have := print_any exS v W (Hg.out.below hb) h Hexl
    rw [ex_print] at this
    exact this
  have HPa : Hid (∀ W, Below w.heap.size w W → Calls Tryz.prog 31 #[.string ⟨#[97, 114, 114, 97, 121, 32, 54, 32, 50, 32, 57, 32, 49, 32, 50, 48, 32, 51, 48, 10, 116, 101, 120, 116, 32, 34, 97, 92, 34, 98, 34, 10, 99, 111, 100, 101, 32, 48, 10, 109, 111, 117, 110, 116, 10]⟩] W fun e w' => Below W.heap.size W w' ∧ ∃ v, e = .returned (.tuple #[v, .int .i64 0, .int .i64 0]) ∧ ScriptS w' exS v) := fun W hb => by
    have := parse_any exT W (Hg.out.below hb) (by decide)
    unfold ParR at this
    rw [ex_parse] at this
    exact this
  have HPb : Hid (∀ W, Below w.heap.size w W → Calls Tryz.prog 31 #[.string ⟨#[97, 114, 114, 97, 121, 32, 54, 32, 50, 32, 57, 32, 49, 32, 50, 48, 32, 51, 48, 10, 107, 101, 101, 112, 32, 48, 55, 10]⟩] W fun e w' => Below W.heap.size W w' ∧ e = .returned (.tuple #[.agg (scrCs 0 0 0 0 0 0 none 0 0 none 0 0), .int .i64 1, .int .i64 3])) := fun W hb => by
    have := parse_any badT W (Hg.out.below hb) (by decide)
    unfold ParR at this
    rw [bad_parse] at this
    exact this
  have HEn : Hid (∀ v W, Below w.heap.size w W → ScriptS W exS v → Calls Tryz.prog 15 #[v] W (EncR (encT exS, 0) W)) := fun v W hb h => by
    have := encode_any exS v W (Hg.out.below hb) h Hexl
    rw [ex_encode] at this
    exact this
  have HDe : Hid (∀ A n c W, Below w.heap.size w W → n = (encT exS).length → n ≤ c → c ≤ 9223372036854775807 → Sl W W.heap.size A (Lib.byteCells (encT exS)) → Calls Tryz.prog 28 #[.slice A n c] W fun e w' => Below W.heap.size W w' ∧ ∃ v, e = .returned (.tuple #[v, .int .i64 0]) ∧ ScriptS w' exS v) := fun A n c W hb hn h1 h2 hs => by
    rw [hn] at h1 ⊢
    have := decode_any (encT exS) A c W (Hg.out.below hb) (by decide +kernel) h1 h2 hs
    unfold DecR at this
    rw [ex_decode] at this
    exact this
  have HCh : Hid (∀ v W, Below w.heap.size w W → ScriptS W badS v → Calls Tryz.prog 12 #[v] W fun e w' => e = .returned (.tuple #[.int .i64 1, .int .i64 1]) ∧ Below W.heap.size W w') := fun v W hb h => by
    have := check_any badS v W (Hg.out.below hb) h (Lib.hid ⟨by unfold maxLen; decide, by unfold maxLen; decide, fun t ht => (by cases ht), fun x hx => by
      simp [badS] at hx
      rcases hx with rfl | rfl <;> (unfold maxLen; decide)⟩)
    rw [bad_check] at this
    exact this
  have HNm : Hid (∀ W, Below w.heap.size w W → Calls Tryz.prog 19 #[.int .i64 8] W fun e w' => e = .returned (.string ⟨#[116, 119, 105, 110]⟩) ∧ w' = W) := fun W hb => by
    have := name_any 8 W (Hg.out.below hb)
    rw [name_8] at this
    exact this
  have HAr : Hid (∀ W, Below w.heap.size w W → Calls Tryz.prog 21 #[.int .i64 19] W fun e w' => e = .returned (.int .i64 64) ∧ w' = W) := fun W hb => by
    have := arity_any 19 W (Hg.out.below hb)
    rw [arity_19] at this
    exact this
  have HAr2 : Hid (∀ W, Below w.heap.size w W → Calls Tryz.prog 21 #[.int .i64 28] W fun e w' => e = .returned (.int .i64 (-1)) ∧ w' = W) := fun W hb => by
    have := arity_any 28 W (Hg.out.below hb)
    rw [arity_28] at this
    exact this
  have HSm : Hid (∀ u v W, ScriptS W exS u → ScriptS W exS v → Calls Tryz.prog 24 #[u, v] W (BoolR true W)) := fun u v W h1 h2 => by
    have := rsame_any exS exS u v W h1 h2 Hexl
    rw [decide_eq_true rfl] at this
    exact this
  have HSp : Hid (∀ u v W, ScriptS W exS u → ScriptS W exS v → Calls Tryz.prog 23 #[u, v] W (BoolR true W)) := fun u v W h1 h2 => by
    have := same_any exS exS u v W h1 h2 Hexl Hexl
    rw [decide_eq_true rfl] at this
    exact this
  have HUn : Hid (∀ W, Calls Tryz.prog 26 #[.int .i64 1] W fun e w' => e = .returned (.string ⟨#[0, 0, 0, 0, 0, 0, 0, 1, 0, 0, 0, 0, 0, 0, 0, 1, 0, 0, 0, 0, 0, 0, 0, 1, 0, 0, 0, 0, 0, 0, 0, 1]⟩) ∧ Below W.heap.size W w') := fun W => by
    have := unit_any 1 W (Lib.hid ⟨by decide, by decide⟩)
    unfold StrR at this
    rw [unit_1] at this
    exact this
  have HRp : Hid (∀ W, Calls Tryz.prog 35 #[.string ⟨#[0, 0, 0, 0, 0, 0, 0, 1]⟩, .int .i64 4] W fun e w' => e = .returned (.string ⟨#[0, 0, 0, 0, 0, 0, 0, 1, 0, 0, 0, 0, 0, 0, 0, 1, 0, 0, 0, 0, 0, 0, 0, 1, 0, 0, 0, 0, 0, 0, 0, 1]⟩) ∧ Below W.heap.size W w') := fun W => by
    refine (Tryz.strings_Repeat ⟨#[0, 0, 0, 0, 0, 0, 0, 1]⟩ 4 W (by omega) (by decide)).mono ?_
    rintro e w' ⟨rfl, hb⟩
    exact ⟨rfl, hb⟩
  go_enter Tryz.func11, Tryz.ntmps11
  go_wp2_with fail
  refine (HEX.out _).mono ?_
  rintro en w1 ⟨hb1, v1, rfl, hv1⟩
  have HB1 := Lib.hid hb1
  have HV1 := Lib.hid hv1
  clear hb1 hv1
  go_wp2_with fail
  refine (HOwn.out _ _ HV1.out).mono ?_
  rintro en w2 ⟨hb2, v2, rfl, hv2⟩
  have HB2 := Lib.hid (HB1.out.trans (hb2.mono HB1.out.size))
  have HV2 := Lib.hid hv2
  clear hb2 hv2 HB1 HV1
  go_wp2_with fail
  refine (HPr.out _ _ HB2.out HV2.out).mono ?_
  rintro en w3 ⟨rfl, hb3⟩
  have HB3 := Lib.hid (HB2.out.trans (hb3.mono HB2.out.size))
  clear hb3 HB2 HV2
  go_wp2_with fail
  refine (HPa.out _ HB3.out).mono ?_
  rintro en w4 ⟨hb4, v4, rfl, hv4⟩
  have HB4 := Lib.hid (HB3.out.trans (hb4.mono HB3.out.size))
  obtain ⟨p0, p1, p2, p3, p4, p5, T, tc, U, uc, rfl, hp⟩ := hv4
  obtain ⟨nt, hnt⟩ : ∃ n, n = exS.texts.length := ⟨_, rfl⟩
  obtain ⟨ns, hns⟩ : ∃ n, n = exS.steps.length := ⟨_, rfl⟩
  have HV4 : Hid (ScriptS w4 exS (.agg (scrCs p0 p1 p2 p3 p4 p5 T nt tc U ns uc))) := ⟨p0, p1, p2, p3, p4, p5, T, tc, U, uc, by rw [hnt, hns], hp⟩
  rw [← hnt, ← hns]
  obtain ⟨cs, hcs⟩ : ∃ cs, cs = scrCs p0 p1 p2 p3 p4 p5 T nt tc U ns uc := ⟨_, rfl⟩
  rw [← hcs] at HV4
  obtain ⟨g4, hg4⟩ : ∃ g, g = w4.heap.size := ⟨_, rfl⟩
  obtain ⟨W5, hW5⟩ : ∃ W, W = w4.alloc (.cells cs 35) := ⟨_, rfl⟩
  have HS5 : Hid (SN g4 cs W5) := by rw [hW5, hg4]; exact SN.start HV4.out
  have HB5 : Hid (Below w.heap.size w W5) := by rw [hW5]; exact HB4.out.trans (((Below.refl w4.heap.size w4).alloc (Nat.le_refl _) _).mono HB4.out.size)
  have HCS := Lib.hid hcs
  rw [hcs] at hW5
  clear hb4 HB3 hp hnt hns hcs HV4
  unfold scrCs
  unfold scrCs at hW5
  go_upto_region 4 with fail
  rw [← hW5, ← hg4]
  clear hW5 hg4 HB4
  go_wp2_with fail
  refine (HPb.out _ HB5.out).mono ?_
  unfold scrCs
  rintro en w6 ⟨hb6, rfl⟩
  have HS6 := Lib.hid (HS5.out.call hb6)
  have HB6 := Lib.hid (HB5.out.trans (hb6.mono HB5.out.size))
  obtain ⟨W7, hW7⟩ : ∃ W, W = w6.alloc (.cells #[.int .i64 0, .int .i64 0, .int .i64 0, .int .i64 0, .int .i64 0, .int .i64 0, .slice none 0 0, .slice none 0 0] 35) := ⟨_, rfl⟩
  have hb7 : Below w6.heap.size w6 W7 := by rw [hW7]; exact (Below.refl _ _).alloc (Nat.le_refl _) _
  have HS7 := Lib.hid (HS6.out.call hb7)
  have HB7 := Lib.hid (HB6.out.trans (hb7.mono HB6.out.size))
  clear hb6 hb7 HS5 HB5 HS6 HB6
  go_upto_region 5 with fail
  rw [← hW7]
  clear hW7
  go_wp2_with fail
  refine (HEX.out _).mono ?_
  rintro en w8 ⟨hb8, v8, rfl, hv8⟩
  have HS8 := Lib.hid (HS7.out.call hb8)
  have HB8 := Lib.hid (HB7.out.trans (hb8.mono HB7.out.size))
  have HV8 := Lib.hid hv8
  clear hb8 hv8 HS7 HB7
  go_wp2_with fail
  refine (HOwn.out _ _ HV8.out).mono ?_
  rintro en w9 ⟨hb9, v9, rfl, hv9⟩
  have HS9 := Lib.hid (HS8.out.call hb9)
  have HB9 := Lib.hid (HB8.out.trans (hb9.mono HB8.out.size))
  have HV9 := Lib.hid hv9
  clear hb9 hv9 HS8 HB8 HV8
  go_wp2_with fail
  refine (HEn.out _ _ HB9.out HV9.out).mono ?_
  unfold EncR
  dsimp only
  rintro en w10 ⟨A, c, rfl, hO⟩
  have HS10 := Lib.hid (HS9.out.call hO.below)
  have HB10 := Lib.hid (HB9.out.trans (hO.below.mono HB9.out.size))
  have HO10 := Lib.hid hO.o
  obtain ⟨n, hn⟩ : ∃ n, n = (encT exS).length := ⟨_, rfl⟩
  rw [← hn] at HO10
  rw [← hn]
  have Hn := Lib.hid hn
  clear hO hn HS9 HB9 HV9
  have HD := Lib.hid (HDe.out A n c w10 HB10.out Hn.out (own_cap HO10.out).1 (by have := (own_cap HO10.out).2; unfold maxLen at this; omega) (own_sl HO10.out))
  go_wp2_with fail
  refine HD.out.mono ?_
  rintro en w11 ⟨hb11, v11, rfl, hv11⟩
  have HS11 := Lib.hid (HS10.out.call hb11)
  have HB11 := Lib.hid (HB10.out.trans (hb11.mono HB10.out.size))
  obtain ⟨q0, q1, q2, q3, q4, q5, T', tc', U', uc', rfl, hp⟩ := hv11
  obtain ⟨nt', hnt⟩ : ∃ n, n = exS.texts.length := ⟨_, rfl⟩
  obtain ⟨ns', hns⟩ : ∃ n, n = exS.steps.length := ⟨_, rfl⟩
  have HV11 : Hid (ScriptS w11 exS (.agg (scrCs q0 q1 q2 q3 q4 q5 T' nt' tc' U' ns' uc'))) := ⟨q0, q1, q2, q3, q4, q5, T', tc', U', uc', by rw [hnt, hns], hp⟩
  rw [← hnt, ← hns]
  obtain ⟨ds, hds⟩ : ∃ cs, cs = scrCs q0 q1 q2 q3 q4 q5 T' nt' tc' U' ns' uc' := ⟨_, rfl⟩
  rw [← hds] at HV11
  obtain ⟨g12, hg12⟩ : ∃ g, g = w11.heap.size := ⟨_, rfl⟩
  obtain ⟨W12, hW12⟩ : ∃ W, W = w11.alloc (.cells ds 35) := ⟨_, rfl⟩
  have hb12 : Below w11.heap.size w11 W12 := by rw [hW12]; exact (Below.refl _ _).alloc (Nat.le_refl _) _
  have HZ12 : Hid (SN g12 ds W12) := by rw [hW12, hg12]; exact SN.start HV11.out
  have HS12 := Lib.hid (HS11.out.call hb12)
  have HB12 := Lib.hid (HB11.out.trans (hb12.mono HB11.out.size))
  have HDS := Lib.hid hds
  rw [hds] at hW12
  clear hb11 hb12 HS10 HB10 HO10 hp hnt hns hds HV11 HD HS11 HB11
  unfold scrCs
  unfold scrCs at hW12
  go_upto_region 7 with fail
  rw [← hW12, ← hg12]
  clear hW12 hg12
  obtain ⟨W13, hW13⟩ : ∃ W, W = W12.alloc (.cells #[.int .i64 0] 3) := ⟨_, rfl⟩
  obtain ⟨W14, hW14⟩ : ∃ W, W = W13.alloc (.cells #[.int .i64 16, .slice none 0 0, .int .i64 1, .slice (some ⟨W12.heap.size, 0, none⟩) 1 1] 69) := ⟨_, rfl⟩
  have hs13 : W13.heap.size = W12.heap.size + 1 := by rw [hW13]; simp
  obtain ⟨hb14, hv14⟩ := bad_at rfl hW13 rfl hW14
  rw [hs13] at hv14
  have HV14 := Lib.hid hv14
  have HS14 := Lib.hid (HS12.out.call hb14)
  have HZ14 := Lib.hid (HZ12.out.call hb14)
  have HB14 := Lib.hid (HB12.out.trans (hb14.mono HB12.out.size))
  have hW14' : (W12.alloc (.cells #[.int .i64 0] 3)).alloc (.cells #[.int .i64 16, .slice none 0 0, .int .i64 1, .slice (some ⟨W12.heap.size, 0, none⟩) 1 1] 69) = W14 := by rw [hW14, hW13]
  have HW14 := Lib.hid hW14'
  clear hb14 hv14 hW13 hW14 hW14' hs13 HS12 HZ12 HB12
  go_wp2_with fail
  rw [HW14.out]
  refine (HCh.out _ _ HB14.out HV14.out).mono ?_
  rintro en w15 ⟨rfl, hb15⟩
  have HS15 := Lib.hid (HS14.out.call hb15)
  have HZ15 := Lib.hid (HZ14.out.call hb15)
  have HB15 := Lib.hid (HB14.out.trans (hb15.mono HB14.out.size))
  clear hb15 HS14 HZ14 HB14 HV14 HW14
  go_wp2_with fail
  refine (HNm.out _ HB15.out).mono ?_
  rintro en w16 ⟨rfl, hw⟩
  have hw16 := hw.symm
  subst hw16
  clear hw
  go_wp2_with fail
  refine (HAr.out _ HB15.out).mono ?_
  rintro en w16 ⟨rfl, hw⟩
  have hw16 := hw.symm
  subst hw16
  clear hw
  go_wp2_with fail
  refine (HAr2.out _ HB15.out).mono ?_
  rintro en w16 ⟨rfl, hw⟩
  have hw16 := hw.symm
  subst hw16
  clear hw
  have crow := HS15.out.1
  rw [HCS.out] at crow
  have c0 := (cell_at (u := .int .i64 p0) crow 0 rfl).1
  have c1 := (cell_at (u := .int .i64 p1) crow 1 rfl).1
  have c2 := (cell_at (u := .int .i64 p2) crow 2 rfl).1
  have c3 := (cell_at (u := .int .i64 p3) crow 3 rfl).1
  have c4 := (cell_at (u := .int .i64 p4) crow 4 rfl).1
  have c5 := (cell_at (u := .int .i64 p5) crow 5 rfl).1
  have c6 := (cell_at (u := .slice T nt tc) crow 6 rfl).1
  have c7 := (cell_at (u := .slice U ns uc) crow 7 rfl).1
  clear crow
  have hv15 := HS15.out.2
  rw [HCS.out] at hv15
  have HV15 := Lib.hid hv15
  clear hv15
  go_wp2_with fail
  clear c0 c1 c2 c3 c4 c5 c6 c7
  refine (HSpec.out (.agg (scrCs p0 p1 p2 p3 p4 p5 T nt tc U ns uc)) _ HV15.out).mono ?_
  rintro en w16 ⟨hb16, v16, rfl, hv16⟩
  have HS16 := Lib.hid (HS15.out.call hb16)
  have HZ16 := Lib.hid (HZ15.out.call hb16)
  have HB16 := Lib.hid (HB15.out.trans (hb16.mono HB15.out.size))
  have HV16 := Lib.hid hv16
  clear hb16 hv16 HS15 HZ15 HB15
  go_wp2_with fail
  refine (HEX.out _).mono ?_
  rintro en w17 ⟨hb17, v17, rfl, hv17⟩
  have HS17 := Lib.hid (HS16.out.call hb17)
  have HZ17 := Lib.hid (HZ16.out.call hb17)
  have HB17 := Lib.hid (HB16.out.trans (hb17.mono HB16.out.size))
  have HV17 := Lib.hid hv17
  have HU17 := Lib.hid (HV16.out.below hb17)
  clear hb17 hv17 HS16 HZ16 HB16 HV16
  go_wp2_with fail
  refine (HSm.out _ _ _ HU17.out HV17.out).mono ?_
  rintro en w18 ⟨rfl, hb18⟩
  have HS18 := Lib.hid (HS17.out.call hb18)
  have HZ18 := Lib.hid (HZ17.out.call hb18)
  have HB18 := Lib.hid (HB17.out.trans (hb18.mono HB17.out.size))
  clear hb18 HS17 HZ17 HB17 HU17 HV17
  have drow := HZ18.out.1
  rw [HDS.out] at drow
  have d0 := (cell_at (u := .int .i64 q0) drow 0 rfl).1
  have d1 := (cell_at (u := .int .i64 q1) drow 1 rfl).1
  have d2 := (cell_at (u := .int .i64 q2) drow 2 rfl).1
  have d3 := (cell_at (u := .int .i64 q3) drow 3 rfl).1
  have d4 := (cell_at (u := .int .i64 q4) drow 4 rfl).1
  have d5 := (cell_at (u := .int .i64 q5) drow 5 rfl).1
  have d6 := (cell_at (u := .slice T' nt' tc') drow 6 rfl).1
  have d7 := (cell_at (u := .slice U' ns' uc') drow 7 rfl).1
  clear drow
  have hv18 := HZ18.out.2
  rw [HDS.out] at hv18
  have HV18 := Lib.hid hv18
  clear hv18
  go_wp2_with fail
  clear d0 d1 d2 d3 d4 d5 d6 d7
  refine (HSpec.out (.agg (scrCs q0 q1 q2 q3 q4 q5 T' nt' tc' U' ns' uc')) _ HV18.out).mono ?_
  rintro en w19 ⟨hb19, v19, rfl, hv19⟩
  have HS19 := Lib.hid (HS18.out.call hb19)
  have HZ19 := Lib.hid (HZ18.out.call hb19)
  have HB19 := Lib.hid (HB18.out.trans (hb19.mono HB18.out.size))
  have HV19 := Lib.hid hv19
  clear hb19 hv19 HS18 HZ18 HB18
  go_wp2_with fail
  refine (HEX.out _).mono ?_
  rintro en w20 ⟨hb20, v20, rfl, hv20⟩
  have HS20 := Lib.hid (HS19.out.call hb20)
  have HZ20 := Lib.hid (HZ19.out.call hb20)
  have HB20 := Lib.hid (HB19.out.trans (hb20.mono HB19.out.size))
  have HV20 := Lib.hid hv20
  have HU20 := Lib.hid (HV19.out.below hb20)
  clear hb20 hv20 HS19 HZ19 HB19 HV19
  go_wp2_with fail
  refine (HSm.out _ _ _ HU20.out HV20.out).mono ?_
  rintro en w21 ⟨rfl, hb21⟩
  have HS21 := Lib.hid (HS20.out.call hb21)
  have HZ21 := Lib.hid (HZ20.out.call hb21)
  have HB21 := Lib.hid (HB20.out.trans (hb21.mono HB20.out.size))
  clear hb21 HS20 HZ20 HB20 HU20 HV20
  go_wp2_with fail
  refine (HUn.out _).mono ?_
  rintro en w22 ⟨rfl, hb22⟩
  have HS22 := Lib.hid (HS21.out.call hb22)
  have HZ22 := Lib.hid (HZ21.out.call hb22)
  have HB22 := Lib.hid (HB21.out.trans (hb22.mono HB21.out.size))
  clear hb22 HS21 HZ21 HB21
  go_wp2_with fail
  refine (HRp.out _).mono ?_
  rintro en w23 ⟨rfl, hb23⟩
  have HS23 := Lib.hid (HS22.out.call hb23)
  have HZ23 := Lib.hid (HZ22.out.call hb23)
  have HB23 := Lib.hid (HB22.out.trans (hb23.mono HB22.out.size))
  clear hb23 HS22 HZ22 HB22
  have crow := HS23.out.1
  rw [HCS.out] at crow
  have c0 := (cell_at (u := .int .i64 p0) crow 0 rfl).1
  have c1 := (cell_at (u := .int .i64 p1) crow 1 rfl).1
  have c2 := (cell_at (u := .int .i64 p2) crow 2 rfl).1
  have c3 := (cell_at (u := .int .i64 p3) crow 3 rfl).1
  have c4 := (cell_at (u := .int .i64 p4) crow 4 rfl).1
  have c5 := (cell_at (u := .int .i64 p5) crow 5 rfl).1
  have c6 := (cell_at (u := .slice T nt tc) crow 6 rfl).1
  have c7 := (cell_at (u := .slice U ns uc) crow 7 rfl).1
  clear crow
  have drow := HZ23.out.1
  rw [HDS.out] at drow
  have d0 := (cell_at (u := .int .i64 q0) drow 0 rfl).1
  have d1 := (cell_at (u := .int .i64 q1) drow 1 rfl).1
  have d2 := (cell_at (u := .int .i64 q2) drow 2 rfl).1
  have d3 := (cell_at (u := .int .i64 q3) drow 3 rfl).1
  have d4 := (cell_at (u := .int .i64 q4) drow 4 rfl).1
  have d5 := (cell_at (u := .int .i64 q5) drow 5 rfl).1
  have d6 := (cell_at (u := .slice T' nt' tc') drow 6 rfl).1
  have d7 := (cell_at (u := .slice U' ns' uc') drow 7 rfl).1
  clear drow
  have hv23 := HS23.out.2
  rw [HCS.out] at hv23
  have hz23 := HZ23.out.2
  rw [HDS.out] at hz23
  have HV23 := Lib.hid hv23
  have HY23 := Lib.hid hz23
  clear hv23 hz23
  go_wp2_with fail
  clear c0 c1 c2 c3 c4 c5 c6 c7 d0 d1 d2 d3 d4 d5 d6 d7
  refine (HSp.out (.agg (scrCs p0 p1 p2 p3 p4 p5 T nt tc U ns uc)) (.agg (scrCs q0 q1 q2 q3 q4 q5 T' nt' tc' U' ns' uc')) _ HV23.out HY23.out).mono ?_
  rintro en w24 ⟨rfl, hb24⟩
  have HB24 := Lib.hid (HB23.out.trans (hb24.mono HB23.out.size))
  clear hb24
  go_wp2_with fail
  go_ret
  exact ⟨rfl, HB24.out⟩
end Go.Proofs.YtdfhbnfhkckkbaaGreatDoor
