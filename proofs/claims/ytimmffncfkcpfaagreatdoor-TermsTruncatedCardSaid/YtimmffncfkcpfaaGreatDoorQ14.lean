/-
  The walks of the reference's value and At.
  The walks of the reference's faults: note, head.
  The walks of the reference's hasClass and hasTenant.
  The walks of the reference's checks of an item (printed by gen_fault.py).
-/
import Derived.Test.YtimmffncfkcpfaaGreatDoorQ12
import Derived.Test.YtimmffncfkcpfaaGreatDoorQ1
import Derived.Test.YtimmffncfkcpfaaGreatDoorX8
namespace Go.Proofs.YtimmffncfkcpfaaGreatDoor
open Go Go.RowKit Go.Walks

theorem valD_take {l : Bytes} {k : Nat} {c : UInt8} (h : l[k]? = some c) : valD (l.take (k + 1)) = 10 * valD (l.take k) + (c.toNat - 48) := by
  rw [List.take_add_one, h]
  exact valD_snoc _ _
theorem valD_lt {l : Bytes} (h : ∀ c ∈ l, isD c = true) (h8 : l.length ≤ 8) : valD l < 100000000 := by
  by_cases h0 : l = []
  · rw [h0]; decide
  · exact (atoi_digits h0 h h8).2
/-- A text of digits, or none. -/
def NumTx (T : Tok) : Prop := (∀ c ∈ T.text, isD c = true) ∧ T.text.length ≤ 8
theorem numTx_of {T : Tok} (h : numB T.text = true) : NumTx T := by
  cases hl : T.text with
  | nil => rw [hl] at h; cases h
  | cons c r =>
    rw [hl] at h
    obtain ⟨h1, h2, -⟩ := numB_cons.1 h
    exact ⟨by rw [hl]; exact h1, by rw [hl]; simp; omega⟩
theorem numTx_0 : NumTx tok0 := ⟨(fun c hc => by cases hc), Nat.zero_le _⟩
set_option maxRecDepth 100000 in
set_option maxHeartbeats 4000000 in
theorem value_any (T : Tok) (w : World) (H : Hid (NumTx T)) : Calls Tryz.prog 21 #[.agg #[.string ⟨T.text.toArray⟩, .int .i64 (T.at_ : Int)]] w fun e w' => e = .returned (.int .i64 ((valD T.text : Nat) : Int)) ∧ Below w.heap.size w w' := by
  obtain ⟨W1, hW1⟩ : ∃ W, W = w.alloc (.cells #[.string ⟨T.text.toArray⟩, .int .i64 (T.at_ : Int)] 73) := ⟨_, rfl⟩
  have HB : Hid (Below w.heap.size w W1) := by rw [hW1]; exact (Below.refl _ _).alloc (Nat.le_refl _) _
  have hr : W1.heap[w.heap.size]? = some (.cells #[.string ⟨T.text.toArray⟩, .int .i64 (T.at_ : Int)] 73) := by rw [hW1]; exact heap_new _ _
  obtain ⟨t, ht⟩ : ∃ t : ByteArray, t = ⟨T.text.toArray⟩ := ⟨_, rfl⟩
  obtain ⟨l, hl⟩ : ∃ l, l = T.text := ⟨_, rfl⟩
  have htl : t.data.toList = l := by rw [ht, hl]
  have hsz : t.size = l.length := by rw [Lib.size_eq, htl]
  have hdg := H.out.1
  have h8 := H.out.2
  rw [← hl] at hdg h8
  rw [← ht] at hr
  have HLT := Lib.hid hl
  have HTL := Lib.hid htl
  have HDG := Lib.hid hdg
  obtain ⟨x0, x1, -⟩ := two_cells hr
  go_enter Tryz.func21, Tryz.ntmps21
  go_wp2_with fail
  rw [← hW1, ← ht]
  clear ht hl htl hr hdg H hW1
  go_loopg [3, 4] l.length (fun g s3 s4 wr => ∃ k : Nat, s3 = .int .i64 ((valD (l.take k) : Nat) : Int) ∧ s4 = .int .i64 (k : Int) ∧ g = l.length - k ∧ k ≤ l.length ∧ wr = W1)
  case atStart => exact ⟨0, rfl, rfl, rfl, Nat.zero_le _, rfl⟩
  case round =>
    obtain ⟨k, rfl, rfl, hg, hk, rfl⟩ := hrel
    have Hg := Lib.hid hg
    clear hg
    by_cases hlt : k < l.length
    · have hI1 : (0 : Int) ≤ (k : Int) := by omega
      have hI2 : (k : Int) < (l.length : Int) := by omega
      have hks : k < t.size := by omega
      obtain ⟨c, hc⟩ : ∃ c, t[k] = c := ⟨_, rfl⟩
      have hget : l[k]? = some c := by rw [← HTL.out, byte_get hks, hc]
      have hcd := (isD_iff c).1 (HDG.out c (List.mem_of_getElem? hget))
      obtain ⟨v, hv⟩ : ∃ v, v = valD (l.take k) := ⟨_, rfl⟩
      have hvl : v < 100000000 := by rw [hv]; exact valD_lt (fun d hd => HDG.out d (List.mem_of_mem_take hd)) (by rw [List.length_take]; omega)
      have hnx := valD_take hget
      rw [← hv] at hnx ⊢
      have Hnx := Lib.hid hnx
      obtain ⟨cn, hcn⟩ : ∃ n, n = c.toNat := ⟨_, rfl⟩
      have hc1 : (48 : Int) ≤ (cn : Int) := by omega
      have hc2 : (cn : Int) ≤ 57 := by omega
      clear hnx hv hget
      go_wp2_with fail
      go_roundg (l.length - (k + 1))
      case measure => rw [Hg.out]; omega
      case rel => exact ⟨k + 1, congrArg (Value.int .i64) (by rw [Hnx.out]; omega), by go_num, rfl, by omega, rfl⟩
    · have hI2 : ¬ (k : Int) < (l.length : Int) := by omega
      have hke : k = l.length := by omega
      have HV : Hid (valD l = valD (l.take k)) := by show _ = _; rw [hke, List.take_length]
      go_wp2_with fail
      go_ret
      exact ⟨by rw [← HLT.out, HV.out] <;> rfl, HB.out⟩

/-! Lines and columns. -/
def ColIs (l : Bytes) (k : Nat) (C : Int) : Prop := (C = (k : Int) + 1 ∧ ∀ j : Nat, j < k → l[j]? ≠ some 10) ∨ ∃ i : Nat, i < k ∧ C = (k : Int) - (i : Int) ∧ l[i]? = some 10 ∧ ∀ j : Nat, i < j → j < k → l[j]? ≠ some 10
theorem ColIs.bound {l : Bytes} {k : Nat} {C : Int} (h : ColIs l k C) : 1 ≤ C ∧ C ≤ (k : Int) + 1 := by
  rcases h with ⟨h, -⟩ | ⟨i, h1, h2, -⟩ <;> omega
theorem ColIs.nl {l : Bytes} {k : Nat} (h : l[k]? = some 10) : ColIs l (k + 1) 1 := .inr ⟨k, by omega, by omega, h, fun j h1 h2 => absurd h2 (by omega)⟩
theorem ColIs.next {l : Bytes} {k : Nat} {C : Int} (h : ColIs l k C) {c : UInt8} (hc : l[k]? = some c) (hn : c ≠ 10) : ColIs l (k + 1) (C + 1) := by
  have hk : l[k]? ≠ some 10 := by rw [hc]; simpa using hn
  rcases h with ⟨h1, h2⟩ | ⟨i, h1, h2, h3, h4⟩
  · refine .inl ⟨by omega, fun j hj => ?_⟩
    rcases Nat.lt_or_ge j k with h | h
    · exact h2 j h
    · rw [show j = k by omega]; exact hk
  · refine .inr ⟨i, by omega, by omega, h3, fun j hj hj2 => ?_⟩
    rcases Nat.lt_or_ge j k with h | h
    · exact h4 j hj h
    · rw [show j = k by omega]; exact hk
theorem ColIs.eq {t : ByteArray} {p : Nat} {C : Int} (h : ColIs t.data.toList p C) (hp : p ≤ t.size) : C = (p : Int) - Lib.lastIndexByte (t.extract 0 p) 10 := by
  have hl : (t.extract 0 p).data.toList = t.data.toList.take p := by rw [Lib.extract_data, List.drop_zero, Nat.sub_zero]
  have hsz : (t.extract 0 p).size = p := by rw [Lib.size_eq, hl, List.length_take, ← Lib.size_eq]; omega
  have hat : ∀ j : Nat, j < p → ((((t.extract 0 p).data[j]!).toNat : Int) = 10 ↔ t.data.toList[j]? = some 10) := fun j hj => by
    have hjt : j < t.size := by omega
    have h1 : (t.extract 0 p).data.toList[j]? = some t[j] := by rw [hl, List.getElem?_take, if_pos hj, byte_get hjt]
    have h2 : (t.extract 0 p).data[j]? = some t[j] := by rw [← Array.getElem?_toList]; exact h1
    have h3 : (t.extract 0 p).data[j]! = t[j] := by
      rw [getElem!_def, h2]
    rw [h3, byte_get hjt, Option.some.injEq]
    constructor
    · intro h; exact UInt8.toNat_inj.1 (by rw [show (10 : UInt8).toNat = 10 from rfl]; omega)
    · intro h; rw [h]; rfl
  have hsp := Lib.lastIndexByte_spec (t.extract 0 p) 10
  rw [hsz] at hsp
  rcases hsp with ⟨e, hno⟩ | ⟨i, hi, e, hi10, hno⟩
  · rw [e]
    rcases h with ⟨h1, -⟩ | ⟨i, h1, -, h3, -⟩
    · omega
    · exact absurd ((hat i h1).2 h3) (hno i h1)
  · rw [e]
    have h10 := (hat i hi).1 hi10
    rcases h with ⟨-, h2⟩ | ⟨j, h1, h2, h3, h4⟩
    · exact absurd h10 (h2 i hi)
    · have : i = j := by
        rcases Nat.lt_trichotomy i j with h | h | h
        · exact absurd ((hat j h1).2 h3) (hno j h h1)
        · exact h
        · exact absurd h10 (h4 i h hi)
      rw [this]; exact h2
theorem count_take {l : Bytes} {k : Nat} {c : UInt8} (h : l[k]? = some c) : Lib.countByte (l.take (k + 1)) 10 = Lib.countByte (l.take k) 10 + (if c = 10 then 1 else 0) := by
  unfold Lib.countByte
  rw [List.take_add_one, h, List.count_append]
  by_cases hc : c = 10
  · rw [hc]; rfl
  · rw [if_neg hc]
    have : List.count 10 (some c).toList = 0 := by
      rw [List.count_eq_zero]
      simp only [Option.toList, List.mem_singleton]
      exact fun e => hc e.symm
    rw [this]
theorem count_le (l : Bytes) (k : Nat) : Lib.countByte (l.take k) 10 ≤ k := by
  unfold Lib.countByte
  exact Nat.le_trans List.count_le_length (by rw [List.length_take]; omega)
set_option maxRecDepth 100000 in
theorem info28 : (Tryz.prog.info? 28).map (·.size) = some 2 := by kernel_rfl
set_option maxRecDepth 100000 in
theorem res20 (tmps : Array Value) (w : World) (g : Nat) (a b : Value) (hp : tmps.getD 4 undef = .pointer (some ⟨g, 0, none⟩)) (hg : w.heap[g]? = some (.cells #[a, b] 28)) :
    (results Tryz.f20 tmps).run Tryz.prog w = .ok (.agg #[a, b]) w :=
  results_cell_row (p := 4) (ty := 28) rfl tmps w g 28 #[a, b] (0, 0) _ hp hg Tryz.underlying28 rfl info28
/-- While At counts. -/
structure ATS (w : World) (t : ByteArray) (k : Nat) (C : Int) (W : World) : Prop where
  below : Below w.heap.size w W
  row : W.heap[w.heap.size + 1]? = some (.cells #[.int .i64 ((1 + Lib.countByte (t.data.toList.take k) 10 : Nat) : Int), .int .i64 C] 28)
  res : W.heap[w.heap.size]? = some (.cells #[.int .i64 0, .int .i64 0] 28)
  col : ColIs t.data.toList k C

set_option maxRecDepth 100000 in
set_option maxHeartbeats 4000000 in
theorem at_any (t : ByteArray) (p : Nat) (w : World) (ht : t.size ≤ 2000) (hp : p ≤ t.size) : Calls Tryz.prog 20 #[.string t, .int .i64 (p : Int)] w fun e w' => e = .returned (.agg (spotV t p)) ∧ Below w.heap.size w w' := by
  obtain ⟨W1, hW1⟩ : ∃ W, W = (w.alloc (.cells #[.int .i64 0, .int .i64 0] 28)).alloc (.cells #[.int .i64 1, .int .i64 1] 28) := ⟨_, rfl⟩
  have HS0 : Hid (ATS w t 0 1 W1) := by
    rw [hW1]
    refine ⟨((Below.refl _ _).alloc (Nat.le_refl _) _).alloc (by simp) _, ?_, (Below.heap_alloc _ _ _ (by simp)).trans (heap_new _ _), .inl ⟨rfl, fun j h => absurd h (by omega)⟩⟩
    have := heap_new (w.alloc (.cells #[.int .i64 0, .int .i64 0] 28)) (.cells #[.int .i64 1, .int .i64 1] 28)
    rw [World.size_alloc] at this
    exact this
  go_enter Tryz.func20, Tryz.ntmps20
  go_wp2_with fail
  rw [← hW1]
  clear hW1
  go_loopg [6] p (fun g s6 wr => ∃ (k : Nat) (C : Int), s6 = .int .i64 (k : Int) ∧ g = p - k ∧ k ≤ p ∧ Hid (ATS w t k C wr))
  case atStart => exact ⟨0, 1, rfl, rfl, Nat.zero_le _, HS0⟩
  case round =>
    obtain ⟨k, C, rfl, hg, hk, HS⟩ := hrel
    have Hg := Lib.hid hg
    clear hg HS0
    obtain ⟨x0, x1, x2⟩ := two_cells HS.out.row
    have x3 := (cell_at HS.out.row 1 rfl).2
    have hcb := HS.out.col.bound
    have hcn := count_le t.data.toList k
    obtain ⟨n, hn⟩ : ∃ n, n = Lib.countByte (t.data.toList.take k) 10 := ⟨_, rfl⟩
    rw [← hn] at x0 hcn
    by_cases hlt : k < p
    · have hI0 : (0 : Int) ≤ (k : Int) := by omega
      have hI1 : (k : Int) < (p : Int) := by omega
      have hI2 : (k : Int) < (t.size : Int) := by omega
      have hks : k < t.size := by omega
      obtain ⟨c, hc⟩ : ∃ c, t[k] = c := ⟨_, rfl⟩
      have hget : t.data.toList[k]? = some c := by rw [byte_get hks, hc]
      have hct := count_take hget
      rw [← hn] at hct
      have hC1 : 1 ≤ C := hcb.1
      have hC2 : C ≤ (k : Int) + 1 := hcb.2
      have hne : w.heap.size ≠ w.heap.size + 1 := by omega
      by_cases h10 : c = 10
      · subst h10
        have Hcol := Lib.hid (ColIs.nl hget)
        rw [if_pos rfl] at hct
        have Hct := Lib.hid hct
        clear hct hn hcb hget
        have hv : ((1 + Lib.countByte (t.data.toList.take (k + 1)) 10 : Nat) : Int) = 1 + (n : Int) + 1 := by rw [Hct.out]; omega
        have Hv := Lib.hid hv
        clear hv
        go_wp2_with fail
        go_roundg (p - (k + 1))
        case measure => rw [Hg.out]; omega
        case rel => exact ⟨k + 1, 1, by go_num, rfl, by omega, ⟨((HS.out.below.setCell (p := ⟨w.heap.size + 1, 1, none⟩) (Nat.le_succ _) _).setCell (p := ⟨w.heap.size + 1, 0, none⟩) (Nat.le_succ _) _).setCell (p := ⟨w.heap.size + 1, 1, none⟩) (Nat.le_succ _) _, by rw [Hv.out]; exact set_at (set_at (set_at HS.out.row 1 _) 0 _) 1 _, (Below.heap_setCell _ _ _ _ hne).trans ((Below.heap_setCell _ _ _ _ hne).trans ((Below.heap_setCell _ _ _ _ hne).trans HS.out.res)), Hcol.out⟩⟩
      · have n10 : ((c.toNat : Int) == 10) = false := by
          rw [beq_eq_false_iff_ne]; intro h; exact h10 (UInt8.toNat_inj.1 (by rw [show (10 : UInt8).toNat = 10 from rfl]; omega))
        have Hcol := Lib.hid (HS.out.col.next hget h10)
        rw [if_neg h10] at hct
        have hv : ((1 + Lib.countByte (t.data.toList.take (k + 1)) 10 : Nat) : Int) = ((1 + Lib.countByte (t.data.toList.take k) 10 : Nat) : Int) := by rw [hct, hn]; rfl
        have Hv := Lib.hid hv
        clear hct hn hcb hget h10 hv
        go_wp2_with fail
        go_roundg (p - (k + 1))
        case measure => rw [Hg.out]; omega
        case rel => exact ⟨k + 1, C + 1, by go_num, rfl, by omega, ⟨HS.out.below.setCell (p := ⟨w.heap.size + 1, 1, none⟩) (Nat.le_succ _) _, by rw [Hv.out]; exact set_at HS.out.row 1 _, (Below.heap_setCell _ _ _ _ hne).trans HS.out.res, Hcol.out⟩⟩
    · have hI1 : ¬ (k : Int) < (p : Int) := by omega
      have hkp : k = p := by omega
      have hsp : spotV t p = #[.int .i64 (1 + (n : Int)), .int .i64 C] := by
        have h1 : ((Lib.countByte (t.data.toList.take p) 10 : Nat) : Int) = (n : Int) := by rw [← hkp, ← hn]
        have h2 := HS.out.col
        rw [hkp] at h2
        have h3 := h2.eq hp
        unfold spotV
        rw [← h3, IntWalk.i64_in _ (by omega), IntWalk.i64_in _ (by omega), h1]
      have HSP := Lib.hid hsp
      obtain ⟨z0, z1, z2⟩ := two_cells HS.out.res
      have z3 := (cell_at HS.out.res 1 rfl).2
      clear hsp hn hcb hkp
      go_wp2_with fail
      refine bodyPost_ret (res20 _ _ w.heap.size (.int .i64 (1 + (n : Int))) (.int .i64 C) rfl (set_at (set_at HS.out.res 0 _) 1 _)) rfl ?_
      exact ⟨by rw [HSP.out], (HS.out.below.setCell (p := ⟨w.heap.size, 0, none⟩) (Nat.le_refl _) _).setCell (p := ⟨w.heap.size, 1, none⟩) (Nat.le_refl _) _⟩
end Go.Proofs.YtimmffncfkcpfaaGreatDoor
namespace Go.Proofs.YtimmffncfkcpfaaGreatDoor
open Go Go.RowKit Go.Walks

/-- The first fault: where, and which error (0: none). -/
def noteF (wrong : Bool) (T : Tok) (e : Nat) (F : Nat × Nat) : Nat × Nat := if wrong = true ∧ F.2 = 0 then (T.at_, e) else F
def fltCs (F : Nat × Nat) : Array Value := #[.int .i64 (F.1 : Int), .int .i64 (F.2 : Int)]
def NoteP (g : Nat) (F : Nat × Nat) (w : World) (e : Ending) (w' : World) : Prop := e = .returned (.tuple #[]) ∧ RB g w w' ∧ w'.heap[g]? = some (.cells (fltCs F) 79)

set_option maxRecDepth 100000 in
set_option maxHeartbeats 4000000 in
theorem note_any (g : Nat) (F : Nat × Nat) (wrong : Bool) (T : Tok) (en : Nat) (w : World) (H : Hid (w.heap[g]? = some (.cells (fltCs F) 79))) :
    Calls Tryz.prog 63 #[.pointer (some ⟨g, 0, none⟩), .bool wrong, .agg #[.string ⟨T.text.toArray⟩, .int .i64 (T.at_ : Int)], .int .i64 (en : Int)] w (NoteP g (noteF wrong T en F) w) := by
  obtain ⟨W1, hW1⟩ : ∃ W, W = w.alloc (.cells #[.string ⟨T.text.toArray⟩, .int .i64 (T.at_ : Int)] 73) := ⟨_, rfl⟩
  have hb : Below w.heap.size w W1 := by rw [hW1]; exact (Below.refl _ _).alloc (Nat.le_refl _) _
  have hr : W1.heap[w.heap.size]? = some (.cells #[.string ⟨T.text.toArray⟩, .int .i64 (T.at_ : Int)] 73) := by rw [hW1]; exact heap_new _ _
  have hg : W1.heap[g]? = some (.cells #[.int .i64 (F.1 : Int), .int .i64 (F.2 : Int)] 79) := below_cells H.out hb
  have hlt : g < w.heap.size := (Array.getElem?_eq_some_iff.1 H.out).1
  have HB := Lib.hid hb
  have HG := Lib.hid hg
  obtain ⟨x0, x1, -⟩ := two_cells hr
  obtain ⟨y0, y1, y2⟩ := two_cells hg
  have y3 := (cell_at hg 1 rfl).2
  have ne : w.heap.size ≠ g := by omega
  obtain ⟨F', hF⟩ : ∃ F', F' = noteF wrong T en F := ⟨_, rfl⟩
  rw [← hF]
  have HF := Lib.hid hF
  clear hF hb hg hr
  cases wrong with
  | false =>
    have HF2 : Hid (F' = F) := HF.out.trans (if_neg (fun h => by cases h.1))
    go_enter Tryz.func63, Tryz.ntmps63
    go_wp2_with fail
    refine bodyPost_end (results_none rfl _ _ _) rfl ?_
    rw [← hW1, HF2.out]
    exact ⟨rfl, RB.of_below HB.out, HG.out⟩
  | true =>
    by_cases h0 : F.2 = 0
    · have HF2 : Hid (F' = (T.at_, en)) := HF.out.trans (if_pos ⟨rfl, h0⟩)
      have hq : ((F.2 : Int) == 0) = true := by rw [beq_iff_eq]; omega
      clear h0
      go_enter Tryz.func63, Tryz.ntmps63
      go_upto_region 1 with fail
      rw [← hW1]
      clear hW1
      go_wp2_with fail
      refine bodyPost_end (results_none rfl _ _ _) rfl ?_
      rw [HF2.out]
      exact ⟨rfl, ((RB.of_below HB.out).setCell (r := g) 0 _).setCell 1 _, set_at (set_at HG.out 0 _) 1 _⟩
    · have HF2 : Hid (F' = F) := HF.out.trans (if_neg (fun h => h0 h.2))
      have hq : ((F.2 : Int) == 0) = false := by rw [beq_eq_false_iff_ne]; omega
      clear h0
      go_enter Tryz.func63, Tryz.ntmps63
      go_upto_region 1 with fail
      rw [← hW1]
      clear hW1
      go_wp2_with fail
      refine bodyPost_end (results_none rfl _ _ _) rfl ?_
      rw [HF2.out]
      exact ⟨rfl, RB.of_below HB.out, HG.out⟩
end Go.Proofs.YtimmffncfkcpfaaGreatDoor
namespace Go.Proofs.YtimmffncfkcpfaaGreatDoor
open Go Go.RowKit Go.Walks

theorem has_yes {α : Type} {l : List α} {f : α → Bytes} {n k : Nat} {x : α} {nm : Bytes} (hk : k < n) (hx : l[k]? = some x) (he : f x = nm) : decide (nm ∈ (l.take n).map f) = true := by
  rw [decide_eq_true_eq, List.mem_map]
  refine ⟨x, ?_, he⟩
  rw [List.mem_iff_getElem?]
  exact ⟨k, by rw [List.getElem?_take, if_pos hk]; exact hx⟩
theorem has_no {α : Type} {l : List α} {f : α → Bytes} {n : Nat} {nm : Bytes} (h : ∀ (j : Nat) (x : α), j < n → l[j]? = some x → f x ≠ nm) : decide (nm ∈ (l.take n).map f) = false := by
  rw [decide_eq_false_iff_not, List.mem_map]
  rintro ⟨x, hx, he⟩
  obtain ⟨j, hj⟩ := List.mem_iff_getElem?.1 hx
  rw [List.getElem?_take] at hj
  split at hj
  · exact h j x (by assumption) hj he
  · cases hj

set_option maxRecDepth 100000 in
set_option maxHeartbeats 4000000 in
theorem has25_any (T : TermsD) (v : Value) (nm : Bytes) (n : Nat) (w : World) (Hv : Hid (TermsV w T v)) (hn : n ≤ T.classes.length) : Calls Tryz.prog 25 #[v, .int .i64 (n : Int), .string ⟨nm.toArray⟩] w (BoolR (decide (nm ∈ (T.classes.take n).map ClassD.name)) w) := by
  obtain ⟨A, c, A', d, rfl, hs1, hs2, hc1, hc2, hc3, hc4⟩ := Hv.out
  obtain ⟨p, hp⟩ : ∃ p, p = T.classes.length := ⟨_, rfl⟩
  obtain ⟨q, hq⟩ : ∃ q, q = T.contracts.length := ⟨_, rfl⟩
  rw [← hp] at hc1 ⊢
  rw [← hq] at hc2 ⊢
  have Hn := Lib.hid hn
  rw [← hp] at hn
  have Hp := Lib.hid hp
  have Hs := Lib.hid hs1
  have S0 := Lib.hid (RW.start w #[.slice A p c, .slice A' q d])
  unfold maxLen at hc3 hc4
  clear hs1 hs2 Hv hp hq
  obtain ⟨bR, hbR⟩ : ∃ b, b = decide (nm ∈ (T.classes.take n).map ClassD.name) := ⟨_, rfl⟩
  have HBR := Lib.hid hbR
  rw [← hbR]
  clear hbR
  go_enter Tryz.func25, Tryz.ntmps25
  go_wp2_with fail
  go_loopg [7] n (fun g s wr => ∃ k : Nat, s = .int .i64 (k : Int) ∧ g = n - k ∧ k ≤ n ∧ Hid (RW w #[.slice A p c, .slice A' q d] wr) ∧ Hid (∀ (j : Nat) (x : ClassD), j < k → T.classes[j]? = some x → ClassD.name x ≠ nm))
  case atStart => exact ⟨0, rfl, rfl, Nat.zero_le _, S0.out, fun j x h => absurd h (by omega)⟩
  case round =>
    obtain ⟨k, rfl, hg, hkk, HSk, HQk⟩ := hrel
    have Hgk := Lib.hid hg
    clear hg
    obtain ⟨x0, x1, -⟩ := two_cells HSk.out.x1
    by_cases hlt : k < n
    · have hI0 : (k : Int) < (n : Int) := by omega
      have hI1 : (0 : Int) ≤ (k : Int) := by omega
      have hI2 : (k : Int) < (p : Int) := by omega
      obtain ⟨C, hC⟩ : ∃ x, T.classes[k]? = some x := ⟨_, List.getElem?_eq_getElem (by have := Hn.out; omega)⟩
      obtain ⟨bb, o, hA, hb, hcells⟩ := sl_at cls_len Hs.out hC (by omega)
      subst hA
      have k0 := (HSk.out.below.cell (p := ⟨bb, o + (k * 4 + 0), none⟩) hb).trans (hcells 0 _ rfl)
      rw [Nat.add_zero] at k0
      have HC := Lib.hid hC
      obtain ⟨x0_, x1, x2, x3⟩ := C
      dsimp only at k0
      clear hC hcells
      cases hbe : (x0_ == nm) with
      | true =>
        have Hyes : Hid (bR = true) := HBR.out.trans (has_yes hlt HC.out (by simpa using hbe))
        go_wp2_with fail
        go_ret
        exact ⟨by rw [Hyes.out] <;> rfl, HSk.out.below⟩
      | false =>
        have HQ2 : Hid (∀ (j : Nat) (x : ClassD), j < k + 1 → T.classes[j]? = some x → ClassD.name x ≠ nm) := fun j x hj hx => by
          rcases Nat.lt_or_ge j k with h | h
          · exact HQk.out j x h hx
          · obtain rfl : j = k := by omega
            rw [HC.out] at hx
            injection hx with hx
            subst hx
            simpa using hbe
        go_wp2_with fail
        go_roundg (n - (k + 1))
        case measure => rw [Hgk.out]; omega
        case rel => exact ⟨k + 1, by go_num, rfl, by omega, HSk.out, HQ2.out⟩
    · have hke : ¬ (k : Int) < (n : Int) := by omega
      have hkn : k = n := by omega
      subst hkn
      have Hno : Hid (bR = false) := HBR.out.trans (has_no HQk.out)
      go_wp2_with fail
      go_ret
      exact ⟨by rw [Hno.out] <;> rfl, HSk.out.below⟩

set_option maxRecDepth 100000 in
set_option maxHeartbeats 4000000 in
theorem has27_any (T : TermsD) (v : Value) (nm : Bytes) (n : Nat) (w : World) (Hv : Hid (TermsV w T v)) (hn : n ≤ T.contracts.length) : Calls Tryz.prog 23 #[v, .int .i64 (n : Int), .string ⟨nm.toArray⟩] w (BoolR (decide (nm ∈ (T.contracts.take n).map ContrD.tenant)) w) := by
  obtain ⟨A, c, A', d, rfl, hs1, hs2, hc1, hc2, hc3, hc4⟩ := Hv.out
  obtain ⟨p, hp⟩ : ∃ p, p = T.classes.length := ⟨_, rfl⟩
  obtain ⟨q, hq⟩ : ∃ q, q = T.contracts.length := ⟨_, rfl⟩
  rw [← hp] at hc1 ⊢
  rw [← hq] at hc2 ⊢
  have Hn := Lib.hid hn
  rw [← hq] at hn
  have Hp := Lib.hid hq
  have Hs := Lib.hid hs2
  have S0 := Lib.hid (RW.start w #[.slice A p c, .slice A' q d])
  unfold maxLen at hc3 hc4
  clear hs1 hs2 Hv hp hq
  obtain ⟨bR, hbR⟩ : ∃ b, b = decide (nm ∈ (T.contracts.take n).map ContrD.tenant) := ⟨_, rfl⟩
  have HBR := Lib.hid hbR
  rw [← hbR]
  clear hbR
  go_enter Tryz.func23, Tryz.ntmps23
  go_wp2_with fail
  go_loopg [7] n (fun g s wr => ∃ k : Nat, s = .int .i64 (k : Int) ∧ g = n - k ∧ k ≤ n ∧ Hid (RW w #[.slice A p c, .slice A' q d] wr) ∧ Hid (∀ (j : Nat) (x : ContrD), j < k → T.contracts[j]? = some x → ContrD.tenant x ≠ nm))
  case atStart => exact ⟨0, rfl, rfl, Nat.zero_le _, S0.out, fun j x h => absurd h (by omega)⟩
  case round =>
    obtain ⟨k, rfl, hg, hkk, HSk, HQk⟩ := hrel
    have Hgk := Lib.hid hg
    clear hg
    obtain ⟨x0, x1, -⟩ := two_cells HSk.out.x1
    by_cases hlt : k < n
    · have hI0 : (k : Int) < (n : Int) := by omega
      have hI1 : (0 : Int) ≤ (k : Int) := by omega
      have hI2 : (k : Int) < (q : Int) := by omega
      obtain ⟨C, hC⟩ : ∃ x, T.contracts[k]? = some x := ⟨_, List.getElem?_eq_getElem (by have := Hn.out; omega)⟩
      obtain ⟨bb, o, hA, hb, hcells⟩ := sl_at ctr_len Hs.out hC (by omega)
      subst hA
      have k0 := (HSk.out.below.cell (p := ⟨bb, o + (k * 6 + 0), none⟩) hb).trans (hcells 0 _ rfl)
      rw [Nat.add_zero] at k0
      have HC := Lib.hid hC
      obtain ⟨x0_, x1, x2, x3, x4, x5⟩ := C
      dsimp only at k0
      clear hC hcells
      cases hbe : (x0_ == nm) with
      | true =>
        have Hyes : Hid (bR = true) := HBR.out.trans (has_yes hlt HC.out (by simpa using hbe))
        go_wp2_with fail
        go_ret
        exact ⟨by rw [Hyes.out] <;> rfl, HSk.out.below⟩
      | false =>
        have HQ2 : Hid (∀ (j : Nat) (x : ContrD), j < k + 1 → T.contracts[j]? = some x → ContrD.tenant x ≠ nm) := fun j x hj hx => by
          rcases Nat.lt_or_ge j k with h | h
          · exact HQk.out j x h hx
          · obtain rfl : j = k := by omega
            rw [HC.out] at hx
            injection hx with hx
            subst hx
            simpa using hbe
        go_wp2_with fail
        go_roundg (n - (k + 1))
        case measure => rw [Hgk.out]; omega
        case rel => exact ⟨k + 1, by go_num, rfl, by omega, HSk.out, HQ2.out⟩
    · have hke : ¬ (k : Int) < (n : Int) := by omega
      have hkn : k = n := by omega
      subst hkn
      have Hno : Hid (bR = false) := HBR.out.trans (has_no HQk.out)
      go_wp2_with fail
      go_ret
      exact ⟨by rw [Hno.out] <;> rfl, HSk.out.below⟩

end Go.Proofs.YtimmffncfkcpfaaGreatDoor
namespace Go.Proofs.YtimmffncfkcpfaaGreatDoor
open Go Go.RowKit Go.Walks

/-- While an item is checked. -/
structure FltS (w : World) (g b : Nat) (x : RItem) (F : Nat × Nat) (W : World) : Prop where
  rb : RB g w W
  row : W.heap[g]? = some (.cells (fltCs F) 79)
  box : W.heap[b]? = some (.cells (itemA x) 75)
  ne : b ≠ g
section
variable {w W W' : World} {g b : Nat} {x : RItem} {F F' : Nat × Nat}
theorem FltS.below (h : FltS w g b x F W) (hb : Below W.heap.size W W') : FltS w g b x F W' := ⟨h.rb.trans (RB.of_below hb), below_cells h.row hb, below_cells h.box hb, h.ne⟩
theorem FltS.note (h : FltS w g b x F W) (hr : RB g W W') (hrow : W'.heap[g]? = some (.cells (fltCs F') 79)) : FltS w g b x F' W' := ⟨h.rb.trans hr, hrow, hr.row h.ne h.box, h.ne⟩
theorem FltS.drew (h : FltS w g b x F W) : FltS w g b x F W.drew := h.below (Below.refl _ _).drew
theorem FltS.c1 (h : FltS w g b x F W) : W.cell? ⟨b, 1, none⟩ = some (.string ⟨x.name.text.toArray⟩) ∧ W.cell? ⟨b, 2, none⟩ = some (.int .i64 (x.name.at_ : Int)) := ⟨(cell_at h.box 1 rfl).1, (cell_at h.box 2 rfl).1⟩
theorem FltS.c3 (h : FltS w g b x F W) : W.cell? ⟨b, 3, none⟩ = some (.string ⟨x.other.text.toArray⟩) ∧ W.cell? ⟨b, 4, none⟩ = some (.int .i64 (x.other.at_ : Int)) := ⟨(cell_at h.box 3 rfl).1, (cell_at h.box 4 rfl).1⟩
theorem FltS.c5 (h : FltS w g b x F W) : W.cell? ⟨b, 5, none⟩ = some (.string ⟨x.losses.text.toArray⟩) ∧ W.cell? ⟨b, 6, none⟩ = some (.int .i64 (x.losses.at_ : Int)) := ⟨(cell_at h.box 5 rfl).1, (cell_at h.box 6 rfl).1⟩
theorem FltS.c7 (h : FltS w g b x F W) : W.cell? ⟨b, 7, none⟩ = some (.string ⟨x.whole.text.toArray⟩) ∧ W.cell? ⟨b, 8, none⟩ = some (.int .i64 (x.whole.at_ : Int)) := ⟨(cell_at h.box 7 rfl).1, (cell_at h.box 8 rfl).1⟩
theorem FltS.c9 (h : FltS w g b x F W) : W.cell? ⟨b, 9, none⟩ = some (.string ⟨x.guar.text.toArray⟩) ∧ W.cell? ⟨b, 10, none⟩ = some (.int .i64 (x.guar.at_ : Int)) := ⟨(cell_at h.box 9 rfl).1, (cell_at h.box 10 rfl).1⟩
theorem FltS.c11 (h : FltS w g b x F W) : W.cell? ⟨b, 11, none⟩ = some (.string ⟨x.snap.text.toArray⟩) ∧ W.cell? ⟨b, 12, none⟩ = some (.int .i64 (x.snap.at_ : Int)) := ⟨(cell_at h.box 11 rfl).1, (cell_at h.box 12 rfl).1⟩
theorem FltS.c13 (h : FltS w g b x F W) : W.cell? ⟨b, 13, none⟩ = some (.string ⟨x.burst.text.toArray⟩) ∧ W.cell? ⟨b, 14, none⟩ = some (.int .i64 (x.burst.at_ : Int)) := ⟨(cell_at h.box 13 rfl).1, (cell_at h.box 14 rfl).1⟩
theorem FltS.c15 (h : FltS w g b x F W) : W.cell? ⟨b, 15, none⟩ = some (.string ⟨x.rank.text.toArray⟩) ∧ W.cell? ⟨b, 16, none⟩ = some (.int .i64 (x.rank.at_ : Int)) := ⟨(cell_at h.box 15 rfl).1, (cell_at h.box 16 rfl).1⟩
end
theorem FltS.start {w : World} {g : Nat} {x : RItem} {F : Nat × Nat} (h : w.heap[g]? = some (.cells (fltCs F) 79)) : FltS w g w.heap.size x F (w.alloc (.cells (itemA x) 75)) := by
  have hb : Below w.heap.size w (w.alloc (.cells (itemA x) 75)) := (Below.refl _ _).alloc (Nat.le_refl _) _
  exact ⟨RB.of_below hb, below_cells h hb, heap_new _ _, by have := (Array.getElem?_eq_some_iff.1 h).1; omega⟩
theorem note_iff {B : Bool} {P : Prop} [Decidable P] (h : B = true ↔ P) (T : Tok) (e : Nat) (F : Nat × Nat) : noteF B T e F = noteF (decide P) T e F := by
  have : B = decide P := by rw [Bool.eq_iff_iff, h, decide_eq_true_eq]
  rw [this]
def headF (x : RItem) (many most : Nat) (twice : Bool) (F : Nat × Nat) : Nat × Nat := noteF twice x.name 4 (noteF (decide (most ≤ many ∨ 12 < x.name.text.length)) x.name 2 F)
def classF (x : RItem) (F : Nat × Nat) : Nat × Nat := noteF (decide (¬ (1 ≤ valD x.whole.text ∧ valD x.whole.text ≤ 1048576))) x.whole 1 (noteF (decide (4 < valD x.losses.text)) x.losses 1 (noteF (decide (12 < x.other.text.length)) x.other 2 F))
def tenF (x : RItem) (known : Bool) (F : Nat × Nat) : Nat × Nat := noteF (!known) x.other 4 (noteF (decide (12 < x.other.text.length)) x.other 2 (noteF (decide (9 < valD x.rank.text ∨ (valD x.burst.text = 0 ∧ 0 < valD x.rank.text))) x.rank 1
  (noteF (decide (1048576 < valD x.burst.text)) x.burst 1 (noteF (decide (1048576 < valD x.snap.text)) x.snap 1 (noteF (decide (1048576 < valD x.guar.text)) x.guar 1 F)))))

set_option maxRecDepth 100000 in
set_option maxHeartbeats 8000000 in
theorem rhead_any (g : Nat) (F : Nat × Nat) (x : RItem) (many most : Nat) (twice : Bool) (w : World) (H : Hid (w.heap[g]? = some (.cells (fltCs F) 79))) :
    Calls Tryz.prog 22 #[.pointer (some ⟨g, 0, none⟩), .agg (itemA x), .int .i64 (many : Int), .int .i64 (most : Int), .bool twice] w (NoteP g (headF x many most twice F) w) := by
  have HS0 := Lib.hid (FltS.start (x := x) H.out)
  obtain ⟨b, hb⟩ : ∃ b, b = w.heap.size := ⟨_, rfl⟩
  obtain ⟨W1, hW1⟩ : ∃ W, W = w.alloc (.cells (itemA x) 75) := ⟨_, rfl⟩
  rw [← hW1, ← hb] at HS0
  obtain ⟨FF, hFF⟩ : ∃ y, y = headF x many most twice F := ⟨_, rfl⟩
  rw [← hFF]
  have HFF := Lib.hid hFF
  clear hFF H
  unfold itemA at hW1 ⊢
  obtain ⟨F1, hF1⟩ : ∃ y, y = noteF (decide (most ≤ many ∨ 12 < x.name.text.length)) x.name 2 F := ⟨_, rfl⟩
  have HF1 : Hid (∀ B : Bool, (B = true ↔ most ≤ many ∨ 12 < x.name.text.length) → noteF B x.name 2 F = F1) := fun B h => (note_iff h _ _ _).trans hF1.symm
  have EF1 := Lib.hid hF1
  clear hF1
  obtain ⟨F2, hF2⟩ : ∃ y, y = noteF twice x.name 4 F1 := ⟨_, rfl⟩
  have HF2 : Hid (noteF twice x.name 4 F1 = F2) := hF2.symm
  have EF2 := Lib.hid hF2
  clear hF2
  have HE : Hid (FF = F2) := by show _ = _; rw [HFF.out, EF2.out, EF1.out]; rfl
  go_enter Tryz.func22, Tryz.ntmps22
  go_upto_region 1 with fail
  rw [← hW1, ← hb]
  clear hW1 hb
  obtain ⟨c1, c2⟩ := HS0.out.c1
  by_cases hm : most ≤ many
  · have hi : (most : Int) ≤ (many : Int) := by omega
    go_wp2_with fail
    refine (note_any g _ _ x.name 2 _ HS0.out.row).mono ?_
    rintro e v1 ⟨rfl, hrb, hrow⟩
    rw [HF1.out _ (by first | (simp [hm]; done) | (simp [hm]; omega))] at hrow
    have HS1 := Lib.hid (HS0.out.note hrb hrow)
    clear hrb hrow
    clear c1 c2
    obtain ⟨c1, c2⟩ := HS1.out.c1
    go_wp2_with fail
    refine (note_any g _ _ x.name 4 _ HS1.out.row).mono ?_
    rintro e v2 ⟨rfl, hrb, hrow⟩
    rw [HF2.out] at hrow
    have HS2 := Lib.hid (HS1.out.note hrb hrow)
    clear hrb hrow
    go_wp2_with fail
    refine bodyPost_end (results_none rfl _ _ _) rfl ?_
    rw [HE.out]
    exact ⟨rfl, HS2.out.rb, HS2.out.row⟩
  · have hi : ¬ (most : Int) ≤ (many : Int) := by omega
    go_wp2_with fail
    refine (note_any g _ _ x.name 2 _ HS0.out.row).mono ?_
    rintro e v1 ⟨rfl, hrb, hrow⟩
    rw [HF1.out _ (by first | (simp [hm]; done) | (simp [hm]; omega))] at hrow
    have HS1 := Lib.hid (HS0.out.note hrb hrow)
    clear hrb hrow
    clear c1 c2
    obtain ⟨c1, c2⟩ := HS1.out.c1
    go_wp2_with fail
    refine (note_any g _ _ x.name 4 _ HS1.out.row).mono ?_
    rintro e v2 ⟨rfl, hrb, hrow⟩
    rw [HF2.out] at hrow
    have HS2 := Lib.hid (HS1.out.note hrb hrow)
    clear hrb hrow
    go_wp2_with fail
    refine bodyPost_end (results_none rfl _ _ _) rfl ?_
    rw [HE.out]
    exact ⟨rfl, HS2.out.rb, HS2.out.row⟩

set_option maxRecDepth 100000 in
set_option maxHeartbeats 8000000 in
theorem rclassF_any (g : Nat) (F : Nat × Nat) (x : RItem) (w : World) (H : Hid (w.heap[g]? = some (.cells (fltCs F) 79))) (HVlosses : Hid (NumTx x.losses)) (HVwhole : Hid (NumTx x.whole)) :
    Calls Tryz.prog 26 #[.pointer (some ⟨g, 0, none⟩), .agg (itemA x)] w (NoteP g (classF x F) w) := by
  have HS0 := Lib.hid (FltS.start (x := x) H.out)
  obtain ⟨b, hb⟩ : ∃ b, b = w.heap.size := ⟨_, rfl⟩
  obtain ⟨W1, hW1⟩ : ∃ W, W = w.alloc (.cells (itemA x) 75) := ⟨_, rfl⟩
  rw [← hW1, ← hb] at HS0
  obtain ⟨FF, hFF⟩ : ∃ y, y = classF x F := ⟨_, rfl⟩
  rw [← hFF]
  have HFF := Lib.hid hFF
  clear hFF H
  unfold itemA at hW1 ⊢
  go_enter Tryz.func26, Tryz.ntmps26
  go_upto_region 1 with fail
  rw [← hW1, ← hb]
  clear hW1 hb
  obtain ⟨F1, hF1⟩ : ∃ y, y = noteF (decide (12 < x.other.text.length)) x.other 2 F := ⟨_, rfl⟩
  have HF1 : Hid (∀ B : Bool, (B = true ↔ 12 < x.other.text.length) → noteF B x.other 2 F = F1) := fun B h => (note_iff h _ _ _).trans hF1.symm
  have EF1 := Lib.hid hF1
  clear hF1
  obtain ⟨c3, c4⟩ := HS0.out.c3
  go_wp2_with fail
  refine (note_any g _ _ x.other 2 _ HS0.out.row).mono ?_
  rintro e v1 ⟨rfl, hrb, hrow⟩
  rw [HF1.out _ (by simp only [decide_eq_true_eq]; omega)] at hrow
  have HS1 := Lib.hid (HS0.out.note hrb hrow)
  clear hrb hrow
  clear c3 c4
  obtain ⟨F2, hF2⟩ : ∃ y, y = noteF (decide (4 < valD x.losses.text)) x.losses 1 F1 := ⟨_, rfl⟩
  have HF2 : Hid (∀ B : Bool, (B = true ↔ 4 < valD x.losses.text) → noteF B x.losses 1 F1 = F2) := fun B h => (note_iff h _ _ _).trans hF2.symm
  have EF2 := Lib.hid hF2
  clear hF2
  go_upto_region 2 with fail
  have HS1d := Lib.hid HS1.out.drew
  obtain ⟨c5, c6⟩ := HS1.out.c5
  go_region_held3 (fun W => W.cell? ⟨b, 5, none⟩ = some (.string ⟨x.losses.text.toArray⟩) ∧ W.cell? ⟨b, 6, none⟩ = some (.int .i64 (x.losses.at_ : Int)))
    (first | exact HS2.out.c5 | exact HU2.out.c5 | exact HS1d.out.c5)
    (first | (go_at_call 21; refine (value_any x.losses _ HVlosses).mono ?_; rintro e u2 ⟨rfl, hb⟩; have HU2 := Lib.hid (HS1d.out.below hb); clear hb) | (go_at_call 63; refine (note_any g _ _ x.losses 1 _ HU2.out.row).mono ?_; rintro e v2 ⟨rfl, hrb, hrow⟩; rw [HF2.out _ (by simp only [decide_eq_true_eq]; omega)] at hrow; have HS2 := Lib.hid (HU2.out.note hrb hrow); clear hrb hrow))
  clear c5 c6
  obtain ⟨F3, hF3⟩ : ∃ y, y = noteF (decide (¬ (1 ≤ valD x.whole.text ∧ valD x.whole.text ≤ 1048576))) x.whole 1 F2 := ⟨_, rfl⟩
  have HF3 : Hid (∀ B : Bool, (B = true ↔ ¬ (1 ≤ valD x.whole.text ∧ valD x.whole.text ≤ 1048576)) → noteF B x.whole 1 F2 = F3) := fun B h => (note_iff h _ _ _).trans hF3.symm
  have EF3 := Lib.hid hF3
  clear hF3
  go_upto_region 3 with fail
  have HS2d := Lib.hid HS2.out.drew
  obtain ⟨c7, c8⟩ := HS2.out.c7
  go_region_held3 (fun W => W.cell? ⟨b, 7, none⟩ = some (.string ⟨x.whole.text.toArray⟩) ∧ W.cell? ⟨b, 8, none⟩ = some (.int .i64 (x.whole.at_ : Int)))
    (first | exact HS3.out.c7 | exact HU3.out.c7 | exact HS2d.out.c7)
    (first | (go_at_call 21; refine (value_any x.whole _ HVwhole).mono ?_; rintro e u3 ⟨rfl, hb⟩; have HU3 := Lib.hid (HS2d.out.below hb); clear hb) | (go_at_call 64; refine (within_any _ _ _ _).mono ?_; rintro e u' ⟨rfl, hu'⟩; have hu2 := hu'.symm; subst hu2) | (go_at_call 63; refine (note_any g _ _ x.whole 1 _ HU3.out.row).mono ?_; rintro e v3 ⟨rfl, hrb, hrow⟩; rw [HF3.out _ (by simp; omega)] at hrow; have HS3 := Lib.hid (HU3.out.note hrb hrow); clear hrb hrow))
  clear c7 c8
  go_wp2_with fail
  refine bodyPost_end (results_none rfl _ _ _) rfl ?_
  have HE : FF = F3 := by rw [HFF.out, EF3.out, EF2.out, EF1.out]; rfl
  rw [HE]
  exact ⟨rfl, HS3.out.rb, HS3.out.row⟩
end Go.Proofs.YtimmffncfkcpfaaGreatDoor
