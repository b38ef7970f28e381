/-
  The walk of (*strings.Builder).WriteString: which blocks it writes.
-/
import Derived.Test.YtdfhbnfhkckkbaaGreatDoorW11
import Derived.Lib.Builder
import Derived.Lib.AppendStr
import Derived.Lib.UnsafeStr
import Derived.Lib.Hide
import Derived.Lib.ItoaLen
import Derived.Lib.AppendIntMem
import Derived.RegionTactic
namespace Go.Proofs.YtdfhbnfhkckkbaaGreatDoor
open Go Go.RowKit Go.Walks

theorem own_set {W : World} {B e size n g : Nat} {t' : TypeId} {v : Value} {xs : List Value} {cs : Array Value} {fz : Nat × Nat} (h : W.ownsRow B e size v n xs) (hg : W.heap[g]? = some (.cells cs t' fz)) (ht : t' ≠ e) (k : Nat) (u : Value) : (W.setCell ⟨g, k, none⟩ u).ownsRow B e size v n xs := by
  refine ⟨h.1, ?_⟩
  rcases h.2 with h | ⟨g', cap, cur, e1, hle, hh, h⟩
  · exact .inl h
  · exact .inr ⟨g', cap, cur, e1, hle, (Below.heap_setCell _ _ _ _ (cells_other hh hg ht)).trans hh, h⟩
/-- The builder in block b holds the bytes l; its buffer is block g. -/
def BdAt (w : World) (B b : Nat) (l : Bytes) (g : Option Nat) : Prop :=
  B ≤ b ∧ ∃ p v, (p = .pointer none ∨ p = .pointer (some ⟨b, 0, none⟩)) ∧ w.heap[b]? = some (.cells #[p, v] 125) ∧ w.ownsRow B 5 1 v l.length (Lib.byteCells l) ∧ v.ownBlock = g
/-- All old blocks but b and g stay. -/
structure Wr (b : Nat) (g : Option Nat) (w w' : World) : Prop where
  os : w'.os = w.os
  tape : w'.tape = w.tape
  output : w'.output = w.output
  size : w.heap.size ≤ w'.heap.size
  block : ∀ k : Nat, k < w.heap.size → k ≠ b → g ≠ some k → w'.heap[k]? = w.heap[k]?
section
variable {w w' : World} {B b : Nat} {l s : Bytes} {g : Option Nat}
theorem BdAt.lt (h : BdAt w B b l g) : b < w.heap.size := by obtain ⟨_, p, v, _, hb, _⟩ := h; exact (Array.getElem?_eq_some_iff.1 hb).1
theorem BdAt.own_lt (h : BdAt w B b l g) {k : Nat} (hk : g = some k) : B ≤ k ∧ k < w.heap.size ∧ k ≠ b := by
  obtain ⟨_, p, v, _, hb, ho, hg⟩ := h
  rcases ho.2 with ⟨rfl, _⟩ | ⟨g', cap, cur, rfl, hB, hh, _⟩
  · rw [← hg] at hk; simp [Value.ownBlock] at hk
  · rw [← hg] at hk
    have : g' = k := by simpa [Value.ownBlock] using hk
    subst this
    refine ⟨hB, (Array.getElem?_eq_some_iff.1 hh).1, fun e => ?_⟩
    subst e
    rw [hb] at hh
    injection hh with hh
    injection hh with _ hh
    exact absurd hh (by decide)
/-- A builder stays where its two blocks stay. -/
theorem BdAt.keep (h : BdAt w B b l g) (h1 : w'.heap[b]? = w.heap[b]?) (h2 : ∀ k, g = some k → w'.heap[k]? = w.heap[k]?) : BdAt w' B b l g := by
  obtain ⟨hB, p, v, hp, hb, ho, hg⟩ := h
  refine ⟨hB, p, v, hp, h1.trans hb, ⟨ho.1, ?_⟩, hg⟩
  rcases ho.2 with h' | ⟨g', cap, cur, rfl, hB', hh, h'⟩
  · exact .inl h'
  · exact .inr ⟨g', cap, cur, rfl, hB', (h2 g' (by rw [← hg]; rfl)).trans hh, h'⟩
theorem BdAt.below (h : BdAt w B b l g) (hb : Below w.heap.size w w') : BdAt w' B b l g :=
  h.keep (hb.block _ h.lt) fun _ hk => hb.block _ (h.own_lt hk).2.1
theorem BdAt.is (h : BdAt w B b l g) : Lib.IsBuilder 125 5 B b (Lib.byteCells l) w := by
  have hne : ∀ v : Value, v.ownBlock = g → v.ownBlock ≠ some b := fun v hv e => (h.own_lt (hv ▸ e)).2.2 rfl
  obtain ⟨hB, p, v, hp, hb, ho, hg⟩ := h
  have hl : (Lib.byteCells l).length = l.length := by simp [Lib.byteCells]
  rcases hp with rfl | rfl
  · exact .inl ⟨hB, v, hb, by rw [hl]; exact ho, hne v hg⟩
  · exact .inr ⟨hB, v, hb, by rw [hl]; exact ho, hne v hg⟩
theorem BdAt.start (w : World) (hB : B ≤ w.heap.size) : BdAt (w.alloc (.cells #[.pointer none, .slice none 0 0] 125)) B w.heap.size [] none :=
  ⟨hB, _, _, .inl rfl, heap_new _ _, own_nil _ _ _ _, rfl⟩
theorem Wr.below (h : Wr b g w w') {K : Nat} (hb : K ≤ b) (hg : ∀ k, g = some k → K ≤ k) (hK : K ≤ w.heap.size) : Below K w w' :=
  ⟨h.os, h.tape, h.output, h.size, fun k hk => h.block k (by omega) (by omega) (fun e => by have := hg k e; omega)⟩
theorem BdAt.wr_below (h : BdAt w B b l g) (hw : Wr b g w w') (hB : B ≤ w.heap.size) : Below B w w' := hw.below h.1 (fun _ hk => (h.own_lt hk).1) hB
end
open Lib in
/-- Where the appended slice lies. -/
theorem append_where {P : Program} {w : World} (base : Nat) (t u ty e : TypeId) (i : TypeInfo) (ht : P.underlying t = some (.slice e)) (hu : P.underlying u = some .string) (hi : P.info? e = some i) (hz : i.zero = some (.int .u8 0))
    (hsize : i.size = 1) (hby : i.bytes = 1) (v : Value) (n : Nat) (xs : List Value) (hown : w.ownsRow base e 1 v n xs) (s : ByteArray) (hbytes : n + s.size ≤ 140737488355328) {v' : Value} {w' : World}
    (hr : (Builtin.append_ #[t, u] ty #[v, .string s]).run P w = .ok v' w') : v'.ownBlock = v.ownBlock ∨ v'.ownBlock = some w.heap.size := by
  have hxl : xs.length = n := by simpa using hown.1
  rcases hown.2 with ⟨rfl, rfl⟩ | ⟨g, cap, cur, rfl, hbg, hg, hnc, hcm, hcs, htake⟩
  · by_cases hm : s.size = 0
    · have hf := run_firstCells_string (P := P) w 1 s
      rw [hm] at hf
      have hr2 : (Builtin.append_ #[t, u] ty #[.slice none 0 0, .string s]).run P w = .ok (.slice none 0 0) w := by
        simp [Builtin.append_, run_underlying ht, run_underlying hu, sizeOf, typeInfo, hi, hsize, Builtin.lenOf, hm, hf]
      rw [hr2] at hr
      injection hr with hr _
      rw [← hr]
      exact .inl rfl
    · have hr2 := run_append_nil_string (P := P) w t u ty e i (.int .u8 0) ht hu hi hz s (by omega) (by omega) (by rw [hby]; omega)
      rw [hr2] at hr
      injection hr with hr _
      rw [← hr]
      exact .inr rfl
  · by_cases hroom : n + s.size ≤ cap
    · have hcs' : cur.size = cap := by simpa using hcs
      have hr2 := run_append_room_string (P := P) w t u ty e i ht hu hi hsize g n cap cur hg s hroom (by omega)
      rw [hr2] at hr
      injection hr with hr _
      rw [← hr]
      exact .inl rfl
    · have holds : ∀ j u, xs[j]? = some u → w.cell? ((⟨g, 0, none⟩ : Addr).add j) = some u := hown.cells (g := g) rfl
      have hr2 := run_append_grow_string (P := P) w t u ty e i (.int .u8 0) ht hu hi hz ⟨g, 0, none⟩ n cap xs (by rw [hsize]; simpa using hxl) holds s (by omega) (by omega) (by rw [hby]; exact growslice_fits (by omega) (by omega))
      rw [hr2] at hr
      injection hr with hr _
      rw [← hr]
      exact .inr rfl
theorem wpList_append_bd {P : Program} {w : World} {ops : Array Oper} {rest : List Oper} {o : Oper} {a : Act} {Q : Exit → Act → World → Prop} (hgd : o.guard = none) (sl x : Operand) (t u : TypeId)
    (ho : o.op = .call { callee := .builtin .append, args := #[sl, x], argTypes := #[t, u] })
    (base : Nat) (e : TypeId) (i : TypeInfo) (ht : P.underlying t = some (.slice e)) (hu : P.underlying u = some .string) (hi : P.info? e = some i) (hz : i.zero = some (.int .u8 0))
    (hsize : i.size = 1) (hby : i.bytes = 1)
    (v : Value) (n : Nat) (xs : List Value) (hs : a.eval sl = v) (hown : w.ownsRow base e 1 v n xs) (s : ByteArray) (hx : a.eval x = .string s)
    (hbytes : n + s.size ≤ 140737488355328) (hbase : base ≤ w.heap.size)
    (h : ∀ v' w', w'.ownsRow base e 1 v' (n + s.size) (xs ++ Lib.strCells s) → w.grownBy w' v.ownBlock → (v'.ownBlock = v.ownBlock ∨ v'.ownBlock = some w.heap.size) → wpList P ops Q rest (a.put o.dst v') w') : wpList P ops Q (o :: rest) a w := by
  refine wpList_plain hgd fun K hK => ?_
  obtain ⟨v', w', hr, h2, h3, h4⟩ := Lib.run_append_own_string (P := P) w base t u o.type e i ht hu hi hz hsize hby v n xs hown s (by unfold maxLen; omega) hbytes hbase
  have h5 := append_where base t u o.type e i ht hu hi hz hsize hby v n xs hown s hbytes hr
  unfold Oper.wp execOp
  simp only [ho, resolve, invoke, builtin, Sem.run_bind, Sem.run_pure, Result.andThen_ok, List.map_toArray, List.map_cons, List.map_nil, hs, hx, hr]
  exact hK _ _ (h v' w' h2 h3 h5)
theorem info54 : (Tryz.prog.info? 125).map (·.size) = some 2 := by kernel_rfl

set_option maxHeartbeats 1000000 in
set_option maxRecDepth 100000 in
theorem copyCheck_used (b : Nat) (w : World) (h0 : w.cell? ⟨b, 0, none⟩ = some (.pointer (some ⟨b, 0, none⟩))) : Calls Tryz.prog 116 #[.pointer (some ⟨b, 0, none⟩)] w fun e w' => e = .returned (.tuple #[]) ∧ w' = w := by
  obtain ⟨j, hj, _⟩ := Option.map_eq_some_iff.1 info54
  go_enter Tryz.func116, Tryz.ntmps116
  go_wp2
  rw [Lib.run_neq_ptr_same w _ Tryz.underlying123 hj]
  go_wp2
  go_end0
  exact ⟨rfl, rfl⟩
theorem lies54 : liesAt Tryz.prog Tryz.prog.depth 125 (2 / Tryz.prog.cellsOf 125) 0 125 1 = true := by kernel_rfl
set_option maxHeartbeats 1000000 in
set_option maxRecDepth 100000 in
theorem copyCheck_fresh (b : Nat) (w : World) (h0 : w.cell? ⟨b, 0, none⟩ = some (.pointer none)) (hsh : w.shape? b = some (125, 2)) (hfz : w.frozen? ⟨b, 0, none⟩ = false) :
    Calls Tryz.prog 116 #[.pointer (some ⟨b, 0, none⟩)] w fun e w' => e = .returned (.tuple #[]) ∧ w' = w.setCell ⟨b, 0, none⟩ (.pointer (some ⟨b, 0, none⟩)) := by
  obtain ⟨j, hj, hjs⟩ := Option.map_eq_some_iff.1 info54
  go_enter Tryz.func116, Tryz.ntmps116
  go_wp2
  rw [Lib.run_to_unsafe w ⟨b, 0, none⟩ Tryz.underlying123 Tryz.underlying162 hj (by rw [hjs]; decide) hsh (Nat.zero_lt_succ 1)]
  simp only [Result.andThen]
  rw [Oper.upon_value]
  go_wp2
  rw [run_callFunc_extern Tryz.func133 (by kernel_rfl) (by kernel_rfl) (by kernel_rfl) (e := Extern.AbiNoEscape.same) (by kernel_rfl)]
  rw [Lib.run_noEscape]
  simp only [Result.andThen]
  rw [Oper.upon_value]
  go_wp2
  rw [Lib.run_from_unsafe w ⟨b, 0, none⟩ Tryz.underlying162 Tryz.underlying123 hj hsh lies54]
  simp only [Result.andThen]
  rw [Oper.upon_value]
  go_wp2
  go_end0
  exact ⟨rfl, rfl⟩
theorem B_le_of {B b : Nat} {l : Bytes} {g : Option Nat} {w : World} (h : BdAt w B b l g) : B ≤ b := h.1
theorem copyCheck_any {B b : Nat} {l : Bytes} {g : Option Nat} {w : World} (h : BdAt w B b l g) :
    Calls Tryz.prog 116 #[.pointer (some ⟨b, 0, none⟩)] w fun e w' => e = .returned (.tuple #[]) ∧ BdAt w' B b l g ∧ (∃ v, w'.heap[b]? = some (.cells #[.pointer (some ⟨b, 0, none⟩), v] 125)) ∧ Wr b g w w' := by
  obtain ⟨hB, p, v, hp, hb, ho, hg⟩ := id h
  rcases hp with rfl | rfl
  · refine (copyCheck_fresh b w (by simp [World.cell?, hb]) (by simp [World.shape?, hb]) (by simp [World.frozen?, hb])).mono ?_
    rintro e w' ⟨rfl, rfl⟩
    have hb2 := set_at hb 0 (.pointer (some ⟨b, 0, none⟩))
    refine ⟨rfl, ⟨hB, _, v, .inr rfl, hb2, own_set ho hb (by decide) 0 _, hg⟩, ⟨v, hb2⟩, rfl, rfl, rfl, by rw [World.size_setCell]; exact Nat.le_refl _, fun k _ hk _ => Below.heap_setCell _ _ _ _ hk⟩
  · refine (copyCheck_used b w (by simp [World.cell?, hb])).mono ?_
    rintro e w' ⟨rfl, rfl⟩
    exact ⟨rfl, h, ⟨v, hb⟩, rfl, rfl, rfl, Nat.le_refl _, fun k _ _ _ => rfl⟩
theorem Wr.trans {b : Nat} {g g' : Option Nat} {w w1 w2 : World} (h : Wr b g w w1) (k : Wr b g' w1 w2) (hg : ∀ i, g' = some i → i < w.heap.size → g = some i) : Wr b g w w2 :=
  ⟨k.os.trans h.os, k.tape.trans h.tape, k.output.trans h.output, Nat.le_trans h.size k.size, fun i hi hib hgi => (k.block i (Nat.lt_of_lt_of_le hi h.size) hib (fun e => hgi (hg i e hi))).trans (h.block i hi hib hgi)⟩
/-- The bytes s are written behind l. -/
def WroteP (B b : Nat) (l s : Bytes) (g : Option Nat) (w : World) (e : Ending) (w' : World) : Prop :=
  e = .returned (.tuple #[.int .i64 (s.length : Int), .nilIface]) ∧ ∃ g', BdAt w' B b (l ++ s) g' ∧ (g' = g ∨ ∃ k, g' = some k ∧ w.heap.size ≤ k) ∧ Wr b g w w'

set_option maxHeartbeats 2000000 in
set_option maxRecDepth 100000 in
theorem write_any {B b : Nat} {l : Bytes} {g : Option Nat} (s : Bytes) {w : World} (h : BdAt w B b l g) (hlen : l.length + s.length ≤ 140737488355328) (hBw : B ≤ w.heap.size) :
    Calls Tryz.prog 89 #[.pointer (some ⟨b, 0, none⟩), .string ⟨s.toArray⟩] w (WroteP B b l s g w) := by
  obtain ⟨i0, hi, hz0, hz1, hz2⟩ := info_parts info5
  have Hh := Lib.hid h
  clear h
  go_enter Tryz.func89, Tryz.ntmps89
  go_wp2_with fail
  refine (copyCheck_any Hh.out).mono ?_
  rintro e w1 ⟨rfl, h1, ⟨v, hb1⟩, hw1⟩
  obtain ⟨hB, p, v', hp, hb1', ho, hg⟩ := id h1
  have hv : v' = v := by rw [hb1] at hb1'; injection hb1' with e; injection e with e _; injection e with e; injection e with _ e; injection e with e; exact e.symm
  subst hv
  have hss : (⟨s.toArray⟩ : ByteArray).size = s.length := by simp [ByteArray.size]
  have c0 : w1.cell? ⟨b, 0, none⟩ = some (.pointer (some ⟨b, 0, none⟩)) := (cell_at hb1 0 rfl).1
  have c1 : w1.cell? ⟨b, 1, none⟩ = some v' := (cell_at hb1 1 rfl).1
  have H1 := Lib.hid h1
  have Hb1 := Lib.hid hb1
  have Ho := Lib.hid ho
  have HW1 := Lib.hid hw1
  have Hg := Lib.hid hg
  have Hss := Lib.hid hss
  clear h1 hb1 hb1' ho hw1 hg hp hss
  go_wp2_with (at_builtin; refine wpList_append_bd rfl _ _ 38 9 rfl B 5 i0 Tryz.underlying38 Tryz.underlying9 hi hz0 hz1 hz2 _ _ _ rfl Ho.out ⟨s.toArray⟩ rfl ?c4 ?c5 ?_)
  case c4 => rw [Hss.out]; exact hlen
  case c5 => have := HW1.out.size; omega
  intro v2 w2 ho2 hg2 hv2
  have hlt := H1.out.lt
  have hbn : v'.ownBlock ≠ some b := fun e => (H1.out.own_lt (Hg.out ▸ e)).2.2 rfl
  have hb2 : w2.heap[b]? = some (.cells #[.pointer (some ⟨b, 0, none⟩), v'] 125) := (hg2.block b hlt (fun e => hbn e.symm)).trans Hb1.out
  have d1 : w2.cell? ⟨b, 1, none⟩ = some v' := (cell_at hb2 1 rfl).1
  have f1 : w2.frozen? ⟨b, 1, none⟩ = false := (cell_at hb2 1 (u := v') rfl).2
  have Hb2 := Lib.hid hb2
  have Ho2 := Lib.hid ho2
  have Hg2 := Lib.hid hg2
  have Hv2 := Lib.hid hv2
  obtain ⟨ao, n', cap, hav⟩ : ∃ ao n' cap, v2 = .slice ao n' cap := by
    rcases ho2.2 with ⟨hv, _⟩ | ⟨g, cap, cur, hv, _⟩
    · exact ⟨_, _, _, hv⟩
    · exact ⟨_, _, _, hv⟩
  subst hav
  clear hb2 ho2 hg2 hv2 hbn hlt
  go_wp2_with fail
  go_ret2
  have hb3 := set_at Hb2.out 1 (.slice ao n' cap)
  have ho3 := own_set Ho2.out Hb2.out (by decide) 1 (.slice ao n' cap)
  rw [strCells_bytes] at ho3
  have happ : Lib.byteCells l ++ Lib.byteCells s = Lib.byteCells (l ++ s) := by simp [Lib.byteCells]
  rw [happ, ← List.length_append] at ho3
  refine ⟨rfl, _, ⟨B_le_of Hh.out, _, _, .inr rfl, hb3, ho3, rfl⟩, ?_, ?_⟩
  · rcases Hv2.out with h | h
    · exact .inl (h.trans Hg.out)
    · exact .inr ⟨_, h, HW1.out.size⟩
  · refine HW1.out.trans (w2 := w2.setCell ⟨b, 1, none⟩ (.slice ao n' cap)) ⟨Hg2.out.os, Hg2.out.tape, Hg2.out.output, by rw [World.size_setCell]; exact Hg2.out.size, fun k hk hkb hkg => ?_⟩ (fun i hi _ => hi)
    exact (Below.heap_setCell _ _ _ _ hkb).trans (Hg2.out.block k hk (fun e => hkg (Hg.out.symm.trans e.symm)))
theorem itoa_any (n : Int) (h0 : -9223372036854775808 ≤ n) (h1 : n ≤ 9223372036854775807) {w : World} (hg : Gl w) : Calls Tryz.prog 94 #[.int .i64 n] w fun e w' => e = .returned (strV (Lib.itoa n)) ∧ Below w.heap.size w w' := by
  refine (Tryz.strconv_Itoa n h0 h1 w hg.pow).mono ?_
  rintro e w' ⟨rfl, k, os, rfl⟩
  exact ⟨rfl, Lib.below_grow _ w (Nat.le_refl _) k os⟩
theorem BdAt.type {w : World} {B b : Nat} {l : Bytes} {g : Option Nat} (h : BdAt w B b l g) {k : Nat} (hk : g = some k) : ∃ cur fz, w.heap[k]? = some (.cells cur 5 fz) := by
  obtain ⟨_, p, v, _, hb, ho, hg⟩ := h
  rcases ho.2 with ⟨rfl, _⟩ | ⟨g', cap, cur, rfl, hB, hh, _⟩
  · rw [← hg] at hk; simp [Value.ownBlock] at hk
  · rw [← hg] at hk
    have : g' = k := by simpa [Value.ownBlock] using hk
    subst this
    exact ⟨_, _, hh⟩
theorem cells5 : Tryz.prog.cellsOf 5 = 1 := by kernel_rfl
theorem freeze_wr {w : World} {b g : Nat} (n : Nat) : Wr b (some g) w (w.drew.freeze ⟨g, 0, none⟩ n) := by
  unfold World.freeze
  split
  · exact ⟨rfl, rfl, rfl, Nat.le_refl _, fun _ _ _ _ => rfl⟩
  · refine ⟨rfl, rfl, rfl, by show w.heap.size ≤ (w.heap.modify _ _).size; simp, fun k hk hkb hkg => ?_⟩
    simp only [Array.getElem?_modify]
    rw [if_neg (fun e => hkg (by rw [e]))]
    rfl
set_option maxHeartbeats 1000000 in
set_option maxRecDepth 100000 in
/-- (*strings.Builder).String, of a builder that holds a byte: only its buffer's marks turn. -/
theorem string_any {B b : Nat} {l : Bytes} {g : Option Nat} {w : World} (h : BdAt w B b l g) (h0 : l ≠ []) : Calls Tryz.prog 91 #[.pointer (some ⟨b, 0, none⟩)] w fun e w' => e = .returned (strV l) ∧ Wr b g w w' := by
  obtain ⟨hB, p, v, hp, hbk, hown, hgv⟩ := h
  have hl0 : l.length ≠ 0 := by simpa using h0
  obtain ⟨g', cap, cur, rfl, hbg, hg, hnc, hcm, hcs, htake⟩ : ∃ g cap cur, v = .slice (some ⟨g, 0, none⟩) l.length cap ∧ B ≤ g ∧ w.heap[g]? = some (.cells cur 5 (0, 0)) ∧ l.length ≤ cap ∧ cap ≤ maxLen ∧ cur.size = cap * 1 ∧ cur.toList.take (l.length * 1) = Lib.byteCells l := by
    rcases hown.2 with ⟨_, hz⟩ | ⟨g, cap, cur, hv, r⟩
    · exact absurd hz hl0
    · exact ⟨g, cap, cur, hv, r⟩
  have c1 : w.drew.cell? ⟨b, 1, none⟩ = some (.slice (some ⟨g', 0, none⟩) l.length cap) := by
    have : w.drew.heap[b]? = some (.cells #[p, .slice (some ⟨g', 0, none⟩) l.length cap] 125 (0, 0)) := hbk
    rw [Lib.cell_of_heap this]; rfl
  have hSD : (Builtin.unsafeSliceData_ #[38] 153 #[.slice (some ⟨g', 0, none⟩) l.length cap]).run Tryz.prog w.drew = .ok (.pointer (some ⟨g', 0, none⟩)) w.drew :=
    Lib.run_unsafeSliceData_row _ _ _ _ _ _ (by omega)
  have hUS : (Builtin.unsafeString_ #[153, 3] 9 #[.pointer (some ⟨g', 0, none⟩), .int .i64 l.length]).run Tryz.prog w.drew = .ok (.string ⟨l.toArray⟩) (w.drew.freeze ⟨g', 0, none⟩ l.length) := by
    refine Lib.run_unsafeString_row w.drew 153 3 9 5 Tryz.underlying153 cells5 g' cur.size (by have hg' : w.drew.heap[g']? = some (.cells cur 5 (0, 0)) := hg; simp [World.shape?, hg']) l h0 (by omega) (by unfold maxLen at hcm; omega) ?_
    intro j x hx
    have := hown.cells (g := g') rfl j (.int .u8 x.toNat) (by simp [Lib.byteCells, hx])
    exact this
  have Hg : Hid (g = some g') := hgv.symm
  have mixed : Tryz.prog.follows .mixedOrders = true := by kernel_rfl
  clear hp hbk hown hgv hg hnc hcm hcs htake hl0 h0
  go_enter Tryz.func91, Tryz.ntmps91
  go_wp2
  go_region_o
  all_goals (go_wp2; go_ret; exact ⟨rfl, by rw [Hg.out]; exact freeze_wr _⟩)

theorem wpList_append_one {P : Program} {w : World} {ops : Array Oper} {rest : List Oper} {o : Oper} {a : Act} {Q : Exit → Act → World → Prop} (hgd : o.guard = none) (s x : Operand) (t : TypeId)
    (ho : o.op = .call { callee := .builtin .append, args := #[s, x], argTypes := #[t, t] })
    {base n c : Nat} {e : TypeId} {v u : Value} {xs : List Value} {ad : Addr} (hs : a.eval s = v) (hx : a.eval x = .slice (some ad) 1 c)
    (ht : SliceOf P t e 1 1) (hown : w.ownsRow base e 1 v n xs) (hc : w.cell? ad = some u) (h1 : u.oneCell' = true) (hn : n + 1 ≤ 140737488355328) (hbase : base ≤ w.heap.size)
    (h : ∀ A' c' w', w'.ownsRow base e 1 (.slice A' (n + 1) c') (n + 1) (xs ++ [u]) → w.grownBy w' v.ownBlock → ((Value.slice A' (n + 1) c').ownBlock = v.ownBlock ∨ (Value.slice A' (n + 1) c').ownBlock = some w.heap.size) → wpList P ops Q rest (a.put o.dst (.slice A' (n + 1) c')) w') : wpList P ops Q (o :: rest) a w :=
  wpList_plain hgd fun K hK => by
    obtain ⟨ht, -, i, z, hi, hz, hsz, hby, hzs⟩ := ht
    obtain ⟨v', w', hrun, h2, h3, -, h5⟩ := run_append_own_at (P := P) w base t o.type e i z 1 1 ht hi hz hsz hby hzs (by decide) v n xs hown ad 1 c [u] rfl (fun j x hj => by
      match j, hj with
      | 0, hj =>
        have : u = x := by simpa using hj
        subst this
        simpa [Addr.add] using hc) (by simpa using h1) (by unfold maxLen; omega) (by omega) hbase
    obtain ⟨A', c', rfl, -⟩ := Sl.of_own h2
    unfold Oper.wp execOp
    simp only [ho, resolve, invoke, builtin, Sem.run_bind, Sem.run_pure, Result.andThen_ok, List.map_toArray, List.map_cons, List.map_nil, hs, hx, hrun]
    exact hK _ _ (h A' c' w' h2 h3 h5)
/-- The byte x is written behind l. -/
def WroteB (B b : Nat) (l s : Bytes) (g : Option Nat) (w : World) (e : Ending) (w' : World) : Prop :=
  e = .returned .nilIface ∧ ∃ g', BdAt w' B b (l ++ s) g' ∧ (g' = g ∨ ∃ k, g' = some k ∧ w.heap.size ≤ k) ∧ Wr b g w w'

set_option maxHeartbeats 2000000 in
set_option maxRecDepth 100000 in
theorem writeB_any {B b : Nat} {l : Bytes} {g : Option Nat} (x : UInt8) {w : World} (h : BdAt w B b l g) (hlen : l.length + 1 ≤ 140737488355328) (hBw : B ≤ w.heap.size) :
    Calls Tryz.prog 95 #[.pointer (some ⟨b, 0, none⟩), .int .u8 (x.toNat : Int)] w (WroteB B b l [x] g w) := by
  have Hh := Lib.hid h
  clear h
  go_enter Tryz.func95, Tryz.ntmps95
  go_wp2_with fail
  refine (copyCheck_any Hh.out).mono ?_
  rintro e w1 ⟨rfl, h1, ⟨v, hb1⟩, hw1⟩
  obtain ⟨hB, p, v', hp, hb1', ho, hg⟩ := id h1
  have hv : v' = v := by rw [hb1] at hb1'; injection hb1' with e; injection e with e _; injection e with e; injection e with _ e; injection e with e; exact e.symm
  subst hv
  have c0 : w1.cell? ⟨b, 0, none⟩ = some (.pointer (some ⟨b, 0, none⟩)) := (cell_at hb1 0 rfl).1
  have c1 : w1.cell? ⟨b, 1, none⟩ = some v' := (cell_at hb1 1 rfl).1
  have H1 := Lib.hid h1
  have Hb1 := Lib.hid hb1
  have Ho := Lib.hid ho
  have HW1 := Lib.hid hw1
  have Hg := Lib.hid hg
  clear h1 hb1 hb1' ho hw1 hg hp
  go_wp2_with (at_builtin; refine wpList_append_one rfl _ _ 38 rfl rfl rfl so38 (Ho.out.alloc _) (u := .int .u8 (x.toNat : Int)) (cell_at (heap_new _ _) 0 rfl).1 rfl ?c4 ?c5 ?_)
  case c4 => exact hlen
  case c5 => have := HW1.out.size; simp; omega
  intro A2 c2 w2 ho2 hg2 hv2
  have hlt := H1.out.lt
  have hbn : v'.ownBlock ≠ some b := fun e => (H1.out.own_lt (Hg.out ▸ e)).2.2 rfl
  have hb2 : w2.heap[b]? = some (.cells #[.pointer (some ⟨b, 0, none⟩), v'] 125) := (hg2.block b (by simp; omega) (fun e => hbn e.symm)).trans (below_cells Hb1.out ((Below.refl _ _).alloc (Nat.le_refl _) _))
  have d1 : w2.cell? ⟨b, 1, none⟩ = some v' := (cell_at hb2 1 rfl).1
  have f1 : w2.frozen? ⟨b, 1, none⟩ = false := (cell_at hb2 1 (u := v') rfl).2
  have Hb2 := Lib.hid hb2
  have Ho2 := Lib.hid ho2
  have Hg2 := Lib.hid hg2
  have Hv2 := Lib.hid hv2
  clear hb2 ho2 hg2 hv2 hbn hlt
  go_wp2_with fail
  go_ret
  have hb3 := set_at Hb2.out 1 (.slice A2 (l.length + 1) c2)
  have ho3 := own_set Ho2.out Hb2.out (by decide) 1 (.slice A2 (l.length + 1) c2)
  have happ : Lib.byteCells l ++ [.int .u8 (x.toNat : Int)] = Lib.byteCells (l ++ [x]) := by simp [Lib.byteCells]
  have hll : (l ++ [x]).length = l.length + 1 := by simp
  rw [happ] at ho3
  refine ⟨rfl, _, ⟨B_le_of Hh.out, _, _, .inr rfl, hb3, by rw [hll]; exact ho3, rfl⟩, ?_, ?_⟩
  · rcases Hv2.out with h | h
    · exact .inl (h.trans Hg.out)
    · exact .inr ⟨_, h, by have := HW1.out.size; simp; omega⟩
  · refine HW1.out.trans (w2 := w2.setCell ⟨b, 1, none⟩ (.slice A2 (l.length + 1) c2)) ⟨Hg2.out.os, Hg2.out.tape, Hg2.out.output, by rw [World.size_setCell]; have := Hg2.out.size; simp at this; omega, fun k hk hkb hkg => ?_⟩ (fun i hi _ => hi)
    exact (Below.heap_setCell _ _ _ _ hkb).trans ((Hg2.out.block k (by simp; omega) (fun e => hkg (Hg.out.symm.trans e.symm))).trans (((Below.refl _ w1).alloc (Nat.le_refl _) _).block k hk))

theorem cat_eq (a b : Bytes) : (⟨a.toArray⟩ : ByteArray) ++ ⟨b.toArray⟩ = ⟨(a ++ b).toArray⟩ := by
  apply ByteArray.ext
  rw [ByteArray.data_append]
  simp
theorem cat_lit {x : ByteArray} {a : Bytes} (b : Bytes) (h : x = ⟨a.toArray⟩) : x ++ ⟨b.toArray⟩ = ⟨(a ++ b).toArray⟩ := by rw [h, cat_eq]
theorem itoa_len (n : Int) (h0 : -9223372036854775808 ≤ n) (h1 : n ≤ 9223372036854775807) : (Lib.itoa n).length ≤ 21 := Lib.itoa_length_le n h0 h1
set_option maxRecDepth 100000 in
theorem len_any {B b : Nat} {l : Bytes} {g : Option Nat} {w : World} (h : BdAt w B b l g) : Calls Tryz.prog 90 #[.pointer (some ⟨b, 0, none⟩)] w fun e w' => e = .returned (.int .i64 (l.length : Int)) ∧ w' = w := by
  obtain ⟨hB, p, v, hp, hb, ho, hg⟩ := id h
  obtain ⟨A, c, rfl, -, -, -⟩ := SlT.of_own ho
  obtain ⟨x1, -⟩ := cell_at hb 1 rfl
  have hlt := h.lt
  clear hp hb ho hg h
  go_enter Tryz.func90, Tryz.ntmps90
  go_wp2_with fail
  go_ret
  exact ⟨rfl, rfl⟩
end Go.Proofs.YtdfhbnfhkckkbaaGreatDoor
