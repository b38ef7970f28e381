/-
  The walks of the reader's fail, may, must and read.
-/
import Derived.Test.YtafgmbchdcfkcaaDoorW2
import Derived.Test.YtafgmbchdcfkcaaDoorLa
import Derived.Laws.Rows
import Derived.Lib.AtoiErrMem
namespace Go.Proofs.YtafgmbchdcfkcaaDoor
open Go Go.RowKit Go.Walks

/-- The panic with an error at an offset. -/
def wrongE (a e : Int) : Ending := .panicked [{ v := .iface 69 (.agg #[.int .i64 a, .int .i64 e]), recovered := false }]

theorem fail_any (t : ByteArray) (r n : Nat) (w : World) (Hr : Hid (Rd w r t n)) :
    Calls Tryd.prog 58 #[.pointer (some ⟨r, 0, none⟩)] w fun e w' => e = wrongE n 3 ∧ w' = w := by
  obtain ⟨c0, c1, f0, f1⟩ := two_cells Hr.out
  go_enter Tryd.func58, Tryd.ntmps58
  go_wp2_with fail
  exact ⟨rfl, rfl, rfl⟩

theorem Rd.set {w : World} {r n : Nat} {t : ByteArray} (h : Rd w r t n) (m k : Nat) : Rd (w.setCell ⟨r, 1, none⟩ (.int .i64 ((m : Int) + k))) r t (m + k) := by
  have := set_two1 h (.int .i64 ((m : Int) + k))
  unfold Rd
  rw [Int.natCast_add]
  exact this
theorem Rd.alloc {w : World} {r n : Nat} {t : ByteArray} (h : Rd w r t n) (o : Obj) : Rd (w.alloc o) r t n := (Below.heap_alloc _ _ _ (Array.getElem?_eq_some_iff.1 h).1).trans h
theorem Rd.lt {w : World} {r n : Nat} {t : ByteArray} (h : Rd w r t n) : r < w.heap.size := (Array.getElem?_eq_some_iff.1 h).1

def MayP (t : ByteArray) (r n : Nat) (s : Bytes) (b : Bool) (w : World) (e : Ending) (w' : World) : Prop :=
  e = .returned (.bool b) ∧ Rd w' r t (if b then nxt t n + s.length else nxt t n) ∧ RB r w w'

set_option maxRecDepth 100000 in
theorem may_any (t : ByteArray) (r n : Nat) (s : Bytes) (b : Bool) (w : World) (hn : n ≤ t.size) (ht : t.size ≤ 2000) (hs : s.length ≤ 2000) (Hr : Hid (Rd w r t n)) (Hb : Hid ((tokS t n == s) = b)) :
    Calls Tryd.prog 85 #[.pointer (some ⟨r, 0, none⟩), .string ⟨s.toArray⟩] w (MayP t r n s b w) := by
  have hle := nxt_le hn
  have hb := Hb.out
  cases b with
  | true =>
    go_enter Tryd.func85, Tryd.ntmps85
    go_wp2_with (go_at_call 79; refine (token_any t r n _ hn ht Hr).mono ?_; rintro e w1 ⟨rfl, hr1, hb1⟩; have HR1 := Lib.hid hr1; have HB1 := Lib.hid hb1; clear hr1 hb1; obtain ⟨c0, c1, f0, f1⟩ := two_cells HR1.out)
    go_ret
    exact ⟨rfl, by rw [if_pos rfl]; exact HR1.out.set _ _, HB1.out.setCell 1 _⟩
  | false =>
    go_enter Tryd.func85, Tryd.ntmps85
    go_wp2_with (go_at_call 79; refine (token_any t r n _ hn ht Hr).mono ?_; rintro e w1 ⟨rfl, hr1, hb1⟩; have HR1 := Lib.hid hr1; have HB1 := Lib.hid hb1; clear hr1 hb1; obtain ⟨c0, c1, f0, f1⟩ := two_cells HR1.out)
    go_ret
    exact ⟨rfl, HR1.out, HB1.out⟩

def OkAt (t : ByteArray) (r m : Nat) (v : Value) (w : World) (e : Ending) (w' : World) : Prop := e = .returned v ∧ Rd w' r t m ∧ RB r w w'
def BadAt (t : ByteArray) (r m : Nat) (w : World) (e : Ending) (w' : World) : Prop := e = wrongE m 3 ∧ Rd w' r t m ∧ RB r w w'

set_option maxRecDepth 100000 in
theorem must_ok (t : ByteArray) (r n : Nat) (s : Bytes) (w : World) (hn : n ≤ t.size) (ht : t.size ≤ 2000) (hs : s.length ≤ 2000) (Hr : Hid (Rd w r t n)) (Hb : Hid ((tokS t n == s) = true)) :
    Calls Tryd.prog 75 #[.pointer (some ⟨r, 0, none⟩), .string ⟨s.toArray⟩] w (OkAt t r (nxt t n + s.length) (.int .i64 (nxt t n : Nat)) w) := by
  have hle := nxt_le hn
  go_enter Tryd.func75, Tryd.ntmps75
  go_wp2_with (go_at_call 85; refine (may_any t r n s true _ hn ht hs Hr Hb).mono ?_; rintro e w1 ⟨rfl, hr1, hb1⟩; rw [if_pos rfl] at hr1; have HR1 := Lib.hid hr1; have HB1 := Lib.hid hb1; clear hr1 hb1; obtain ⟨c0, c1, f0, f1⟩ := two_cells HR1.out; rw [Int.natCast_add] at c1)
  go_ret
  exact ⟨rfl, HR1.out, HB1.out⟩

set_option maxRecDepth 100000 in
theorem must_bad (t : ByteArray) (r n : Nat) (s : Bytes) (w : World) (hn : n ≤ t.size) (ht : t.size ≤ 2000) (hs : s.length ≤ 2000) (Hr : Hid (Rd w r t n)) (Hb : Hid ((tokS t n == s) = false)) :
    Calls Tryd.prog 75 #[.pointer (some ⟨r, 0, none⟩), .string ⟨s.toArray⟩] w (BadAt t r (nxt t n) w) := by
  have hle := nxt_le hn
  go_enter Tryd.func75, Tryd.ntmps75
  go_wp2_with (first
    | (go_at_call 85; refine (may_any t r n s false _ hn ht hs Hr Hb).mono ?_; rintro e w1 ⟨rfl, hr1, hb1⟩; have HR1 := Lib.hid (show Rd w1 r t (nxt t n) from hr1); have HB1 := Lib.hid hb1; clear hr1 hb1)
    | (go_at_call 58; refine (fail_any t r (nxt t n) _ HR1).mono ?_; rintro e w2 ⟨rfl, rfl⟩; unfold wrongE))
  exact ⟨rfl, rfl, HR1.out, HB1.out⟩

theorem three_cells {w : World} {g : Nat} {t : TypeId} {a b c : Value} (h : w.heap[g]? = some (.cells #[a, b, c] t)) :
    w.cell? ⟨g, 0, none⟩ = some a ∧ w.cell? ⟨g, 1, none⟩ = some b ∧ w.cell? ⟨g, 2, none⟩ = some c ∧ w.frozen? ⟨g, 0, none⟩ = false ∧ w.frozen? ⟨g, 1, none⟩ = false ∧ w.frozen? ⟨g, 2, none⟩ = false := by
  simp [World.cell?, World.frozen?, h]
theorem set_three {w : World} {g : Nat} {t : TypeId} {a b c : Value} (h : w.heap[g]? = some (.cells #[a, b, c] t)) (x y z : Value) : (((w.setCell ⟨g, 0, none⟩ x).setCell ⟨g, 1, none⟩ y).setCell ⟨g, 2, none⟩ z).heap[g]? = some (.cells #[x, y, z] t) := by
  simp [World.setCell, Array.getElem?_modify, h]

/-- A mark: an offset, a number, a text. -/
abbrev markV (a n : Nat) (s : Bytes) : Value := .agg #[.int .i64 (a : Int), .int .i64 (n : Int), strV s]
def markCs (a n : Nat) (s : Bytes) : Array Value := #[.int .i64 (a : Int), .int .i64 (n : Int), strV s]

theorem info92 : (Tryd.prog.info? 92).map (·.size) = some 3 := by kernel_rfl
theorem res76 (tmps : Array Value) (w : World) (g : Nat) (a b c : Value) (hp : tmps.getD 4 undef = .pointer (some ⟨g, 0, none⟩)) (hg : w.heap[g]? = some (.cells #[a, b, c] 92)) :
    (results Tryd.f76 tmps).run Tryd.prog w = .ok (.agg #[a, b, c]) w :=
  results_cell_row (p := 4) (ty := 92) rfl tmps w g 92 #[a, b, c] (0, 0) _ hp hg Tryd.underlying92 rfl info92

set_option maxRecDepth 100000 in
set_option maxHeartbeats 1000000 in
theorem read_digit (t : ByteArray) (r n : Nat) (w : World) (hn : n ≤ t.size) (ht : t.size ≤ 2000) (hr7 : 7 ≤ r) (Hr : Hid (Rd w r t n)) (Hg : Hid (Gl w)) (c : UInt8) (s : Bytes) (Ht : Hid (tokS t n = c :: s)) (Hd : Hid (isD c = true)) (Hv : Hid (Lib.atoiAll (c :: s) = .ok (valD (c :: s) : Int))) :
    Calls Tryd.prog 76 #[.pointer (some ⟨r, 0, none⟩), .func (.func 52) #[] #[]] w (OkAt t r (nxt t n + (c :: s).length) (markV (nxt t n) (valD (c :: s)) (c :: s)) w) := by
  have hle := nxt_le hn
  have hsl : (c :: s).length ≤ 2000 := by
    rw [← Ht.out]
    unfold tokS
    rw [List.length_take, List.length_drop, ← Lib.size_eq]; omega
  have hsl' : s.length + 1 ≤ 2000 := by simpa using hsl
  have HR0 : Hid (Rd (w.alloc (.cells #[.int .i64 0, .int .i64 0, .string ⟨#[]⟩] 92)) r t n) := Hr.out.alloc _
  have hrw := Hr.out.lt
  go_enter Tryd.func76, Tryd.ntmps76
  go_wp2_with fail
  refine (token_any t r n _ hn ht HR0).mono ?_
  rintro e w1 ⟨rfl, hr1, hb1⟩
  rw [Ht.out]
  have HR1 := Lib.hid hr1
  have HB1 := Lib.hid hb1
  have hg1 := hb1.row (k := w.heap.size) (by omega) (heap_new w _)
  have HG1 := Lib.hid hg1
  clear hr1 hb1 hg1
  have HC0 : Hid ((⟨(c :: s).toArray⟩ : ByteArray)[0]'(by show 0 < (c :: s).length; simp) = c) := rfl
  have HG0 : Hid (Gl w1) := (Hg.out.below ((Below.refl _ _).alloc (Nat.le_refl _) _)).rb HB1.out hr7
  go_wp2_with fail
  rw [HC0.out]
  refine (digit_any c _).mono ?_
  rintro e w2 ⟨rfl, rfl⟩
  rw [Hd.out]
  go_wp2_with fail
  refine (Tryd.strconv_Atoi_ok _ (by show (c :: s).length ≤ _; omega) _ Hv.out _).mono ?_
  rintro e w3 ⟨rfl, hw3⟩
  have hb3 : Below w2.heap.size w2 w3 := by
    rcases hw3 with rfl | ⟨u, rfl⟩
    · exact Below.refl _ _
    · exact Lib.bytesWorld_below _ _ _
  clear hw3
  have HR3 : Hid (Rd w3 r t (nxt t n)) := (hb3.block _ HR1.out.lt).trans HR1.out
  have HB3 : Hid (RB r w w3) := (((RB.refl r w).alloc _).trans HB1.out).trans (RB.of_below hb3)
  have HG3 : Hid (w3.heap[w.heap.size]? = some (.cells #[.int .i64 0, .int .i64 0, .string ⟨#[]⟩] 92)) := (hb3.block _ (Array.getElem?_eq_some_iff.1 HG1.out).1).trans HG1.out
  obtain ⟨c0, c1, f0, f1⟩ := two_cells HR3.out
  obtain ⟨g0, g1, g2, g3, g4, g5⟩ := three_cells HG3.out
  have hne : w.heap.size ≠ r := by omega
  clear hb3
  go_wp2_with fail
  refine bodyPost_ret (res76 _ _ w.heap.size _ _ _ rfl (set_three (show (w3.setCell _ _).heap[_]? = _ from (Below.heap_setCell _ _ _ _ hne).trans HG3.out) _ _ _)) rfl ⟨rfl, ?_, ?_⟩
  · show Rd _ r t (nxt t n + (s.length + 1))
    have h1 := HR3.out.set (nxt t n) (s.length + 1)
    rw [Int.natCast_add s.length 1] at h1
    exact (Below.heap_setCell _ _ _ _ (fun e => hne e.symm)).trans ((Below.heap_setCell _ _ _ _ (fun e => hne e.symm)).trans ((Below.heap_setCell _ _ _ _ (fun e => hne e.symm)).trans h1))
  · exact ((((HB3.out.setCell 1 _).setNew (Nat.le_refl _) _ _).setNew (Nat.le_refl _) _ _).setNew (Nat.le_refl _) _ _)
set_option maxRecDepth 100000 in
set_option maxHeartbeats 1000000 in
theorem read_word (t : ByteArray) (r n : Nat) (w : World) (hn : n ≤ t.size) (ht : t.size ≤ 2000) (hr7 : 7 ≤ r) (Hr : Hid (Rd w r t n)) (Hg : Hid (Gl w)) (c : UInt8) (s : Bytes) (Ht : Hid (tokS t n = c :: s)) (Hd : Hid (isL c = true)) (Hv : Hid (Lib.atoiAll (c :: s) = Lib.atoiAll [])) :
    Calls Tryd.prog 76 #[.pointer (some ⟨r, 0, none⟩), .func (.func 51) #[] #[]] w (OkAt t r (nxt t n + (c :: s).length) (markV (nxt t n) 0 (c :: s)) w) := by
  have hle := nxt_le hn
  have hsl : (c :: s).length ≤ 2000 := by
    rw [← Ht.out]
    unfold tokS
    rw [List.length_take, List.length_drop, ← Lib.size_eq]; omega
  have hsl' : s.length + 1 ≤ 2000 := by simpa using hsl
  have HR0 : Hid (Rd (w.alloc (.cells #[.int .i64 0, .int .i64 0, .string ⟨#[]⟩] 92)) r t n) := Hr.out.alloc _
  have hrw := Hr.out.lt
  go_enter Tryd.func76, Tryd.ntmps76
  go_wp2_with fail
  refine (token_any t r n _ hn ht HR0).mono ?_
  rintro e w1 ⟨rfl, hr1, hb1⟩
  rw [Ht.out]
  have HR1 := Lib.hid hr1
  have HB1 := Lib.hid hb1
  have hg1 := hb1.row (k := w.heap.size) (by omega) (heap_new w _)
  have HG1 := Lib.hid hg1
  clear hr1 hb1 hg1
  have HC0 : Hid ((⟨(c :: s).toArray⟩ : ByteArray)[0]'(by show 0 < (c :: s).length; simp) = c) := rfl
  have HG0 : Hid (Gl w1) := (Hg.out.below ((Below.refl _ _).alloc (Nat.le_refl _) _)).rb HB1.out hr7
  go_wp2_with fail
  rw [HC0.out]
  refine (letter_any c _).mono ?_
  rintro e w2 ⟨rfl, rfl⟩
  rw [Hd.out]
  go_wp2_with fail
  obtain ⟨ev, hev, hev2⟩ := HG0.out.err
  refine (Tryd.strconv_Atoi_syntax _ (by show (c :: s).length ≤ _; omega) Hv.out ev _ hev hev2).mono ?_
  clear hev hev2
  rintro e w3 ⟨N, rfl, -, -, hb3⟩
  have HR3 : Hid (Rd w3 r t (nxt t n)) := (hb3.block _ HR1.out.lt).trans HR1.out
  have HB3 : Hid (RB r w w3) := (((RB.refl r w).alloc _).trans HB1.out).trans (RB.of_below hb3)
  have HG3 : Hid (w3.heap[w.heap.size]? = some (.cells #[.int .i64 0, .int .i64 0, .string ⟨#[]⟩] 92)) := (hb3.block _ (Array.getElem?_eq_some_iff.1 HG1.out).1).trans HG1.out
  obtain ⟨c0, c1, f0, f1⟩ := two_cells HR3.out
  obtain ⟨g0, g1, g2, g3, g4, g5⟩ := three_cells HG3.out
  have hne : w.heap.size ≠ r := by omega
  clear hb3
  go_wp2_with fail
  refine bodyPost_ret (res76 _ _ w.heap.size _ _ _ rfl (set_three (show (w3.setCell _ _).heap[_]? = _ from (Below.heap_setCell _ _ _ _ hne).trans HG3.out) _ _ _)) rfl ⟨rfl, ?_, ?_⟩
  · show Rd _ r t (nxt t n + (s.length + 1))
    have h1 := HR3.out.set (nxt t n) (s.length + 1)
    rw [Int.natCast_add s.length 1] at h1
    exact (Below.heap_setCell _ _ _ _ (fun e => hne e.symm)).trans ((Below.heap_setCell _ _ _ _ (fun e => hne e.symm)).trans ((Below.heap_setCell _ _ _ _ (fun e => hne e.symm)).trans h1))
  · exact ((((HB3.out.setCell 1 _).setNew (Nat.le_refl _) _ _).setNew (Nat.le_refl _) _ _).setNew (Nat.le_refl _) _ _)

set_option maxRecDepth 100000 in
theorem read_empty (t : ByteArray) (r n : Nat) (w : World) (hn : n ≤ t.size) (ht : t.size ≤ 2000) (Hr : Hid (Rd w r t n)) (Ht : Hid (tokS t n = [])) (v : Value) :
    Calls Tryd.prog 76 #[.pointer (some ⟨r, 0, none⟩), v] w (BadAt t r (nxt t n) w) := by
  have HR0 : Hid (Rd (w.alloc (.cells #[.int .i64 0, .int .i64 0, .string ⟨#[]⟩] 92)) r t n) := Hr.out.alloc _
  go_enter Tryd.func76, Tryd.ntmps76
  go_wp2_with fail
  refine (token_any t r n _ hn ht HR0).mono ?_
  rintro e w1 ⟨rfl, hr1, hb1⟩
  rw [Ht.out]
  have HR1 := Lib.hid hr1
  have HB1 := Lib.hid hb1
  clear hr1 hb1
  go_wp2_with fail
  refine (fail_any t r (nxt t n) _ HR1).mono ?_
  rintro e w2 ⟨rfl, rfl⟩
  unfold wrongE
  go_wp2_with fail
  exact ⟨rfl, rfl, HR1.out, ((RB.refl r w).alloc _).trans HB1.out⟩

set_option maxRecDepth 100000 in
theorem read_noDigit (t : ByteArray) (r n : Nat) (w : World) (hn : n ≤ t.size) (ht : t.size ≤ 2000) (Hr : Hid (Rd w r t n)) (c : UInt8) (s : Bytes) (Ht : Hid (tokS t n = c :: s)) (Hd : Hid (isD c = false)) :
    Calls Tryd.prog 76 #[.pointer (some ⟨r, 0, none⟩), .func (.func 52) #[] #[]] w (BadAt t r (nxt t n) w) := by
  have HR0 : Hid (Rd (w.alloc (.cells #[.int .i64 0, .int .i64 0, .string ⟨#[]⟩] 92)) r t n) := Hr.out.alloc _
  go_enter Tryd.func76, Tryd.ntmps76
  go_wp2_with fail
  refine (token_any t r n _ hn ht HR0).mono ?_
  rintro e w1 ⟨rfl, hr1, hb1⟩
  rw [Ht.out]
  have HR1 := Lib.hid hr1
  have HB1 := Lib.hid hb1
  clear hr1 hb1
  have HC0 : Hid ((⟨(c :: s).toArray⟩ : ByteArray)[0]'(by show 0 < (c :: s).length; simp) = c) := rfl
  go_wp2_with fail
  rw [HC0.out]
  refine (digit_any c _).mono ?_
  rintro e w2 ⟨rfl, rfl⟩
  rw [Hd.out]
  go_wp2_with fail
  refine (fail_any t r (nxt t n) _ HR1).mono ?_
  rintro e w3 ⟨rfl, rfl⟩
  unfold wrongE
  go_wp2_with fail
  exact ⟨rfl, rfl, HR1.out, ((RB.refl r w).alloc _).trans HB1.out⟩

set_option maxRecDepth 100000 in
theorem read_noWord (t : ByteArray) (r n : Nat) (w : World) (hn : n ≤ t.size) (ht : t.size ≤ 2000) (Hr : Hid (Rd w r t n)) (c : UInt8) (s : Bytes) (Ht : Hid (tokS t n = c :: s)) (Hd : Hid (isL c = false)) :
    Calls Tryd.prog 76 #[.pointer (some ⟨r, 0, none⟩), .func (.func 51) #[] #[]] w (BadAt t r (nxt t n) w) := by
  have HR0 : Hid (Rd (w.alloc (.cells #[.int .i64 0, .int .i64 0, .string ⟨#[]⟩] 92)) r t n) := Hr.out.alloc _
  go_enter Tryd.func76, Tryd.ntmps76
  go_wp2_with fail
  refine (token_any t r n _ hn ht HR0).mono ?_
  rintro e w1 ⟨rfl, hr1, hb1⟩
  rw [Ht.out]
  have HR1 := Lib.hid hr1
  have HB1 := Lib.hid hb1
  clear hr1 hb1
  have HC0 : Hid ((⟨(c :: s).toArray⟩ : ByteArray)[0]'(by show 0 < (c :: s).length; simp) = c) := rfl
  go_wp2_with fail
  rw [HC0.out]
  refine (letter_any c _).mono ?_
  rintro e w2 ⟨rfl, rfl⟩
  rw [Hd.out]
  go_wp2_with fail
  refine (fail_any t r (nxt t n) _ HR1).mono ?_
  rintro e w3 ⟨rfl, rfl⟩
  unfold wrongE
  go_wp2_with fail
  exact ⟨rfl, rfl, HR1.out, ((RB.refl r w).alloc _).trans HB1.out⟩
end Go.Proofs.YtafgmbchdcfkcaaDoor
