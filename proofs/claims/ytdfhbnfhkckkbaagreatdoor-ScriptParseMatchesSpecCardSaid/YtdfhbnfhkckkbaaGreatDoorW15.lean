/-
  What Decode's walk leans on: the reader's take and count in one word each, lists that are read, the worlds of Decode. No program is run here.
-/
import Derived.Test.YtdfhbnfhkckkbaaGreatDoorW14
import Derived.Laws.ResultCell
import Derived.Laws.Tables
namespace Go.Proofs.YtdfhbnfhkckkbaaGreatDoor
open Go Go.RowKit Go.Walks

def tkI (l : Bytes) (e : Nat) : Int × Bytes × Nat := if e ≠ 0 then (0, l, e) else match getIntB l with
  | .error er => (0, l, er)
  | .ok (x, k) => (x, l.drop k, 0)
def tkS (l : Bytes) (e : Nat) : Bytes × Bytes × Nat := if e ≠ 0 then ([], l, e) else match getBytesB l with
  | .error er => ([], l, er)
  | .ok (x, k) => (x, l.drop k, 0)
def tkL (l : Bytes) (e : Nat) : List Int × Bytes × Nat := if e ≠ 0 then ([], l, e) else match getIntsB l with
  | .error er => ([], l, er)
  | .ok (x, k) => (x, l.drop k, 0)
theorem RB.of_eq {r : Nat} {w : World} : RB r w w := RB.refl r w
theorem takeI_any (r e0 : Nat) (l : Bytes) (w : World) (Hr : Hid (RdM r l e0 w)) : Calls Tryz.prog 71 #[.pointer (some ⟨r, 0, none⟩), .func (.func 72) #[] #[]] w fun e w' => e = .returned (.int .i64 (tkI l e0).1) ∧ RB r w w' ∧ RdM r (tkI l e0).2.1 (tkI l e0).2.2 w' := by
  by_cases h0 : e0 = 0
  · subst h0
    cases hx : getIntB l with
    | error er =>
      have e1 : tkI l 0 = (0, l, er) := by unfold tkI; rw [if_neg (by simp), hx]
      rw [e1]
      exact takeI_bad r er l w hx Hr
    | ok nk =>
      obtain ⟨n, k⟩ := nk
      have e1 : tkI l 0 = (n, l.drop k, 0) := by unfold tkI; rw [if_neg (by simp), hx]
      rw [e1]
      exact (takeI_ok r l n k w hx Hr).mono fun _ _ ⟨a, b, c⟩ => ⟨c, a, b⟩
  · have e1 : tkI l e0 = (0, l, e0) := by unfold tkI; rw [if_pos h0]
    rw [e1]
    refine (takeI_skip r e0 l w h0 Hr).mono ?_
    rintro e w' ⟨rfl, rfl⟩
    exact ⟨rfl, RB.refl _ _, Hr.out⟩
theorem takeS_any (r e0 : Nat) (l : Bytes) (w : World) (Hr : Hid (RdM r l e0 w)) : Calls Tryz.prog 69 #[.pointer (some ⟨r, 0, none⟩), .func (.func 70) #[] #[]] w fun e w' => e = .returned (.string ⟨(tkS l e0).1.toArray⟩) ∧ RB r w w' ∧ RdM r (tkS l e0).2.1 (tkS l e0).2.2 w' := by
  by_cases h0 : e0 = 0
  · subst h0
    cases hx : getBytesB l with
    | error er =>
      have e1 : tkS l 0 = ([], l, er) := by unfold tkS; rw [if_neg (by simp), hx]
      rw [e1]
      exact takeS_bad r er l w hx Hr
    | ok nk =>
      obtain ⟨n, k⟩ := nk
      have e1 : tkS l 0 = (n, l.drop k, 0) := by unfold tkS; rw [if_neg (by simp), hx]
      rw [e1]
      exact (takeS_ok r l n k w hx Hr).mono fun _ _ ⟨a, b, c⟩ => ⟨c, a, b⟩
  · have e1 : tkS l e0 = ([], l, e0) := by unfold tkS; rw [if_pos h0]
    rw [e1]
    refine (takeS_skip r e0 l w h0 Hr).mono ?_
    rintro e w' ⟨rfl, rfl⟩
    exact ⟨rfl, RB.refl _ _, Hr.out⟩
/-- A list of numbers is handed back, in a row of its own. -/
def IntsV (B : Nat) (x : List Int) (n : Nat) (e : Ending) (w' : World) : Prop := ∃ A c, e = .returned (.slice A n c) ∧ w'.ownsRow B 3 1 (.slice A n c) n (x.map intC)
theorem takeL_any (r e0 : Nat) (l : Bytes) (w : World) (Hr : Hid (RdM r l e0 w)) : Calls Tryz.prog 64 #[.pointer (some ⟨r, 0, none⟩), .func (.func 65) #[] #[]] w fun e w' => RB r w w' ∧ RdM r (tkL l e0).2.1 (tkL l e0).2.2 w' ∧ IntsV w.heap.size (tkL l e0).1 (tkL l e0).1.length e w' := by
  by_cases h0 : e0 = 0
  · subst h0
    cases hx : getIntsB l with
    | error er =>
      have e1 : tkL l 0 = ([], l, er) := by unfold tkL; rw [if_neg (by simp), hx]
      rw [e1]
      refine (takeL_bad r er l w hx Hr).mono ?_
      rintro e w' ⟨rfl, h1, h2⟩
      exact ⟨h1, h2, none, 0, rfl, own_nil _ _ _ _⟩
    | ok nk =>
      obtain ⟨n, k⟩ := nk
      have e1 : tkL l 0 = (n, l.drop k, 0) := by unfold tkL; rw [if_neg (by simp), hx]
      rw [e1]
      refine (takeL_ok r l n k w hx Hr).mono ?_
      rintro e w' ⟨h1, h2, A, c, rfl, h3⟩
      exact ⟨h1, h2, A, c, rfl, h3⟩
  · have e1 : tkL l e0 = ([], l, e0) := by unfold tkL; rw [if_pos h0]
    rw [e1]
    refine (takeL_skip r e0 l w h0 Hr).mono ?_
    rintro e w' ⟨rfl, rfl⟩
    exact ⟨RB.refl _ _, Hr.out, none, 0, rfl, own_nil _ _ _ _⟩
theorem tkI_e {l : Bytes} {e : Nat} (h : e ≤ 100) : (tkI l e).2.2 ≤ 100 := by
  unfold tkI
  split
  · exact h
  · split
    · rename_i hx; have := getInt_err hx; dsimp only; omega
    · exact Nat.zero_le _
theorem tkS_e {l : Bytes} {e : Nat} (h : e ≤ 100) : (tkS l e).2.2 ≤ 100 := by
  unfold tkS
  split
  · exact h
  · split
    · rename_i hx; have := getBytes_err hx; dsimp only; omega
    · exact Nat.zero_le _
theorem tkL_e {l : Bytes} {e : Nat} (h : e ≤ 100) : (tkL l e).2.2 ≤ 100 := by
  unfold tkL
  split
  · exact h
  · split
    · rename_i hx; have := getInts_err hx; dsimp only; omega
    · exact Nat.zero_le _

/-! Lists that are read. -/
theorem rdL_ok_snoc {α : Type} {g : Bytes → Rd α} {x : α} {l r : Bytes} (hg : g l = .ok (x, r)) : ∀ {k : Nat} {b : Bytes} {xs : List α}, rdL g k b = .ok (xs, l) → rdL g (k + 1) b = .ok (xs ++ [x], r)
  | 0, b, xs, h => by
    rw [rdL] at h
    injection h with h; injection h with h1 h2
    subst h1 h2
    rw [rdL, hg]; rfl
  | k + 1, b, xs, h => by
    rw [rdL] at h
    cases h1 : g b with
    | error e => rw [h1] at h; cases h
    | ok y =>
      obtain ⟨y, b1⟩ := y
      rw [h1] at h; dsimp only at h
      cases h2 : rdL g k b1 with
      | error e => rw [h2] at h; cases h
      | ok z =>
        obtain ⟨z, b2⟩ := z
        rw [h2] at h; dsimp only at h
        injection h with h; injection h with h3 h4
        subst h3 h4
        rw [rdL, h1]; dsimp only
        rw [rdL_ok_snoc hg h2]; rfl
theorem rdL_err_snoc {α : Type} {g : Bytes → Rd α} {e : Nat} {l : Bytes} (hg : g l = .error e) : ∀ {k n : Nat} {b : Bytes} {xs : List α}, k < n → rdL g k b = .ok (xs, l) → rdL g n b = .error e
  | 0, n + 1, b, xs, _, h => by
    rw [rdL] at h
    injection h with h; injection h with h1 h2
    subst h1 h2
    rw [rdL, hg]
  | k + 1, n + 1, b, xs, hk, h => by
    rw [rdL] at h
    cases h1 : g b with
    | error e => rw [h1] at h; cases h
    | ok y =>
      obtain ⟨y, b1⟩ := y
      rw [h1] at h; dsimp only at h
      cases h2 : rdL g k b1 with
      | error e => rw [h2] at h; cases h
      | ok z =>
        obtain ⟨z, b2⟩ := z
        rw [h2] at h; dsimp only at h
        injection h with h; injection h with h3 h4
        subst h3 h4
        rw [rdL, h1]; dsimp only
        rw [rdL_err_snoc hg (Nat.lt_of_succ_lt_succ hk) h2]
/-- While n elements are read from b: k of them are there, l is left, or the error has come up. -/
def RunL {α : Type} (g : Bytes → Rd α) (n : Nat) (b : Bytes) (k : Nat) (xs : List α) (l : Bytes) (er : Nat) : Prop := xs.length = k ∧ er ≤ 100 ∧ ((er = 0 ∧ rdL g k b = .ok (xs, l)) ∨ (er ≠ 0 ∧ rdL g n b = .error er))
theorem RunL.start {α : Type} (g : Bytes → Rd α) (n : Nat) (b : Bytes) : RunL g n b 0 [] b 0 := ⟨rfl, by omega, .inl ⟨rfl, rfl⟩⟩
theorem RunL.text {n : Nat} {b : Bytes} {k : Nat} {xs : List Bytes} {l : Bytes} {er : Nat} (h : RunL (rd getBytesB) n b k xs l er) (hk : k < n) {x l' : Bytes} {er' : Nat} (he : tkS l er = (x, l', er')) : RunL (rd getBytesB) n b (k + 1) (xs ++ [x]) l' er' := by
  obtain ⟨h1, h0, h2⟩ := h
  have h0' := tkS_e (l := l) h0
  rw [he] at h0'
  refine ⟨by simp [h1], h0', ?_⟩
  unfold tkS at he
  rcases h2 with ⟨rfl, h2⟩ | ⟨h2, h3⟩
  · rw [if_neg (by simp)] at he
    cases hx : getBytesB l with
    | error e =>
      have hg : rd getBytesB l = .error e := by unfold rd; rw [hx]
      rw [hx] at he; dsimp only at he
      injection he with e1 he; injection he with e2 e3
      subst e1 e2 e3
      exact .inr ⟨by have := getBytes_err hx; omega, rdL_err_snoc hg hk h2⟩
    | ok y =>
      obtain ⟨y, u⟩ := y
      have hg : rd getBytesB l = .ok (y, l.drop u) := by unfold rd; rw [hx]
      rw [hx] at he; dsimp only at he
      injection he with e1 he; injection he with e2 e3
      subst e1 e2 e3
      exact .inl ⟨rfl, rdL_ok_snoc hg h2⟩
  · rw [if_pos h2] at he
    injection he with e1 he; injection he with e2 e3
    subst e1 e2 e3
    exact .inr ⟨h2, h3⟩
theorem RunL.step {n : Nat} {b : Bytes} {k : Nat} {xs : List StepD} {l : Bytes} {er : Nat} (h : RunL rdStep n b k xs l er) (hk : k < n) {kd : Int} {l1 : Bytes} {e1 : Nat} (he : tkI l er = (kd, l1, e1)) {x : List Int} {l' : Bytes} {er' : Nat} (he' : tkL l1 e1 = (x, l', er')) : RunL rdStep n b (k + 1) (xs ++ [⟨kd, x⟩]) l' er' := by
  obtain ⟨h1, h0, h2⟩ := h
  have h0' := tkI_e (l := l) h0
  rw [he] at h0'
  have h0'' := tkL_e (l := l1) h0'
  rw [he'] at h0''
  refine ⟨by simp [h1], h0'', ?_⟩
  unfold tkI at he
  unfold tkL at he'
  rcases h2 with ⟨rfl, h2⟩ | ⟨h2, h3⟩
  · rw [if_neg (by simp)] at he
    cases hx : getIntB l with
    | error e =>
      have hee : e ≠ 0 := by have := getInt_err hx; omega
      have hg : rdStep l = .error e := by unfold rdStep rd; rw [hx]
      rw [hx] at he; dsimp only at he
      injection he with f1 he; injection he with f2 f3
      subst f1 f2 f3
      rw [if_pos hee] at he'
      injection he' with f1 he'; injection he' with f2 f3
      subst f1 f2 f3
      exact .inr ⟨hee, rdL_err_snoc hg hk h2⟩
    | ok y =>
      obtain ⟨y, u⟩ := y
      rw [hx] at he; dsimp only at he
      injection he with f1 he; injection he with f2 f3
      subst f1 f2 f3
      rw [if_neg (by simp)] at he'
      cases hz : getIntsB (l.drop u) with
      | error e =>
        have hg : rdStep l = .error e := by unfold rdStep rd; rw [hx]; dsimp only; rw [hz]
        rw [hz] at he'; dsimp only at he'
        injection he' with f1 he'; injection he' with f2 f3
        subst f1 f2 f3
        exact .inr ⟨by have := getInts_err hz; omega, rdL_err_snoc hg hk h2⟩
      | ok z =>
        obtain ⟨z, v⟩ := z
        have hg : rdStep l = .ok (⟨y, z⟩, (l.drop u).drop v) := by unfold rdStep rd; rw [hx]; dsimp only; rw [hz]
        rw [hz] at he'; dsimp only at he'
        injection he' with f1 he'; injection he' with f2 f3
        subst f1 f2 f3
        exact .inl ⟨rfl, rdL_ok_snoc hg h2⟩
  · rw [if_pos h2] at he
    injection he with f1 he; injection he with f2 f3
    subst f1 f2 f3
    rw [if_pos h2] at he'
    injection he' with f1 he'; injection he' with f2 f3
    subst f1 f2 f3
    exact .inr ⟨h2, h3⟩
theorem RunL.all {α : Type} {g : Bytes → Rd α} {n : Nat} {b : Bytes} {xs : List α} {l : Bytes} {er : Nat} (h : RunL g n b n xs l er) : (er = 0 ∧ rdL g n b = .ok (xs, l)) ∨ (er ≠ 0 ∧ rdL g n b = .error er) := h.2.2
/-- The count, in one word. -/
theorem cntSt_rd {top : Int} {l : Bytes} (e0 : Nat) {n : Int} {l' : Bytes} {er : Nat} (ht : 0 ≤ top) (h : cntSt top l e0 = (n, l', er)) : 0 ≤ n ∧ n ≤ top ∧ (e0 ≤ 100 → er ≤ 100) ∧ (er ≠ 0 → n = 0) ∧ (e0 ≠ 0 → er = e0) ∧ (e0 = 0 → (er = 0 ∧ rdCount top l = .ok (n.toNat, l')) ∨ (er ≠ 0 ∧ rdCount top l = .error er)) := by
  unfold cntSt at h
  by_cases h0 : e0 = 0
  · subst h0
    rw [if_neg (by simp)] at h
    cases hx : getIntB l with
    | error e =>
      have hee := getInt_err hx
      have hg : rdCount top l = .error e := by unfold rdCount rd; rw [hx]
      rw [hx] at h; dsimp only at h
      injection h with f1 h; injection h with f2 f3
      subst f1 f2 f3
      exact ⟨Int.le_refl _, ht, fun _ => by omega, fun _ => rfl, fun h => absurd rfl h, fun _ => .inr ⟨by omega, hg⟩⟩
    | ok y =>
      obtain ⟨y, u⟩ := y
      rw [hx] at h; dsimp only at h
      by_cases hy : 0 ≤ y ∧ y ≤ top
      · have hg : rdCount top l = .ok (y.toNat, l.drop u) := by unfold rdCount rd; rw [hx]; dsimp only; rw [if_pos hy]
        rw [if_pos hy] at h
        injection h with f1 h; injection h with f2 f3
        subst f1 f2 f3
        exact ⟨hy.1, hy.2, fun _ => by omega, fun h => absurd rfl h, fun h => absurd rfl h, fun _ => .inl ⟨rfl, hg⟩⟩
      · have hg : rdCount top l = .error 6 := by unfold rdCount rd; rw [hx]; dsimp only; rw [if_neg hy]
        rw [if_neg hy] at h
        injection h with f1 h; injection h with f2 f3
        subst f1 f2 f3
        exact ⟨Int.le_refl _, ht, fun _ => by omega, fun _ => rfl, fun h => absurd rfl h, fun _ => .inr ⟨by omega, hg⟩⟩
  · rw [if_pos h0] at h
    injection h with f1 h; injection h with f2 f3
    subst f1 f2 f3
    exact ⟨Int.le_refl _, ht, fun h => h, fun _ => rfl, fun _ => rfl, fun h => absurd h h0⟩

/-! Steps in memory, typed. -/
def StepsT (w : World) : List StepD → List Value → Prop
  | [], cs => cs = []
  | x :: xs, cs => ∃ A c cs', cs = .int .i64 x.kind :: .slice A x.args.length c :: cs' ∧ SlT w w.heap.size 3 A (x.args.map intC) ∧ x.args.length ≤ c ∧ StepsT w xs cs'
theorem StepsT.keep {w w' : World} (k : KeepT 3 w w') : ∀ {xs : List StepD} {cs : List Value}, StepsT w xs cs → StepsT w' xs cs
  | [], _, h => h
  | _ :: _, _, ⟨A, c, cs', e, h1, h2, h3⟩ => ⟨A, c, cs', e, h1.keepT k k.size, h2, h3.keep k⟩
theorem StepsT.toS {w : World} : ∀ {xs : List StepD} {cs : List Value}, StepsT w xs cs → StepsS w xs cs
  | [], _, h => h
  | _ :: _, _, ⟨A, c, cs', e, h1, h2, h3⟩ => ⟨A, c, cs', e, h1.sl, h2, h3.toS⟩
theorem StepsT.snoc {w : World} {x : StepD} {A : Option Addr} {c : Nat} (h1 : SlT w w.heap.size 3 A (x.args.map intC)) (h2 : x.args.length ≤ c) : ∀ {xs : List StepD} {cs : List Value}, StepsT w xs cs → StepsT w (xs ++ [x]) (cs ++ [.int .i64 x.kind, .slice A x.args.length c])
  | [], cs, h => by rw [show cs = [] from h]; exact ⟨A, c, [], rfl, h1, h2, rfl⟩
  | _ :: _, _, ⟨A', c', cs', e, k1, k2, k3⟩ => by rw [e]; exact ⟨A', c', _, rfl, k1, k2, StepsT.snoc h1 h2 k3⟩
theorem own_cap {w : World} {B n c size : Nat} {e : TypeId} {A : Option Addr} {xs : List Value} (h : w.ownsRow B e size (.slice A n c) n xs) : n ≤ c ∧ c ≤ maxLen := by
  obtain ⟨A', c', e1, -, h1, h2⟩ := SlT.of_own h
  injection e1 with _ _ e1
  rw [e1]; exact ⟨h1, h2⟩
theorem rdM_keep {w w' : World} {r e : Nat} {l : Bytes} (h : RdM r l e w) (hk : ∀ k, k ≤ r → w'.heap[k]? = w.heap[k]?) : RdM r l e w' := by
  obtain ⟨A, c, h1, h2, h3⟩ := h
  refine ⟨A, c, (hk r (Nat.le_refl _)).trans h1, h2.keep fun p hp => ?_, h3⟩
  simp only [World.cell?]
  rw [hk _ (Nat.le_of_lt hp)]
theorem grown_low {W W' : World} {B e size n k : Nat} {v : Value} {xs : List Value} {o : Obj} (ho : W.ownsRow B e size v n xs) (hg : (W.alloc o).grownBy W' v.ownBlock) (hk : k < B) (hs : k < W.heap.size) : W'.heap[k]? = W.heap[k]? := by
  refine (hg.block k (by simp; omega) (fun e => ?_)).trans ?_
  · have := own_ge ho e.symm
    omega
  · exact ((Below.refl _ W).alloc (Nat.le_refl _) o).block k hs
/-- In Decode: the result's block, the reader, the script, its texts and steps. -/
structure DS (w : World) (g r s : Nat) (a b c d e f : Int) (T : Option Addr) (nt tc : Nat) (U : Option Addr) (ns uc : Nat) (xs : List Bytes) (ys : List StepD) (l : Bytes) (er : Nat) (W : World) : Prop where
  below : Below w.heap.size w W
  eg : g = w.heap.size
  er_ : r = w.heap.size + 1
  es : s = w.heap.size + 2
  res : W.heap[g]? = some (.cells (scrCs 0 0 0 0 0 0 none 0 0 none 0 0) 35)
  rd : RdM r l er W
  row : W.heap[s]? = some (.cells (scrCs a b c d e f T nt tc U ns uc) 35)
  own1 : W.ownsRow (s + 1) 9 1 (.slice T nt tc) nt (xs.map strV)
  own2 : ∃ ms, W.ownsRow (s + 1) 69 2 (.slice U ns uc) ns ms ∧ StepsT W ys ms
  n1 : nt = xs.length
  n2 : ns = ys.length
theorem own_rb' {w w' : World} {r B n size : Nat} {e : TypeId} {v : Value} {xs : List Value} (h : w.ownsRow B e size v n xs) (hb : RB r w w') (hr : r < B) : w'.ownsRow B e size v n xs := own_rb_lt h hb hr
section
variable {w W W' : World} {g r s nt tc ns uc er : Nat} {a b c d e f : Int} {T U : Option Addr} {xs : List Bytes} {ys : List StepD} {l : Bytes}
theorem DS.size (h : DS w g r s a b c d e f T nt tc U ns uc xs ys l er W) : s < W.heap.size := (Array.getElem?_eq_some_iff.1 h.row).1
theorem DS.rb {l' : Bytes} {er' : Nat} (h : DS w g r s a b c d e f T nt tc U ns uc xs ys l er W) (hb : RB r W W') (hr : RdM r l' er' W') : DS w g r s a b c d e f T nt tc U ns uc xs ys l' er' W' := by
  obtain ⟨ms, h1, h2⟩ := h.own2
  obtain ⟨A, c0, hrow, -⟩ := h.rd
  have e1 := h.eg
  have e2 := h.er_
  have e3 := h.es
  exact ⟨h.below.trans (hb.below (by omega) h.below.size), e1, e2, e3, hb.row (by omega) h.res, hr, hb.row (by omega) h.row, own_rb' h.own1 hb (by omega), ⟨ms, own_rb' h1 hb (by omega), h2.keep (KeepT.rb hb hrow (by decide))⟩, h.n1, h.n2⟩
theorem DS.call (h : DS w g r s a b c d e f T nt tc U ns uc xs ys l er W) (hb : Below W.heap.size W W') : DS w g r s a b c d e f T nt tc U ns uc xs ys l er W' := h.rb (RB.of_below hb) (h.rd.below hb)
theorem DS.cells (h : DS w g r s a b c d e f T nt tc U ns uc xs ys l er W) : (W.cell? ⟨s, 6, none⟩ = some (.slice T nt tc) ∧ W.cell? ⟨s, 7, none⟩ = some (.slice U ns uc)) ∧ W.frozen? ⟨s, 6, none⟩ = false ∧ W.frozen? ⟨s, 7, none⟩ = false :=
  ⟨⟨(cell_at h.row 6 rfl).1, (cell_at h.row 7 rfl).1⟩, (cell_at (u := .slice T nt tc) h.row 6 rfl).2, (cell_at (u := .slice U ns uc) h.row 7 rfl).2⟩
theorem DS.other (h : DS w g r s a b c d e f T nt tc U ns uc xs ys l er W) (o : Nat) (u : Value) : Below w.heap.size w (W.setCell ⟨s, o, none⟩ u) ∧ (W.setCell ⟨s, o, none⟩ u).heap[g]? = some (.cells (scrCs 0 0 0 0 0 0 none 0 0 none 0 0) 35) ∧ RdM r l er (W.setCell ⟨s, o, none⟩ u) ∧ KeepT 3 W (W.setCell ⟨s, o, none⟩ u) ∧ RB s W (W.setCell ⟨s, o, none⟩ u) := by
  have e1 := h.eg
  have e2 := h.er_
  have e3 := h.es
  exact ⟨h.below.setCell (p := ⟨s, o, none⟩) (by show w.heap.size ≤ s; omega) u, (Below.heap_setCell _ _ _ _ (by show g ≠ s; omega)).trans h.res, rdM_keep h.rd (fun k hk => Below.heap_setCell _ _ _ _ (by show k ≠ s; omega)), KeepT.setCell h.row (by decide) o u, (RB.refl _ _).setCell o u⟩
/-- A text is appended. -/
theorem DS.text {x : Bytes} {A' : Option Addr} {c' : Nat} {o : Obj} (h : DS w g r s a b c d e f T nt tc U ns uc xs ys l er W) (ho : W'.ownsRow (s + 1) 9 1 (.slice A' (nt + 1) c') (nt + 1) (xs.map strV ++ [strV x])) (hg : (W.alloc o).grownBy W' (Value.slice T nt tc).ownBlock) :
    W'.heap[s]? = some (.cells (scrCs a b c d e f T nt tc U ns uc) 35) ∧ DS w g r s a b c d e f A' (nt + 1) c' U ns uc (xs ++ [x]) ys l er (W'.setCell ⟨s, 6, none⟩ (.slice A' (nt + 1) c')) := by
  obtain ⟨ms, h1, h2⟩ := h.own2
  have e1 := h.eg
  have e2 := h.er_
  have e3 := h.es
  have hsz := h.size
  have low : ∀ k, k < s + 1 → W'.heap[k]? = W.heap[k]? := fun k hk => grown_low h.own1 hg hk (by omega)
  have hrow := (low s (by omega)).trans h.row
  have hb : Below w.heap.size w W' := below_append h.below (own_less h.own1 (by omega)) hg
  have k3 : ∀ ty, ty ≠ 9 → KeepT ty W W' := fun ty hty => KeepT.trans (KeepT.alloc W o) (KeepT.grown hg fun k hk => by
    rcases h.own1.2 with ⟨he, _⟩ | ⟨g', cap, cur, he, hle, hh, _⟩
    · rw [he] at hk; simp [Value.ownBlock] at hk
    · rw [he] at hk
      have : g' = k := by simpa [Value.ownBlock] using hk
      subst this
      exact ⟨cur, 9, (0, 0), (below_cells hh ((Below.refl _ W).alloc (Nat.le_refl _) o)), fun e => hty e.symm⟩)
  refine ⟨hrow, hb.setCell (p := ⟨s, 6, none⟩) (by show w.heap.size ≤ s; omega) _, e1, e2, e3, (Below.heap_setCell _ _ _ _ (by show g ≠ s; omega)).trans ((low g (by omega)).trans h.res), rdM_keep h.rd (fun k hk => (Below.heap_setCell _ _ _ _ (by show k ≠ s; omega)).trans (low k (by omega))), (set_at hrow 6 _).trans rfl, ?_, ⟨ms, ?_, ?_⟩, by simp [h.n1], h.n2⟩
  · have := own_rb_lt ho ((RB.refl s W').setCell 6 (.slice A' (nt + 1) c')) (Nat.lt_succ_self _)
    simpa using this
  · exact own_rb_lt (own_keepT h1 (k3 69 (by decide))) ((RB.refl s W').setCell 6 (.slice A' (nt + 1) c')) (Nat.lt_succ_self _)
  · exact (h2.keep (k3 3 (by decide))).keep (KeepT.setCell hrow (by decide) 6 _)
/-- A step is appended. -/
theorem DS.step {x : StepD} {A A' : Option Addr} {c0 c' : Nat} {ms : List Value} {o : Obj} (h : DS w g r s a b c d e f T nt tc U ns uc xs ys l er W) (h1 : W.ownsRow (s + 1) 69 2 (.slice U ns uc) ns ms) (h2 : StepsT W ys ms) (hA : SlT W W.heap.size 3 A (x.args.map intC)) (hc : x.args.length ≤ c0) (ho : W'.ownsRow (s + 1) 69 2 (.slice A' (ns + 1) c') (ns + 1) (ms ++ [.int .i64 x.kind, .slice A x.args.length c0])) (hg : (W.alloc o).grownBy W' (Value.slice U ns uc).ownBlock) :
    W'.heap[s]? = some (.cells (scrCs a b c d e f T nt tc U ns uc) 35) ∧ DS w g r s a b c d e f T nt tc A' (ns + 1) c' xs (ys ++ [x]) l er (W'.setCell ⟨s, 7, none⟩ (.slice A' (ns + 1) c')) := by
  have e1 := h.eg
  have e2 := h.er_
  have e3 := h.es
  have hsz := h.size
  have low : ∀ k, k < s + 1 → W'.heap[k]? = W.heap[k]? := fun k hk => grown_low h1 hg hk (by omega)
  have hrow := (low s (by omega)).trans h.row
  have hb : Below w.heap.size w W' := below_append h.below (own_less h1 (by omega)) hg
  have k3 : ∀ ty, ty ≠ 69 → KeepT ty W W' := fun ty hty => KeepT.trans (KeepT.alloc W o) (KeepT.grown hg fun k hk => by
    rcases h1.2 with ⟨he, _⟩ | ⟨g', cap, cur, he, hle, hh, _⟩
    · rw [he] at hk; simp [Value.ownBlock] at hk
    · rw [he] at hk
      have : g' = k := by simpa [Value.ownBlock] using hk
      subst this
      exact ⟨cur, 69, (0, 0), (below_cells hh ((Below.refl _ W).alloc (Nat.le_refl _) o)), fun e => hty e.symm⟩)
  have kk : KeepT 3 W (W'.setCell ⟨s, 7, none⟩ (.slice A' (ns + 1) c')) := (k3 3 (by decide)).trans (KeepT.setCell hrow (by decide) 7 _)
  refine ⟨hrow, hb.setCell (p := ⟨s, 7, none⟩) (by show w.heap.size ≤ s; omega) _, e1, e2, e3, (Below.heap_setCell _ _ _ _ (by show g ≠ s; omega)).trans ((low g (by omega)).trans h.res), rdM_keep h.rd (fun k hk => (Below.heap_setCell _ _ _ _ (by show k ≠ s; omega)).trans (low k (by omega))), (set_at hrow 7 _).trans rfl, ?_, ⟨ms ++ [.int .i64 x.kind, .slice A x.args.length c0], ?_, ?_⟩, h.n1, by simp [h.n2]⟩
  · exact own_rb_lt (own_keepT h.own1 (k3 9 (by decide))) ((RB.refl s W').setCell 7 (.slice A' (ns + 1) c')) (Nat.lt_succ_self _)
  · exact own_rb_lt ho ((RB.refl s W').setCell 7 (.slice A' (ns + 1) c')) (Nat.lt_succ_self _)
  · exact StepsT.snoc (hA.keepT kk kk.size) hc (h2.keep kk)
/-- The script as a value. -/
theorem DS.script (h : DS w g r s a b c d e f T nt tc U ns uc xs ys l er W) : ScriptP W ⟨[a, b, c, d, e, f], xs, ys⟩ a b c d e f T tc U uc := by
  obtain ⟨ms, h1, h2⟩ := h.own2
  exact ⟨rfl, own_sl h.own1, ⟨ms, own_sl h1, h2.toS⟩, by have := (own_cap h.own1).1; rw [h.n1] at this; exact this, by have := (own_cap h1).1; rw [h.n2] at this; exact this⟩
end
end Go.Proofs.YtdfhbnfhkckkbaaGreatDoor
