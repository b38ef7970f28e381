/-
  Scripts in plain words: validity, encoding, decoding; what is encoded is decoded, and what is decoded is an encoding. No program is run here.
-/
import Derived.Test.YtdfhbnfhkckkbaaGreatDoorA1
namespace Go.Proofs.YtdfhbnfhkckkbaaGreatDoor
open Go

/-- The names of the kinds of steps and their numbers of arguments. -/
def kindsB : List (Bytes × Nat) := [([99, 111, 100, 101], 1), ([116, 101, 114, 109, 115], 1), ([99, 114, 101, 97, 116, 101], 1), ([100, 101, 108, 101, 116, 101], 1), ([103, 105, 118, 101], 2), ([119, 114, 105, 116, 101], 3), ([102, 105, 108, 108], 4), ([116, 119, 105, 110], 4), ([100, 105, 115, 99, 97, 114, 100], 3), ([114, 101, 97, 100], 2), ([115, 110, 97, 112, 115, 104, 111, 116], 1), ([100, 114, 111, 112], 1), ([99, 108, 111, 110, 101], 2), ([114, 101, 115, 116, 111, 114, 101], 2), ([99, 104, 97, 110, 103, 101], 2), ([99, 108, 111, 115, 101], 0), ([107, 101, 101, 112], 1), ([102, 117, 115, 101], 1), ([109, 111, 117, 110, 116], 64), ([107, 105, 108, 108], 1), ([114, 101, 109, 111, 118, 101], 1), ([105, 110, 115, 101, 114, 116], 2), ([114, 101, 112, 108, 97, 99, 101], 1), ([114, 111, 116], 4), ([108, 111, 115, 101], 3), ([109, 105, 115, 100, 105, 114, 101, 99, 116], 4), ([97, 117, 100, 105, 116], 1)]
structure StepD where
  kind : Int
  args : List Int
deriving DecidableEq
structure ScriptD where
  cfg : List Int
  texts : List Bytes
  steps : List StepD
deriving DecidableEq
def emptyS : ScriptD := ⟨[0, 0, 0, 0, 0, 0], [], []⟩
def isKindB (n : Int) : Bool := decide (1 ≤ n) && decide (n ≤ 27)
def nameB (n : Int) : Bytes := if isKindB n then (kindsB[(n - 1).toNat]?.getD ([], 0)).1 else []
def arityB (n : Int) : Int := if isKindB n then ((kindsB[(n - 1).toNat]?.getD ([], 0)).2 : Int) else -1
def fitsB (n : Int) (k : Nat) : Bool := isKindB n && (decide ((k : Int) = arityB n) || (decide (n = 19) && decide ((k : Int) < arityB n)))
def topB (nt : Nat) (kind : Int) : Int := if kind ≤ 2 then (nt : Int) - 1 else 2147483647
def argB (top n : Int) : Bool := decide (0 ≤ n) && decide (n ≤ top)
def stepB (nt : Nat) (x : StepD) : Bool := fitsB x.kind x.args.length && x.args.all (argB (topB nt x.kind))
def stepsB (nt : Nat) : Nat → List StepD → Int × Nat
  | _, [] => (0, 0)
  | k, x :: l => if stepB nt x then stepsB nt (k + 1) l else ((k : Int), 1)
def cfgB (l : List Int) : Bool := l.all (argB 65536)
/-- The first step that is not valid, and the error. -/
def checkB (s : ScriptD) : Int × Nat :=
  if ¬ cfgB s.cfg then (-1, 1)
  else if 16 < s.texts.length ∨ 1000 < s.steps.length ∨ s.texts.any (fun t => decide (2000 < t.length)) then (-1, 2)
  else stepsB s.texts.length 0 s.steps
def encStep (x : StepD) : Bytes := intB x.kind ++ intsB x.args
def encT (s : ScriptD) : Bytes := intsB s.cfg ++ (intB s.texts.length ++ (s.texts.flatMap bytesB ++ (intB s.steps.length ++ s.steps.flatMap encStep)))
/-- The encoding, and the error. -/
def encodeB (s : ScriptD) : Bytes × Nat := if (checkB s).2 ≠ 0 then ([], (checkB s).2) else (encT s, 0)

abbrev Rd (α : Type) := Except Nat (α × Bytes)
def rd {α : Type} (g : Bytes → Except Nat (α × Nat)) (b : Bytes) : Rd α := match g b with
  | .error e => .error e
  | .ok (x, k) => .ok (x, b.drop k)
def rdL {α : Type} (g : Bytes → Rd α) : Nat → Bytes → Rd (List α)
  | 0, b => .ok ([], b)
  | n + 1, b => match g b with
    | .error e => .error e
    | .ok (x, b1) => match rdL g n b1 with
      | .error e => .error e
      | .ok (l, b2) => .ok (x :: l, b2)
def rdCount (top : Int) (b : Bytes) : Rd Nat := match rd getIntB b with
  | .error e => .error e
  | .ok (n, b1) => if 0 ≤ n ∧ n ≤ top then .ok (n.toNat, b1) else .error 6
def rdStep (b : Bytes) : Rd StepD := match rd getIntB b with
  | .error e => .error e
  | .ok (n, b1) => match rd getIntsB b1 with
    | .error e => .error e
    | .ok (l, b2) => .ok (⟨n, l⟩, b2)
/-- The script with an encoding. -/
def decodeB (b : Bytes) : Except Nat ScriptD := match rd getIntsB b with
  | .error e => .error e
  | .ok (l, b1) => if l.length ≠ 6 then .error 6 else match rdCount 16 b1 with
    | .error e => .error e
    | .ok (n, b2) => match rdL (rd getBytesB) n b2 with
      | .error e => .error e
      | .ok (ts, b3) => match rdCount 1000 b3 with
        | .error e => .error e
        | .ok (m, b4) => match rdL rdStep m b4 with
          | .error e => .error e
          | .ok (ss, b5) => if b5 ≠ [] then .error 6 else if (checkB ⟨l, ts, ss⟩).2 ≠ 0 then .error 6 else .ok ⟨l, ts, ss⟩

def I64 (n : Int) : Prop := -9223372036854775808 ≤ n ∧ n < 9223372036854775808
theorem drop_len (a r : Bytes) : (a ++ r).drop a.length = r := List.drop_left' rfl
theorem take_len (a r : Bytes) : (a ++ r).take a.length = a := List.take_left' rfl
theorem count_enc {n : Nat} (h : n < 9223372036854775808) (r : Bytes) (hr : n ≤ r.length) : countB (intB n ++ r) = .ok (n, (intB n).length) := by
  rw [countB, get_intB (by omega) (by omega)]
  dsimp only
  rw [if_neg (by omega), if_neg (by rw [List.length_append]; omega)]
  rfl
theorem bytes_enc {s : Bytes} (h : s.length < 9223372036854775808) (r : Bytes) : getBytesB (bytesB s ++ r) = .ok (s, (bytesB s).length) := by
  rw [getBytesB, bytesB, List.append_assoc, count_enc h _ (by rw [List.length_append]; omega)]
  dsimp only
  rw [drop_len, take_len, List.length_append]
theorem len_flat_le {l : List Int} : l.length ≤ (l.flatMap intB).length := by
  induction l with
  | nil => simp
  | cons n l ih => rw [List.flatMap_cons, List.length_append, intB_length, List.length_cons]; omega
theorem getN_enc : ∀ (l : List Int) (r : Bytes), (∀ n ∈ l, I64 n) → getN l.length (l.flatMap intB ++ r) = .ok (l, (l.flatMap intB).length)
  | [], r, _ => rfl
  | n :: l, r, h => by
    rw [List.length_cons, List.flatMap_cons, List.append_assoc, getN, get_intB (h n (by simp)).1 (h n (by simp)).2]
    dsimp only
    rw [drop_len, getN_enc l r fun m hm => h m (by simp [hm])]
    dsimp only
    rw [List.length_append]
theorem ints_enc {l : List Int} (h : l.length < 9223372036854775808) (hl : ∀ n ∈ l, I64 n) (r : Bytes) : getIntsB (intsB l ++ r) = .ok (l, (intsB l).length) := by
  rw [getIntsB, intsB, List.append_assoc, count_enc h _ (by rw [List.length_append]; have := @len_flat_le l; omega)]
  dsimp only
  rw [drop_len, getN_enc l r hl]
  dsimp only
  rw [List.length_append]
theorem rd_enc {α : Type} {g : Bytes → Except Nat (α × Nat)} {x : α} {e r : Bytes} (h : g (e ++ r) = .ok (x, e.length)) : rd g (e ++ r) = .ok (x, r) := by
  rw [rd, h]
  dsimp only
  rw [drop_len]
theorem rdL_enc {α : Type} {g : Bytes → Rd α} {enc : α → Bytes} : ∀ (l : List α) (r : Bytes), (∀ x ∈ l, ∀ r, g (enc x ++ r) = .ok (x, r)) → rdL g l.length (l.flatMap enc ++ r) = .ok (l, r)
  | [], r, _ => rfl
  | x :: l, r, h => by
    rw [List.length_cons, List.flatMap_cons, List.append_assoc, rdL, h x (by simp)]
    dsimp only
    rw [rdL_enc l r fun y hy => h y (by simp [hy])]
theorem rdCount_enc {top : Int} {n : Nat} (h : (n : Int) ≤ top) (ht : n < 9223372036854775808) (r : Bytes) : rdCount top (intB n ++ r) = .ok (n, r) := by
  rw [rdCount, rd_enc (get_intB (by omega) (by omega) r)]
  dsimp only
  rw [if_pos ⟨by omega, h⟩]
  rfl
theorem rdStep_enc {x : StepD} (h : I64 x.kind) (h1 : x.args.length < 9223372036854775808) (h2 : ∀ n ∈ x.args, I64 n) (r : Bytes) : rdStep (encStep x ++ r) = .ok (x, r) := by
  rw [rdStep, encStep, List.append_assoc, rd_enc (get_intB h.1 h.2 _)]
  dsimp only
  rw [rd_enc (ints_enc h1 h2 r)]

/-- What Check accepts. -/
structure OkS (s : ScriptD) : Prop where
  cfg : ∀ n ∈ s.cfg, 0 ≤ n ∧ n ≤ 65536
  nt : s.texts.length ≤ 16
  ns : s.steps.length ≤ 1000
  txt : ∀ t ∈ s.texts, t.length ≤ 2000
  stp : ∀ x ∈ s.steps, stepB s.texts.length x = true
theorem steps_ok (nt : Nat) : ∀ (l : List StepD) (k : Nat), (stepsB nt k l).2 = 0 ↔ ∀ x ∈ l, stepB nt x = true
  | [], k => by simp [stepsB]
  | x :: l, k => by
    rw [stepsB]
    by_cases h : stepB nt x = true
    · rw [if_pos h, steps_ok nt l]; simp [h]
    · rw [if_neg h]; simp [h]
theorem steps_zero (nt : Nat) : ∀ (l : List StepD) (k : Nat), (stepsB nt k l).2 = 0 → stepsB nt k l = (0, 0)
  | [], k, _ => rfl
  | x :: l, k, h => by
    rw [stepsB] at h ⊢
    split at h
    · rename_i g; rw [if_pos g]; exact steps_zero nt l _ h
    · cases h
theorem check_ok {s : ScriptD} : (checkB s).2 = 0 ↔ OkS s := by
  unfold checkB
  by_cases h1 : cfgB s.cfg = true
  · rw [if_neg (by simp [h1])]
    have hc : ∀ n ∈ s.cfg, 0 ≤ n ∧ n ≤ 65536 := by
      intro n hn
      have := List.all_eq_true.1 h1 n hn
      simpa [argB] using this
    split
    · rename_i h2
      refine ⟨fun h => by simp at h, fun h => ?_⟩
      rcases h2 with h2 | h2 | h2
      · have := h.nt; omega
      · have := h.ns; omega
      · obtain ⟨t, ht, hl⟩ := List.any_eq_true.1 h2
        have := h.txt t ht
        simp at hl; omega
    · rename_i h2
      rw [steps_ok]
      refine ⟨fun h => ⟨hc, by omega, by omega, fun t ht => ?_, h⟩, fun h => h.stp⟩
      rcases Nat.lt_or_ge 2000 t.length with hl | hl
      · exact absurd (.inr (.inr (List.any_eq_true.2 ⟨t, ht, by simpa using hl⟩))) h2
      · exact hl
  · rw [if_pos (by simp [h1])]
    refine ⟨fun h => by simp at h, fun h => absurd ?_ h1⟩
    exact List.all_eq_true.2 fun n hn => by have := h.cfg n hn; simp [argB, this.1, this.2]
theorem check_zero {s : ScriptD} (h : (checkB s).2 = 0) : checkB s = (0, 0) := by
  unfold checkB at h ⊢
  split at h
  · simp at h
  · rename_i g1
    rw [if_neg g1]
    split at h
    · simp at h
    · rename_i g2
      rw [if_neg g2]
      exact steps_zero _ _ _ h
theorem arity_le {n : Int} : arityB n ≤ 64 := by
  unfold arityB
  split
  · rename_i h
    have h1 : 1 ≤ n ∧ n ≤ 27 := by simpa [isKindB] using h
    obtain ⟨k, hk⟩ : ∃ k : Nat, (n - 1).toNat = k ∧ k < 27 := ⟨_, rfl, by omega⟩
    rw [hk.1]
    have : ∀ k : Fin 27, ((kindsB[k.val]?.getD ([], 0)).2 : Int) ≤ 64 := by decide
    exact this ⟨k, hk.2⟩
  · omega
theorem step_bounds {nt : Nat} (hn : nt ≤ 16) {x : StepD} (h : stepB nt x = true) : 1 ≤ x.kind ∧ x.kind ≤ 27 ∧ x.args.length ≤ 64 ∧ ∀ n ∈ x.args, 0 ≤ n ∧ n ≤ 2147483647 := by
  unfold stepB at h
  rw [Bool.and_eq_true] at h
  have hf := h.1
  unfold fitsB at hf
  rw [Bool.and_eq_true, Bool.or_eq_true, Bool.and_eq_true] at hf
  have hk : 1 ≤ x.kind ∧ x.kind ≤ 27 := by simpa [isKindB] using hf.1
  have ha := @arity_le x.kind
  refine ⟨hk.1, hk.2, ?_, fun n hn' => ?_⟩
  · rcases hf.2 with h3 | h3
    · have := of_decide_eq_true h3; omega
    · have := of_decide_eq_true h3.2; omega
  · have := List.all_eq_true.1 h.2 n hn'
    unfold argB at this
    rw [Bool.and_eq_true] at this
    have h4 := of_decide_eq_true this.1
    have h5 := of_decide_eq_true this.2
    unfold topB at h5
    split at h5 <;> omega
/-- What is encoded is decoded. -/
theorem decode_enc {s : ScriptD} (h6 : s.cfg.length = 6) (h : OkS s) : decodeB (encT s) = .ok s := by
  have hs : ∀ x ∈ s.steps, ∀ r, rdStep (encStep x ++ r) = .ok (x, r) := fun x hx r => by
    obtain ⟨h1, h2, h3, h4⟩ := step_bounds h.nt (h.stp x hx)
    exact rdStep_enc ⟨by omega, by omega⟩ (by omega) (fun n hn => ⟨by have := h4 n hn; omega, by have := h4 n hn; omega⟩) r
  have ht : ∀ t ∈ s.texts, ∀ r, rd getBytesB (bytesB t ++ r) = .ok (t, r) := fun t ht r => rd_enc (bytes_enc (by have := h.txt t ht; omega) r)
  have e := rdL_enc s.steps [] hs
  rw [List.append_nil] at e
  have hnt := h.nt
  have hns := h.ns
  rw [decodeB, encT, rd_enc (ints_enc (by omega) (fun n hn => ⟨by have := h.cfg n hn; omega, by have := h.cfg n hn; omega⟩) _)]
  dsimp only
  rw [if_neg (by omega), rdCount_enc (by omega) (by omega)]
  dsimp only
  rw [rdL_enc s.texts _ ht]
  dsimp only
  rw [rdCount_enc (by omega) (by omega)]
  dsimp only
  rw [e]
  dsimp only
  rw [if_neg (by simp), if_neg (by rw [check_ok.2 h]; simp)]

theorem count_can {b : Bytes} {n k : Nat} (h : countB b = .ok (n, k)) : b.take k = intB n ∧ k = (intB n).length ∧ k + n ≤ b.length ∧ n < 9223372036854775808 := by
  rw [countB] at h
  split at h
  · cases h
  · rename_i m j hg
    obtain ⟨h1, h2, h3, h4, h5⟩ := int_getB hg
    split at h
    · cases h
    split at h
    · cases h
    rename_i g1 g2
    obtain ⟨rfl, rfl⟩ : m.toNat = n ∧ j = k := by simpa using h
    have e : ((m.toNat : Nat) : Int) = m := by omega
    rw [e]
    exact ⟨h1, h2, by omega, by omega⟩
theorem take_drop_cat {b x : Bytes} {k : Nat} (h : b.take k = x) : b = x ++ b.drop k := by rw [← h, List.take_append_drop]
theorem bytes_can {b s : Bytes} {k : Nat} (h : getBytesB b = .ok (s, k)) : b = bytesB s ++ b.drop k ∧ k ≤ b.length := by
  rw [getBytesB] at h
  split at h
  · cases h
  · rename_i n j hc
    obtain ⟨h1, h2, h3, h4⟩ := count_can hc
    obtain ⟨rfl, rfl⟩ : (b.drop j).take n = s ∧ j + n = k := by simpa using h
    have hl : ((b.drop j).take n).length = n := by rw [List.length_take, List.length_drop]; omega
    refine ⟨?_, by omega⟩
    rw [bytesB, hl, ← List.drop_drop, List.append_assoc, List.take_append_drop]
    exact take_drop_cat h1
theorem getN_can : ∀ (n : Nat) (b : Bytes) (l : List Int) (u : Nat), getN n b = .ok (l, u) → b = l.flatMap intB ++ b.drop u ∧ u = (l.flatMap intB).length ∧ u ≤ b.length ∧ l.length = n ∧ ∀ m ∈ l, I64 m
  | 0, b, l, u, h => by
    rw [getN] at h
    obtain ⟨rfl, rfl⟩ : [] = l ∧ 0 = u := by simpa using h
    exact ⟨rfl, rfl, Nat.zero_le _, rfl, fun m hm => by cases hm⟩
  | n + 1, b, l, u, h => by
    rw [getN] at h
    split at h
    · cases h
    · rename_i x k hx
      obtain ⟨h1, h2, h3, h4, h5⟩ := int_getB hx
      split at h
      · cases h
      · rename_i l' u' hl
        obtain ⟨g1, g2, g3, g4, g5⟩ := getN_can n _ _ _ hl
        obtain ⟨rfl, rfl⟩ : x :: l' = l ∧ k + u' = u := by simpa using h
        rw [List.length_drop] at g3
        refine ⟨?_, by rw [List.flatMap_cons, List.length_append, ← h2, ← g2], by omega, by rw [List.length_cons, g4], fun m hm => ?_⟩
        · rw [List.flatMap_cons, List.append_assoc, ← List.drop_drop, ← g1]
          exact take_drop_cat h1
        · rcases List.mem_cons.1 hm with rfl | hm
          · exact ⟨h4, h5⟩
          · exact g5 m hm
theorem ints_can {b : Bytes} {l : List Int} {k : Nat} (h : getIntsB b = .ok (l, k)) : b = intsB l ++ b.drop k ∧ k ≤ b.length ∧ ∀ m ∈ l, I64 m := by
  rw [getIntsB] at h
  split at h
  · cases h
  · rename_i n j hc
    obtain ⟨h1, h2, h3, h4⟩ := count_can hc
    split at h
    · cases h
    · rename_i l' u hl
      obtain ⟨g1, g2, g3, g4, g5⟩ := getN_can n _ _ _ hl
      obtain ⟨rfl, rfl⟩ : l' = l ∧ j + u = k := by simpa using h
      rw [List.length_drop] at g3
      refine ⟨?_, by omega, g5⟩
      rw [intsB, g4, List.append_assoc, ← List.drop_drop, ← g1]
      exact take_drop_cat h1
theorem rd_int_can {b r : Bytes} {n : Int} (h : rd getIntB b = .ok (n, r)) : b = intB n ++ r := by
  rw [rd] at h
  split at h
  · cases h
  · rename_i x k hx
    obtain ⟨rfl, rfl⟩ : x = n ∧ b.drop k = r := by simpa using h
    exact take_drop_cat (int_getB hx).1
theorem rd_ints_can {b r : Bytes} {l : List Int} (h : rd getIntsB b = .ok (l, r)) : b = intsB l ++ r := by
  rw [rd] at h
  split at h
  · cases h
  · rename_i x k hx
    obtain ⟨rfl, rfl⟩ : x = l ∧ b.drop k = r := by simpa using h
    exact (ints_can hx).1
theorem rd_bytes_can {b r s : Bytes} (h : rd getBytesB b = .ok (s, r)) : b = bytesB s ++ r := by
  rw [rd] at h
  split at h
  · cases h
  · rename_i x k hx
    obtain ⟨rfl, rfl⟩ : x = s ∧ b.drop k = r := by simpa using h
    exact (bytes_can hx).1
theorem rdCount_can {top : Int} {b r : Bytes} {n : Nat} (h : rdCount top b = .ok (n, r)) : b = intB n ++ r := by
  rw [rdCount] at h
  split at h
  · cases h
  · rename_i m b1 hm
    split at h
    · rename_i g
      obtain ⟨rfl, rfl⟩ : m.toNat = n ∧ b1 = r := by simpa using h
      rw [show ((m.toNat : Nat) : Int) = m by omega]
      exact rd_int_can hm
    · cases h
theorem rdStep_can {b r : Bytes} {x : StepD} (h : rdStep b = .ok (x, r)) : b = encStep x ++ r := by
  rw [rdStep] at h
  split at h
  · cases h
  · rename_i n b1 h1
    split at h
    · cases h
    · rename_i l b2 h2
      obtain ⟨rfl, rfl⟩ : (⟨n, l⟩ : StepD) = x ∧ b2 = r := by simpa using h
      rw [rd_int_can h1, rd_ints_can h2, encStep, List.append_assoc]
theorem rdL_can {α : Type} {g : Bytes → Rd α} {enc : α → Bytes} (hg : ∀ b x r, g b = .ok (x, r) → b = enc x ++ r) : ∀ (n : Nat) (b : Bytes) (l : List α) (r : Bytes), rdL g n b = .ok (l, r) → b = l.flatMap enc ++ r ∧ l.length = n
  | 0, b, l, r, h => by
    rw [rdL] at h
    obtain ⟨rfl, rfl⟩ : [] = l ∧ b = r := by simpa using h
    exact ⟨rfl, rfl⟩
  | n + 1, b, l, r, h => by
    rw [rdL] at h
    split at h
    · cases h
    · rename_i x b1 h1
      split at h
      · cases h
      · rename_i l' b2 h2
        obtain ⟨rfl, rfl⟩ : x :: l' = l ∧ b2 = r := by simpa using h
        obtain ⟨g1, g2⟩ := rdL_can hg n _ _ _ h2
        exact ⟨by rw [hg _ _ _ h1, g1, List.flatMap_cons, List.append_assoc], by rw [List.length_cons, g2]⟩
/-- What is decoded is an encoding. -/
theorem enc_decode {b : Bytes} {s : ScriptD} (h : decodeB b = .ok s) : b = encT s ∧ s.cfg.length = 6 ∧ OkS s := by
  rw [decodeB] at h
  split at h
  · cases h
  rename_i l b1 h1
  split at h
  · cases h
  rename_i h6
  split at h
  · cases h
  rename_i n b2 h2
  split at h
  · cases h
  rename_i ts b3 h3
  split at h
  · cases h
  rename_i m b4 h4
  split at h
  · cases h
  rename_i ss b5 h5
  split at h
  · cases h
  rename_i he
  split at h
  · cases h
  rename_i hc
  obtain rfl : (⟨l, ts, ss⟩ : ScriptD) = s := by simpa using h
  obtain ⟨e3, l3⟩ := rdL_can (enc := bytesB) (fun b x r h => rd_bytes_can h) _ _ _ _ h3
  obtain ⟨e5, l5⟩ := rdL_can (enc := encStep) (fun b x r h => rdStep_can h) _ _ _ _ h5
  have he' : b5 = [] := Classical.not_not.1 he
  subst he'
  refine ⟨?_, Classical.not_not.1 h6, check_ok.1 (Classical.not_not.1 hc)⟩
  rw [rd_ints_can h1, rdCount_can h2, e3, rdCount_can h4, e5, encT, l3, l5, List.append_nil]
end Go.Proofs.YtdfhbnfhkckkbaaGreatDoor
