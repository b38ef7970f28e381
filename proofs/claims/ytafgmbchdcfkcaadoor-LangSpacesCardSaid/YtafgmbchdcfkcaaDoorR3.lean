/-
  The walk of the reference's Tokens.
-/
import Derived.Test.YtafgmbchdcfkcaaDoorR2
import Derived.Deep.LoopGhost
import Derived.Deep.DeepCutAuto
namespace Go.Proofs.YtafgmbchdcfkcaaDoor
open Go Go.RowKit Go.Walks

def tokRs (ts : List Tok) : List Value := ts.flatMap fun T => (tokR T).toList
theorem tokRs_snoc (ts : List Tok) (T : Tok) : tokRs (ts ++ [T]) = tokRs ts ++ (tokR T).toList := by simp [tokRs]
theorem tokRs_len (ts : List Tok) : (tokRs ts).length = ts.length * 4 := by
  induction ts with
  | nil => rfl
  | cons T ts ih =>
    have : tokRs (T :: ts) = (tokR T).toList ++ tokRs ts := rfl
    rw [this, List.length_append, ih]
    simp [tokR]; omega
theorem tokRs_at : ∀ (ts : List Tok) (k : Nat) (T : Tok), ts[k]? = some T → ∀ j u, (tokR T).toList[j]? = some u → (tokRs ts)[k * 4 + j]? = some u
  | [], _, _, h, _, _, _ => by simp at h
  | T :: ts, 0, U, h, j, u, hu => by
    simp at h
    subst h
    have e : tokRs (T :: ts) = (tokR T).toList ++ tokRs ts := rfl
    rw [e, List.getElem?_append_left (by have := (List.getElem?_eq_some_iff.1 hu).1; omega)]
    simpa using hu
  | T :: ts, k + 1, U, h, j, u, hu => by
    have ih := tokRs_at ts k U (by simpa using h) j u hu
    have e : tokRs (T :: ts) = (tokR T).toList ++ tokRs ts := rfl
    have hl : (tokR T).toList.length = 4 := rfl
    rw [e, List.getElem?_append_right (by rw [hl]; omega), hl, show (k + 1) * 4 + j - 4 = k * 4 + j by omega]
    exact ih
theorem so43 : SliceOf Tryd.prog 43 46 4 40 := SliceOf.mk (z := .agg z4) Tryd.underlying43 (by omega) (by kernel_rfl) rfl
theorem toks_next (l : Bytes) (p : Nat) : toks l p = if 3 < (nextT l p).kind then [nextT l p] else nextT l p :: toks l ((nextT l p).at_ + (nextT l p).text.length) := toks_eq l p
theorem nextT_le {l : Bytes} {p : Nat} (hp : p ≤ l.length) : (nextT l p).at_ + (nextT l p).text.length ≤ l.length := by
  have hk := skipS_le false (l.drop p)
  rw [List.length_drop] at hk
  have hle := lexLen_le (l.drop (p + skipS false (l.drop p)))
  rw [List.length_drop] at hle
  unfold nextT
  rw [lexT_len]
  show p + skipS false (l.drop p) + _ ≤ _
  omega

theorem sl_new2 (w : World) (o : Obj) (cs : List Value) (t : TypeId) : Sl ((w.alloc o).alloc (.cells cs.toArray t)) (w.heap.size + 2) (some ⟨w.heap.size + 1, 0, none⟩) cs := by
  have := Sl.new (w.alloc o) cs t
  rwa [World.size_alloc] at this
theorem new_grown {w1 w5 : World} {B e size n : Nat} {v : Value} {xs : List Value} {o o' : Obj} (ho : w1.ownsRow B e size v n xs) (hg : ((w1.alloc o).alloc o').grownBy w5 v.ownBlock) : w5.heap[w1.heap.size]? = some o := by
  refine (hg.block _ (by simp; omega) (fun e => ?_)).trans ((Below.heap_alloc _ _ _ (by simp)).trans (heap_new _ _))
  rcases ho.2 with ⟨h', _⟩ | ⟨g, cap, cur, h', _, hh, _⟩
  · rw [h'] at e; simp [Value.ownBlock] at e
  · rw [h'] at e
    have h1 : w1.heap.size = g := by simpa [Value.ownBlock] using e
    have := (Array.getElem?_eq_some_iff.1 hh).1
    omega
def TokensP (ts : List Tok) (w : World) (e : Ending) (w' : World) : Prop := ∃ A c, e = .returned (.slice A ts.length c) ∧ SlT w' w'.heap.size 46 A (tokRs ts) ∧ Below w.heap.size w w'
/-- While the tokens are read. -/
structure TS (w : World) (A : Option Addr) (n c : Nat) (acc : List Tok) (W : World) : Prop where
  below : Below w.heap.size w W
  o : W.ownsRow w.heap.size 46 4 (.slice A n c) n (tokRs acc)
theorem below_append {w W W' : World} {e : TypeId} {size n : Nat} {v : Value} {xs : List Value} {o : Obj} (hb : Below w.heap.size w W) (ho : W.ownsRow w.heap.size e size v n xs) (hg : (W.alloc o).grownBy W' v.ownBlock) : Below w.heap.size w W' := by
  have ha := hb.alloc hb.size o
  refine ⟨hg.os.trans ha.os, hg.tape.trans ha.tape, hg.output.trans ha.output, Nat.le_trans ha.size hg.size, fun k hk => (hg.block k (Nat.lt_of_lt_of_le hk ha.size) (fun e => ?_)).trans (ha.block k hk)⟩
  rcases ho.2 with ⟨h', _⟩ | ⟨g, cap, cur, h', hle, _⟩
  · rw [h'] at e; simp [Value.ownBlock] at e
  · rw [h'] at e
    have : k = g := by simpa [Value.ownBlock] using e
    omega

set_option maxRecDepth 100000 in
set_option maxHeartbeats 4000000 in
theorem tokens_any (t : ByteArray) (w : World) (ht : t.size ≤ 2000) : Calls Tryd.prog 23 #[.string t] w (TokensP (toks t.data.toList 0) w) := by
  have hN := toks_len2 t ht
  go_enter Tryd.func23, Tryd.ntmps23
  go_wp2_with fail
  go_loopg [3, 4] ((toks t.data.toList 0).length) (fun g s3 s4 wr => ∃ (A : Option Addr) (n c p : Nat) (acc : List Tok), s3 = .slice A n c ∧ s4 = .int .i64 (p : Int) ∧ p ≤ t.size ∧ n = acc.length ∧ g = (toks t.data.toList p).length ∧ Hid (TS w A n c acc wr) ∧ Hid (toks t.data.toList 0 = acc ++ toks t.data.toList p))
  case atStart => exact ⟨none, 0, 0, 0, [], rfl, rfl, by omega, rfl, rfl, ⟨Below.refl _ _, own_nil _ _ _ _⟩, rfl⟩
  case round =>
    obtain ⟨A, n, c, p, acc, rfl, rfl, hp, hn, hg, HT, HE⟩ := hrel
    have Hg := Lib.hid hg
    have Hn := Lib.hid hn
    have hlen : n + 1 ≤ 2001 := by
      have h1 := congrArg List.length HE.out
      rw [List.length_append] at h1
      have h2 : 0 < (toks t.data.toList p).length := by
        rw [toks_next]
        split <;> simp
      omega
    clear hg hn
    have hle := nextT_le (l := t.data.toList) (p := p) (by rw [size_l]; exact hp)
    rw [size_l] at hle
    obtain ⟨T, hT⟩ : ∃ T, T = nextT t.data.toList p := ⟨_, rfl⟩
    rw [← hT] at hle
    have hnx := toks_next t.data.toList p
    rw [← hT] at hnx
    have Hnx := Lib.hid hnx
    have hcall := fun w => rnext_any t p w hp ht
    rw [← hT] at hcall
    have Hcall := Lib.hid hcall
    clear hcall hnx hT
    have hb1 : n + 1 ≤ maxLen := by unfold maxLen; omega
    have hb2 : (n + 1) * 40 ≤ 140737488355328 := by omega
    go_wp2_with fail
    refine (Hcall.out _).mono ?_
    rintro e w1 ⟨rfl, hbw⟩
    have hT1 : TS w A n c acc w1 := ⟨HT.out.below.trans (hbw.mono HT.out.below.size), by
      refine ⟨HT.out.o.1, ?_⟩
      rcases HT.out.o.2 with h' | ⟨g, cap, cur, e, hg', hh, h'⟩
      · exact .inl h'
      · exact .inr ⟨g, cap, cur, e, hg', (hbw.block _ (Array.getElem?_eq_some_iff.1 hh).1).trans hh, h'⟩⟩
    have HT1 := Lib.hid hT1
    clear hT1 hbw
    unfold tokR
    go_upto_region 5 with (at_builtin; refine wpList_append_sl rfl _ _ 43 rfl rfl rfl so43 ((HT1.out.o.alloc _).alloc _) (m := 1) (news := [strV T.text, .int .i64 (T.at_ : Int), .int .i64 (T.kind : Int), .int .i64 (T.n : Int)]) rfl (sl_new2 _ _ _ _) ?_ hb1 hb2 (Nat.le_trans HT1.out.below.size (by simp; omega)) ?_; (intro u hu; simp at hu; rcases hu with rfl | rfl | rfl | rfl <;> rfl); intro A5 c5 w5 ho5 hg5; have HO5 := Lib.hid ho5; have HG5 := Lib.hid hg5; have hr5 := new_grown HT1.out.o hg5; obtain ⟨r0, r1, r2, r3, -, -, -, -⟩ := four_cells hr5; clear ho5 hg5 hr5)
    have HTn : Hid (TS w A5 (n + 1) c5 (acc ++ [T]) w5) := ⟨below_append (HT1.out.below.alloc HT1.out.below.size _) (HT1.out.o.alloc _) HG5.out, by rw [tokRs_snoc]; exact HO5.out⟩
    by_cases h3 : 3 < T.kind
    · have h3' : (3 : Int) < (T.kind : Int) := by omega
      have hfin : toks t.data.toList 0 = acc ++ [T] := by rw [HE.out, Hnx.out, if_pos h3]
      have Hfin := Lib.hid hfin
      clear hfin
      go_wp2_with fail
      go_ret
      obtain ⟨A', c', e', hs', -, -⟩ := SlT.of_own HTn.out.o
      injection e' with e1 _ _
      subst e1
      rw [Hfin.out]
      exact ⟨A5, c5, by rw [List.length_append, ← Hn.out]; rfl, hs', HTn.out.below⟩
    · have h3' : ¬ (3 : Int) < (T.kind : Int) := by omega
      have q1 : decide (3 < T.kind) = false := decide_eq_false h3
      have q2 : decide ((3 : Int) < (T.kind : Int)) = false := decide_eq_false h3'
      have q3 : (T.kind : Int) ≤ 3 := by omega
      have hE : Hid (toks t.data.toList p = T :: toks t.data.toList (T.at_ + T.text.length)) := by show _ = _; rw [Hnx.out, if_neg h3]
      go_wp2_with fail
      go_roundg ((toks t.data.toList (T.at_ + T.text.length)).length)
      case measure => rw [Hg.out, hE.out]; simp
      case rel => exact ⟨A5, n + 1, c5, T.at_ + T.text.length, acc ++ [T], rfl, by go_num, hle, by rw [List.length_append, ← Hn.out]; rfl, rfl, HTn.out, (by show _ = _; rw [HE.out, hE.out]; simp)⟩
end Go.Proofs.YtafgmbchdcfkcaaDoor
