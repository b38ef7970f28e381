/-
  The walk of the wire's GetInts.
-/
import Derived.Test.YtdfhbnfhkckkbaaGreatDoorW5
namespace Go.Proofs.YtdfhbnfhkckkbaaGreatDoor
open Go Go.RowKit Go.Walks

def GetIntsR (x : Except Nat (List Int × Nat)) (w : World) (e : Ending) (w' : World) : Prop := Below w.heap.size w w' ∧ match x with
  | .ok (l, k) => ∃ A c, e = .returned (.tuple #[.slice A l.length c, .int .i64 (k : Int), .int .i64 0]) ∧ w'.ownsRow w.heap.size 3 1 (.slice A l.length c) l.length (l.map intC)
  | .error er => e = .returned (.tuple #[.slice none 0 0, .int .i64 0, errI er])
theorem own_rb_lt {w w' : World} {r B n size : Nat} {e : TypeId} {v : Value} {xs : List Value} (h : w.ownsRow B e size v n xs) (hb : RB r w w') (hr : r < B) : w'.ownsRow B e size v n xs := by
  refine ⟨h.1, ?_⟩
  rcases h.2 with h | ⟨g, cap, cur, e1, hg, hh, h⟩
  · exact .inl h
  · exact .inr ⟨g, cap, cur, e1, hg, (hb.block g (Array.getElem?_eq_some_iff.1 hh).1 (by omega)).trans hh, h⟩
/-- While integers are read one behind the other. -/
structure GS (w1 : World) (gb ga : Nat) (A : Option Addr) (m c at_ : Nat) (A' : Option Addr) (n' c' : Nat) (acc : List Int) (W : World) : Prop where
  rb : RB ga w1 W
  rd : RdAt gb ga A m c at_ W
  o : W.ownsRow w1.heap.size 3 1 (.slice A' n' c') n' (acc.map intC)
theorem GS.next {w1 W W' : World} {gb ga m c at_ at' n' c' : Nat} {A A' : Option Addr} {acc : List Int} (h : GS w1 gb ga A m c at_ A' n' c' acc W) (hga : ga < w1.heap.size) (hb : RB ga W W') (hr : RdAt gb ga A m c at' W') : GS w1 gb ga A m c at' A' n' c' acc W' :=
  ⟨h.rb.trans hb, hr, own_rb_lt h.o hb hga⟩
theorem GS.grow {w1 W W' : World} {gb ga m c at_ n' c' n2 c2 : Nat} {A A' A2 : Option Addr} {acc acc2 : List Int} {o : Obj} (h : GS w1 gb ga A m c at_ A' n' c' acc W) (hga : ga < w1.heap.size) (hgb : gb < w1.heap.size) (ho : W'.ownsRow w1.heap.size 3 1 (.slice A2 n2 c2) n2 (acc2.map intC)) (hg : (W.alloc o).grownBy W' (Value.slice A' n' c').ownBlock) : GS w1 gb ga A m c at_ A2 n2 c2 acc2 W' := by
  have hkeep : ∀ k, k < w1.heap.size → W'.heap[k]? = W.heap[k]? := fun k hk => by
    have hkW : k < W.heap.size := Nat.lt_of_lt_of_le hk h.rb.size
    rw [hg.block k (by simp; omega) (fun e => by have := own_ge h.o e.symm; omega)]
    exact Below.heap_alloc _ _ _ hkW
  exact ⟨rb_grownOwn h.rb h.o hg, ⟨(hkeep gb hgb).trans h.rd.b, (hkeep ga hga).trans h.rd.a⟩, ho⟩
theorem getN_step {n : Nat} {b : Bytes} : getN (n + 1) b = match getIntB b with
    | .error e => .error e
    | .ok (x, k) => match getN n (b.drop k) with
      | .error e => .error e
      | .ok (l, u) => .ok (x :: l, k + u) := rfl
/-- What is left to be read, joined to what was read. -/
def joinN (acc : List Int) (p : Nat) : Except Nat (List Int × Nat) → Except Nat (List Int × Nat)
  | .error e => .error e
  | .ok (l, u) => .ok (acc ++ l, p + u)

set_option maxRecDepth 100000 in
set_option maxHeartbeats 400000 in
theorem getints_any (l : Bytes) (A : Option Addr) (c : Nat) (w : World) (hl : l.length ≤ 1000000000) (hc : l.length ≤ c) (Hs : Hid (Sl w w.heap.size A (Lib.byteCells l))) : Calls Tryz.prog 65 #[.slice A l.length c] w (GetIntsR (getIntsB l) w) := by
  have Hg := Lib.hid (count_any l A c w hl hc Hs)
  obtain ⟨y, hy0⟩ : ∃ y, y = getIntsB l := ⟨_, rfl⟩
  rw [← hy0]
  have hcnt : y = match countB l with
    | .error e => .error e
    | .ok (n, k) => joinN [] k (getN n (l.drop k)) := by
      rw [hy0, getIntsB]
      cases countB l with
      | error e => rfl
      | ok nk =>
        obtain ⟨n, k⟩ := nk
        dsimp only
        cases getN n (l.drop k) with
        | error e => rfl
        | ok lu => rfl
  obtain ⟨m, hm⟩ : ∃ m, m = l.length := ⟨_, rfl⟩
  rw [← hm] at Hg ⊢
  cases hx : countB l with
  | error e =>
    rw [hx] at Hg hcnt
    have he := count_err hx
    have q1 : ((e : Int) != 0) = true := by rw [bne_iff_ne]; omega
    have HX := Lib.hid hcnt
    clear hm hcnt hx hl hc hy0
    go_enter Tryz.func65, Tryz.ntmps65
    go_wp2_with fail
    refine Hg.out.mono ?_
    unfold CountR errI
    rintro _ _ ⟨rfl, a, b, rfl⟩
    go_wp2_with fail
    go_ret3
    exact ⟨Below.refl _ _, by rw [HX.out]; rfl⟩
  | ok nk =>
    obtain ⟨n, k⟩ := nk
    rw [hx] at Hg hcnt
    obtain ⟨h1, h2, h3, h4⟩ := count_can hx
    dsimp only at hcnt
    have hk1 : 1 ≤ k := by rw [h2, intB_length]; omega
    obtain ⟨x0, hx0⟩ : ∃ x, l[0]? = some x := ⟨l[0]'(by omega), List.getElem?_eq_getElem _⟩
    obtain ⟨b, o, hA, -, -⟩ := byte_at Hs.out hx0
    clear hx0 x0
    subst hA
    rw [← hm] at h3 hl hc
    have HX := Lib.hid hcnt
    have Hm := Lib.hid hm
    clear hm hcnt hx hy0 h1 h2 h4
    go_enter Tryz.func65, Tryz.ntmps65
    go_wp2_with fail
    refine Hg.out.mono ?_
    unfold CountR
    rintro _ w0 ⟨hw0, rfl⟩
    obtain rfl := hw0.symm
    go_wp2_with fail
    refine (reader_any _ _ _ _ _).mono ?_
    rintro e w1 ⟨rfl, hb1, hr1⟩
    obtain ⟨gb, hgb⟩ : ∃ g, g = w.heap.size := ⟨_, rfl⟩
    obtain ⟨ga, hga⟩ : ∃ g, g = w.heap.size + 1 := ⟨_, rfl⟩
    rw [← hga, ← hgb] at hr1 ⊢
    have hgaw : ga < w1.heap.size := (Array.getElem?_eq_some_iff.1 hr1.a).1
    have hgbw : gb < w1.heap.size := (Array.getElem?_eq_some_iff.1 hr1.b).1
    have hga0 : w.heap.size ≤ ga := by omega
    have HG0 : Hid (GS w1 gb ga (some ⟨b, o, none⟩) m c k none 0 0 [] w1) := ⟨RB.refl _ _, hr1, own_nil _ _ _ _⟩
    have HB1 := Lib.hid hb1
    clear hr1 hb1 hgb hga
    go_wp2_with fail
    go_loopg [26, 9, 6] n (fun g s26 s9 s6 wr => ∃ (i at_ : Nat) (A' : Option Addr) (c' : Nat) (acc : List Int), s26 = .int .i64 (i : Int) ∧ s9 = .slice A' i c' ∧ s6 = .int .i64 (at_ : Int) ∧ g = n - i ∧ i ≤ n ∧ at_ ≤ m ∧ Hid (GS w1 gb ga (some ⟨b, o, none⟩) m c at_ A' i c' acc wr) ∧ Hid (acc.length = i) ∧ Hid (y = joinN acc at_ (getN (n - i) (l.drop at_))))
    case atStart => exact ⟨0, k, none, 0, [], rfl, rfl, rfl, rfl, Nat.zero_le _, by omega, HG0, rfl, HX⟩
    case round =>
      obtain ⟨i, at_, A', c', acc, rfl, rfl, rfl, hg, hin, hat, HG, HL, HY⟩ := hrel
      have HBW : Hid (Below w.heap.size w wr) := HB1.out.trans (HG.out.rb.below hga0 HB1.out.size)
      by_cases hlt : i < n
      · have hI1 : (i : Int) < (n : Int) := by omega
        have hnx := next_any l b o c at_ gb ga wr (by have := Hm.out; omega) (by have := Hm.out; omega) (by have := Hm.out; omega) ((Hs.out.below HBW.out).more HBW.out.size) (by rw [← Hm.out]; exact HG.out.rd)
        rw [← Hm.out] at hnx
        have HY2 := HY.out
        rw [show n - i = (n - (i + 1)) + 1 by omega, getN_step] at HY2
        cases hx2 : getIntB (l.drop at_) with
        | error er =>
          rw [hx2] at hnx HY2
          have he := getInt_err hx2
          have q1 : ((er : Int) != 0) = true := by rw [bne_iff_ne]; omega
          have Hnx := Lib.hid hnx
          have HE := Lib.hid HY2
          clear hnx HY2 hx2
          go_wp2_with fail
          refine Hnx.out.mono ?_
          unfold NextR errI
          rintro e w2 ⟨hrb, a, rfl⟩
          have HB2 : Hid (Below w.heap.size w w2) := HB1.out.trans ((HG.out.rb.trans hrb).below hga0 HB1.out.size)
          clear hrb
          go_wp2_with fail
          go_ret3
          exact ⟨HB2.out, by rw [HE.out]; rfl⟩
        | ok vk =>
          obtain ⟨v, k2⟩ := vk
          rw [hx2] at hnx HY2
          have hk2 := (int_getB hx2).2.2.1
          rw [List.length_drop, ← Hm.out] at hk2
          have Hnx := Lib.hid hnx
          have HE : Hid (y = joinN (acc ++ [v]) (at_ + k2) (getN (n - (i + 1)) (l.drop (at_ + k2)))) := by
            show _ = _
            rw [HY2]
            dsimp only
            rw [List.drop_drop]
            cases getN (n - (i + 1)) (l.drop (at_ + k2)) with
            | error e => rfl
            | ok lu =>
              obtain ⟨l', u⟩ := lu
              show Except.ok (acc ++ v :: l', at_ + (k2 + u)) = Except.ok ((acc ++ [v]) ++ l', at_ + k2 + u)
              rw [List.append_assoc, Nat.add_assoc]
              rfl
          clear hnx HY2 hx2
          go_wp2_with fail
          refine Hnx.out.mono ?_
          unfold NextR
          rintro e w2 ⟨hrb, rfl, hrd⟩
          have HG2 := Lib.hid (HG.out.next hgaw hrb hrd)
          have hb1 : i + 1 ≤ maxLen := by unfold maxLen; omega
          have hb2 : (i + 1) * 8 ≤ 140737488355328 := by omega
          obtain ⟨p, hp⟩ : ∃ p, p = at_ + k2 := ⟨_, rfl⟩
          have hpm : p ≤ m := by omega
          rw [← hp] at HG2 HE ⊢
          clear hrb hrd hp
          go_wp2_with (at_builtin; refine wpList_append_sl rfl _ _ 65 rfl rfl rfl so65 (HG2.out.o.alloc _) (m := 1) (news := [.int .i64 v]) rfl (Sl.new _ _ _) ?_ hb1 hb2 (Nat.le_trans HG2.out.rb.size (by simp)) ?_; (intro u hu; simp at hu; subst hu; rfl); intro A5 c5 w5 ho5 hg5; have HG5 : Hid (GS w1 gb ga (some ⟨b, o, none⟩) m c p A5 (i + 1) c5 (acc ++ [v]) w5) := HG2.out.grow hgaw hgbw (by rw [List.map_append]; exact ho5) hg5; clear ho5 hg5)
          go_roundg (n - (i + 1))
          case measure => omega
          case rel => exact ⟨i + 1, p, A5, c5, acc ++ [v], by go_num, rfl, rfl, rfl, by omega, hpm, HG5, by show _ = _; rw [List.length_append, HL.out]; rfl, HE⟩
      · have hke : i = n := by omega
        have hI3 : ¬ (i : Int) < (n : Int) := by omega
        have HE : Hid (y = .ok (acc, at_)) := by
          show _ = _
          rw [HY.out, hke, Nat.sub_self]
          show Except.ok (acc ++ [], at_ + 0) = _
          rw [List.append_nil, Nat.add_zero]
        clear hke hlt
        go_wp2_with fail
        go_ret3
        refine ⟨HBW.out, ?_⟩
        rw [HE.out]
        dsimp only
        have := HL.out
        subst this
        exact ⟨_, _, rfl, own_less HG.out.o HB1.out.size⟩
end Go.Proofs.YtdfhbnfhkckkbaaGreatDoor
