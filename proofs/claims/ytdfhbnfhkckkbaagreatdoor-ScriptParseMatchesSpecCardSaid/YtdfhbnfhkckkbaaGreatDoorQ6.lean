/-
  The reference's value, hex, kindOf.
  The reference's split and step.
  The reference's unquoted (printed by genQ8.py).
-/
import Derived.Test.YtdfhbnfhkckkbaaGreatDoorA6
import Derived.Test.YtdfhbnfhkckkbaaGreatDoorR6
import Derived.Deep.DeepCutAuto
import Derived.Deep.CutBlock
namespace Go.Proofs.YtdfhbnfhkckkbaaGreatDoor
open Go Go.RowKit Go.Walks

def NumR (s : Bytes) (w : World) (e : Ending) (w' : World) : Prop := w' = w ∧ ∃ (v : Int) (is : Bool), e = .returned (.tuple #[.int .i64 v, .bool is]) ∧ (is = true → numB s = some v) ∧ (is = false → numB s = none)
theorem pow10_le {k : Nat} (h : k ≤ 10) : 10 ^ k ≤ 10000000000 := by
  have : 10 ^ k ≤ 10 ^ 10 := Nat.pow_le_pow_right (by decide) h
  omega
theorem num_nil' : numB [] = none := by rw [num_ref, if_pos (by decide)]
set_option maxRecDepth 100000 in
theorem rvalue_nil (w : World) : Calls Tryz.prog 128 #[.string ⟨#[]⟩] w (NumR [] w) := by
  go_enter Tryz.func128, Tryz.ntmps128
  go_wp2_with fail
  go_ret2
  exact ⟨rfl, 0, false, rfl, (fun h => by cases h), fun _ => num_nil'⟩
def BoolAt (b : Bool) (w : World) (v : Value) (W : World) : Prop := v = .bool b ∧ W = w
theorem valD_take {s : Bytes} {k : Nat} {x : UInt8} (h : s[k]? = some x) : valD (s.take (k + 1)) = 10 * valD (s.take k) + (x.toNat - 48) := by
  rw [List.take_add_one, h]
  exact valD_snoc _ _
set_option maxRecDepth 100000 in
set_option maxHeartbeats 2000000 in
theorem rvalue_cons (c0 : UInt8) (r : Bytes) (w : World) (hl : r.length ≤ 1000000000) : Calls Tryz.prog 128 #[.string ⟨(c0 :: r).toArray⟩] w (NumR (c0 :: r) w) := by
  obtain ⟨s, hs⟩ : ∃ s, s = c0 :: r := ⟨_, rfl⟩
  rw [← hs]
  obtain ⟨n, hn⟩ : ∃ n, n = s.length := ⟨_, rfl⟩
  have hn1 : 1 ≤ n := by rw [hn, hs]; simp
  have hnl : n ≤ 1000000001 := by rw [hn, hs]; simp; omega
  have hss := strBytes_size s
  obtain ⟨tb, htb⟩ : ∃ tb : ByteArray, tb = ⟨s.toArray⟩ := ⟨_, rfl⟩
  rw [← htb] at hss ⊢
  rw [← hn] at hss
  have hne : tb.toList.isEmpty = false := by rw [Lib.toList_data, htb, hs]; rfl
  have h0s : 0 < tb.size := by omega
  have hc0 : tb[0] = c0 := by
    have h1 := bytes_get htb h0s
    rw [hs] at h1
    exact (Option.some.inj h1).symm
  have HN := Lib.hid (num_ref s)
  have hh : s.head? = some c0 := by rw [hs]; rfl
  have Hn := Lib.hid hn
  have Htb := Lib.hid htb
  have Hh := Lib.hid hh
  obtain ⟨x, hx⟩ : ∃ x, x = c0.toNat := ⟨_, rfl⟩
  have hx256 : x < 256 := by rw [hx]; exact c0.toNat_lt
  have hcx : tb[0].toNat = x := by rw [hc0, hx]
  have Hx := Lib.hid hx
  have hnI : (1 : Int) ≤ (n : Int) := by omega
  clear hs hn htb hh hx hc0
  go_enter Tryz.func128, Tryz.ntmps128
  go_upto_region 2 with fail
  go_cut [22] (fun v W => BoolAt (offB s) w v W)
  case first =>
    by_cases h10 : 10 < n
    · have HO : Hid (offB s = true) := Lib.hid (by unfold offB; rw [decide_eq_true (show 10 < s.length by rw [← Hn.out]; exact h10)]; simp)
      have q1 : decide ((10 : Int) < (n : Int)) = true := decide_eq_true (by omega)
      go_wp2_with fail
      go_meet
      case rel => exact ⟨by rw [HO.out], rfl⟩
    · have q1 : decide ((10 : Int) < (n : Int)) = false := decide_eq_false (by omega)
      by_cases hlz : x = 48 ∧ 1 < n
      · obtain ⟨hx48, hn2⟩ := hlz
        have HO : Hid (offB s = true) := Lib.hid (by
          unfold offB
          have hc48 : c0 = 48 := UInt8.toNat_inj.1 (by rw [← Hx.out, hx48]; rfl)
          rw [decide_eq_true (show s.head? = some 48 by rw [Hh.out, hc48]), decide_eq_true (show 1 < s.length by rw [← Hn.out]; exact hn2)]
          simp)
        have q2 : decide ((1 : Int) < (n : Int)) = true := decide_eq_true (by omega)
        subst hx48
        go_wp2_with fail
        go_meet
        case rel => exact ⟨by rw [HO.out], rfl⟩
      · have HO : Hid (offB s = false) := Lib.hid (by
          unfold offB
          rw [decide_eq_false (show ¬ s = [] by intro h; rw [h] at Hh; exact absurd Hh.out (by simp)), decide_eq_false (show ¬ 10 < s.length by rw [← Hn.out]; exact h10)]
          by_cases hx48 : x = 48
          · rw [decide_eq_false (show ¬ 1 < s.length by rw [← Hn.out]; exact fun h => hlz ⟨hx48, h⟩)]; simp
          · rw [decide_eq_false (show ¬ s.head? = some 48 by rw [Hh.out]; intro h; apply hx48; rw [Hx.out, Option.some.inj h]; rfl)]; simp)
        by_cases hx48 : x = 48
        · have q2 : decide ((1 : Int) < (n : Int)) = false := decide_eq_false (fun h => hlz ⟨hx48, by omega⟩)
          subst hx48
          clear hlz
          go_wp2_with fail
          go_meet
          case rel => exact ⟨by rw [HO.out], rfl⟩
        · have q2 : ((x : Int) == 48) = false := bne_int (by omega)
          clear hlz hx48
          go_wp2_with fail
          go_meet
          case rel => exact ⟨by rw [HO.out], rfl⟩
  case rest =>
    obtain ⟨rfl, rfl⟩ := hcut
    clear hne hcx
    cases hob : offB s with
    | true =>
      have HO := Lib.hid hob
      clear hob
      go_wp2_with fail
      go_ret2
      exact ⟨rfl, 0, false, rfl, (fun h => by cases h), fun _ => by rw [HN.out, if_pos HO.out]⟩
    | false =>
      have HO := Lib.hid hob
      have hn10 : n ≤ 10 := by
        have := hob
        unfold offB at this
        simp only [Bool.or_eq_false_iff, decide_eq_false_iff_not] at this
        rw [Hn.out]; omega
      clear hob
      go_wp2_with fail
      go_loopg [5, 4] n (fun gh s5 s4 wr => ∃ (k m : Nat), s5 = .int .i64 (k : Int) ∧ s4 = .int .i64 (m : Int) ∧ gh = n - k ∧ k ≤ n ∧ m < 10 ^ k ∧ Hid (m = valD (s.take k) ∧ ∀ c ∈ s.take k, isDigB c = true) ∧ wc = wr)
      case atStart => exact ⟨0, 0, rfl, rfl, rfl, Nat.zero_le _, by simp, ⟨rfl, fun c h => by simp at h⟩, rfl⟩
      case round =>
        obtain ⟨k, m, rfl, rfl, hgh, hk, hm, HM, rfl⟩ := hrel
        have hmI : m < 10000000000 := Nat.lt_of_lt_of_le hm (pow10_le (by omega))
        by_cases hlt : k < n
        · have hI1 : (0 : Int) ≤ (k : Int) := by omega
          have hI2 : (k : Int) < (n : Int) := by omega
          have hks : k < tb.size := by omega
          obtain ⟨y, hy⟩ : ∃ y, s[k]? = some y := ⟨_, List.getElem?_eq_getElem (by rw [← Hn.out]; exact hlt)⟩
          have hby : tb[k] = y := by
            have h1 := bytes_get Htb.out hks
            rw [hy] at h1
            exact (Option.some.inj h1).symm
          obtain ⟨v, hv⟩ : ∃ v, v = y.toNat := ⟨_, rfl⟩
          have hv256 : v < 256 := by rw [hv]; exact y.toNat_lt
          have hbv : tb[k].toNat = v := by rw [hby, hv]
          have Hy := Lib.hid hy
          have Hv := Lib.hid hv
          have hm2 := Nat.pow_succ 10 k
          have Hm2 := Lib.hid hm2
          have Hm := Lib.hid hm
          clear hy hv hby hm hm2
          by_cases hd : v < 48 ∨ 57 < v
          · have Hnd : Hid (s.all isDigB = false) := Lib.hid (by
              rw [Bool.eq_false_iff]
              intro h
              have := List.all_eq_true.1 h y (List.mem_of_getElem? Hy.out)
              unfold isDigB at this
              simp only [Bool.and_eq_true, decide_eq_true_eq, ← Hv.out] at this
              omega)
            by_cases hlo : v < 48
            · have q1 : decide ((v : Int) < 48) = true := decide_eq_true (by omega)
              clear hd
              go_wp2_with fail
              go_ret2
              exact ⟨rfl, 0, false, rfl, (fun h => by cases h), fun _ => by rw [HN.out, if_neg (by rw [HO.out]; simp), if_neg (by rw [Hnd.out]; simp)]⟩
            · have q1 : decide ((v : Int) < 48) = false := decide_eq_false (by omega)
              have q2 : decide ((57 : Int) < (v : Int)) = true := decide_eq_true (by omega)
              clear hd
              go_wp2_with fail
              go_ret2
              exact ⟨rfl, 0, false, rfl, (fun h => by cases h), fun _ => by rw [HN.out, if_neg (by rw [HO.out]; simp), if_neg (by rw [Hnd.out]; simp)]⟩
          · have q1 : decide ((v : Int) < 48) = false := decide_eq_false (by omega)
            have q2 : decide ((57 : Int) < (v : Int)) = false := decide_eq_false (by omega)
            have hv48 : (48 : Int) ≤ (v : Int) := by omega
            have hv57 : (v : Int) ≤ 57 := by omega
            have HM2 : Hid (10 * m + (v - 48) = valD (s.take (k + 1)) ∧ ∀ c ∈ s.take (k + 1), isDigB c = true) := by
              refine ⟨by rw [valD_take Hy.out, ← HM.out.1, Hv.out], fun c hc => ?_⟩
              rw [List.take_add_one, Hy.out] at hc
              rcases List.mem_append.1 hc with hc | hc
              · exact HM.out.2 c hc
              · have : c = y := by simpa using hc
                subst this
                unfold isDigB
                rw [← Hv.out, decide_eq_true (by omega), decide_eq_true (by omega)]; rfl
            clear hd
            go_wp2_with fail
            go_roundg (n - (k + 1))
            case measure => omega
            case rel => exact ⟨k + 1, 10 * m + (v - 48), by go_num, by go_num, rfl, by omega, by have := Hm.out; rw [Hm2.out]; omega, HM2, rfl⟩
        · have hke : k = n := by omega
          have hI3 : ¬ (k : Int) < (n : Int) := by omega
          have HF : Hid (numB s = if m ≤ 2147483647 then some (m : Int) else none) := Lib.hid (by
            obtain ⟨h1, h2⟩ := HM.out
            rw [hke, List.take_of_length_le (by rw [← Hn.out]; exact Nat.le_refl _)] at h1 h2
            rw [HN.out, if_neg (by rw [HO.out]; simp), if_pos (List.all_eq_true.2 h2), ← h1])
          clear hke hlt
          by_cases hbig : m ≤ 2147483647
          · have q1 : decide ((m : Int) ≤ 2147483647) = true := decide_eq_true (by omega)
            go_wp2_with fail
            go_ret2
            exact ⟨rfl, (m : Int), true, rfl, (fun _ => by rw [HF.out, if_pos hbig]), fun h => by cases h⟩
          · have q1 : decide ((m : Int) ≤ 2147483647) = false := decide_eq_false (by omega)
            go_wp2_with fail
            go_ret2
            exact ⟨rfl, (m : Int), false, rfl, (fun h => by cases h), fun _ => by rw [HF.out, if_neg hbig]⟩
theorem rvalue_any (s : Bytes) (w : World) (hl : s.length ≤ 1000000000) : Calls Tryz.prog 128 #[.string ⟨s.toArray⟩] w (NumR s w) := by
  cases s with
  | nil => exact rvalue_nil w
  | cons c r => exact rvalue_cons c r w (by simp at hl; omega)
def hexI (c : UInt8) : Int := if 48 ≤ c.toNat ∧ c.toNat ≤ 57 then (c.toNat : Int) - 48 else if 97 ≤ c.toNat ∧ c.toNat ≤ 102 then (c.toNat : Int) - 97 + 10 else -1
theorem hexI_max (c : UInt8) : max 0 (hexI c) = (hexRf c : Int) := by
  unfold hexI hexRf
  split
  · omega
  · split
    · omega
    · rfl
set_option maxRecDepth 100000 in
theorem rhex_any (c : UInt8) (w : World) : Calls Tryz.prog 126 #[.int .u8 (c.toNat : Int)] w (ValR (.int .i64 (hexI c)) w) := by
  obtain ⟨v, hv⟩ : ∃ v, v = hexI c := ⟨_, rfl⟩
  obtain ⟨x, hx⟩ : ∃ x, x = c.toNat := ⟨_, rfl⟩
  have hx256 : x < 256 := by rw [hx]; exact c.toNat_lt
  unfold hexI at hv
  rw [← hx] at hv
  rw [← hx, show hexI c = v by rw [hv, hx]; rfl]
  clear hx
  by_cases h1 : 48 ≤ x ∧ x ≤ 57
  · rw [if_pos h1] at hv
    subst hv
    obtain ⟨a1, a2⟩ := h1
    have q1 : decide ((48 : Int) ≤ (x : Int)) = true := decide_eq_true (by omega)
    have q2 : decide ((x : Int) ≤ 57) = true := decide_eq_true (by omega)
    go_enter Tryz.func126, Tryz.ntmps126
    go_wp2_with fail
    go_ret
    exact ⟨rfl, rfl⟩
  · rw [if_neg h1] at hv
    by_cases h2 : 97 ≤ x ∧ x ≤ 102
    · rw [if_pos h2] at hv
      subst hv
      obtain ⟨a1, a2⟩ := h2
      have q1 : decide ((48 : Int) ≤ (x : Int)) = true := decide_eq_true (by omega)
      have q2 : decide ((x : Int) ≤ 57) = false := decide_eq_false (by omega)
      have q3 : decide ((97 : Int) ≤ (x : Int)) = true := decide_eq_true (by omega)
      have q4 : decide ((x : Int) ≤ 102) = true := decide_eq_true (by omega)
      clear h1
      go_enter Tryz.func126, Tryz.ntmps126
      go_wp2_with fail
      go_ret
      exact ⟨rfl, rfl⟩
    · rw [if_neg h2] at hv
      subst hv
      by_cases h3 : 48 ≤ x
      · have q1 : decide ((48 : Int) ≤ (x : Int)) = true := decide_eq_true (by omega)
        have q2 : decide ((x : Int) ≤ 57) = false := decide_eq_false (by omega)
        by_cases h4 : 97 ≤ x
        · have q3 : decide ((97 : Int) ≤ (x : Int)) = true := decide_eq_true (by omega)
          have q4 : decide ((x : Int) ≤ 102) = false := decide_eq_false (by omega)
          clear h1 h2
          go_enter Tryz.func126, Tryz.ntmps126
          go_wp2_with fail
          go_ret
          exact ⟨rfl, rfl⟩
        · have q3 : decide ((97 : Int) ≤ (x : Int)) = false := decide_eq_false (by omega)
          clear h1 h2
          go_enter Tryz.func126, Tryz.ntmps126
          go_wp2_with fail
          go_ret
          exact ⟨rfl, rfl⟩
      · have q1 : decide ((48 : Int) ≤ (x : Int)) = false := decide_eq_false (by omega)
        have q3 : decide ((97 : Int) ≤ (x : Int)) = false := decide_eq_false (by omega)
        clear h1 h2
        go_enter Tryz.func126, Tryz.ntmps126
        go_wp2_with fail
        go_ret
        exact ⟨rfl, rfl⟩
theorem names_kinds : namesL = kindsB.map Prod.fst := rfl
set_option maxRecDepth 100000 in
set_option maxHeartbeats 1000000 in
theorem rkindOf_any (wd : Bytes) (w : World) : Calls Tryz.prog 111 #[.string ⟨wd.toArray⟩] w (IntB (kindOf wd : Int) w) := by
  have HN := Lib.hid (names_any w)
  go_enter Tryz.func111, Tryz.ntmps111
  go_wp2_with fail
  refine HN.out.mono ?_
  rintro e w1 ⟨hb, A, B, c, d, rfl, hA, hB⟩
  have HB := Lib.hid hb
  have HA := Lib.hid hA
  clear hb hA hB HN
  go_wp2_with fail
  go_loopg [5] 27 (fun g s5 wr => ∃ k : Nat, s5 = .int .i64 (k : Int) ∧ g = 27 - k ∧ k ≤ 27 ∧ Hid (idxB wd (kindsB.drop k) k = kindOf wd) ∧ w1 = wr)
  case atStart => exact ⟨0, rfl, rfl, by omega, rfl, rfl⟩
  case round =>
    obtain ⟨k, rfl, hg, hk, HI, rfl⟩ := hrel
    by_cases hlt : k < 27
    · have hI1 : (0 : Int) ≤ (k : Int) := by omega
      have hI2 : (k : Int) < 27 := by omega
      obtain ⟨x, hx⟩ : ∃ x, kindsB[k]? = some x := ⟨kindsB[k]'(by rw [kinds_len]; exact hlt), List.getElem?_eq_getElem _⟩
      obtain ⟨h1, h2⟩ := idx_step hx HI.out
      obtain ⟨b, o, hA, -, hc⟩ := str_at HA.out (k := k) (x := x.1) (by rw [names_kinds, List.getElem?_map, hx]; rfl)
      subst hA
      obtain ⟨nm, hnm⟩ : ∃ nm, nm = x.1 := ⟨_, rfl⟩
      rw [← hnm] at hc h1 h2
      clear hx hnm
      by_cases hp : nm = wd
      · have HV := Lib.hid (h1 hp)
        subst hp
        clear h1 h2
        go_wp2_with fail
        go_ret
        exact ⟨by rw [HV.out]; simp, HB.out⟩
      · have HV := Lib.hid (h2 hp)
        have q1 := str_beq hp
        clear h1 h2 hp
        go_wp2_with fail
        go_roundg (27 - (k + 1))
        case measure => omega
        case rel => exact ⟨k + 1, by go_num, rfl, by omega, HV.out, rfl⟩
    · have hke : k = 27 := by omega
      have hI3 : ¬ (k : Int) < 27 := by omega
      have HV : Hid (kindOf wd = 0) := by
        show _ = _
        have := HI.out
        rw [hke, List.drop_of_length_le (by rw [kinds_len]; omega)] at this
        exact this.symm
      clear hke hlt
      go_wp2_with fail
      go_ret
      exact ⟨by rw [HV.out]; rfl, HB.out⟩
end Go.Proofs.YtdfhbnfhkckkbaaGreatDoor
namespace Go.Proofs.YtdfhbnfhkckkbaaGreatDoor
open Go Go.RowKit Go.Walks

theorem drop_take_hit {x : Bytes} {f k : Nat} {c : UInt8} (hf : f ≤ k) (h : x[k]? = some c) : x.drop f = (x.drop f).take (k - f) ++ c :: x.drop (k + 1) := by
  obtain ⟨h1, h2⟩ := List.getElem?_eq_some_iff.1 h
  have e : (x.drop f).drop (k - f) = x.drop k := by rw [List.drop_drop]; congr 1; omega
  have := List.take_append_drop (k - f) (x.drop f)
  rw [e, List.drop_eq_getElem_cons h1, h2] at this
  exact this.symm
theorem take_snoc_get {x : Bytes} {f k : Nat} {c : UInt8} (hf : f ≤ k) (h : x[k]? = some c) : (x.drop f).take (k + 1 - f) = (x.drop f).take (k - f) ++ [c] := by
  rw [show k + 1 - f = (k - f) + 1 by omega, List.take_add_one, List.getElem?_drop, show f + (k - f) = k by omega, h]
  rfl
def SplitN (x : Bytes) (w : World) (e : Ending) (w' : World) : Prop := ∃ A c, e = .returned (.slice A (splitB 32 x).length c) ∧ OS w 9 1 A (splitB 32 x).length c ((splitB 32 x).map strV) w'
/-- While a line is split: the parts so far, where the next begins. -/
def SpI (x : Bytes) (P : List Bytes) (f k : Nat) : Prop := (k ≤ x.length ∧ f ≤ k ∧ splitB 32 x = P ++ splitB 32 (x.drop f) ∧ ∀ c ∈ (x.drop f).take (k - f), c ≠ 32) ∨ (k = x.length + 1 ∧ splitB 32 x = P)
set_option maxRecDepth 100000 in
set_option maxHeartbeats 1000000 in
theorem rsplit_any (x : Bytes) (w : World) (hl : x.length ≤ 1000000) : Calls Tryz.prog 127 #[.string ⟨x.toArray⟩] w (SplitN x w) := by
  obtain ⟨n, hn⟩ : ∃ n, n = x.length := ⟨_, rfl⟩
  have hss := strBytes_size x
  obtain ⟨tb, htb⟩ : ∃ tb : ByteArray, tb = ⟨x.toArray⟩ := ⟨_, rfl⟩
  rw [← htb] at hss ⊢
  rw [← hn] at hss hl
  have Hn := Lib.hid hn
  have Htb := Lib.hid htb
  clear htb hn
  have HN := Lib.hid (OS.nil w 9 1)
  go_enter Tryz.func127, Tryz.ntmps127
  go_wp2_with fail
  go_loopg [5, 4, 3] (n + 1) (fun gh s5 s4 s3 wr => ∃ (k f m : Nat) (A : Option Addr) (c : Nat) (P : List Bytes), s5 = .int .i64 (k : Int) ∧ s4 = .int .i64 (f : Int) ∧ s3 = .slice A m c ∧ gh = n + 1 - k ∧ k ≤ n + 1 ∧ f ≤ n + 1 ∧ m ≤ k ∧ Hid (SpI x P f k) ∧ Hid (P.length = m) ∧ Hid (OS w 9 1 A m c (P.map strV) wr))
  case atStart => exact ⟨0, 0, 0, none, 0, [], rfl, rfl, rfl, rfl, by omega, by omega, by omega, .inl ⟨Nat.zero_le _, Nat.le_refl _, by simp, fun c h => by simp at h⟩, rfl, HN.out⟩
  case round =>
    obtain ⟨k, f, m, A, c, P, rfl, rfl, rfl, hgh, hk, hf, hm, HI, HP, HO⟩ := hrel
    by_cases hle : k ≤ n
    · obtain ⟨hfk, hspl, hno⟩ : f ≤ k ∧ splitB 32 x = P ++ splitB 32 (x.drop f) ∧ ∀ c ∈ (x.drop f).take (k - f), c ≠ 32 := by
        rcases HI.out with ⟨-, h1, h2, h3⟩ | ⟨h1, -⟩
        · exact ⟨h1, h2, h3⟩
        · rw [← Hn.out] at h1; omega
      have hI1 : (0 : Int) ≤ (k : Int) := by omega
      have hI2 : (k : Int) ≤ (n : Int) := by omega
      obtain ⟨p, hp⟩ : ∃ p, p = (x.drop f).take (k - f) := ⟨_, rfl⟩
      have hsl := run_slice_string wr 9 tb .i64 .i64 (f : Int) (k : Int) Tryz.underlying9 (by omega) (by omega) (by omega)
      have hex : tb.extract (f : Int).toNat (k : Int).toNat = ⟨p.toArray⟩ := by
        rw [Htb.out, ByteArray.extract_mk, hp]; rfl
      rw [hex] at hsl
      have hb1 : m + 1 ≤ maxLen := by unfold maxLen; omega
      have hb2 : (m + 1) * 16 ≤ 140737488355328 := by omega
      by_cases hkn : k = n
      · have HI2 : Hid (SpI x (P ++ [p]) (n + 1) (n + 1)) := Lib.hid (.inr ⟨by rw [Hn.out], by
          have hall : p = x.drop f := by rw [hp, hkn, List.take_of_length_le (by rw [List.length_drop, ← Hn.out]; exact Nat.le_refl _)]
          rw [hspl, splitB_last 32 (x.drop f) (by rw [← hall, hp]; exact hno), hall]⟩)
        subst hkn
        have HP2 : Hid ((P ++ [p]).length = m + 1) := by show _ = _; rw [List.length_append, HP.out]; rfl
        clear hspl hno hex hp HI
        go_wp2_with (at_builtin; refine wpList_append_sl rfl _ _ 24 rfl rfl rfl so24 (HO.out.o.alloc _) (m := 1) (news := [.string ⟨p.toArray⟩]) rfl (Sl.new _ _ _) (fun u hu => by rw [List.mem_singleton.1 hu]; rfl) hb1 hb2 (Nat.le_trans HO.out.below.size (by simp)) ?_; clear hsl; intro A5 c5 w5 ho5 hg5; have HO5 : Hid (OS w 9 1 A5 (m + 1) c5 ((P ++ [p]).map strV) w5) := (HO.out.alloc _).grow (by rw [List.map_append]; exact ho5) hg5; clear ho5 hg5)
        go_roundg (k + 1 - (k + 1))
        case measure => omega
        case rel => exact ⟨k + 1, k + 1, m + 1, A5, c5, P ++ [p], by go_num, by go_num, rfl, rfl, by omega, by omega, by omega, HI2, HP2, HO5⟩
      · have hlt : k < n := by omega
        have q0 : ((k : Int) == (n : Int)) = false := bne_int (by omega)
        have hks : k < tb.size := by omega
        obtain ⟨y, hy⟩ : ∃ y, x[k]? = some y := ⟨_, List.getElem?_eq_getElem (by rw [← Hn.out]; exact hlt)⟩
        have hby : tb[k] = y := by
          have h1 := bytes_get Htb.out hks
          rw [hy] at h1
          exact (Option.some.inj h1).symm
        obtain ⟨v, hv⟩ : ∃ v, v = y.toNat := ⟨_, rfl⟩
        have hbv : tb[k].toNat = v := by rw [hby, hv]
        by_cases h32 : v = 32
        · have hy32 : y = 32 := UInt8.toNat_inj.1 (by rw [← hv, h32]; rfl)
          have HI2 : Hid (SpI x (P ++ [p]) (k + 1) (k + 1)) := Lib.hid (.inl ⟨by rw [← Hn.out]; omega, Nat.le_refl _, by
            rw [hspl]
            have e := drop_take_hit hfk hy
            rw [e, hy32, splitB_hit 32 _ _ hno, ← hp]
            simp, fun c hc => by simp at hc⟩)
          have HP2 : Hid ((P ++ [p]).length = m + 1) := by show _ = _; rw [List.length_append, HP.out]; rfl
          subst h32
          clear hspl hno hex hp HI hy hby hv
          go_wp2_with (at_builtin; refine wpList_append_sl rfl _ _ 24 rfl rfl rfl so24 (HO.out.o.alloc _) (m := 1) (news := [.string ⟨p.toArray⟩]) rfl (Sl.new _ _ _) (fun u hu => by rw [List.mem_singleton.1 hu]; rfl) hb1 hb2 (Nat.le_trans HO.out.below.size (by simp)) ?_; clear hsl; intro A5 c5 w5 ho5 hg5; have HO5 : Hid (OS w 9 1 A5 (m + 1) c5 ((P ++ [p]).map strV) w5) := (HO.out.alloc _).grow (by rw [List.map_append]; exact ho5) hg5; clear ho5 hg5)
          go_roundg (n + 1 - (k + 1))
          case measure => omega
          case rel => exact ⟨k + 1, k + 1, m + 1, A5, c5, P ++ [p], by go_num, by go_num, rfl, rfl, by omega, by omega, by omega, HI2, HP2, HO5⟩
        · have q1 : ((v : Int) == 32) = false := bne_int (by omega)
          have HI2 : Hid (SpI x P f (k + 1)) := Lib.hid (.inl ⟨by rw [← Hn.out]; omega, by omega, hspl, fun c hc => by
            rw [take_snoc_get hfk hy] at hc
            rcases List.mem_append.1 hc with hc | hc
            · exact hno c hc
            · have : c = y := by simpa using hc
              subst this
              intro h
              apply h32
              rw [hv, h]; rfl⟩)
          clear hspl hno hex hp HI hy hby hv hsl h32
          go_wp2_with fail
          go_roundg (n + 1 - (k + 1))
          case measure => omega
          case rel => exact ⟨k + 1, f, m, A, c, P, by go_num, rfl, rfl, rfl, by omega, by omega, by omega, HI2, HP, HO⟩
    · have hke : k = n + 1 := by omega
      have hI3 : ¬ (k : Int) ≤ (n : Int) := by omega
      have HE : Hid (splitB 32 x = P) := Lib.hid (by
        rcases HI.out with ⟨h1, -⟩ | ⟨-, h1⟩
        · rw [← Hn.out] at h1; omega
        · exact h1)
      clear hke hle
      go_wp2_with fail
      go_ret
      unfold SplitN
      rw [HE.out, HP.out]
      exact ⟨_, _, rfl, HO.out⟩
/-- What the reference's step hands back. -/
def StepN (x : Bytes) (w : World) (e : Ending) (w' : World) : Prop := Below w.heap.size w w' ∧ match fieldsB x with
  | none => e = .returned (.tuple #[.string ⟨#[]⟩, .slice none 0 0, .bool false])
  | some (wd, l) => ∃ A c, e = .returned (.tuple #[strV wd, .slice A l.length c, .bool true]) ∧ w'.ownsRow w.heap.size 3 1 (.slice A l.length c) l.length (l.map intC)
def joinO (acc : List Int) : Option (List Int) → Option (List Int)
  | none => none
  | some r => some (acc ++ r)
set_option maxRecDepth 100000 in
set_option maxHeartbeats 1000000 in
theorem rstep_any (x : Bytes) (w : World) (hl : x.length ≤ 1000000) : Calls Tryz.prog 110 #[.string ⟨x.toArray⟩] w (StepN x w) := by
  have HS := Lib.hid (rsplit_any x w hl)
  obtain ⟨wd, rest, hsp⟩ : ∃ a b, splitB 32 x = a :: b := List.exists_cons_of_ne_nil (split_ne 32 x)
  have hmem : ∀ y ∈ rest, y.length ≤ 1000000 := fun y hy => by
    have := split_mem_le 32 x y (by rw [hsp]; simp [hy])
    omega
  have hlen : rest.length ≤ 1000000 := by
    have := split_len_le 32 x
    rw [hsp, List.length_cons] at this; omega
  have hF : fieldsB x = match numsB rest with
    | none => none
    | some r => some (wd, r) := by unfold fieldsB; rw [hsp]; rfl
  obtain ⟨F, hF0⟩ : ∃ F, F = fieldsB x := ⟨_, rfl⟩
  have HF : Hid (StepN x w = fun e w' => Below w.heap.size w w' ∧ match F with
    | none => e = .returned (.tuple #[.string ⟨#[]⟩, .slice none 0 0, .bool false])
    | some (wd, l) => ∃ A c, e = .returned (.tuple #[strV wd, .slice A l.length c, .bool true]) ∧ w'.ownsRow w.heap.size 3 1 (.slice A l.length c) l.length (l.map intC)) := Lib.hid (by rw [hF0]; rfl)
  rw [← hF0] at hF
  obtain ⟨n, hn⟩ : ∃ n, n = rest.length := ⟨_, rfl⟩
  unfold SplitN at HS
  rw [hsp, List.length_cons, List.map_cons, ← hn] at HS
  have HFF := Lib.hid hF
  have Hn := Lib.hid hn
  have Hmem := Lib.hid hmem
  rw [← hn] at hlen
  clear hF hF0 hsp hn hmem hl
  go_enter Tryz.func110, Tryz.ntmps110
  go_wp2_with fail
  refine HS.out.mono ?_
  rintro e w1 ⟨A1, c1, rfl, hO⟩
  have HB1 := Lib.hid hO.below
  have HL1 : Hid (Sl w1 w1.heap.size A1 ((wd :: rest).map strV)) := Lib.hid (own_sl hO.o)
  have HN := Lib.hid (OS.nil w1 3 1)
  obtain ⟨b0, o0, hA, hbl, hw0⟩ := str_at HL1.out (k := 0) (x := wd) rfl
  subst hA
  clear hO HS
  rw [Nat.add_zero] at hw0
  have Hw0 : Hid (∀ W, Below w1.heap.size w1 W → W.cell? ⟨b0, o0, none⟩ = some (.string ⟨wd.toArray⟩)) := Lib.hid fun W hb => (hb.cell (p := ⟨b0, o0, none⟩) hbl).trans hw0
  clear hw0
  go_wp2_with fail
  go_loopg [7, 6] n (fun gh s7 s6 wr => ∃ (j : Nat) (A : Option Addr) (c : Nat) (acc : List Int), s7 = .int .i64 ((j : Int) + 1) ∧ s6 = .slice A j c ∧ gh = n - j ∧ j ≤ n ∧ Hid (numsB rest = joinO acc (numsB (rest.drop j))) ∧ Hid (acc.length = j) ∧ Hid (OS w1 3 1 A j c (acc.map intC) wr))
  case atStart => exact ⟨0, none, 0, [], by go_num, rfl, rfl, Nat.zero_le _, (by show _ = _; rw [List.drop_zero]; cases numsB rest <;> rfl), rfl, HN.out⟩
  case round =>
    obtain ⟨j, A, c, acc, rfl, rfl, hgh, hj, HJ, HAc, HO⟩ := hrel
    have HB := Lib.hid HO.out.below
    clear HN
    by_cases hlt : j < n
    · have hI1 : (0 : Int) ≤ (j : Int) + 1 := by omega
      have hI2 : (j : Int) + 1 < (n : Int) + 1 := by omega
      obtain ⟨y, hy⟩ : ∃ y, rest[j]? = some y := ⟨_, List.getElem?_eq_getElem (by rw [← Hn.out]; exact hlt)⟩
      obtain ⟨b, o, hA, hb1, hc1⟩ := str_at HL1.out (k := j + 1) (x := y) (by rw [List.getElem?_cons_succ]; exact hy)
      injection hA with hA
      injection hA with hA1 hA2 _
      subst hA1 hA2
      have hc := (HB.out.cell (p := ⟨b0, o0 + (j + 1), none⟩) hb1).trans hc1
      have HV := Lib.hid (rvalue_any y wr (by have := Hmem.out y (List.mem_of_getElem? hy); omega))
      have hdr : numsB (rest.drop j) = match numB y with
          | none => none
          | some v => match numsB (rest.drop (j + 1)) with
            | none => none
            | some r => some (v :: r) := by
        obtain ⟨h1, h2⟩ := List.getElem?_eq_some_iff.1 hy
        rw [List.drop_eq_getElem_cons h1, h2]
        rfl
      have Hdr := Lib.hid hdr
      have hm1 : j + 1 ≤ maxLen := by unfold maxLen; omega
      have hm2 : (j + 1) * 8 ≤ 140737488355328 := by omega
      clear hc1 hy hdr
      go_wp2_with fail
      refine HV.out.mono ?_
      rintro e w2 ⟨hw2, v, is, rfl, h1, h2⟩
      obtain rfl := hw2.symm
      have H1 := Lib.hid h1
      have H2 := Lib.hid h2
      clear h1 h2 HV hc
      cases is with
      | false =>
        have HX : Hid (F = none) := Lib.hid (by rw [HFF.out, HJ.out, Hdr.out, H2.out rfl]; rfl)
        go_wp2_with fail
        go_ret3
        rw [HF.out, HX.out]
        exact ⟨HB1.out.trans (HO.out.below.mono HB1.out.size), rfl⟩
      | true =>
        have HJ2 : Hid (numsB rest = joinO (acc ++ [v]) (numsB (rest.drop (j + 1)))) := Lib.hid (by
          rw [HJ.out, Hdr.out, H1.out rfl]
          dsimp only
          cases numsB (rest.drop (j + 1)) with
          | none => rfl
          | some r => show some (acc ++ v :: r) = some ((acc ++ [v]) ++ r); rw [List.append_assoc]; rfl)
        have HAc2 : Hid ((acc ++ [v]).length = j + 1) := Lib.hid (by rw [List.length_append, HAc.out]; rfl)
        go_wp2_with (at_builtin; refine wpList_append_sl rfl _ _ 65 rfl rfl rfl so65 (HO.out.o.alloc _) (m := 1) (news := [.int .i64 v]) rfl (Sl.new _ _ _) ?_ hm1 hm2 (Nat.le_trans HO.out.below.size (by simp)) ?_; (intro u hu; simp at hu; subst hu; rfl); intro A5 c5 w5 ho5 hg5; have HO5 : Hid (OS w1 3 1 A5 (j + 1) c5 ((acc ++ [v]).map intC) w5) := (HO.out.alloc _).grow (by rw [List.map_append]; exact ho5) hg5; clear ho5 hg5)
        go_roundg (n - (j + 1))
        case measure => omega
        case rel => exact ⟨j + 1, A5, c5, acc ++ [v], by go_num, rfl, rfl, by omega, HJ2, HAc2, HO5⟩
    · have hke : j = n := by omega
      have hI3 : ¬ (j : Int) + 1 < (n : Int) + 1 := by omega
      have HX : Hid (F = some (wd, acc)) := Lib.hid (by
        rw [HFF.out, HJ.out, hke, List.drop_of_length_le (by rw [← Hn.out]; exact Nat.le_refl _)]
        show some (wd, acc ++ []) = _
        rw [List.append_nil])
      have hw := Hw0.out _ HB.out
      clear hke hlt
      go_wp2_with fail
      go_ret3
      rw [HF.out, HX.out]
      refine ⟨HB1.out.trans (HO.out.below.mono HB1.out.size), A, c, ?_, ?_⟩
      · rw [HAc.out]; rfl
      · rw [HAc.out]; exact own_down HO.out.o HB1.out.size
end Go.Proofs.YtdfhbnfhkckkbaaGreatDoor
namespace Go.Proofs.YtdfhbnfhkckkbaaGreatDoor
open Go Go.RowKit Go.Walks

theorem drop_get2 {s : Bytes} {k : Nat} {a b : UInt8} (h1 : s[k]? = some a) (h2 : s[k + 1]? = some b) : s.drop k = a :: b :: s.drop (k + 2) := by
  obtain ⟨p1, q1⟩ := List.getElem?_eq_some_iff.1 h1
  obtain ⟨p2, q2⟩ := List.getElem?_eq_some_iff.1 h2
  rw [List.drop_eq_getElem_cons p1, q1, List.drop_eq_getElem_cons p2, q2]
theorem hexRf_le (c : UInt8) : hexRf c ≤ 15 := by unfold hexRf; split <;> (try split) <;> omega
theorem hexW_toNat (a b : UInt8) : (hexW a b).toNat = 16 * hexRf a + hexRf b := by
  unfold hexW
  have h1 := hexRf_le a
  have h2 := hexRf_le b
  rw [UInt8.toNat_ofNat']; omega
def UnqR (s : Bytes) (w : World) (e : Ending) (w' : World) : Prop := Below w.heap.size w w' ∧ e = .returned (.tuple #[.string ⟨(unqR s).1.toArray⟩, .bool (unqR s).2])
set_option maxRecDepth 100000 in
set_option maxHeartbeats 4000000 in
theorem runq_any (s : Bytes) (w : World) (hl : s.length ≤ 1000000) : Calls Tryz.prog 109 #[.string ⟨s.toArray⟩] w (UnqR s w) := by
  obtain ⟨n, hn⟩ : ∃ n, n = s.length := ⟨_, rfl⟩
  have hss := strBytes_size s
  obtain ⟨tb, htb⟩ : ∃ tb : ByteArray, tb = ⟨s.toArray⟩ := ⟨_, rfl⟩
  rw [← htb] at hss ⊢
  rw [← hn] at hss hl
  obtain ⟨u, hu⟩ : ∃ u, u = unqR s := ⟨_, rfl⟩
  have HU := Lib.hid hu
  have HUR : Hid (UnqR s w = fun e w' => Below w.heap.size w w' ∧ e = .returned (.tuple #[.string ⟨u.1.toArray⟩, .bool u.2])) := Lib.hid (by rw [hu]; rfl)
  have Hn := Lib.hid hn
  have Htb := Lib.hid htb
  clear hu hn htb
  by_cases h2 : n < 2
  · have hx : u = ([], false) := by rw [HU.out]; unfold unqR; rw [if_pos (.inl (by rw [← Hn.out]; exact h2))]
    have q1 : decide ((n : Int) < 2) = true := decide_eq_true (by omega)
    subst hx
    go_enter Tryz.func109, Tryz.ntmps109
    go_wp2_with fail
    go_ret2
    rw [HUR.out]
    exact ⟨Below.refl _ _, rfl⟩
  · have q1 : decide ((n : Int) < 2) = false := decide_eq_false (by omega)
    have h0s : 0 < tb.size := by omega
    obtain ⟨c0, hc0⟩ : ∃ c, s[0]? = some c := ⟨_, List.getElem?_eq_getElem (by rw [← Hn.out]; omega)⟩
    have hb0 : tb[0] = c0 := by
      have h1 := bytes_get Htb.out h0s
      rw [hc0] at h1
      exact (Option.some.inj h1).symm
    have hhd : s.head? = some c0 := by rw [List.head?_eq_getElem?]; exact hc0
    obtain ⟨x0, hx0⟩ : ∃ x, x = c0.toNat := ⟨_, rfl⟩
    have hbx : tb[0].toNat = x0 := by rw [hb0, hx0]
    have hn2 : (2 : Int) ≤ (n : Int) := by omega
    by_cases h34 : x0 = 34
    rotate_left
    · have hx : u = ([], false) := by
        rw [HU.out]; unfold unqR
        rw [if_pos (.inr (by rw [hhd]; intro h; apply h34; rw [hx0, Option.some.inj h]; rfl))]
      have q2 : ((x0 : Int) != 34) = true := by rw [bne_iff_ne]; omega
      subst hx
      clear hc0 hb0 hhd hx0
      go_enter Tryz.func109, Tryz.ntmps109
      go_wp2_with fail
      go_ret2
      rw [HUR.out]
      exact ⟨Below.refl _ _, rfl⟩
    · have hu2 : u = (rawR (s.drop 1), decide (quoteB (rawR (s.drop 1)) = s)) := by
        rw [HU.out]; unfold unqR
        rw [if_neg]
        rintro (h | h)
        · rw [← Hn.out] at h; omega
        · apply h; rw [hhd]; congr 1; exact UInt8.toNat_inj.1 (by rw [← hx0, h34]; rfl)
      obtain ⟨z, hz⟩ : ∃ z, z = rawR (s.drop 1) := ⟨_, rfl⟩
      have HZ := Lib.hid hz
      rw [← hz] at hu2
      have HU2 := Lib.hid hu2
      have q2 : ((x0 : Int) != 34) = false := by rw [h34]; rfl
      have HN := Lib.hid (OS.nil w 5 1)
      subst h34
      clear hc0 hb0 hhd hx0 hz hu2 HU
      go_enter Tryz.func109, Tryz.ntmps109
      go_wp2_with fail
      clear q1 q2 hbx
      go_loopg [5, 6, 4] (n - 1) (fun gh s5 s6 s4 wr => ∃ (k m : Nat) (A : Option Addr) (c : Nat) (out : Bytes), s5 = .int .i64 (k : Int) ∧ s4 = .slice A m c ∧ gh = n - k ∧ 1 ≤ k ∧ k ≤ n ∧ m ≤ k ∧ Hid (out ++ rawR (s.drop k) = z) ∧ Hid (out.length = m) ∧ Hid (OS w 5 1 A m c (Lib.byteCells out) wr))
      case atStart => exact ⟨1, 0, none, 0, [], rfl, rfl, rfl, by omega, by omega, by omega, HZ.out.symm, rfl, HN.out⟩
      case round =>
        obtain ⟨k, m, A, c, out, rfl, rfl, hgh, hk1, hk, hm, HR, HL, HO⟩ := hrel
        have hb1 : m + 1 ≤ maxLen := by unfold maxLen; omega
        have hb2 : (m + 1) * 1 ≤ 140737488355328 := by omega
        by_cases hlt : k + 1 < n
        · have hI1 : (k : Int) < (n : Int) - 1 := by omega
          have hI0 : (0 : Int) ≤ (k : Int) := by omega
          have hks : k < tb.size := by omega
          have hks1 : k + 1 < tb.size := by omega
          obtain ⟨y, hy⟩ : ∃ y, s[k]? = some y := ⟨_, List.getElem?_eq_getElem (by rw [← Hn.out]; omega)⟩
          obtain ⟨y1, hy1⟩ : ∃ y, s[k + 1]? = some y := ⟨_, List.getElem?_eq_getElem (by rw [← Hn.out]; omega)⟩
          have hby : tb[k] = y := by
            have h1 := bytes_get Htb.out hks
            rw [hy] at h1
            exact (Option.some.inj h1).symm
          have hby1 : tb[k + 1] = y1 := by
            have h1 := bytes_get Htb.out hks1
            rw [hy1] at h1
            exact (Option.some.inj h1).symm
          have hdr := drop_get2 hy hy1
          by_cases h92 : y.toNat = 92
          rotate_left
          · have q3 : ((y.toNat : Int) != 92) = true := by rw [bne_iff_ne]; omega
            have HR2 : Hid ((out ++ [y]) ++ rawR (s.drop (k + 1)) = z) := Lib.hid (by
              obtain ⟨p2, q2⟩ := List.getElem?_eq_some_iff.1 hy1
              rw [← HR.out, hdr, rawR_other (fun h => h92 (by rw [h]; rfl)), List.drop_eq_getElem_cons p2, q2, List.append_assoc]; rfl)
            have HL2 : Hid ((out ++ [y]).length = m + 1) := Lib.hid (by rw [List.length_append, HL.out]; rfl)
            clear hy hy1 hdr h92
            go_wp2_with (at_builtin; refine wpList_append_sl rfl _ _ 38 rfl rfl rfl so38 (HO.out.o.alloc _) (m := 1) (news := [.int .u8 (y.toNat : Int)]) rfl (Sl.new _ _ _) (fun u hu => by rw [List.mem_singleton.1 hu]; rfl) hb1 hb2 (Nat.le_trans HO.out.below.size (by simp)) ?_; intro A6 c6 w6 ho6 hg6; have HO6 : Hid (OS w 5 1 A6 (m + 1) c6 (Lib.byteCells (out ++ [y])) w6) := (HO.out.alloc _).grow (by rw [byteCells_append]; exact ho6) hg6; clear ho6 hg6)
            go_roundg (n - (k + 1))
            case measure => omega
            case rel => exact ⟨k + 1, m + 1, A6, c6, out ++ [y], by go_num, rfl, rfl, by omega, by omega, by omega, HR2, HL2, HO6⟩
          · have q3 : ((y.toNat : Int) != 92) = false := by rw [h92]; rfl
            have hy92 : y = 92 := UInt8.toNat_inj.1 (by rw [h92]; rfl)
            have Hdr := Lib.hid hdr
            by_cases hx : y1.toNat = 120 ∧ k + 4 < n
            · obtain ⟨hx1, hk4⟩ := hx
              have hy120 : y1 = 120 := UInt8.toNat_inj.1 (by rw [hx1]; rfl)
              have q4 : ((y1.toNat : Int) == 120) = true := by rw [hx1]; rfl
              have hI4 : (k : Int) + 3 < (n : Int) - 1 := by omega
              have hks2 : k + 2 < tb.size := by omega
              have hks3 : k + 3 < tb.size := by omega
              obtain ⟨a, ha⟩ : ∃ y, s[k + 2]? = some y := ⟨_, List.getElem?_eq_getElem (by rw [← Hn.out]; omega)⟩
              obtain ⟨b, hb⟩ : ∃ y, s[k + 3]? = some y := ⟨_, List.getElem?_eq_getElem (by rw [← Hn.out]; omega)⟩
              obtain ⟨c2, hc2⟩ : ∃ y, s[k + 4]? = some y := ⟨_, List.getElem?_eq_getElem (by rw [← Hn.out]; omega)⟩
              have hba : tb[k + 2] = a := by
                have h1 := bytes_get Htb.out hks2
                rw [ha] at h1
                exact (Option.some.inj h1).symm
              have hbb : tb[k + 3] = b := by
                have h1 := bytes_get Htb.out hks3
                rw [hb] at h1
                exact (Option.some.inj h1).symm
              have hdr2 := drop_get2 ha hb
              obtain ⟨p2, q2⟩ := List.getElem?_eq_some_iff.1 hc2
              have hdr3 : s.drop (k + 4) = c2 :: s.drop (k + 4 + 1) := by rw [List.drop_eq_getElem_cons p2, q2]
              have HR2 : Hid ((out ++ [hexW a b]) ++ rawR (s.drop (k + 4)) = z) := Lib.hid (by
                rw [← HR.out, hdr, hy92, hy120, hdr2, show k + 2 + 2 = k + 4 from rfl, hdr3, rawR_hex, List.append_assoc]; rfl)
              have HL2 : Hid ((out ++ [hexW a b]).length = m + 1) := Lib.hid (by rw [List.length_append, HL.out]; rfl)
              have Hha := Lib.hid (fun W => rhex_any a W)
              have Hhb := Lib.hid (fun W => rhex_any b W)
              obtain ⟨va, hva⟩ : ∃ v, v = hexI a := ⟨_, rfl⟩
              obtain ⟨vb, hvb⟩ : ∃ v, v = hexI b := ⟨_, rfl⟩
              rw [← hva] at Hha
              rw [← hvb] at Hhb
              have hma : max 0 va = (hexRf a : Int) := by rw [hva]; exact hexI_max a
              have hmb : max 0 vb = (hexRf b : Int) := by rw [hvb]; exact hexI_max b
              obtain ⟨wv, hwv⟩ : ∃ v, v = hexW a b := ⟨_, rfl⟩
              have hwn := hexW_toNat a b
              rw [← hwv] at hwn HR2 HL2
              obtain ⟨ra, hra⟩ : ∃ v, v = hexRf a := ⟨_, rfl⟩
              obtain ⟨rb, hrb⟩ : ∃ v, v = hexRf b := ⟨_, rfl⟩
              have hla := hexRf_le a
              have hlb := hexRf_le b
              rw [← hra] at hwn hma hla
              rw [← hrb] at hwn hmb hlb
              have hwI : 16 * (ra : Int) + (rb : Int) = (wv.toNat : Int) := by omega
              have hw256 : (wv.toNat : Int) < 256 := by have := wv.toNat_lt; omega
              have hwr : IntKind.i64.wrap (16 * (ra : Int)) = 16 * (ra : Int) := IntWalk.i64_in _ (by omega)
              have hI5 : (k : Int) + 3 < (n : Int) := by omega
              clear hy hy1 hdr ha hb hc2 hdr2 hdr3 hva hvb hwv hra hrb hwn h92 hx1 hy92 hy120
              have hw2 : IntKind.i64.wrap ((k : Int) + 2) = (k : Int) + 2 := IntWalk.i64_in _ (by omega)
              have hw3 : IntKind.i64.wrap ((k : Int) + 3) = (k : Int) + 3 := IntWalk.i64_in _ (by omega)
              have ht2 : ((k : Int) + 2).toNat = k + 2 := by omega
              have ht3 : ((k : Int) + 3).toNat = k + 3 := by omega
              have hi2 : (k : Int) + 2 < (n : Int) := by omega
              have hj2 : (0 : Int) ≤ (k : Int) + 2 := by omega
              have hj3 : (0 : Int) ≤ (k : Int) + 3 := by omega
              have hwr2 : IntKind.i64.wrap (wv.toNat : Int) = (wv.toNat : Int) := IntWalk.i64_in _ (by omega)
              have hw8 : IntKind.u8.wrap (wv.toNat : Int) = (wv.toNat : Int) := by simp only [IntKind.wrap_u8]; omega
              go_wp2_with fail
              refine wp_region_held_drew (S := fun _ => True) (by kernel_rfl) trivial (fun hHeld => ?_)
              have HO1 : Hid (OS w 5 1 A m c (Lib.byteCells out) wr.drew) := Lib.hid (HO.out.call (Below.refl _ _).drew)
              refine wpAnyH_take (i := 0) (v := ?_) (by simp only [List.getElem?_toArray, List.getElem?_cons_zero] <;> rfl) (by kernel_rfl) (by kernel_rfl) (by kernel_rfl) (by intro _ _ _ h; exact h) (Or.inl ⟨by rfl, ?_⟩) hHeld ?_
              rotate_left
              · intro w hSw; (try dsimp only at hSw); go_simp
                with_reducible rfl
              try simp only [Act.put, List.setIfInBounds_toArray, List.set_cons_zero, List.set_cons_succ]
              refine wpAnyH_take (i := 1) (v := ?_) (by simp only [List.getElem?_toArray, List.getElem?_cons_zero, List.getElem?_cons_succ] <;> rfl) (by kernel_rfl) (by kernel_rfl) (by kernel_rfl) (by intro _ _ _ h; exact h) (Or.inl ⟨by rfl, ?_⟩) hHeld ?_
              rotate_left
              · intro w hSw; (try dsimp only at hSw); go_simp
                with_reducible rfl
              try simp only [Act.put, List.setIfInBounds_toArray, List.set_cons_zero, List.set_cons_succ]
              refine wpAnyH_take (i := 2) (v := ?_) (by simp only [List.getElem?_toArray, List.getElem?_cons_zero, List.getElem?_cons_succ] <;> rfl) (by kernel_rfl) (by kernel_rfl) (by kernel_rfl) (by intro _ _ _ h; exact h) (Or.inl ⟨by rfl, ?_⟩) hHeld ?_
              rotate_left
              · intro w hSw; (try dsimp only at hSw); go_simp
                with_reducible rfl
              try simp only [Act.put, List.setIfInBounds_toArray, List.set_cons_zero, List.set_cons_succ]
              refine wpAnyH_take (i := 3) (v := ?_) (by simp only [List.getElem?_toArray, List.getElem?_cons_zero, List.getElem?_cons_succ] <;> rfl) (by kernel_rfl) (by kernel_rfl) (by kernel_rfl) (by intro _ _ _ h; exact h) (Or.inl ⟨by rfl, ?_⟩) hHeld ?_
              rotate_left
              · intro w hSw; (try dsimp only at hSw); go_simp
                with_reducible rfl
              try simp only [Act.put, List.setIfInBounds_toArray, List.set_cons_zero, List.set_cons_succ]
              refine wpAnyH_take (i := 4) (v := ?_) (by simp only [List.getElem?_toArray, List.getElem?_cons_zero, List.getElem?_cons_succ] <;> rfl) (by kernel_rfl) (by kernel_rfl) (by kernel_rfl) (by intro _ _ _ h; exact h) (Or.inl ⟨by rfl, ?_⟩) hHeld ?_
              rotate_left
              · intro w hSw; (try dsimp only at hSw); go_simp
                with_reducible rfl
              try simp only [Act.put, List.setIfInBounds_toArray, List.set_cons_zero, List.set_cons_succ]
              refine wpAnyH_take (i := 8) (v := ?_) (by simp only [List.getElem?_toArray, List.getElem?_cons_zero, List.getElem?_cons_succ] <;> rfl) (by kernel_rfl) (by kernel_rfl) (by kernel_rfl) (by intro _ _ _ h; exact h) (Or.inl ⟨by rfl, ?_⟩) hHeld ?_
              rotate_left
              · intro w hSw; (try dsimp only at hSw); go_simp
                with_reducible rfl
              try simp only [Act.put, List.setIfInBounds_toArray, List.set_cons_zero, List.set_cons_succ]
              refine wpAnyH_take (i := 9) (v := ?_) (by simp only [List.getElem?_toArray, List.getElem?_cons_zero, List.getElem?_cons_succ] <;> rfl) (by kernel_rfl) (by kernel_rfl) (by kernel_rfl) (by intro _ _ _ h; exact h) (Or.inl ⟨by rfl, ?_⟩) hHeld ?_
              rotate_left
              · intro w hSw; (try dsimp only at hSw); go_simp
                with_reducible rfl
              try simp only [Act.put, List.setIfInBounds_toArray, List.set_cons_zero, List.set_cons_succ]
              refine wpAnyH_take (i := 10) (v := ?_) (by simp only [List.getElem?_toArray, List.getElem?_cons_zero, List.getElem?_cons_succ] <;> rfl) (by kernel_rfl) (by kernel_rfl) (by kernel_rfl) (by intro _ _ _ h; exact h) (Or.inl ⟨by rfl, ?_⟩) hHeld ?_
              rotate_left
              · intro w hSw; (try dsimp only at hSw); go_simp
                with_reducible rfl
              try simp only [Act.put, List.setIfInBounds_toArray, List.set_cons_zero, List.set_cons_succ]
              refine wpAnyH_take (i := 11) (v := ?_) (by simp only [List.getElem?_toArray, List.getElem?_cons_zero, List.getElem?_cons_succ] <;> rfl) (by kernel_rfl) (by kernel_rfl) (by kernel_rfl) (by intro _ _ _ h; exact h) (Or.inl ⟨by rfl, ?_⟩) hHeld ?_
              rotate_left
              · intro w hSw; (try dsimp only at hSw); go_simp
                with_reducible rfl
              try simp only [Act.put, List.setIfInBounds_toArray, List.set_cons_zero, List.set_cons_succ]
              refine wpAnyH_ready (rs := [5]) (by kernel_rfl) (by simp) ?_
              refine (AllReadyH.cons (by simp only [List.getElem?_toArray, List.getElem?_cons_zero, List.getElem?_cons_succ] <;> rfl) (fun K hK => ?_) AllReadyH.nil)
              · go_simp
                go_at_call 126
                refine (Hha.out _).mono ?_
                rintro en w2 ⟨rfl, hw⟩
                obtain rfl := hw.symm
                refine hK.out _ _ trivial (fun hHeld => ?_)
                clear hK K
                try simp only [Act.put, List.setIfInBounds_toArray, List.set_cons_zero, List.set_cons_succ]
                refine wpAnyH_take (i := 6) (v := ?_) (by simp only [List.getElem?_toArray, List.getElem?_cons_zero, List.getElem?_cons_succ] <;> rfl) (by kernel_rfl) (by kernel_rfl) (by kernel_rfl) (by intro _ _ _ h; exact h) (Or.inl ⟨by rfl, ?_⟩) hHeld ?_
                rotate_left
                · intro w hSw; (try dsimp only at hSw); go_simp
                  with_reducible rfl
                try simp only [Act.put, List.setIfInBounds_toArray, List.set_cons_zero, List.set_cons_succ]
                refine wpAnyH_take (i := 7) (v := ?_) (by simp only [List.getElem?_toArray, List.getElem?_cons_zero, List.getElem?_cons_succ] <;> rfl) (by kernel_rfl) (by kernel_rfl) (by kernel_rfl) (by intro _ _ _ h; exact h) (Or.inl ⟨by rfl, ?_⟩) hHeld ?_
                rotate_left
                · intro w hSw; (try dsimp only at hSw); go_simp
                  with_reducible rfl
                try simp only [Act.put, List.setIfInBounds_toArray, List.set_cons_zero, List.set_cons_succ]
                refine wpAnyH_ready (rs := [12]) (by kernel_rfl) (by simp) ?_
                refine (AllReadyH.cons (by simp only [List.getElem?_toArray, List.getElem?_cons_zero, List.getElem?_cons_succ] <;> rfl) (fun K hK => ?_) AllReadyH.nil)
                · go_simp
                  go_at_call 126
                  refine (Hhb.out _).mono ?_
                  rintro en w3 ⟨rfl, hw⟩
                  have HO3 : Hid (OS w 5 1 A m c (Lib.byteCells out) w3) := by rw [hw]; exact HO1
                  clear hw HO1
                  refine hK.out _ _ trivial (fun hHeld => ?_)
                  clear hK K
                  try simp only [Act.put, List.setIfInBounds_toArray, List.set_cons_zero, List.set_cons_succ]
                  refine wpAnyH_take (i := 13) (v := ?_) (by simp only [List.getElem?_toArray, List.getElem?_cons_zero, List.getElem?_cons_succ] <;> rfl) (by kernel_rfl) (by kernel_rfl) (by kernel_rfl) (by intro _ _ _ h; exact h) (Or.inl ⟨by rfl, ?_⟩) hHeld ?_
                  rotate_left
                  · intro w hSw; (try dsimp only at hSw); go_simp
                    with_reducible rfl
                  try simp only [Act.put, List.setIfInBounds_toArray, List.set_cons_zero, List.set_cons_succ]
                  refine wpAnyH_take (i := 14) (v := ?_) (by simp only [List.getElem?_toArray, List.getElem?_cons_zero, List.getElem?_cons_succ] <;> rfl) (by kernel_rfl) (by kernel_rfl) (by kernel_rfl) (by intro _ _ _ h; exact h) (Or.inl ⟨by rfl, ?_⟩) hHeld ?_
                  rotate_left
                  · intro w hSw; (try dsimp only at hSw); go_simp
                    with_reducible rfl
                  try simp only [Act.put, List.setIfInBounds_toArray, List.set_cons_zero, List.set_cons_succ]
                  refine wpAnyH_take (i := 15) (v := ?_) (by simp only [List.getElem?_toArray, List.getElem?_cons_zero, List.getElem?_cons_succ] <;> rfl) (by kernel_rfl) (by kernel_rfl) (by kernel_rfl) (by intro _ _ _ h; exact h) (Or.inl ⟨by rfl, ?_⟩) hHeld ?_
                  rotate_left
                  · intro w hSw; (try dsimp only at hSw); go_simp
                    with_reducible rfl
                  try simp only [Act.put, List.setIfInBounds_toArray, List.set_cons_zero, List.set_cons_succ]
                  refine wpAnyH_ready (rs := [16]) (by kernel_rfl) (by simp) ?_
                  refine (AllReadyH.cons (by simp only [List.getElem?_toArray, List.getElem?_cons_zero, List.getElem?_cons_succ] <;> rfl) (fun K hK => ?_) AllReadyH.nil)
                  · go_simp
                    refine hK.out _ _ trivial (fun hHeld => ?_)
                    clear hK K
                    try simp only [Act.put, List.setIfInBounds_toArray, List.set_cons_zero, List.set_cons_succ]
                    refine wpAnyH_ready (rs := [17]) (by kernel_rfl) (by simp) ?_
                    refine (AllReadyH.cons (by simp only [List.getElem?_toArray, List.getElem?_cons_zero, List.getElem?_cons_succ] <;> rfl) (fun K hK => ?_) AllReadyH.nil)
                    · refine step_append_sl rfl _ _ 38 rfl rfl rfl so38 (HO3.out.o.alloc _) (m := 1) (news := [.int .u8 (wv.toNat : Int)]) rfl (Sl.new _ _ _) (fun u hu => by rw [List.mem_singleton.1 hu]; rfl) hb1 hb2 (Nat.le_trans HO3.out.below.size (by simp)) ?_
                      intro A6 c6 w6 ho6 hg6
                      have HO6 : Hid (OS w 5 1 A6 (m + 1) c6 (Lib.byteCells (out ++ [wv])) w6) := (HO3.out.alloc _).grow (by rw [byteCells_append]; exact ho6) hg6
                      clear ho6 hg6
                      refine hK.out _ _ trivial (fun hHeld => ?_)
                      clear hK K
                      try simp only [Act.put, List.setIfInBounds_toArray, List.set_cons_zero, List.set_cons_succ]
                      refine wpAnyH_take (i := 18) (v := ?_) (by simp only [List.getElem?_toArray, List.getElem?_cons_zero, List.getElem?_cons_succ] <;> rfl) (by kernel_rfl) (by kernel_rfl) (by kernel_rfl) (by intro _ _ _ h; exact h) (Or.inl ⟨by rfl, ?_⟩) hHeld ?_
                      rotate_left
                      · intro w hSw; (try dsimp only at hSw); go_simp
                        with_reducible rfl
                      try simp only [Act.put, List.setIfInBounds_toArray, List.set_cons_zero, List.set_cons_succ]
                      refine wpAnyH_done (by kernel_rfl) ?_ _
                      clear hHeld
                      go_wp2_with fail
                      go_roundg (n - (k + 4))
                      case measure => omega
                      case rel => exact ⟨k + 4, m + 1, A6, c6, out ++ [wv], by go_num, rfl, rfl, by omega, by omega, by omega, HR2, HL2, HO6⟩
            · have HR2 : Hid ((out ++ [y1]) ++ rawR (s.drop (k + 2)) = z) := Lib.hid (by
                rw [← HR.out, hdr, hy92, rawR_esc, List.append_assoc]
                · rfl
                · by_cases h120 : y1 = 120
                  · refine .inr ?_
                    rw [List.length_drop, ← Hn.out]
                    have : ¬ k + 4 < n := fun h => hx ⟨by rw [h120]; rfl, h⟩
                    omega
                  · exact .inl h120)
              have HL2 : Hid ((out ++ [y1]).length = m + 1) := Lib.hid (by rw [List.length_append, HL.out]; rfl)
              by_cases hx1 : y1.toNat = 120
              · have q4 : ((y1.toNat : Int) == 120) = true := by rw [hx1]; rfl
                have hI4 : ¬ (k : Int) + 3 < (n : Int) - 1 := by
                  have : ¬ k + 4 < n := fun h => hx ⟨hx1, h⟩
                  omega
                clear hy hy1 hdr h92 hx hx1 hy92
                go_wp2_with (at_builtin; refine wpList_append_sl rfl _ _ 38 rfl rfl rfl so38 (HO.out.o.alloc _) (m := 1) (news := [.int .u8 (y1.toNat : Int)]) rfl (Sl.new _ _ _) (fun u hu => by rw [List.mem_singleton.1 hu]; rfl) hb1 hb2 (Nat.le_trans HO.out.below.size (by simp)) ?_; intro A6 c6 w6 ho6 hg6; have HO6 : Hid (OS w 5 1 A6 (m + 1) c6 (Lib.byteCells (out ++ [y1])) w6) := (HO.out.alloc _).grow (by rw [byteCells_append]; exact ho6) hg6; clear ho6 hg6)
                go_roundg (n - (k + 2))
                case measure => omega
                case rel => exact ⟨k + 2, m + 1, A6, c6, out ++ [y1], by go_num, rfl, rfl, by omega, by omega, by omega, HR2, HL2, HO6⟩
              · have q4 : ((y1.toNat : Int) == 120) = false := bne_int (by omega)
                clear hy hy1 hdr h92 hx hx1 hy92
                go_wp2_with (at_builtin; refine wpList_append_sl rfl _ _ 38 rfl rfl rfl so38 (HO.out.o.alloc _) (m := 1) (news := [.int .u8 (y1.toNat : Int)]) rfl (Sl.new _ _ _) (fun u hu => by rw [List.mem_singleton.1 hu]; rfl) hb1 hb2 (Nat.le_trans HO.out.below.size (by simp)) ?_; intro A6 c6 w6 ho6 hg6; have HO6 : Hid (OS w 5 1 A6 (m + 1) c6 (Lib.byteCells (out ++ [y1])) w6) := (HO.out.alloc _).grow (by rw [byteCells_append]; exact ho6) hg6; clear ho6 hg6)
                go_roundg (n - (k + 2))
                case measure => omega
                case rel => exact ⟨k + 2, m + 1, A6, c6, out ++ [y1], by go_num, rfl, rfl, by omega, by omega, by omega, HR2, HL2, HO6⟩
        · have hI3 : ¬ (k : Int) < (n : Int) - 1 := by omega
          have hzo : out = z := by
            have h1 := HR.out
            have h2 : (s.drop k).length ≤ 1 := by rw [List.length_drop, ← Hn.out]; omega
            have h3 : rawR (s.drop k) = [] := by
              match s.drop k, h2 with
              | [], _ => rw [rawR]
              | [a], _ => rw [rawR]
            rw [h3, List.append_nil] at h1
            exact h1
          have hql : (quoteB out).length ≤ 8000000 := by
            have h1 := flat_qc_len out
            have h2 := HL.out
            unfold quoteB
            simp only [List.length_cons, List.length_append, List.length_nil]
            omega
          have Hq : Hid (∀ W, Calls Tryz.prog 56 #[.string ⟨out.toArray⟩] W (StrR (quoteB out) W)) := Lib.hid fun W => rquoted_any out W (by have := HL.out; omega)
          obtain ⟨q, hq⟩ : ∃ q, q = quoteB out := ⟨_, rfl⟩
          obtain ⟨bo, hbo⟩ : ∃ b : Bool, b = decide (q = s) := ⟨_, rfl⟩
          have HUU : Hid (u = (out, bo)) := Lib.hid (by rw [HU2.out, hbo, hq, hzo])
          have hqs : (q == s) = bo := by rw [hbo]; by_cases h : q = s <;> simp [h]
          have htl : tb.toList = s := by rw [Lib.toList_data, Htb.out]
          have HKS : Hid (∀ W, Below wr.heap.size wr W → (convert 38 9 (.slice A m c)).run Tryz.prog W = .ok (.string ⟨out.toArray⟩) W) := Lib.hid fun W hb => by
            have h1 := (HO.out.call hb).o
            rw [← HL.out] at h1 ⊢
            exact conv_bytes (own_sl h1)
          rw [← hq] at Hq
          unfold StrR strV at Hq
          clear hq hbo hzo hql hlt
          go_wp2_with fail
          refine wp_region_held_drew (S := fun W => (convert 38 9 (.slice A m c)).run Tryz.prog W = .ok (.string ⟨out.toArray⟩) W) (by kernel_rfl) (HKS.out _ (Below.refl _ _).drew) (fun hHeld => ?_)
          have B1 : Hid (Below wr.heap.size wr wr.drew) := (Below.refl _ _).drew
          refine wpAnyH_take (i := 0) (v := ?_) (by simp only [List.getElem?_toArray, List.getElem?_cons_zero] <;> rfl) (by kernel_rfl) (by kernel_rfl) (by kernel_rfl) (by intro _ _ _ h; exact h) (Or.inl ⟨by rfl, ?_⟩) hHeld ?_
          rotate_left
          · intro w hSw; (try dsimp only at hSw); go_simp
            with_reducible rfl
          try simp only [Act.put, List.setIfInBounds_toArray, List.set_cons_zero, List.set_cons_succ]
          refine wpAnyH_take (i := 1) (v := ?_) (by simp only [List.getElem?_toArray, List.getElem?_cons_zero, List.getElem?_cons_succ] <;> rfl) (by kernel_rfl) (by kernel_rfl) (by kernel_rfl) (by intro _ _ _ h; exact h) (Or.inl ⟨by rfl, ?_⟩) hHeld ?_
          rotate_left
          · intro w hSw; (try dsimp only at hSw); go_simp
            with_reducible rfl
          try simp only [Act.put, List.setIfInBounds_toArray, List.set_cons_zero, List.set_cons_succ]
          refine wpAnyH_take (i := 2) (v := ?_) (by simp only [List.getElem?_toArray, List.getElem?_cons_zero, List.getElem?_cons_succ] <;> rfl) (by kernel_rfl) (by kernel_rfl) (by kernel_rfl) (by intro _ _ _ h; exact h) (Or.inl ⟨by rfl, ?_⟩) hHeld ?_
          rotate_left
          · intro w hSw; (try dsimp only at hSw); go_simp
            with_reducible rfl
          try simp only [Act.put, List.setIfInBounds_toArray, List.set_cons_zero, List.set_cons_succ]
          refine wpAnyH_take (i := 3) (v := ?_) (by simp only [List.getElem?_toArray, List.getElem?_cons_zero, List.getElem?_cons_succ] <;> rfl) (by kernel_rfl) (by kernel_rfl) (by kernel_rfl) (by intro _ _ _ h; exact h) (Or.inl ⟨by rfl, ?_⟩) hHeld ?_
          rotate_left
          · intro w hSw; (try dsimp only at hSw); go_simp
            with_reducible rfl
          try simp only [Act.put, List.setIfInBounds_toArray, List.set_cons_zero, List.set_cons_succ]
          refine wpAnyH_take (i := 5) (v := ?_) (by simp only [List.getElem?_toArray, List.getElem?_cons_zero, List.getElem?_cons_succ] <;> rfl) (by kernel_rfl) (by kernel_rfl) (by kernel_rfl) (by intro _ _ _ h; exact h) (Or.inl ⟨by rfl, ?_⟩) hHeld ?_
          rotate_left
          · intro w hSw; (try dsimp only at hSw); go_simp
            with_reducible rfl
          try simp only [Act.put, List.setIfInBounds_toArray, List.set_cons_zero, List.set_cons_succ]
          refine wpAnyH_ready (rs := [4]) (by kernel_rfl) (by simp) ?_
          refine (AllReadyH.cons (by simp only [List.getElem?_toArray, List.getElem?_cons_zero, List.getElem?_cons_succ] <;> rfl) (fun K hK => ?_) AllReadyH.nil)
          · go_simp
            go_at_call 56
            refine (Hq.out _).mono ?_
            rintro en w2 ⟨rfl, hb2⟩
            have B2 := Lib.hid (B1.out.trans (hb2.mono B1.out.size))
            clear hb2
            refine hK.out _ _ (HKS.out _ B2.out) (fun hHeld => ?_)
            clear hK K
            try simp only [Act.put, List.setIfInBounds_toArray, List.set_cons_zero, List.set_cons_succ]
            refine wpAnyH_take (i := 6) (v := ?_) (by simp only [List.getElem?_toArray, List.getElem?_cons_zero, List.getElem?_cons_succ] <;> rfl) (by kernel_rfl) (by kernel_rfl) (by kernel_rfl) (by intro _ _ _ h; exact h) (Or.inl ⟨by rfl, ?_⟩) hHeld ?_
            rotate_left
            · intro w hSw; (try dsimp only at hSw); go_simp
              with_reducible rfl
            try simp only [Act.put, List.setIfInBounds_toArray, List.set_cons_zero, List.set_cons_succ]
            refine wpAnyH_take (i := 7) (v := ?_) (by simp only [List.getElem?_toArray, List.getElem?_cons_zero, List.getElem?_cons_succ] <;> rfl) (by kernel_rfl) (by kernel_rfl) (by kernel_rfl) (by intro _ _ _ h; exact h) (Or.inl ⟨by rfl, ?_⟩) hHeld ?_
            rotate_left
            · intro w hSw; (try dsimp only at hSw); go_simp
              with_reducible rfl
            try simp only [Act.put, List.setIfInBounds_toArray, List.set_cons_zero, List.set_cons_succ]
            refine wpAnyH_take (i := 8) (v := ?_) (by simp only [List.getElem?_toArray, List.getElem?_cons_zero, List.getElem?_cons_succ] <;> rfl) (by kernel_rfl) (by kernel_rfl) (by kernel_rfl) (by intro _ _ _ h; exact h) (Or.inl ⟨by rfl, ?_⟩) hHeld ?_
            rotate_left
            · intro w hSw; (try dsimp only at hSw); go_simp
              with_reducible rfl
            try simp only [Act.put, List.setIfInBounds_toArray, List.set_cons_zero, List.set_cons_succ]
            refine wpAnyH_done (by kernel_rfl) ?_ _
            clear hHeld
            go_wp2_with fail
            go_ret2
            rw [HUR.out, HUU.out]
            exact ⟨HO.out.below.trans (B2.out.mono HO.out.below.size), rfl⟩
end Go.Proofs.YtdfhbnfhkckkbaaGreatDoor
