/-
  The walk of the reference's Decode (printed by genQ5.py).
-/
import Derived.Test.YtdfhbnfhkckkbaaGreatDoorQ3
import Derived.Deep.DeepCutAuto
import Derived.Deep.CutBlock
namespace Go.Proofs.YtdfhbnfhkckkbaaGreatDoor
open Go Go.RowKit Go.Walks

def Cut31 (w1 : World) (e1 m : Nat) (s : Value) (W : World) : Prop := W = w1 ∧ ∃ v : Bool, s = .bool v ∧ (v = true ↔ e1 = 0 ∧ m ≠ 6)
theorem rtakeS_ok (r : Nat) (l : Bytes) (w : World) (Hr : Hid (RdN r l 0 w)) : ∀ A c, w.cell? ⟨r, 0, none⟩ = some (.slice A l.length c) → Calls Tryz.prog 76 #[.slice A l.length c] w (GetBytesRB (getBytesB l) w) := by
  intro A c hc
  obtain ⟨A', c', ⟨z0, -⟩, hsl, h1, h2, h3⟩ := Hr.out.sl
  rw [z0] at hc
  injection hc with hc
  injection hc with e1 e2 e3
  subst e1 e3
  exact rgetbytes_any l A' c' w h2 h1 h3 (Lib.hid hsl)
theorem tkS_two (l : Bytes) : ∃ (x : Bytes) (u : Int) (l' : Bytes) (e' : Nat), tkS l 0 = (x, l', e') ∧ bytV (getBytesB l) = .tuple #[.string ⟨x.toArray⟩, .int .i64 u, .int .i64 (e' : Int)] ∧ ∀ r W, RdN r l 0 W → Calls Tryz.prog 77 #[.pointer (some ⟨r, 0, none⟩), .int .i64 u, .int .i64 (e' : Int)] W fun e w' => e = .returned (.tuple #[]) ∧ RB r W w' ∧ RdN r l' e' w' := by
  cases hx : getBytesB l with
  | error er =>
    have := getBytes_err hx
    exact ⟨[], 0, l, er, by unfold tkS; rw [if_neg (by simp), hx], rfl, fun r W h => rtake_bad r er l 0 W (by omega) (Lib.hid h)⟩
  | ok nk =>
    obtain ⟨t, k⟩ := nk
    obtain ⟨h1, h2⟩ := getBytes_pos hx
    exact ⟨t, (k : Int), l.drop k, 0, by unfold tkS; rw [if_neg (by simp), hx], rfl, fun r W h => rtake_ok r l k W h1 h2 (Lib.hid h)⟩
/-- With an error it is of no account how many were read. -/
theorem RunE.fill {α : Type} (d : α) {g : Bytes → Rd α} {N : Nat} {b : Bytes} {e0 k : Nat} {xs : List α} {l : Bytes} {er : Nat} (h : RunE g N b e0 k xs l er) (he : er ≠ 0) : ∃ xs', RunE g N b e0 N xs' l er := by
  rcases h with ⟨h0, h1, h2, h3⟩ | ⟨h0, h1, h2, h3, h4, h5, h6⟩
  · rcases h3 with ⟨h3, -⟩ | h3
    · exact absurd h3 he
    · exact ⟨List.replicate N d, .inl ⟨h0, by simp, h2, .inr h3⟩⟩
  · exact ⟨[], .inr ⟨h0, h1, h2, h2, rfl, h5, h6⟩⟩
set_option maxRecDepth 100000 in
set_option maxHeartbeats 16000000 in
theorem rdecode_any (b : Bytes) (A : Option Addr) (c : Nat) (w : World) (hb : b.length ≤ 1000000) (hc : b.length ≤ c) (hcm : c ≤ 9223372036854775807) (Hs : Hid (Sl w w.heap.size A (Lib.byteCells b))) : Calls Tryz.prog 29 #[.slice A b.length c] w (DecR (decodeB b) w) := by
  have HD := Lib.hid (DN.start hb hc hcm Hs.out)
  obtain ⟨n, hn⟩ : ∃ n, n = b.length := ⟨_, rfl⟩
  rw [← hn] at HD ⊢
  obtain ⟨W0, hW0⟩ : ∃ W, W = ((w.alloc (.cells (scrCs 0 0 0 0 0 0 none 0 0 none 0 0) 27)).alloc (.cells #[.slice A n c, .int .i64 0] 106)).alloc (.cells (scrCs 0 0 0 0 0 0 none 0 0 none 0 0) 27) := ⟨_, rfl⟩
  rw [← hW0] at HD
  obtain ⟨g, hgg⟩ : ∃ g, g = w.heap.size := ⟨_, rfl⟩
  obtain ⟨r, hrr⟩ : ∃ g, g = w.heap.size + 1 := ⟨_, rfl⟩
  obtain ⟨s, hss⟩ : ∃ g, g = w.heap.size + 1 + 1 := ⟨_, rfl⟩
  rw [← hss, ← hrr] at HD
  replace HD : Hid (DN w g r s 0 0 0 0 0 0 none 0 0 none 0 0 [] [] b 0 W0) := by rw [hgg]; exact HD.out
  obtain ⟨x, l1, e1, hx⟩ : ∃ x l1 e1, tkL b 0 = (x, l1, e1) := ⟨_, _, _, rfl⟩
  have hst := stat_start hx
  have he100 : e1 ≤ 100 := by have := tkL_e (l := b) (e := 0) (by omega); rw [hx] at this; exact this
  have HT := fun W h => rtakeL_any r 0 b W h
  rw [hx] at HT
  dsimp only at HT
  have HTk := Lib.hid HT
  obtain ⟨m, hm⟩ : ∃ m, m = x.length := ⟨_, rfl⟩
  rw [← hm] at hst HTk
  have Hm := Lib.hid hm
  have HSt := Lib.hid hst
  clear HT hx hn hb hc hcm hm Hs hst
  go_enter Tryz.func29, Tryz.ntmps29
  go_upto_region 3 with fail
  rw [← hss, ← hrr, ← hgg]
  have hW0' : ((w.alloc (.cells #[.int .i64 0, .int .i64 0, .int .i64 0, .int .i64 0, .int .i64 0, .int .i64 0, .slice none 0 0, .slice none 0 0] 27)).alloc (.cells #[.slice A n c, .int .i64 0] 106)).alloc (.cells #[.int .i64 0, .int .i64 0, .int .i64 0, .int .i64 0, .int .i64 0, .int .i64 0, .slice none 0 0, .slice none 0 0] 27) = W0 := hW0.symm
  rw [hW0']
  clear hW0' hW0 hss hrr hgg
  go_wp2_with fail
  refine (HTk.out _ (Lib.hid HD.out.rd)).mono ?_
  rintro en w1 ⟨hb1, hr1, A1, c1, rfl, ho1⟩
  have HD1 := Lib.hid (HD.out.rb hb1 hr1)
  obtain ⟨B0, hB0⟩ : ∃ B, B = W0.heap.size := ⟨_, rfl⟩
  have hrB : r < B0 := by rw [hB0]; exact HD.out.rd.lt
  have HC1 : Hid (w1.ownsRow B0 3 1 (.slice A1 m c1) m (x.map intC)) := by rw [hB0]; exact ho1
  clear hb1 hr1 ho1 HTk HD hB0
  have z1 : w1.cell? ⟨r, 1, none⟩ = some (.int .i64 (e1 : Int)) := HD1.out.rd.e.1
  go_upto_region 4 with fail
  go_cut [31] (fun s31 W => Cut31 w1 e1 m s31 W)
  case first =>
    by_cases h0 : e1 = 0
    · subst h0
      have z1 : w1.cell? ⟨r, 1, none⟩ = some (.int .i64 0) := z1
      by_cases h6 : m = 6
      · subst h6
        go_wp2_with fail
        go_meet
        case rel => exact ⟨rfl, false, rfl, ⟨fun h => (by cases h), fun h => absurd rfl h.2⟩⟩
      · have q1 : ((m : Int) != 6) = true := by rw [bne_iff_ne]; omega
        go_wp2_with fail
        go_meet
        case rel => exact ⟨rfl, true, rfl, ⟨fun _ => ⟨rfl, h6⟩, fun _ => rfl⟩⟩
    · have q1 : ((e1 : Int) == 0) = false := bne_int (by omega)
      go_wp2_with fail
      go_meet
      case rel => exact ⟨rfl, false, rfl, ⟨fun h => (by cases h), fun h => absurd h.1 h0⟩⟩
  case rest =>
    obtain ⟨rfl, v, rfl, hv⟩ := hcut
    have HV := Lib.hid hv
    clear hv
    clear z1
    go_upto_if 31 with fail
    go_cut [] (fun W => ∃ er, er ≤ 100 ∧ Hid (DN w g r s 0 0 0 0 0 0 none 0 0 none 0 0 [] [] l1 er W) ∧ Hid ((er = 0 ∧ m = 6 ∧ Stat 0 (decodeB b) (decB2 x l1)) ∨ (er ≠ 0 ∧ ∀ Y, Stat er (decodeB b) Y)) ∧ Hid (W.ownsRow B0 3 1 (.slice A1 m c1) m (x.map intC)))
    case first =>
      cases v with
      | false =>
        have hst : Hid ((e1 = 0 ∧ m = 6 ∧ Stat 0 (decodeB b) (decB2 x l1)) ∨ (e1 ≠ 0 ∧ ∀ Y, Stat e1 (decodeB b) Y)) := by
          by_cases h0 : e1 = 0
          · have h6 : m = 6 := by
              by_cases h6 : m = 6
              · exact h6
              · have := HV.out.2 ⟨h0, h6⟩; cases this
            exact .inl ⟨h0, h6, HSt.out.1 h0 h6⟩
          · exact .inr ⟨h0, fun Y => HSt.out.2.1 Y h0⟩
        go_wp2_with fail
        go_meet
        case rel => exact ⟨e1, he100, HD1, hst, HC1⟩
      | true =>
        obtain ⟨h0, h6⟩ := HV.out.1 rfl
        subst h0
        obtain ⟨hb2, hr2⟩ := HD1.out.rd.setE 6
        have HD2 := Lib.hid (HD1.out.rb hb2 hr2)
        have hst : Hid ((6 = 0 ∧ m = 6 ∧ Stat 0 (decodeB b) (decB2 x l1)) ∨ (6 ≠ 0 ∧ ∀ Y, Stat 6 (decodeB b) Y)) := .inr ⟨by omega, fun Y => HSt.out.2.2 Y rfl h6⟩
        have HC2 := Lib.hid (own_rb_lt HC1.out hb2 hrB)
        have z1 := HD1.out.rd.e.1
        have y1 := HD1.out.rd.e.2
        clear hb2 hr2 h6
        go_wp2_with fail
        go_meet
        case rel => exact ⟨6, by omega, HD2, hst, HC2⟩
    case rest =>
      clear he100 HD1 HC1 HSt HV
      obtain ⟨er, he100, HD1, HST, HC1⟩ := hcut
      have z1 := HD1.out.rd.e.1
      go_upto_if 39 with fail
      go_cut [] (fun W => ∃ (er : Nat) (a0 a1 a2 a3 a4 a5 : Int), er ≤ 100 ∧ Hid (DN w g r s a0 a1 a2 a3 a4 a5 none 0 0 none 0 0 [] [] l1 er W) ∧ Hid (Stat er (decodeB b) (decB2 [a0, a1, a2, a3, a4, a5] l1)))
      case first =>
        by_cases her : er = 0
        · obtain ⟨h6, hst⟩ : m = 6 ∧ Stat 0 (decodeB b) (decB2 x l1) := by
            rcases HST.out with ⟨-, h⟩ | ⟨h, -⟩
            · exact h
            · exact absurd her h
          have HST2 := Lib.hid hst
          obtain ⟨p0, p1, p2, p3, p4, p5, hx⟩ : ∃ a b c d e f, x = [a, b, c, d, e, f] := by
            have h6 := Hm.out.symm.trans h6
            match x, h6 with
            | [a, b, c, d, e, f], _ => exact ⟨a, b, c, d, e, f, rfl⟩
          subst hx her h6
          clear hst HST Hm
          have HC2 : Hid (Sl wc wc.heap.size A1 ([p0, p1, p2, p3, p4, p5].map intC)) := own_sl HC1.out
          go_wp2_with fail
          clear z1
          refine (rconfig_any p0 p1 p2 p3 p4 p5 A1 c1 wc HC2).mono ?_
          rintro en w3 ⟨rfl, hb3⟩
          have HD3 := Lib.hid (HD1.out.call hb3)
          clear hb3
          have hrow := HD3.out.row
          unfold scrCs at hrow
          obtain ⟨z0, y0⟩ := cell_at hrow 0 rfl
          obtain ⟨z1, y1⟩ := cell_at hrow 1 rfl
          obtain ⟨z2, y2⟩ := cell_at hrow 2 rfl
          obtain ⟨z3, y3⟩ := cell_at hrow 3 rfl
          obtain ⟨z4, y4⟩ := cell_at hrow 4 rfl
          obtain ⟨z5, y5⟩ := cell_at hrow 5 rfl
          clear hrow
          have HDc := Lib.hid (HD3.out.cfg p0 p1 p2 p3 p4 p5)
          go_wp2_with fail
          go_meet
          case rel => exact ⟨0, p0, p1, p2, p3, p4, p5, by omega, HDc, HST2⟩
        · have q1 : ((er : Int) == 0) = false := bne_int (by omega)
          have HST2 : Hid (Stat er (decodeB b) (decB2 [0, 0, 0, 0, 0, 0] l1)) := Lib.hid (by
            rcases HST.out with ⟨h, -⟩ | ⟨-, h⟩
            · exact absurd h her
            · exact h _)
          go_wp2_with fail
          go_meet
          case rel => exact ⟨er, 0, 0, 0, 0, 0, 0, he100, HD1, HST2⟩
      case rest =>
        clear he100 HD1 HST HC1 Hm
        obtain ⟨er, a0, a1, a2, a3, a4, a5, he100, HDa, HST⟩ := hcut
        obtain ⟨mq, l2, e2, hcs⟩ : ∃ a b c, cntSt 16 l1 er = (a, b, c) := ⟨_, _, _, rfl⟩
        obtain ⟨hm0, hm16, he2, hmz, -, -⟩ := cntSt_rd er (by decide) hcs
        have hCn := rcnt_any r er 16 l1 wc HDa.out.rd
        rw [hcs] at hCn
        unfold CntN at hCn
        dsimp only at hCn
        obtain ⟨N, hN⟩ : ∃ N : Nat, mq = (N : Int) := ⟨mq.toNat, by omega⟩
        subst hN
        have HCn := Lib.hid hCn
        have Hcs := Lib.hid hcs
        have he2 := he2 he100
        have hR0 := RunE.start (rd getBytesB) N l2 e2 he2 (fun h => by have := hmz h; omega)
        have hN16 : N ≤ 16 := by omega
        clear hcs hCn hm0 hm16 hmz he100 he2
        go_wp2_with fail
        refine HCn.out.mono ?_
        rintro en w4 ⟨rfl, hb4, hr4⟩
        have HD4 := Lib.hid (HDa.out.rb hb4 hr4)
        have HR0 := Lib.hid hR0
        clear hb4 hr4 hR0 HCn HDa
        go_upto_block 0 with fail
        go_cut [8, 9, 10, 11] (fun s8 s9 s10 s11 W => ∃ (k : Nat) (T : Option Addr) (tc : Nat) (xs : List Bytes) (l : Bytes) (e : Nat), k ≤ N ∧ e ≤ 100 ∧ Hid (Stat e (decodeB b) (decB3 [a0, a1, a2, a3, a4, a5] xs l) ∧ ∀ t ∈ xs, t.length ≤ maxLen) ∧ Hid (DN w g r s a0 a1 a2 a3 a4 a5 T k tc none 0 0 xs [] l e W))
        case first =>
          go_wp2_with fail
          go_loopg [8] N (fun gh s8 wr => ∃ (k : Nat) (T : Option Addr) (tc : Nat) (xs : List Bytes) (l : Bytes) (e : Nat), s8 = .int .i64 (k : Int) ∧ gh = N - k ∧ k ≤ N ∧ Hid (RunE (rd getBytesB) N l2 e2 k xs l e ∧ ∀ t ∈ xs, t.length ≤ maxLen) ∧ Hid (DN w g r s a0 a1 a2 a3 a4 a5 T k tc none 0 0 xs [] l e wr))
          case atStart => exact ⟨0, none, 0, [], l2, e2, rfl, rfl, Nat.zero_le _, ⟨HR0.out, fun t h => by cases h⟩, HD4.out⟩
          case round =>
            obtain ⟨k, T, tc, xs, l, e, rfl, hgh, hk, HRk, HDk⟩ := hrel
            by_cases hgo : k < N ∧ e = 0
            · obtain ⟨hlt, rfl⟩ := hgo
              have hI1 : (0 : Int) ≤ (k : Int) := by omega
              have hI2 : (k : Int) < (N : Int) := by omega
              obtain ⟨x, u, l', e', hx, hv, ht⟩ := tkS_two l
              obtain ⟨A3, c3, ⟨z0, z1⟩, hsl, h1, h2, h3⟩ := HDk.out.rd.sl
              have HGB : Hid (Calls Tryz.prog 76 #[.slice A3 l.length c3] wr (fun e w' => e = .returned (.tuple #[.string ⟨x.toArray⟩, .int .i64 u, .int .i64 (e' : Int)]) ∧ Below wr.heap.size wr w')) := Lib.hid (by
                have := rgetbytes_any l A3 c3 wr h2 h1 h3 (Lib.hid hsl)
                unfold GetBytesRB at this
                rw [hv] at this
                exact this)
              have HTk := Lib.hid ht
              have HR1 : Hid (RunE (rd getBytesB) N l2 e2 (k + 1) (xs ++ [x]) l' e' ∧ ∀ t ∈ xs ++ [x], t.length ≤ maxLen) := by
                refine ⟨HRk.out.1.text hlt hx, fun t ht => ?_⟩
                rcases List.mem_append.1 ht with ht | ht
                · exact HRk.out.2 t ht
                · rw [List.mem_singleton.1 ht]
                  have h1 := tkS_len l 0
                  rw [hx] at h1
                  have h2 := HDk.out.rd.len
                  unfold maxLen
                  dsimp only at h1
                  omega
              have hb1 : k + 1 ≤ maxLen := by unfold maxLen; omega
              have hb2 : (k + 1) * 16 ≤ 140737488355328 := by omega
              obtain ⟨ln, hln⟩ : ∃ n, n = l.length := ⟨_, rfl⟩
              rw [← hln] at z0 HGB
              have z1 : wr.cell? ⟨r, 1, none⟩ = some (.int .i64 0) := z1
              clear hx hv ht hsl h1 h2 h3 hln HRk
              go_wp2_with fail
              clear z0 z1
              refine HGB.out.mono ?_
              rintro en w5 ⟨rfl, hb5⟩
              have HD5 := Lib.hid (HDk.out.call hb5)
              clear hb5 HGB HDk
              go_wp2_with fail
              refine (HTk.out _ _ HD5.out.rd).mono ?_
              rintro en w6 ⟨rfl, hb6, hr6⟩
              have HD6 := Lib.hid (HD5.out.rb hb6 hr6)
              clear hb6 hr6 HTk HD5
              obtain ⟨⟨c6, -⟩, -⟩ := HD6.out.cells
              go_wp2_with (at_builtin; refine wpList_append_sl rfl _ _ 24 rfl rfl rfl so24 (HD6.out.own1.alloc _) (m := 1) (news := [.string ⟨x.toArray⟩]) rfl (Sl.new _ _ _) (fun u hu => by rw [List.mem_singleton.1 hu]; rfl) hb1 hb2 (Nat.le_trans (show s + 1 ≤ w6.heap.size from HD6.out.size) (by simp)) ?_; clear c6; intro A8 c8 w8 ho8 hg8; obtain ⟨hrow8, hD8⟩ := HD6.out.text (x := x) ho8 hg8; have HD8 := Lib.hid hD8; obtain ⟨c6, f6⟩ := cell_at (u := .slice T k tc) hrow8 6 rfl; clear ho8 hg8 hD8 hrow8)
              go_roundg (N - (k + 1))
              case measure => omega
              case rel => exact ⟨k + 1, A8, c8, xs ++ [x], l', e', by go_num, rfl, by omega, HR1, HD8⟩
            · have HS2 : Hid (Stat e (decodeB b) (decB3 [a0, a1, a2, a3, a4, a5] xs l) ∧ ∀ t ∈ xs, t.length ≤ maxLen) := by
                refine ⟨?_, HRk.out.2⟩
                by_cases he : e = 0
                · have hke : k = N := by
                    have : ¬ k < N := fun h => hgo ⟨h, he⟩
                    omega
                  exact stat_texts HST.out Hcs.out (by rw [Int.toNat_natCast]; have := HRk.out.1; rw [hke] at this; exact this)
                · obtain ⟨xs', h⟩ := HRk.out.1.fill [] he
                  have := stat_texts HST.out Hcs.out (xs := xs') (l3 := l) (er := e) (by rw [Int.toNat_natCast]; exact h)
                  rcases this with ⟨h0, -⟩ | ⟨h0, h1⟩
                  · exact absurd h0 he
                  · exact .inr ⟨h0, h1⟩
              have he100 : e ≤ 100 := HRk.out.1.len.2
              have z1 := HDk.out.rd.e.1
              by_cases hlt : k < N
              · have he : e ≠ 0 := fun h => hgo ⟨hlt, h⟩
                have hI2 : (k : Int) < (N : Int) := by omega
                have q1 : ((e : Int) == 0) = false := bne_int (by omega)
                clear hgo
                go_wp2_with fail
                go_meet
                case rel => exact ⟨k, T, tc, xs, l, e, hk, he100, HS2, HDk⟩
              · have hI3 : ¬ (k : Int) < (N : Int) := by omega
                clear hgo
                go_wp2_with fail
                go_meet
                case rel => exact ⟨k, T, tc, xs, l, e, hk, he100, HS2, HDk⟩
        case rest =>
          clear HD4 HR0 Hcs HST
          obtain ⟨k, T, tc, xs, l, e, hk, he100, HS2, HDk⟩ := hcut
          obtain ⟨mq, l3, e3, hcs⟩ : ∃ a b c, cntSt 1000 l e = (a, b, c) := ⟨_, _, _, rfl⟩
          obtain ⟨hm0, hm16, he2, hmz, -, -⟩ := cntSt_rd e (by decide) hcs
          have hCn := rcnt_any r e 1000 l wc HDk.out.rd
          rw [hcs] at hCn
          unfold CntN at hCn
          dsimp only at hCn
          obtain ⟨M, hM⟩ : ∃ N : Nat, mq = (N : Int) := ⟨mq.toNat, by omega⟩
          subst hM
          have HCn := Lib.hid hCn
          have Hcs2 := Lib.hid hcs
          have HST2 := Lib.hid HS2.out.1
          have HXL := Lib.hid HS2.out.2
          have he2 := he2 he100
          have hR0 := RunE.start rdStep M l3 e3 he2 (fun h => by have := hmz h; omega)
          have hN1000 : M ≤ 1000 := by omega
          clear hcs hCn hm0 hm16 hmz he100 he2 HS2
          go_wp2_with fail
          refine HCn.out.mono ?_
          rintro en w5 ⟨rfl, hb4, hr4⟩
          have HD5 := Lib.hid (HDk.out.rb hb4 hr4)
          have HR0 := Lib.hid hR0
          clear hb4 hr4 hR0 HCn HDk
          go_upto_block 2 with fail
          go_cut [12, 13] (fun s12 s13 W => ∃ (j : Nat) (U : Option Addr) (uc : Nat) (ys : List StepD) (l : Bytes) (e : Nat), j ≤ M ∧ Hid (Stat e (decodeB b) (decB4 [a0, a1, a2, a3, a4, a5] xs ys l) ∧ ∀ y ∈ ys, y.args.length ≤ maxLen) ∧ Hid (DN w g r s a0 a1 a2 a3 a4 a5 T k tc U j uc xs ys l e W))
          case first =>
            go_wp2_with fail
            go_loopg [12] M (fun gh s12 wr => ∃ (j : Nat) (U : Option Addr) (uc : Nat) (ys : List StepD) (l : Bytes) (e : Nat), s12 = .int .i64 (j : Int) ∧ gh = M - j ∧ j ≤ M ∧ Hid (RunE rdStep M l3 e3 j ys l e ∧ ∀ y ∈ ys, y.args.length ≤ maxLen) ∧ Hid (DN w g r s a0 a1 a2 a3 a4 a5 T k tc U j uc xs ys l e wr))
            case atStart => exact ⟨0, none, 0, [], l3, e3, rfl, rfl, Nat.zero_le _, ⟨HR0.out, fun t h => by cases h⟩, HD5.out⟩
            case round =>
              obtain ⟨j, U, uc, ys, l, e, rfl, hgh, hj, HRk, HDk⟩ := hrel
              by_cases hgo : j < M ∧ e = 0
              · obtain ⟨hlt, rfl⟩ := hgo
                have hI1 : (0 : Int) ≤ (j : Int) := by omega
                have hI2 : (j : Int) < (M : Int) := by omega
                obtain ⟨kd, l', e', hx⟩ : ∃ x l' e', tkI l 0 = (x, l', e') := ⟨_, _, _, rfl⟩
                obtain ⟨x, l'', e'', hx'⟩ : ∃ x l'' e'', tkL l' e' = (x, l'', e'') := ⟨_, _, _, rfl⟩
                have HT := rtakeI_any r 0 l wr HDk.out.rd
                rw [hx] at HT
                dsimp only at HT
                have HTk := Lib.hid HT
                have HT' := fun W h => rtakeL_any r e' l' W h
                rw [hx'] at HT'
                dsimp only at HT'
                have HR1 : Hid (RunE rdStep M l3 e3 (j + 1) (ys ++ [⟨kd, x⟩]) l'' e'' ∧ (∀ y ∈ ys ++ [⟨kd, x⟩], y.args.length ≤ maxLen) ∨ 1000000000 < l'.length) := by
                  by_cases hl : l'.length ≤ 1000000000
                  · refine .inl ⟨HRk.out.1.step hlt hx hx', fun t ht => ?_⟩
                    rcases List.mem_append.1 ht with ht | ht
                    · exact HRk.out.2 t ht
                    · rw [List.mem_singleton.1 ht]
                      have h1 := tkL_len l' e'
                      rw [hx'] at h1
                      unfold maxLen
                      dsimp only at h1 ⊢
                      omega
                  · exact .inr (by omega)
                obtain ⟨q, hq⟩ : ∃ q, q = x.length := ⟨_, rfl⟩
                rw [← hq] at HT'
                have Hq := Lib.hid hq
                have HTl := Lib.hid HT'
                have hb1 : j + 1 ≤ maxLen := by unfold maxLen; omega
                have hb2 : (j + 1) * 32 ≤ 140737488355328 := by omega
                have z1 : wr.cell? ⟨r, 1, none⟩ = some (.int .i64 0) := HDk.out.rd.e.1
                clear HT hx HT' hx' HRk hq
                go_wp2_with fail
                clear z1
                refine HTk.out.mono ?_
                rintro en w6 ⟨rfl, hb6, hr6⟩
                have hD6 := HDk.out.rb hb6 hr6
                have hd : Below w6.heap.size w6 w6.drew := (Below.refl _ _).drew
                have HD5 := Lib.hid (hD6.call hd)
                have HR2 : Hid (RunE rdStep M l3 e3 (j + 1) (ys ++ [⟨kd, x⟩]) l'' e'' ∧ ∀ y ∈ ys ++ [⟨kd, x⟩], y.args.length ≤ maxLen) := by
                  rcases HR1.out with h | h
                  · exact h
                  · exact absurd hr6.len (by omega)
                clear hb6 hr6 hD6 hd HR1 HTk HDk
                go_upto_region 20 with fail
                refine wp_region_held_drew (S := fun _ => True) (by kernel_rfl) trivial (fun hHeld => ?_)
                refine wpAnyH_take (i := 0) (v := ?_) (by simp only [List.getElem?_toArray, List.getElem?_cons_zero] <;> rfl) (by kernel_rfl) (by kernel_rfl) (by kernel_rfl) (by intro _ _ _ h; exact h) (Or.inl ⟨by rfl, ?_⟩) hHeld ?_
                rotate_left
                · intro w hSw; (try dsimp only at hSw); go_simp
                  with_reducible rfl
                try simp only [Act.put, List.setIfInBounds_toArray, List.set_cons_zero, List.set_cons_succ]
                refine wpAnyH_take (i := 2) (v := ?_) (by simp only [List.getElem?_toArray, List.getElem?_cons_zero, List.getElem?_cons_succ] <;> rfl) (by kernel_rfl) (by kernel_rfl) (by kernel_rfl) (by intro _ _ _ h; exact h) (Or.inl ⟨by rfl, ?_⟩) hHeld ?_
                rotate_left
                · intro w hSw; (try dsimp only at hSw); go_simp
                  with_reducible rfl
                try simp only [Act.put, List.setIfInBounds_toArray, List.set_cons_zero, List.set_cons_succ]
                refine wpAnyH_take (i := 3) (v := ?_) (by simp only [List.getElem?_toArray, List.getElem?_cons_zero, List.getElem?_cons_succ] <;> rfl) (by kernel_rfl) (by kernel_rfl) (by kernel_rfl) (by intro _ _ _ h; exact h) (Or.inl ⟨by rfl, ?_⟩) hHeld ?_
                rotate_left
                · intro w hSw; (try dsimp only at hSw); go_simp
                  with_reducible rfl
                try simp only [Act.put, List.setIfInBounds_toArray, List.set_cons_zero, List.set_cons_succ]
                refine wpAnyH_ready (rs := [1, 4]) (by kernel_rfl) (by simp) ?_
                refine (AllReadyH.cons (by simp only [List.getElem?_toArray, List.getElem?_cons_zero, List.getElem?_cons_succ] <;> rfl) (fun K hK => ?_) (AllReadyH.cons (by simp only [List.getElem?_toArray, List.getElem?_cons_zero, List.getElem?_cons_succ] <;> rfl) (fun K hK => ?_) AllReadyH.nil))
                · obtain ⟨⟨-, c7⟩, -⟩ := HD5.out.cells
                  go_simp
                  refine hK.out _ _ trivial (fun hHeld => ?_)
                  clear hK K
                  try simp only [Act.put, List.setIfInBounds_toArray, List.set_cons_zero, List.set_cons_succ]
                  clear c7
                  refine wpAnyH_ready (rs := [4]) (by kernel_rfl) (by simp) ?_
                  refine (AllReadyH.cons (by simp only [List.getElem?_toArray, List.getElem?_cons_zero, List.getElem?_cons_succ] <;> rfl) (fun K hK => ?_) AllReadyH.nil)
                  · go_simp
                    go_at_call 73
                    refine (HTl.out _ (Lib.hid HD5.out.rd)).mono ?_
                    rintro en w7 ⟨hb7, hr7, A7, c7, rfl, ho7⟩
                    have HD7 := Lib.hid (HD5.out.rb hb7 hr7)
                    have HO7 := Lib.hid ho7
                    clear hb7 hr7 ho7
                    refine hK.out _ _ trivial (fun hHeld => ?_)
                    clear hK K
                    try simp only [Act.put, List.setIfInBounds_toArray, List.set_cons_zero, List.set_cons_succ]
                    refine wpAnyH_take (i := 5) (v := ?_) (by simp only [List.getElem?_toArray, List.getElem?_cons_zero, List.getElem?_cons_succ] <;> rfl) (by kernel_rfl) (by kernel_rfl) (by kernel_rfl) (by intro _ _ _ h; exact h) (Or.inl ⟨by rfl, ?_⟩) hHeld ?_
                    rotate_left
                    · intro w hSw; (try dsimp only at hSw); go_simp
                      with_reducible rfl
                    try simp only [Act.put, List.setIfInBounds_toArray, List.set_cons_zero, List.set_cons_succ]
                    refine wpAnyH_ready (rs := [6]) (by kernel_rfl) (by simp) ?_
                    refine (AllReadyH.cons (by simp only [List.getElem?_toArray, List.getElem?_cons_zero, List.getElem?_cons_succ] <;> rfl) (fun K hK => ?_) AllReadyH.nil)
                    · go_simp
                      have HD8 := Lib.hid (HD7.out.call ((Below.refl _ _).alloc (Nat.le_refl _) (.cells #[.int .i64 kd, .slice A7 q c7] 67)))
                      refine hK.out _ _ trivial (fun hHeld => ?_)
                      clear hK K
                      try simp only [Act.put, List.setIfInBounds_toArray, List.set_cons_zero, List.set_cons_succ]
                      refine wpAnyH_ready (rs := [7]) (by kernel_rfl) (by simp) ?_
                      refine (AllReadyH.cons (by simp only [List.getElem?_toArray, List.getElem?_cons_zero, List.getElem?_cons_succ] <;> rfl) (fun K hK => ?_) AllReadyH.nil)
                      · obtain ⟨ms, hm1, hm2⟩ := HD7.out.own2
                        have hA7 : SlT w7 w7.heap.size 3 A7 (x.map intC) := own_slT HO7.out
                        have hc7 := (own_cap HO7.out).1
                        refine step_append_sl rfl _ _ 25 rfl rfl rfl so25 (hm1.alloc _) (m := 1) (news := [.int .i64 kd, .slice A7 q c7]) rfl (Sl.new _ _ _) (fun u hu => by simp at hu; rcases hu with rfl | rfl <;> rfl) hb1 hb2 (Nat.le_trans (show s + 1 ≤ w7.heap.size from HD7.out.size) (by simp)) ?_
                        intro A9 c9 w9 ho9 hg9
                        have hqx := Hq.out
                        subst hqx
                        obtain ⟨hrow9, hD9⟩ := HD7.out.step (x := ⟨kd, x⟩) hm1 hm2 hA7 hc7 ho9 hg9
                        have HD9 := Lib.hid hD9
                        clear ho9 hg9 hD9 hm1 hm2 hA7 hc7
                        refine hK.out _ _ trivial (fun hHeld => ?_)
                        clear hK K
                        try simp only [Act.put, List.setIfInBounds_toArray, List.set_cons_zero, List.set_cons_succ]
                        refine wpAnyH_take (i := 8) (v := ?_) (by simp only [List.getElem?_toArray, List.getElem?_cons_zero, List.getElem?_cons_succ] <;> rfl) (by kernel_rfl) (by kernel_rfl) (by kernel_rfl) (by intro _ _ _ h; exact h) (Or.inl ⟨by rfl, ?_⟩) hHeld ?_
                        rotate_left
                        · intro w hSw; (try dsimp only at hSw); go_simp
                          with_reducible rfl
                        try simp only [Act.put, List.setIfInBounds_toArray, List.set_cons_zero, List.set_cons_succ]
                        refine wpAnyH_ready (rs := [9]) (by kernel_rfl) (by simp) ?_
                        refine (AllReadyH.cons (by simp only [List.getElem?_toArray, List.getElem?_cons_zero, List.getElem?_cons_succ] <;> rfl) (fun K hK => ?_) AllReadyH.nil)
                        · obtain ⟨c77, f7⟩ := cell_at (u := .slice U j uc) hrow9 7 rfl
                          go_simp
                          refine hK.out _ _ trivial (fun hHeld => ?_)
                          clear hK K
                          try simp only [Act.put, List.setIfInBounds_toArray, List.set_cons_zero, List.set_cons_succ]
                          refine wpAnyH_done (by kernel_rfl) ?_ _
                          clear hHeld hrow9 f7 c77
                          go_wp2_with fail
                          go_roundg (M - (j + 1))
                          case measure => omega
                          case rel => exact ⟨j + 1, A9, c9, ys ++ [⟨kd, x⟩], l'', e'', by go_num, rfl, by omega, HR2, HD9⟩
                · go_simp
                  go_at_call 73
                  refine (HTl.out _ (Lib.hid HD5.out.rd)).mono ?_
                  rintro en w7 ⟨hb7, hr7, A7, c7, rfl, ho7⟩
                  have HD7 := Lib.hid (HD5.out.rb hb7 hr7)
                  have HO7 := Lib.hid ho7
                  clear hb7 hr7 ho7
                  refine hK.out _ _ trivial (fun hHeld => ?_)
                  clear hK K
                  try simp only [Act.put, List.setIfInBounds_toArray, List.set_cons_zero, List.set_cons_succ]
                  refine wpAnyH_take (i := 5) (v := ?_) (by simp only [List.getElem?_toArray, List.getElem?_cons_zero, List.getElem?_cons_succ] <;> rfl) (by kernel_rfl) (by kernel_rfl) (by kernel_rfl) (by intro _ _ _ h; exact h) (Or.inl ⟨by rfl, ?_⟩) hHeld ?_
                  rotate_left
                  · intro w hSw; (try dsimp only at hSw); go_simp
                    with_reducible rfl
                  try simp only [Act.put, List.setIfInBounds_toArray, List.set_cons_zero, List.set_cons_succ]
                  refine wpAnyH_ready (rs := [1, 6]) (by kernel_rfl) (by simp) ?_
                  refine (AllReadyH.cons (by simp only [List.getElem?_toArray, List.getElem?_cons_zero, List.getElem?_cons_succ] <;> rfl) (fun K hK => ?_) (AllReadyH.cons (by simp only [List.getElem?_toArray, List.getElem?_cons_zero, List.getElem?_cons_succ] <;> rfl) (fun K hK => ?_) AllReadyH.nil))
                  · obtain ⟨⟨-, c7⟩, -⟩ := HD7.out.cells
                    go_simp
                    refine hK.out _ _ trivial (fun hHeld => ?_)
                    clear hK K
                    try simp only [Act.put, List.setIfInBounds_toArray, List.set_cons_zero, List.set_cons_succ]
                    clear c7
                    refine wpAnyH_ready (rs := [6]) (by kernel_rfl) (by simp) ?_
                    refine (AllReadyH.cons (by simp only [List.getElem?_toArray, List.getElem?_cons_zero, List.getElem?_cons_succ] <;> rfl) (fun K hK => ?_) AllReadyH.nil)
                    · go_simp
                      have HD8 := Lib.hid (HD7.out.call ((Below.refl _ _).alloc (Nat.le_refl _) (.cells #[.int .i64 kd, .slice A7 q c7] 67)))
                      refine hK.out _ _ trivial (fun hHeld => ?_)
                      clear hK K
                      try simp only [Act.put, List.setIfInBounds_toArray, List.set_cons_zero, List.set_cons_succ]
                      refine wpAnyH_ready (rs := [7]) (by kernel_rfl) (by simp) ?_
                      refine (AllReadyH.cons (by simp only [List.getElem?_toArray, List.getElem?_cons_zero, List.getElem?_cons_succ] <;> rfl) (fun K hK => ?_) AllReadyH.nil)
                      · obtain ⟨ms, hm1, hm2⟩ := HD7.out.own2
                        have hA7 : SlT w7 w7.heap.size 3 A7 (x.map intC) := own_slT HO7.out
                        have hc7 := (own_cap HO7.out).1
                        refine step_append_sl rfl _ _ 25 rfl rfl rfl so25 (hm1.alloc _) (m := 1) (news := [.int .i64 kd, .slice A7 q c7]) rfl (Sl.new _ _ _) (fun u hu => by simp at hu; rcases hu with rfl | rfl <;> rfl) hb1 hb2 (Nat.le_trans (show s + 1 ≤ w7.heap.size from HD7.out.size) (by simp)) ?_
                        intro A9 c9 w9 ho9 hg9
                        have hqx := Hq.out
                        subst hqx
                        obtain ⟨hrow9, hD9⟩ := HD7.out.step (x := ⟨kd, x⟩) hm1 hm2 hA7 hc7 ho9 hg9
                        have HD9 := Lib.hid hD9
                        clear ho9 hg9 hD9 hm1 hm2 hA7 hc7
                        refine hK.out _ _ trivial (fun hHeld => ?_)
                        clear hK K
                        try simp only [Act.put, List.setIfInBounds_toArray, List.set_cons_zero, List.set_cons_succ]
                        refine wpAnyH_take (i := 8) (v := ?_) (by simp only [List.getElem?_toArray, List.getElem?_cons_zero, List.getElem?_cons_succ] <;> rfl) (by kernel_rfl) (by kernel_rfl) (by kernel_rfl) (by intro _ _ _ h; exact h) (Or.inl ⟨by rfl, ?_⟩) hHeld ?_
                        rotate_left
                        · intro w hSw; (try dsimp only at hSw); go_simp
                          with_reducible rfl
                        try simp only [Act.put, List.setIfInBounds_toArray, List.set_cons_zero, List.set_cons_succ]
                        refine wpAnyH_ready (rs := [9]) (by kernel_rfl) (by simp) ?_
                        refine (AllReadyH.cons (by simp only [List.getElem?_toArray, List.getElem?_cons_zero, List.getElem?_cons_succ] <;> rfl) (fun K hK => ?_) AllReadyH.nil)
                        · obtain ⟨c77, f7⟩ := cell_at (u := .slice U j uc) hrow9 7 rfl
                          go_simp
                          refine hK.out _ _ trivial (fun hHeld => ?_)
                          clear hK K
                          try simp only [Act.put, List.setIfInBounds_toArray, List.set_cons_zero, List.set_cons_succ]
                          refine wpAnyH_done (by kernel_rfl) ?_ _
                          clear hHeld hrow9 f7 c77
                          go_wp2_with fail
                          go_roundg (M - (j + 1))
                          case measure => omega
                          case rel => exact ⟨j + 1, A9, c9, ys ++ [⟨kd, x⟩], l'', e'', by go_num, rfl, by omega, HR2, HD9⟩
                  · go_simp
                    have HD8 := Lib.hid (HD7.out.call ((Below.refl _ _).alloc (Nat.le_refl _) (.cells #[.int .i64 kd, .slice A7 q c7] 67)))
                    refine hK.out _ _ trivial (fun hHeld => ?_)
                    clear hK K
                    try simp only [Act.put, List.setIfInBounds_toArray, List.set_cons_zero, List.set_cons_succ]
                    refine wpAnyH_ready (rs := [1]) (by kernel_rfl) (by simp) ?_
                    refine (AllReadyH.cons (by simp only [List.getElem?_toArray, List.getElem?_cons_zero, List.getElem?_cons_succ] <;> rfl) (fun K hK => ?_) AllReadyH.nil)
                    · obtain ⟨⟨-, c7⟩, -⟩ := HD8.out.cells
                      go_simp
                      refine hK.out _ _ trivial (fun hHeld => ?_)
                      clear hK K
                      try simp only [Act.put, List.setIfInBounds_toArray, List.set_cons_zero, List.set_cons_succ]
                      clear c7
                      refine wpAnyH_ready (rs := [7]) (by kernel_rfl) (by simp) ?_
                      refine (AllReadyH.cons (by simp only [List.getElem?_toArray, List.getElem?_cons_zero, List.getElem?_cons_succ] <;> rfl) (fun K hK => ?_) AllReadyH.nil)
                      · obtain ⟨ms, hm1, hm2⟩ := HD7.out.own2
                        have hA7 : SlT w7 w7.heap.size 3 A7 (x.map intC) := own_slT HO7.out
                        have hc7 := (own_cap HO7.out).1
                        refine step_append_sl rfl _ _ 25 rfl rfl rfl so25 (hm1.alloc _) (m := 1) (news := [.int .i64 kd, .slice A7 q c7]) rfl (Sl.new _ _ _) (fun u hu => by simp at hu; rcases hu with rfl | rfl <;> rfl) hb1 hb2 (Nat.le_trans (show s + 1 ≤ w7.heap.size from HD7.out.size) (by simp)) ?_
                        intro A9 c9 w9 ho9 hg9
                        have hqx := Hq.out
                        subst hqx
                        obtain ⟨hrow9, hD9⟩ := HD7.out.step (x := ⟨kd, x⟩) hm1 hm2 hA7 hc7 ho9 hg9
                        have HD9 := Lib.hid hD9
                        clear ho9 hg9 hD9 hm1 hm2 hA7 hc7
                        refine hK.out _ _ trivial (fun hHeld => ?_)
                        clear hK K
                        try simp only [Act.put, List.setIfInBounds_toArray, List.set_cons_zero, List.set_cons_succ]
                        refine wpAnyH_take (i := 8) (v := ?_) (by simp only [List.getElem?_toArray, List.getElem?_cons_zero, List.getElem?_cons_succ] <;> rfl) (by kernel_rfl) (by kernel_rfl) (by kernel_rfl) (by intro _ _ _ h; exact h) (Or.inl ⟨by rfl, ?_⟩) hHeld ?_
                        rotate_left
                        · intro w hSw; (try dsimp only at hSw); go_simp
                          with_reducible rfl
                        try simp only [Act.put, List.setIfInBounds_toArray, List.set_cons_zero, List.set_cons_succ]
                        refine wpAnyH_ready (rs := [9]) (by kernel_rfl) (by simp) ?_
                        refine (AllReadyH.cons (by simp only [List.getElem?_toArray, List.getElem?_cons_zero, List.getElem?_cons_succ] <;> rfl) (fun K hK => ?_) AllReadyH.nil)
                        · obtain ⟨c77, f7⟩ := cell_at (u := .slice U j uc) hrow9 7 rfl
                          go_simp
                          refine hK.out _ _ trivial (fun hHeld => ?_)
                          clear hK K
                          try simp only [Act.put, List.setIfInBounds_toArray, List.set_cons_zero, List.set_cons_succ]
                          refine wpAnyH_done (by kernel_rfl) ?_ _
                          clear hHeld hrow9 f7 c77
                          go_wp2_with fail
                          go_roundg (M - (j + 1))
                          case measure => omega
                          case rel => exact ⟨j + 1, A9, c9, ys ++ [⟨kd, x⟩], l'', e'', by go_num, rfl, by omega, HR2, HD9⟩
              · have HS2 : Hid (Stat e (decodeB b) (decB4 [a0, a1, a2, a3, a4, a5] xs ys l) ∧ ∀ y ∈ ys, y.args.length ≤ maxLen) := by
                  refine ⟨?_, HRk.out.2⟩
                  by_cases he : e = 0
                  · have hke : j = M := by
                      have : ¬ j < M := fun h => hgo ⟨h, he⟩
                      omega
                    exact stat_steps HST2.out Hcs2.out (by rw [Int.toNat_natCast]; have := HRk.out.1; rw [hke] at this; exact this)
                  · obtain ⟨xs', h⟩ := HRk.out.1.fill ⟨0, []⟩ he
                    have := stat_steps HST2.out Hcs2.out (xs := xs') (l3 := l) (er := e) (by rw [Int.toNat_natCast]; exact h)
                    rcases this with ⟨h0, -⟩ | ⟨h0, h1⟩
                    · exact absurd h0 he
                    · exact .inr ⟨h0, h1⟩
                have z1 := HDk.out.rd.e.1
                by_cases hlt : j < M
                · have he : e ≠ 0 := fun h => hgo ⟨hlt, h⟩
                  have hI2 : (j : Int) < (M : Int) := by omega
                  have q1 : ((e : Int) == 0) = false := bne_int (by omega)
                  clear hgo
                  go_wp2_with fail
                  go_meet
                  case rel => exact ⟨j, U, uc, ys, l, e, hj, HS2, HDk⟩
                · have hI3 : ¬ (j : Int) < (M : Int) := by omega
                  clear hgo
                  go_wp2_with fail
                  go_meet
                  case rel => exact ⟨j, U, uc, ys, l, e, hj, HS2, HDk⟩
          case rest =>
            clear HD5 HR0 Hcs2 HST2
            obtain ⟨j, U, uc, ys, l, e, hj, HS2, HDk⟩ := hcut
            obtain ⟨A3, c3, ⟨z0, z1⟩, -⟩ := HDk.out.rd.sl
            have y1 := HDk.out.rd.e.2
            obtain ⟨ln, hln⟩ : ∃ n, n = l.length := ⟨_, rfl⟩
            rw [← hln] at z0
            have Hln := Lib.hid hln
            clear hln
            by_cases hgo : e = 0 ∧ ln = 0
            · obtain ⟨rfl, rfl⟩ := hgo
              have hlnil : l = [] := List.eq_nil_of_length_eq_zero Hln.out.symm
              have hst4 : decodeB b = decB4 [a0, a1, a2, a3, a4, a5] xs ys l := by
                rcases HS2.out.1 with ⟨_, h⟩ | ⟨h, _⟩
                · exact h
                · exact absurd rfl h
              rw [decB4, if_neg (fun h => h hlnil)] at hst4
              have HST4 := Lib.hid hst4
              obtain ⟨S, hS⟩ : ∃ S : ScriptD, S = ⟨[a0, a1, a2, a3, a4, a5], xs, ys⟩ := ⟨_, rfl⟩
              have hSP := HDk.out.script
              rw [← hS] at hSP
              have hxs : S.texts.length = k := by rw [hS]; exact HDk.out.n1.symm
              have hys : S.steps.length = j := by rw [hS]; exact HDk.out.n2.symm
              have hSS : ScriptS wc S (.agg (scrCs a0 a1 a2 a3 a4 a5 T k tc U j uc)) := ⟨a0, a1, a2, a3, a4, a5, T, tc, U, uc, by rw [hxs, hys], hSP⟩
              have hchk := rcheck_any S _ wc (Lib.hid hSS) ⟨by rw [hxs]; unfold maxLen; omega, by rw [hys]; unfold maxLen; omega, by rw [hS]; exact HXL.out, by rw [hS]; exact HS2.out.2⟩
              rw [← hS] at HST4
              have HS := Lib.hid hS
              obtain ⟨ck, hck⟩ : ∃ x, x = checkB S := ⟨_, rfl⟩
              rw [← hck] at hchk HST4
              obtain ⟨ce, ch⟩ := ck
              unfold CheckR at hchk
              dsimp only at hchk HST4
              have Hchk := Lib.hid hchk
              have HSS := Lib.hid hSS
              have hrow := HDk.out.row
              have y0 := (cell_at (u := .int .i64 a0) hrow 0 rfl).1
              have y1 := (cell_at (u := .int .i64 a1) hrow 1 rfl).1
              have y2 := (cell_at (u := .int .i64 a2) hrow 2 rfl).1
              have y3 := (cell_at (u := .int .i64 a3) hrow 3 rfl).1
              have y4 := (cell_at (u := .int .i64 a4) hrow 4 rfl).1
              have y5 := (cell_at (u := .int .i64 a5) hrow 5 rfl).1
              have y6 := (cell_at (u := .slice T k tc) hrow 6 rfl).1
              have y7 := (cell_at (u := .slice U j uc) hrow 7 rfl).1
              have z1 : wc.cell? ⟨r, 1, none⟩ = some (.int .i64 0) := z1
              clear hst4 hlnil hchk hSS hck hS hSP hxs hys hrow HS2
              go_wp2_with fail
              refine Hchk.out.mono ?_
              rintro en w8 ⟨rfl, hb8⟩
              have HD9 := Lib.hid (HDk.out.call hb8)
              clear hb8 z0 z1 y0 y1 y2 y3 y4 y5 y6 y7 Hchk HSS HDk
              have hrow := HD9.out.row
              have hres := HD9.out.res
              have HSP := Lib.hid fun cs => HD9.out.final cs
              have hxs : k = xs.length := HD9.out.n1
              have hys : j = ys.length := HD9.out.n2
              have HXY := Lib.hid (And.intro hxs hys)
              have HB9 := Lib.hid HD9.out.below
              have heg := HD9.out.eg
              have HEG := Lib.hid heg
              obtain ⟨CS, hCS⟩ : ∃ C, C = scrCs a0 a1 a2 a3 a4 a5 T k tc U j uc := ⟨_, rfl⟩
              obtain ⟨C0, hC0⟩ : ∃ C, C = scrCs 0 0 0 0 0 0 none 0 0 none 0 0 := ⟨_, rfl⟩
              have i8 : (Tryz.prog.info? 27).map (·.size) = some CS.size := by rw [hCS]; exact info27
              have i80 : (Tryz.prog.info? 27).map (·.size) = some C0.size := by rw [hC0]; exact info27
              have o8 : C0.size = CS.size := by rw [hCS, hC0]; rfl
              have c8 : CS.size = 8 := by rw [hCS]; rfl
              have all1 : CS.all (·.oneCell') = true := by rw [hCS]; exact scr_one _ _ _ _ _ _ _ _ _ _ _ _
              have all0 : C0.all (·.oneCell') = true := by rw [hC0]; exact scr_one _ _ _ _ _ _ _ _ _ _ _ _
              rw [← hC0] at hres
              rw [← hCS] at hrow
              have HCS := Lib.hid hCS
              have HC0 := Lib.hid hC0
              by_cases hch : ch = 0
              · subst hch
                have hdec : decodeB b = .ok S := by rw [HST4.out, if_neg (by simp), HS.out]
                have Hdec := Lib.hid hdec
                clear hdec HST4 heg hCS hC0 HD9 hxs hys
                go_wp2_with (first | (refine wpList_load_row rfl 27 _ rfl s rfl 27 CS (0, 0) _ hrow Tryz.underlying27 rfl i8 ?_) | (refine wpList_store_row rfl 27 _ _ rfl g CS rfl rfl 27 C0 hres i8 o8 all1 ?_))
                refine bodyPost_ret (res29 _ _ g CS (.int .i64 0) c8 rfl rfl (setRow_heap _ _ _ _ _ _ hres)) rfl ?_
                unfold DecR
                rw [Hdec.out]
                have hb10 : Below w.heap.size w (w8.setRow g CS) := below_setRow1 HB9.out (by rw [HEG.out]; exact Nat.le_refl _) CS
                refine ⟨hb10, _, rfl, a0, a1, a2, a3, a4, a5, T, tc, U, uc, ?_, ?_⟩
                · rw [HCS.out, HS.out, HXY.out.1, HXY.out.2]
                · rw [HS.out]
                  exact HSP.out CS
              · have q1 : ((ch : Int) != 0) = true := by rw [bne_iff_ne]; omega
                have hdec : decodeB b = .error 6 := by rw [HST4.out, if_pos hch]
                have Hdec := Lib.hid hdec
                subst hC0
                clear hdec HST4 heg hCS HD9 hxs hys hrow i8 i80 o8 all1 all0
                go_wp2_with (refine wpList_store_row rfl 27 _ _ rfl g (scrCs 0 0 0 0 0 0 none 0 0 none 0 0) rfl rfl 27 (scrCs 0 0 0 0 0 0 none 0 0 none 0 0) hres info27 rfl (scr_one _ _ _ _ _ _ _ _ _ _ _ _) ?_)
                refine bodyPost_ret (res29 _ _ g (scrCs 0 0 0 0 0 0 none 0 0 none 0 0) (.int .i64 6) rfl rfl rfl (setRow_heap _ _ _ _ _ _ hres)) rfl ?_
                unfold DecR
                rw [Hdec.out]
                exact ⟨below_setRow1 HB9.out (by rw [HEG.out]; exact Nat.le_refl _) _, rfl⟩
            · by_cases h0 : e = 0
              · have hl0 : ln ≠ 0 := fun h => hgo ⟨h0, h⟩
                subst h0
                have Hdec : Hid (decodeB b = .error 6) := Lib.hid (by
                  rcases HS2.out.1 with ⟨_, h⟩ | ⟨h, _⟩
                  · rw [h, decB4, if_pos (fun h => hl0 (by rw [Hln.out, h]; rfl))]
                  · exact absurd rfl h)
                obtain ⟨hb2, hr2⟩ := HDk.out.rd.setE 6
                have hI0 : (0 : Int) < (ln : Int) := by omega
                have HD9 := Lib.hid (HDk.out.rb hb2 hr2)
                have z1 : wc.cell? ⟨r, 1, none⟩ = some (.int .i64 0) := z1
                clear hb2 hr2 HDk HS2 hl0 hgo
                obtain ⟨er2, her2⟩ : ∃ e : Nat, e = 6 := ⟨_, rfl⟩
                rw [← her2] at Hdec
                have Her2 := Lib.hid her2
                obtain ⟨w9, hw9⟩ : ∃ W, W = wc.setCell ⟨r, 1, none⟩ (.int .i64 6) := ⟨_, rfl⟩
                replace HD9 : Hid (DN w g r s a0 a1 a2 a3 a4 a5 T k tc U j uc xs ys l er2 w9) := by rw [hw9, her2]; exact HD9.out
                have Hw9 := Lib.hid hw9
                clear her2 hw9
                go_upto_region 23 with fail
                rw [← Hw9.out]
                have hne : er2 ≠ 0 := by have := Her2.out; omega
                clear z0 z1 y1 hI0
                have z1 : w9.cell? ⟨r, 1, none⟩ = some (.int .i64 (er2 : Int)) := HD9.out.rd.e.1
                have q3 : ((er2 : Int) != 0) = true := by rw [bne_iff_ne]; omega
                have HB9 := Lib.hid HD9.out.below
                have heg := HD9.out.eg
                have HEG := Lib.hid heg
                have her9 := HD9.out.er_
                have hgr : ¬ g = r := by omega
                have hrg : ¬ r = g := by omega
                have hres := HD9.out.res
                obtain ⟨C0, hC0⟩ : ∃ C, C = scrCs 0 0 0 0 0 0 none 0 0 none 0 0 := ⟨_, rfl⟩
                have HC0 := Lib.hid hC0
                have Hres := Lib.hid hres
                unfold scrCs at hres
                have y0 := (cell_at (u := .int .i64 0) hres 0 rfl).1
                have y1 := (cell_at (u := .int .i64 0) hres 1 rfl).1
                have y2 := (cell_at (u := .int .i64 0) hres 2 rfl).1
                have y3 := (cell_at (u := .int .i64 0) hres 3 rfl).1
                have y4 := (cell_at (u := .int .i64 0) hres 4 rfl).1
                have y5 := (cell_at (u := .int .i64 0) hres 5 rfl).1
                have y6 := (cell_at (u := .slice none 0 0) hres 6 rfl).1
                have y7 := (cell_at (u := .slice none 0 0) hres 7 rfl).1
                have f0 := (cell_at (u := .int .i64 0) hres 0 rfl).2
                have f1 := (cell_at (u := .int .i64 0) hres 1 rfl).2
                have f2 := (cell_at (u := .int .i64 0) hres 2 rfl).2
                have f3 := (cell_at (u := .int .i64 0) hres 3 rfl).2
                have f4 := (cell_at (u := .int .i64 0) hres 4 rfl).2
                have f5 := (cell_at (u := .int .i64 0) hres 5 rfl).2
                have f6 := (cell_at (u := .slice none 0 0) hres 6 rfl).2
                have f7 := (cell_at (u := .slice none 0 0) hres 7 rfl).2
                clear heg her9 hC0 HD9 hres
                go_upto_region 24 with fail
                go_region
                clear y0 y1 y2 y3 y4 y5 y6 y7 f0 f1 f2 f3 f4 f5 f6 f7 z1 q3
                obtain ⟨W10, hW10⟩ : ∃ W, W = zer8 w9 g := ⟨_, rfl⟩
                have HR10 := Lib.hid (zer8N_row Hres.out)
                have HB10 := Lib.hid (zer8_below HB9.out (show w.heap.size ≤ g by rw [HEG.out]; exact Nat.le_refl _))
                rw [← hW10] at HR10 HB10
                unfold zer8 at hW10
                rw [← hW10]
                clear hW10
                go_wp2_with fail
                refine bodyPost_ret (res29 _ _ g (scrCs 0 0 0 0 0 0 none 0 0 none 0 0) (.int .i64 (er2 : Int)) rfl rfl rfl HR10.out) rfl ?_
                unfold DecR
                rw [Hdec.out]
                exact ⟨HB10.out, rfl⟩
              · have Hdec : Hid (decodeB b = .error e) := Lib.hid (by
                  rcases HS2.out.1 with ⟨h, _⟩ | ⟨_, h⟩
                  · exact absurd h h0
                  · exact h)
                obtain ⟨er2, her2⟩ : ∃ e' : Nat, e' = e := ⟨_, rfl⟩
                rw [← her2] at Hdec HDk h0 z1
                have HD9 := HDk
                have q1 : ((er2 : Int) == 0) = false := bne_int (by omega)
                have q3 : ((er2 : Int) != 0) = true := by rw [bne_iff_ne]; omega
                clear her2 HS2 hgo HDk
                have HB9 := Lib.hid HD9.out.below
                have heg := HD9.out.eg
                have HEG := Lib.hid heg
                have her9 := HD9.out.er_
                have hgr : ¬ g = r := by omega
                have hrg : ¬ r = g := by omega
                have hres := HD9.out.res
                obtain ⟨C0, hC0⟩ : ∃ C, C = scrCs 0 0 0 0 0 0 none 0 0 none 0 0 := ⟨_, rfl⟩
                have HC0 := Lib.hid hC0
                have Hres := Lib.hid hres
                unfold scrCs at hres
                have y0 := (cell_at (u := .int .i64 0) hres 0 rfl).1
                have y1 := (cell_at (u := .int .i64 0) hres 1 rfl).1
                have y2 := (cell_at (u := .int .i64 0) hres 2 rfl).1
                have y3 := (cell_at (u := .int .i64 0) hres 3 rfl).1
                have y4 := (cell_at (u := .int .i64 0) hres 4 rfl).1
                have y5 := (cell_at (u := .int .i64 0) hres 5 rfl).1
                have y6 := (cell_at (u := .slice none 0 0) hres 6 rfl).1
                have y7 := (cell_at (u := .slice none 0 0) hres 7 rfl).1
                have f0 := (cell_at (u := .int .i64 0) hres 0 rfl).2
                have f1 := (cell_at (u := .int .i64 0) hres 1 rfl).2
                have f2 := (cell_at (u := .int .i64 0) hres 2 rfl).2
                have f3 := (cell_at (u := .int .i64 0) hres 3 rfl).2
                have f4 := (cell_at (u := .int .i64 0) hres 4 rfl).2
                have f5 := (cell_at (u := .int .i64 0) hres 5 rfl).2
                have f6 := (cell_at (u := .slice none 0 0) hres 6 rfl).2
                have f7 := (cell_at (u := .slice none 0 0) hres 7 rfl).2
                clear heg her9 hC0 HD9 hres
                go_upto_region 24 with fail
                go_region
                clear y0 y1 y2 y3 y4 y5 y6 y7 f0 f1 f2 f3 f4 f5 f6 f7 z1 q3
                obtain ⟨W10, hW10⟩ : ∃ W, W = zer8 wc g := ⟨_, rfl⟩
                have HR10 := Lib.hid (zer8N_row Hres.out)
                have HB10 := Lib.hid (zer8_below HB9.out (show w.heap.size ≤ g by rw [HEG.out]; exact Nat.le_refl _))
                rw [← hW10] at HR10 HB10
                unfold zer8 at hW10
                rw [← hW10]
                clear hW10
                go_wp2_with fail
                refine bodyPost_ret (res29 _ _ g (scrCs 0 0 0 0 0 0 none 0 0 none 0 0) (.int .i64 (er2 : Int)) rfl rfl rfl HR10.out) rfl ?_
                unfold DecR
                rw [Hdec.out]
                exact ⟨HB10.out, rfl⟩
end Go.Proofs.YtdfhbnfhkckkbaaGreatDoor
