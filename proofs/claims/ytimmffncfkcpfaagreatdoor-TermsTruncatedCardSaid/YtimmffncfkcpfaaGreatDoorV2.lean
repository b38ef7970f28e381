/-
  The tokens of printed terms, in plain words; what the parser makes of them; items by the texts of their fields. No program is run here.
-/
import Derived.Test.YtimmffncfkcpfaaGreatDoorV1
import Derived.Test.YtimmffncfkcpfaaGreatDoorB1
namespace Go.Proofs.YtimmffncfkcpfaaGreatDoor
open Go

theorem name_word {x : Bytes} (h : nameB x = true) : wordB x = true ∧ x.length ≤ 12 := by
  unfold nameB at h
  rw [Bool.and_eq_true, decide_eq_true_eq] at h
  exact h
theorem perm_losses {n : Int} : permB kLosses n = true ↔ 0 ≤ n ∧ n ≤ 4 := by
  rw [permB, if_pos rfl, decide_eq_true_eq]
theorem perm_whole {n : Int} : permB kWhole n = true ↔ 1 ≤ n ∧ n ≤ 1048576 := by
  rw [permB, if_neg (by decide), if_pos rfl, decide_eq_true_eq]
theorem perm_guar {n : Int} : permB kGuar n = true ↔ 0 ≤ n ∧ n ≤ 1048576 := by
  rw [permB, if_neg (by decide), if_neg (by decide), if_pos rfl, decide_eq_true_eq]
theorem perm_snap {n : Int} : permB kSnap n = true ↔ 0 ≤ n ∧ n ≤ 1048576 := by
  rw [permB, if_neg (by decide), if_neg (by decide), if_neg (by decide), if_pos rfl, decide_eq_true_eq]
theorem perm_burst {n : Int} : permB kBurst n = true ↔ 0 ≤ n ∧ n ≤ 1048576 := by
  rw [permB, if_neg (by decide), if_neg (by decide), if_neg (by decide), if_neg (by decide), if_pos rfl, decide_eq_true_eq]
theorem perm_rank {n : Int} : permB kRank n = true ↔ 0 ≤ n ∧ n ≤ 9 := by
  rw [permB, if_neg (by decide), if_neg (by decide), if_neg (by decide), if_neg (by decide), if_neg (by decide), if_pos rfl, decide_eq_true_eq]

def keysC (C : ClassD) : List (Option Bytes) := [some kClass, some C.name, some kOpen, some kCode, some C.code, some kSemi, some kLosses, some (Lib.itoa C.losses), some kSemi, some kWhole, some (Lib.itoa C.whole), some kSemi, some kClose]
def keysS (n : Int) : List (Option Bytes) := if 0 < n then [some kSnap, some (Lib.itoa n), some kSemi] else []
def keysB (n r : Int) : List (Option Bytes) := if 0 < n then [some kBurst, some (Lib.itoa n), some kRank, some (Lib.itoa r), some kSemi] else []
def keysD (D : ContrD) : List (Option Bytes) := [some kTenant, some D.tenant, some kOpen, some kGuar, some (Lib.itoa D.guar), some kSemi] ++ keysS D.snap ++ keysB D.burst D.rank ++ [some kClass, some D.cls, some kSemi, some kClose]
theorem keys_sp {x : Bytes} (hx : wordB x = true) (s : Bytes) : keys (x ++ (32 :: s)) = some x :: keys s := by rw [keys_word hx (free_cons rfl _), keys_blank rfl]
theorem keys_n {x : Int} (h0 : 0 ≤ x) (h : x < 100000000) (s : Bytes) : keys (Lib.itoa x ++ (59 :: s)) = some (Lib.itoa x) :: some [59] :: keys s := by rw [keys_itoa h0 h (free_cons rfl _), keys_sign rfl]
theorem keys_class {C : ClassD} (h : OkC C) (s : Bytes) : keys (classTx C ++ s) = keysC C ++ keys s := by
  have hl := perm_losses.1 h.losses
  have hw := perm_whole.1 h.whole
  have hn := (name_word h.name).1
  have hc := (name_word h.code).1
  have e : classTx C ++ s = kClass ++ (32 :: (C.name ++ (32 :: 123 :: 32 :: (kCode ++ (32 :: (C.code ++ (59 :: 32 :: (kLosses ++ (32 :: (Lib.itoa C.losses ++ (59 :: 32 :: (kWhole ++ (32 :: (Lib.itoa C.whole ++ (59 :: 32 :: 125 :: 10 :: s))))))))))))))) := by
    simp [classTx, numTx, sClass, sCode, sEnd, kSemi, kClass, kCode, kLosses, kWhole]
  rw [e, keys_sp rfl, keys_sp hn, keys_sign rfl, keys_blank rfl, keys_sp rfl, keys_word hc (free_cons rfl _), keys_sign rfl, keys_blank rfl, keys_sp rfl, keys_n hl.1 (by omega), keys_blank rfl, keys_sp rfl, keys_n (by omega) (by omega),
    keys_blank rfl, keys_sign rfl, keys_blank rfl]
  rfl
theorem keys_contr {D : ContrD} (h : OkT D) (s : Bytes) : keys (contrTx D ++ s) = keysD D ++ keys s := by
  have hg := perm_guar.1 h.guar
  have hs := perm_snap.1 h.snap
  have hb := perm_burst.1 h.burst
  have hr := perm_rank.1 h.rank
  have hn := (name_word h.tenant).1
  have hc := (name_word h.cls).1
  have tail : ∀ s : Bytes, keys ([32, 99, 108, 97, 115, 115, 32] ++ (D.cls ++ ([59, 32, 125, 10] ++ s))) = some kClass :: some D.cls :: some kSemi :: some kClose :: keys s := fun s => by
    show keys (32 :: (kClass ++ (32 :: (D.cls ++ (59 :: 32 :: 125 :: 10 :: s))))) = _
    rw [keys_blank rfl, keys_sp rfl, keys_word hc (free_cons rfl _), keys_sign rfl, keys_blank rfl, keys_sign rfl, keys_blank rfl]; rfl
  have burst : ∀ s : Bytes, Free s → keys ((if 0 < D.burst then [32] ++ kBurst ++ [32] ++ Lib.itoa D.burst ++ ([32] ++ kRank ++ [32] ++ Lib.itoa D.rank ++ kSemi) else []) ++ s) = keysB D.burst D.rank ++ keys s := fun s hs' => by
    unfold keysB
    split
    · have e : ([32] ++ kBurst ++ [32] ++ Lib.itoa D.burst ++ ([32] ++ kRank ++ [32] ++ Lib.itoa D.rank ++ kSemi)) ++ s = 32 :: (kBurst ++ (32 :: (Lib.itoa D.burst ++ (32 :: (kRank ++ (32 :: (Lib.itoa D.rank ++ (59 :: s)))))))) := by simp [kSemi]
      rw [e, keys_blank rfl, keys_sp rfl, keys_itoa hb.1 (by omega) (free_cons rfl _), keys_blank rfl, keys_sp rfl, keys_n hr.1 (by omega)]; rfl
    · rfl
  have snap : ∀ s : Bytes, keys ((if 0 < D.snap then [32] ++ kSnap ++ [32] ++ Lib.itoa D.snap ++ kSemi else []) ++ s) = keysS D.snap ++ keys s := fun s => by
    unfold keysS
    split
    · have e : ([32] ++ kSnap ++ [32] ++ Lib.itoa D.snap ++ kSemi) ++ s = 32 :: (kSnap ++ (32 :: (Lib.itoa D.snap ++ (59 :: s)))) := by simp [kSemi]
      rw [e, keys_blank rfl, keys_sp rfl, keys_n hs.1 (by omega)]; rfl
    · rfl
  have e : contrTx D ++ s = kTenant ++ (32 :: (D.tenant ++ (32 :: 123 :: 32 :: (kGuar ++ (32 :: (Lib.itoa D.guar ++ (59 :: ((if 0 < D.snap then [32] ++ kSnap ++ [32] ++ Lib.itoa D.snap ++ kSemi else []) ++ ((if 0 < D.burst then [32] ++ kBurst ++ [32] ++ Lib.itoa D.burst ++ ([32] ++ kRank ++ [32] ++ Lib.itoa D.rank ++ kSemi) else []) ++ ([32, 99, 108, 97, 115, 115, 32] ++ (D.cls ++ ([59, 32, 125, 10] ++ s)))))))))))) := by
    unfold contrTx snapTx burstTx numTx
    split <;> split <;> simp [sTenant, sBrace, sCls, sEnd, kTenant, kGuar, kSemi]
  rw [e, keys_sp rfl, keys_sp hn, keys_sign rfl, keys_blank rfl, keys_sp rfl, keys_n hg.1 (by omega), snap, burst ([32, 99, 108, 97, 115, 115, 32] ++ (D.cls ++ ([59, 32, 125, 10] ++ s))) (free_cons (c := 32) rfl _), tail]
  unfold keysD
  simp only [List.append_assoc, List.cons_append, List.nil_append]
  rfl
def keysT (T : TermsD) : List (Option Bytes) := T.classes.flatMap keysC ++ (T.contracts.flatMap keysD ++ [none])
theorem keys_flat {α : Type} (tx : α → Bytes) (ks : α → List (Option Bytes)) (s : Bytes) : ∀ (l : List α), (∀ x ∈ l, ∀ s, keys (tx x ++ s) = ks x ++ keys s) → keys (l.flatMap tx ++ s) = l.flatMap ks ++ keys s
  | [], _ => rfl
  | x :: l, h => by
    rw [List.flatMap_cons, List.flatMap_cons, List.append_assoc, List.append_assoc, h x (by simp), keys_flat tx ks s l (fun y hy => h y (by simp [hy]))]
theorem keys_print {T : TermsD} (h : Ok T) : keys (printT T) = keysT T := by
  unfold printT keysT
  rw [keys_flat classTx keysC _ T.classes (fun C hC s => keys_class (h.cs C hC) s)]
  have := keys_flat contrTx keysD [] T.contracts (fun D hD s => keys_contr (h.ts D hD).1 s)
  rw [List.append_nil, keys_nil] at this
  rw [this]

/-! Items by the texts of their fields. -/
abbrev TF := Bytes × Bytes
def tf (f : Field) : TF := (f.1, f.2.text)
def numOfS (w : Bytes) : List TF → Option Nat
  | [] => none
  | f :: fs => if f.1 = w ∧ numB f.2 = true then some (valD f.2) else numOfS w fs
def nS (w : Bytes) (fs : List TF) : Nat := (numOfS w fs).getD 0
def okS (fs : List TF) : List TF → Bool
  | [] => true
  | f :: r => match numOfS f.1 fs with
    | none => decide (f.2.length ≤ 12) && okS fs r
    | some n => permB f.1 n && (!decide (f.1 = kRank ∧ nS kBurst fs = 0 ∧ 0 < n) && okS fs r)
def headS (fs : List TF) : Bytes := (fs.head?.map Prod.snd).getD []
def lastS (fs : List TF) : Bytes := (fs.getLast?.map Prod.snd).getD []
def secS (fs : List TF) : Bytes := (fs[1]?.map Prod.snd).getD []
def addS (classes : List Bytes) (T : TermsD) (tn : Bool) (fs : List TF) : Option TermsD :=
  if tn then
    if T.contracts.length < 16 ∧ (headS fs).length ≤ 12 ∧ headS fs ∉ T.contracts.map ContrD.tenant ∧ okS fs (fs.drop 1) = true ∧ lastS fs ∈ classes then
      some ⟨T.classes, T.contracts ++ [⟨headS fs, nS kGuar fs, nS kSnap fs, nS kBurst fs, nS kRank fs, lastS fs⟩]⟩ else none
  else
    if T.classes.length < 8 ∧ (headS fs).length ≤ 12 ∧ headS fs ∉ T.classes.map ClassD.name ∧ okS fs (fs.drop 1) = true then
      some ⟨T.classes ++ [⟨headS fs, secS fs, nS kLosses fs, nS kWhole fs⟩], T.contracts⟩ else none
theorem numOf_tf (w : Bytes) : ∀ fs : List Field, numOfF w fs = numOfS w (fs.map tf)
  | [] => rfl
  | f :: fs => by
    rw [numOfF, List.map_cons, numOfS, numOf_tf w fs]; rfl
theorem nF_tf (w : Bytes) (fs : List Field) : nF w fs = nS w (fs.map tf) := by unfold nF nS; rw [numOf_tf]
theorem bad_tf (fs : List Field) : ∀ r : List Field, fieldsBad fs r = none ↔ okS (fs.map tf) (r.map tf) = true
  | [] => by simp [fieldsBad, okS]
  | f :: r => by
    have ih := bad_tf fs r
    rw [fieldsBad, List.map_cons, okS, numOf_tf]
    show _ ↔ (match numOfS f.1 (fs.map tf) with | none => _ | some n => _) = true
    cases h : numOfS f.1 (fs.map tf) with
    | none =>
      dsimp only
      by_cases h1 : 12 < f.2.text.length
      · rw [if_pos h1]
        have : ¬ (tf f).2.length ≤ 12 := by show ¬ f.2.text.length ≤ 12; omega
        simp [this]
      · rw [if_neg h1, ih]
        have : (tf f).2.length ≤ 12 := by show f.2.text.length ≤ 12; omega
        simp [this]
    | some n =>
      dsimp only
      cases h1 : permB f.1 n with
      | false => 
        have : permB (tf f).1 n = false := h1
        simp [this]
      | true =>
        have h1' : permB (tf f).1 n = true := h1
        rw [if_neg (by simp), h1', nF_tf]
        by_cases h2 : f.1 = kRank ∧ nS kBurst (fs.map tf) = 0 ∧ 0 < n
        · rw [if_pos h2]
          have : decide ((tf f).1 = kRank ∧ nS kBurst (fs.map tf) = 0 ∧ 0 < n) = true := decide_eq_true h2
          rw [this]; simp
        · rw [if_neg h2, ih]
          have : decide ((tf f).1 = kRank ∧ nS kBurst (fs.map tf) = 0 ∧ 0 < n) = false := decide_eq_false h2
          rw [this]; simp
theorem first_tf (x : Item) : (firstF x).text = headS (x.fields.map tf) := by
  unfold firstF headS
  cases x.fields <;> rfl
theorem last_tf (x : Item) : (lastF x).text = lastS (x.fields.map tf) := by
  unfold lastF lastS
  rw [List.getLast?_map]
  cases x.fields.getLast? <;> rfl
theorem sec_tf (x : Item) : (secondF x).text = secS (x.fields.map tf) := by
  unfold secondF secS
  rw [List.getElem?_map]
  cases x.fields[1]? <;> rfl
theorem add_tf (classes : List Bytes) (T T' : TermsD) (x : Item) : addB classes T x = .ok T' ↔ addS classes T x.tenant (x.fields.map tf) = some T' := by
  have hd : (x.fields.map tf).drop 1 = (x.fields.drop 1).map tf := by rw [List.map_drop]
  have hb := bad_tf x.fields (x.fields.drop 1)
  unfold addB addS
  rw [first_tf, last_tf, sec_tf, nF_tf, nF_tf, nF_tf, nF_tf, nF_tf, nF_tf, hd]
  cases x.tenant with
  | true =>
    rw [if_pos rfl, if_pos rfl]
    by_cases h1 : 16 ≤ T.contracts.length ∨ 12 < (headS (x.fields.map tf)).length
    · rw [if_pos h1, if_neg (by omega)]
      constructor <;> intro h <;> cases h
    · rw [if_neg h1]
      by_cases h2 : headS (x.fields.map tf) ∈ T.contracts.map ContrD.tenant
      · rw [if_pos h2, if_neg (fun h => h.2.2.1 h2)]
        constructor <;> intro h <;> cases h
      · rw [if_neg h2]
        cases h3 : fieldsBad x.fields (x.fields.drop 1) with
        | some p =>
          obtain ⟨p, e⟩ := p
          rw [h3] at hb
          dsimp only
          rw [if_neg (fun h => by have := hb.2 h.2.2.2.1; cases this)]
          constructor <;> intro h <;> cases h
        | none =>
          rw [h3] at hb
          dsimp only
          by_cases h4 : lastS (x.fields.map tf) ∈ classes
          · rw [if_pos h4, if_pos (show _ ∧ _ ∧ _ ∧ _ ∧ _ from ⟨by omega, by omega, h2, hb.1 rfl, h4⟩)]
            constructor
            · intro h; injection h with h; rw [h]
            · intro h; injection h with h; rw [h]
          · rw [if_neg h4, if_neg]
            · constructor <;> intro h <;> cases h
            · exact fun h => h4 h.2.2.2.2
  | false =>
    rw [if_neg Bool.false_ne_true, if_neg Bool.false_ne_true]
    by_cases h1 : 8 ≤ T.classes.length ∨ 12 < (headS (x.fields.map tf)).length
    · rw [if_pos h1, if_neg (by omega)]
      constructor <;> intro h <;> cases h
    · rw [if_neg h1]
      by_cases h2 : headS (x.fields.map tf) ∈ T.classes.map ClassD.name
      · rw [if_pos h2, if_neg (fun h => h.2.2.1 h2)]
        constructor <;> intro h <;> cases h
      · rw [if_neg h2]
        cases h3 : fieldsBad x.fields (x.fields.drop 1) with
        | some p =>
          obtain ⟨p, e⟩ := p
          rw [h3] at hb
          dsimp only
          rw [if_neg (fun h => by have := hb.2 h.2.2.2; cases this)]
          constructor <;> intro h <;> cases h
        | none =>
          rw [h3] at hb
          dsimp only
          rw [if_pos ⟨by omega, by omega, h2, hb.1 rfl⟩]
          constructor
          · intro h; injection h with h; rw [h]
          · intro h; injection h with h; rw [h]

/-! The items' shapes. -/
def cFields (a b c d : Bytes) : List TF := [([], a), (kCode, b), (kLosses, c), (kWhole, d)]
def sFields : Option Bytes → List TF
  | none => []
  | some s => [(kSnap, s)]
def bFields : Option (Bytes × Bytes) → List TF
  | none => []
  | some p => [(kBurst, p.1), (kRank, p.2)]
def tFields (a g : Bytes) (sn : Option Bytes) (br : Option (Bytes × Bytes)) (c : Bytes) : List TF := [([], a), (kGuar, g)] ++ sFields sn ++ bFields br ++ [(kClass, c)]
theorem add_c {classes : List Bytes} {T : TermsD} {a b c d : Bytes} (hb : wordB b = true) (hc : numB c = true) (hd : numB d = true) :
    addS classes T false (cFields a b c d) = if T.classes.length < 8 ∧ a.length ≤ 12 ∧ a ∉ T.classes.map ClassD.name ∧ b.length ≤ 12 ∧ permB kLosses (valD c) = true ∧ permB kWhole (valD d) = true then some ⟨T.classes ++ [⟨a, b, valD c, valD d⟩], T.contracts⟩ else none := by
  have nb := word_not_num hb
  have e1 : numOfS kCode (cFields a b c d) = none := by simp [numOfS, cFields, nb, kCode, kLosses, kWhole]
  have e2 : numOfS kLosses (cFields a b c d) = some (valD c) := by simp [numOfS, cFields, nb, hc, kCode, kLosses]
  have e3 : numOfS kWhole (cFields a b c d) = some (valD d) := by simp [numOfS, cFields, nb, hd, kCode, kLosses, kWhole]
  have e4 : okS (cFields a b c d) ((cFields a b c d).drop 1) = (decide (b.length ≤ 12) && (permB kLosses (valD c) && permB kWhole (valD d))) := by
    show okS (cFields a b c d) [(kCode, b), (kLosses, c), (kWhole, d)] = _
    simp only [okS, e1, e2, e3]
    have k1 : ¬ kLosses = kRank := by decide
    have k2 : ¬ kWhole = kRank := by decide
    simp [k1, k2]
  unfold addS
  rw [if_neg (by simp), e4]
  unfold nS
  rw [e2, e3]
  show (if T.classes.length < 8 ∧ a.length ≤ 12 ∧ a ∉ T.classes.map ClassD.name ∧ _ then some (⟨T.classes ++ [⟨a, b, _, _⟩], T.contracts⟩ : TermsD) else none) = _
  simp only [Bool.and_eq_true, decide_eq_true_eq]
  rfl
def snV : Option Bytes → Nat
  | none => 0
  | some s => valD s
def brV : Option (Bytes × Bytes) → Nat
  | none => 0
  | some p => valD p.1
def rkV : Option (Bytes × Bytes) → Nat
  | none => 0
  | some p => valD p.2
theorem perm0 : permB kSnap 0 = true ∧ permB kBurst 0 = true ∧ permB kRank 0 = true := by decide
theorem add_t {classes : List Bytes} {T : TermsD} {a g c : Bytes} {sn : Option Bytes} {br : Option (Bytes × Bytes)} (hg : numB g = true) (hc : wordB c = true) (hs : ∀ s, sn = some s → numB s = true) (hb : ∀ p, br = some p → numB p.1 = true ∧ numB p.2 = true) :
    addS classes T true (tFields a g sn br c) = if T.contracts.length < 16 ∧ a.length ≤ 12 ∧ a ∉ T.contracts.map ContrD.tenant ∧ (permB kGuar (valD g) = true ∧ permB kSnap (snV sn) = true ∧ permB kBurst (brV br) = true ∧ permB kRank (rkV br) = true ∧ ¬ (brV br = 0 ∧ 0 < rkV br) ∧ c.length ≤ 12) ∧ c ∈ classes then
      some ⟨T.classes, T.contracts ++ [⟨a, valD g, snV sn, brV br, rkV br, c⟩]⟩ else none := by
  have nc := word_not_num hc
  have e1 : numOfS kGuar (tFields a g sn br c) = some (valD g) := by cases sn <;> cases br <;> simp [numOfS, tFields, sFields, bFields, hg, kGuar]
  have e2 : nS kSnap (tFields a g sn br c) = snV sn := by
    cases sn with
    | none => cases br <;> simp [nS, numOfS, tFields, sFields, bFields, nc, snV, kGuar, kSnap, kBurst, kRank, kClass]
    | some s => cases br <;> simp [nS, numOfS, tFields, sFields, bFields, hs s rfl, snV, kGuar, kSnap]
  have e3 : nS kBurst (tFields a g sn br c) = brV br := by
    cases br with
    | none => cases sn <;> simp [nS, numOfS, tFields, sFields, bFields, nc, brV, kGuar, kSnap, kBurst, kClass]
    | some p => cases sn <;> simp [nS, numOfS, tFields, sFields, bFields, (hb p rfl).1, brV, kGuar, kSnap, kBurst]
  have e4 : nS kRank (tFields a g sn br c) = rkV br := by
    cases br with
    | none => cases sn <;> simp [nS, numOfS, tFields, sFields, bFields, nc, rkV, kGuar, kSnap, kRank, kClass]
    | some p => cases sn <;> simp [nS, numOfS, tFields, sFields, bFields, (hb p rfl).2, rkV, kGuar, kSnap, kBurst, kRank]
  have e5 : numOfS kClass (tFields a g sn br c) = none := by cases sn <;> cases br <;> simp [numOfS, tFields, sFields, bFields, nc, kGuar, kSnap, kBurst, kRank, kClass]
  have e6 : okS (tFields a g sn br c) ((tFields a g sn br c).drop 1) = true ↔ (permB kGuar (valD g) = true ∧ permB kSnap (snV sn) = true ∧ permB kBurst (brV br) = true ∧ permB kRank (rkV br) = true ∧ ¬ (brV br = 0 ∧ 0 < rkV br) ∧ c.length ≤ 12) := by
    have hd : (tFields a g sn br c).drop 1 = (kGuar, g) :: (sFields sn ++ (bFields br ++ [(kClass, c)])) := by simp [tFields]
    have k1 : ¬ kGuar = kRank := by decide
    have k2 : ¬ kSnap = kRank := by decide
    have k3 : ¬ kBurst = kRank := by decide
    obtain ⟨p1, p2, p3⟩ := perm0
    rw [hd]
    cases sn with
    | none =>
      cases br with
      | none =>
        show okS (tFields a g none none c) [(kGuar, g), (kClass, c)] = true ↔ _
        simp only [okS, e1, e5]
        simp [k1, snV, brV, rkV, p1, p2, p3]
      | some p =>
        have f1 : numOfS kBurst (tFields a g none (some p) c) = some (valD p.1) := by simp [numOfS, tFields, sFields, bFields, (hb p rfl).1, kGuar, kBurst]
        have f2 : numOfS kRank (tFields a g none (some p) c) = some (valD p.2) := by simp [numOfS, tFields, sFields, bFields, (hb p rfl).2, kGuar, kBurst, kRank]
        show okS (tFields a g none (some p) c) [(kGuar, g), (kBurst, p.1), (kRank, p.2), (kClass, c)] = true ↔ _
        simp only [okS, e1, e5, f1, f2, e3]
        simp [k1, k3, snV, brV, rkV, p1]
        grind
    | some s =>
      have f0 : ∀ br, numOfS kSnap (tFields a g (some s) br c) = some (valD s) := fun br => by cases br <;> simp [numOfS, tFields, sFields, bFields, hs s rfl, kGuar, kSnap]
      cases br with
      | none =>
        show okS (tFields a g (some s) none c) [(kGuar, g), (kSnap, s), (kClass, c)] = true ↔ _
        simp only [okS, e1, e5, f0]
        simp [k1, k2, snV, brV, rkV, p2, p3]
      | some p =>
        have f1 : numOfS kBurst (tFields a g (some s) (some p) c) = some (valD p.1) := by simp [numOfS, tFields, sFields, bFields, (hb p rfl).1, kGuar, kSnap, kBurst]
        have f2 : numOfS kRank (tFields a g (some s) (some p) c) = some (valD p.2) := by simp [numOfS, tFields, sFields, bFields, (hb p rfl).2, kGuar, kSnap, kBurst, kRank]
        show okS (tFields a g (some s) (some p) c) [(kGuar, g), (kSnap, s), (kBurst, p.1), (kRank, p.2), (kClass, c)] = true ↔ _
        simp only [okS, e1, e5, f0, f1, f2, e3]
        simp [k1, k2, k3, snV, brV, rkV]
        grind
  have hl : lastS (tFields a g sn br c) = c := by
    unfold lastS tFields
    rw [List.getLast?_append]; rfl
  have hh : headS (tFields a g sn br c) = a := by simp [headS, tFields]
  have hG : nS kGuar (tFields a g sn br c) = valD g := by unfold nS; rw [e1]; rfl
  unfold addS
  rw [if_pos rfl, hl, hh, hG, e2, e3, e4]
  simp only [e6]
end Go.Proofs.YtimmffncfkcpfaaGreatDoor
