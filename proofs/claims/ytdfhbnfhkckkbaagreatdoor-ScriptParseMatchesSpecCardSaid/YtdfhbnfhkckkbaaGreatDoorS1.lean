/-
  Scripts in memory as a reader sees them. No program is run here.
-/
import Derived.Test.YtdfhbnfhkckkbaaGreatDoorH0
namespace Go.Proofs.YtdfhbnfhkckkbaaGreatDoor
open Go Go.RowKit Go.Walks

def StepsS (w : World) : List StepD → List Value → Prop
  | [], cs => cs = []
  | x :: xs, cs => ∃ A c cs', cs = .int .i64 x.kind :: .slice A x.args.length c :: cs' ∧ Sl w w.heap.size A (x.args.map intC) ∧ x.args.length ≤ c ∧ StepsS w xs cs'
theorem StepsS.below {w w' : World} (hb : Below w.heap.size w w') : ∀ {xs : List StepD} {cs : List Value}, StepsS w xs cs → StepsS w' xs cs
  | [], _, h => h
  | _ :: _, _, ⟨A, c, cs', e, h1, h2, h3⟩ => ⟨A, c, cs', e, (h1.below hb).more hb.size, h2, h3.below hb⟩
theorem StepsS.len {w : World} : ∀ {xs : List StepD} {cs : List Value}, StepsS w xs cs → cs.length = xs.length * 2
  | [], cs, h => by rw [show cs = [] from h]; rfl
  | _ :: xs, _, ⟨A, c, cs', e, h1, h2, h3⟩ => by rw [e]; simp only [List.length_cons]; rw [h3.len]; omega
theorem StepsS.at_ {w : World} : ∀ {xs : List StepD} {cs : List Value} {k : Nat} {x : StepD}, StepsS w xs cs → xs[k]? = some x → ∃ A c, cs[k * 2]? = some (.int .i64 x.kind) ∧ cs[k * 2 + 1]? = some (.slice A x.args.length c) ∧ Sl w w.heap.size A (x.args.map intC) ∧ x.args.length ≤ c
  | [], _, k, x, _, hk => by simp at hk
  | y :: xs, cs, 0, x, ⟨A, c, cs', e, h1, h2, h3⟩, hk => by
    have : y = x := by simpa using hk
    subst this
    exact ⟨A, c, by rw [e]; rfl, by rw [e]; rfl, h1, h2⟩
  | y :: xs, cs, k + 1, x, ⟨A, c, cs', e, h1, h2, h3⟩, hk => by
    obtain ⟨A', c', k1, k2, k3, k4⟩ := h3.at_ (k := k) (x := x) (by simpa using hk)
    refine ⟨A', c', ?_, ?_, k3, k4⟩
    · rw [e, show (k + 1) * 2 = k * 2 + 1 + 1 by omega]; exact k1
    · rw [e, show (k + 1) * 2 + 1 = k * 2 + 1 + 1 + 1 by omega]; exact k2
/-- The parts of a script's value: six numbers, the texts' slice and the steps' slice. -/
structure ScriptP (w : World) (S : ScriptD) (a b c d e f : Int) (T : Option Addr) (tc : Nat) (U : Option Addr) (uc : Nat) : Prop where
  cfg : S.cfg = [a, b, c, d, e, f]
  txt : Sl w w.heap.size T (S.texts.map strV)
  stp : ∃ ms, Sl w w.heap.size U ms ∧ StepsS w S.steps ms
  tl : S.texts.length ≤ tc
  sl : S.steps.length ≤ uc
def scrCs (a b c d e f : Int) (T : Option Addr) (nt tc : Nat) (U : Option Addr) (ns uc : Nat) : Array Value := #[.int .i64 a, .int .i64 b, .int .i64 c, .int .i64 d, .int .i64 e, .int .i64 f, .slice T nt tc, .slice U ns uc]
/-- A script as a value, for a reader. -/
def ScriptS (w : World) (S : ScriptD) (v : Value) : Prop := ∃ a b c d e f T tc U uc, v = .agg (scrCs a b c d e f T S.texts.length tc U S.steps.length uc) ∧ ScriptP w S a b c d e f T tc U uc
theorem ScriptP.below {w w' : World} {S : ScriptD} {a b c d e f : Int} {T : Option Addr} {tc : Nat} {U : Option Addr} {uc : Nat} (h : ScriptP w S a b c d e f T tc U uc) (hb : Below w.heap.size w w') : ScriptP w' S a b c d e f T tc U uc := by
  obtain ⟨ms, h1, h2⟩ := h.stp
  exact ⟨h.cfg, (h.txt.below hb).more hb.size, ⟨ms, (h1.below hb).more hb.size, h2.below hb⟩, h.tl, h.sl⟩
theorem ScriptS.below {w w' : World} {S : ScriptD} {v : Value} (h : ScriptS w S v) (hb : Below w.heap.size w w') : ScriptS w' S v := by
  obtain ⟨a, b, c, d, e, f, T, tc, U, uc, hv, hp⟩ := h
  exact ⟨a, b, c, d, e, f, T, tc, U, uc, hv, hp.below hb⟩
/-- A step of a script, in a later world. -/
theorem step_at {w W : World} {U : Option Addr} {ms : List Value} {xs : List StepD} (h1 : Sl w w.heap.size U ms) (h2 : StepsS w xs ms) (hb : Below w.heap.size w W) {k : Nat} {x : StepD} (hk : xs[k]? = some x) :
    ∃ b o A c, U = some ⟨b, o, none⟩ ∧ b < w.heap.size ∧ W.cell? ⟨b, o + k * 2, none⟩ = some (.int .i64 x.kind) ∧ W.cell? ⟨b, o + k * 2 + 1, none⟩ = some (.slice A x.args.length c) ∧ Sl W W.heap.size A (x.args.map intC) ∧ x.args.length ≤ c := by
  obtain ⟨A, c, e1, e2, hs, hc⟩ := h2.at_ hk
  obtain ⟨b, o, ea, hlt, hcs⟩ := h1.at_ (k := k * 2) (List.getElem?_eq_some_iff.1 e1).1
  exact ⟨b, o, A, c, ea, hlt, (hb.cell (p := ⟨b, o + k * 2, none⟩) hlt).trans (hcs _ _ e1), (hb.cell (p := ⟨b, o + k * 2 + 1, none⟩) hlt).trans (by have := hcs _ _ e2; rw [Nat.add_assoc]; exact this), (hs.below hb).more hb.size, hc⟩
/-- Scripts that a machine can hold. -/
structure ScriptL (S : ScriptD) : Prop where
  tl : S.texts.length ≤ maxLen
  sl : S.steps.length ≤ maxLen
  txt : ∀ t ∈ S.texts, t.length ≤ maxLen
  arg : ∀ x ∈ S.steps, x.args.length ≤ maxLen
def BoolR (b : Bool) (w : World) (e : Ending) (w' : World) : Prop := e = .returned (.bool b) ∧ Below w.heap.size w w'
end Go.Proofs.YtdfhbnfhkckkbaaGreatDoor
