/-
  A range over a function whose body may go on, break at one place, or return where the entry that came cannot come: both ways out of the loop meet again. Over every program.
-/
import Derived.RangeFuncWrites
namespace Go.Walks
open Go Go.RowKit
variable {F : Fence} {n : Nat} {P : Program}

def JoinX {α : Type} (Sp : List α → Prop) (R : List α → Prop) (I : List α → World → Prop) (id : Nat) (c : Code) (pre : List α) (W : World) : Prop :=
  (c = .ret ∧ ¬ Sp pre) ∨ (c = .exit id ∧ R pre ∧ I pre W)

theorem wpIn_rangeFunc_join {α : Type} {g : Operand} {ps : Array Tmp} {assign body : Code} {Q : Exit → Act → World → Prop} {a : Act} {w : World}
    (hro : F.round = none) (h1 : 1 ≤ n) {gf : Nat} {lb : Array Value} (hg : a.eval g = .func (.func gf) #[] lb) (hFg : F.fn gf) (eg : ∀ args w, (callFunc gf args).run P w = .ok (.enter gf args) w)
    {encs : α → Array Value} {Kp : World → World → Prop} {S Sp : List α → Prop} {N : Nat} {w0 : World} (hseq : SeqStopsK F (n - 1) P gf lb encs Kp S Sp N w0)
    (hKt : ∀ {A B C : World}, Kp A B → Kp B C → Kp A C) (hKb : ∀ (W : World) (l : Nat) (o o' : Obj), w.heap.size ≤ l → W.heap[l]? = some o → o.isCells = false → o.isWalk = false → Kp W (W.putObj l o')) (hb0 : Below w0.heap.size w0 w) (hps : ∀ x, (encs x).size = ps.size)
    (I : List α → World → Prop) (R : List α → Prop) (id : Nat) (hI : OwnFrom w.heap.size I) (h0 : I [] w) (a₁ : α → Act)
    (hassign : ∀ (l : Nat) (x : α) (W : World) (K : Act → World → Prop), K (a₁ x) W →
      assign.wpIn (F.inRound l) (n - 1 - 1) P (Exit.then K (fun _ _ _ => False)) { tmps := (ps.zip (encs x)).foldl (fun t (p, v) => t.setIfInBounds p v) a.tmps, defers := [] } W)
    (hbody : ∀ (l : Nat) (pre : List α) (x : α) (W : World), I pre W → pre.length < N → body.wpIn (F.inRound l) (n - 1 - 1) P (ownPostG w.heap.size Kp I (JoinX Sp R I id) (pre ++ [x]) W) (a₁ x) W)
    (hex : ∀ (a : Act) (W : World), Q .normal a W → Q (.exit id) a W)
    (hcont : ∀ (D : Nat) (pre : List α) (W : World), w.heap.size ≤ D → (S pre ∨ R pre) → I pre W → W.heap[D]? = some (.deferred (some [])) → Q .normal { a with defers := { target := .collected D, args := #[] } :: a.defers } W) :
    (Code.rangeFunc g ps assign body).wpIn F n P Q a w := by
  refine wpIn_rangeFunc_ownG hro h1 hg hFg eg hseq hKt hKb hb0 hps I (JoinX Sp R I id) hI (fun c s X Y row h hg hr => ?_) h0 a₁ hassign hbody (fun D xs W hD hS hi hk => hcont D xs W hD (.inl hS) hi hk) (fun D c pre W hD hSp hx hk => ?_)
  · rcases h with h | ⟨h1, h2, h3⟩
    · exact .inl h
    · exact .inr ⟨h1, h2, hI s X Y row h3 hg hr⟩
  · rcases hx with ⟨_, h⟩ | ⟨rfl, hR, hi⟩
    · exact absurd hSp h
    · exact wpIn_exit (hex _ _ (hcont D pre W hD (.inr hR) hi hk))
end Go.Walks
