/-
  The parser of the language of contracts on tokens, and its checks, in plain words. No program is run here.
-/
import Derived.Test.YtimmffncfkcpfaaGreatDoorA1
namespace Go.Proofs.YtimmffncfkcpfaaGreatDoor
open Go

/-- How a part of the parser ends: with a result and the tokens behind it, or with a syntax error at an offset. -/
inductive PR (α : Type) where
  | ok (a : α) (ts : List Tok)
  | bad (p : Nat)
def PR.next {α β : Type} (x : PR α) (f : α → List Tok → PR β) : PR β := match x with
  | .ok a ts => f a ts
  | .bad p => .bad p
theorem PR.next_ok {α β : Type} (a : α) (ts : List Tok) (f : α → List Tok → PR β) : (PR.ok a ts).next f = f a ts := rfl
theorem PR.next_bad {α β : Type} (p : Nat) (f : α → List Tok → PR β) : (PR.bad p : PR α).next f = .bad p := rfl

def takeT (ok : Bytes → Bool) : List Tok → PR Tok
  | T :: ts => if ok T.text then .ok T ts else .bad T.at_
  | [] => .bad 0
def mustT (s : Bytes) (ts : List Tok) : PR Tok := takeT (· == s) ts
def headAt : List Tok → Nat
  | T :: _ => T.at_
  | [] => 0
def headIs (s : Bytes) : List Tok → Bool
  | T :: _ => T.text == s
  | [] => false

def kClass : Bytes := [99, 108, 97, 115, 115]
def kTenant : Bytes := [116, 101, 110, 97, 110, 116]
def kCode : Bytes := [99, 111, 100, 101]
def kLosses : Bytes := [108, 111, 115, 115, 101, 115]
def kWhole : Bytes := [119, 104, 111, 108, 101]
def kGuar : Bytes := [103, 117, 97, 114, 97, 110, 116, 101, 101]
def kSnap : Bytes := [115, 110, 97, 112, 115, 104, 111, 116, 115]
def kBurst : Bytes := [98, 117, 114, 115, 116]
def kRank : Bytes := [114, 97, 110, 107]
def kOpen : Bytes := [123]
def kClose : Bytes := [125]
def kSemi : Bytes := [59]

abbrev Field := Bytes × Tok
structure Item where
  tenant : Bool
  fields : List Field
def nameF (w : Bytes) (ts : List Tok) : PR Field := (takeT wordB ts).next fun T a => .ok (w, T) a
def numF (w : Bytes) (ts : List Tok) : PR Field := (mustT w ts).next fun _ a => (takeT numB a).next fun T b => .ok (w, T) b
def semiT (ts : List Tok) : PR Tok := mustT kSemi ts
def closeT (fs : List Field) (ts : List Tok) : PR (List Field) := (mustT kSemi ts).next fun _ a => (mustT kClose a).next fun _ b => .ok fs b
def classT (ts : List Tok) : PR (List Field) :=
  (nameF [] ts).next fun f1 a => (mustT kOpen a).next fun _ b => (mustT kCode b).next fun _ c => (nameF kCode c).next fun f2 d => (mustT kSemi d).next fun _ e =>
    (numF kLosses e).next fun f3 g => (mustT kSemi g).next fun _ h => (numF kWhole h).next fun f4 i => closeT [f1, f2, f3, f4] i
def optS (ts : List Tok) : PR (List Field) := if headIs kSnap ts then (numF kSnap ts).next fun f a => (mustT kSemi a).next fun _ b => .ok [f] b else .ok [] ts
def optB (ts : List Tok) : PR (List Field) := if headIs kBurst ts then (numF kBurst ts).next fun f a => (numF kRank a).next fun g b => (mustT kSemi b).next fun _ c => .ok [f, g] c else .ok [] ts
def tenantT (ts : List Tok) : PR (List Field) :=
  (nameF [] ts).next fun f1 a => (mustT kOpen a).next fun _ b => (numF kGuar b).next fun f2 c => (mustT kSemi c).next fun _ d => (optS d).next fun s e => (optB e).next fun r g =>
    (mustT kClass g).next fun _ h => (nameF kClass h).next fun f3 i => closeT ([f1, f2] ++ s ++ r ++ [f3]) i
def itemT (ts : List Tok) : PR Item :=
  if headIs kTenant ts then (mustT kTenant ts).next fun _ a => (tenantT a).next fun fs b => .ok ⟨true, fs⟩ b
  else (mustT kClass ts).next fun _ a => (classT a).next fun fs b => .ok ⟨false, fs⟩ b
/-- The items of a text of n bytes. -/
def itemsT (n : Nat) : Nat → List Item → List Tok → PR (List Item)
  | 0, acc, ts => .ok acc ts
  | f + 1, acc, ts => if headAt ts < n then (itemT ts).next fun x a => itemsT n f (acc ++ [x]) a else .ok acc ts

/-! The checks. -/
structure ClassD where
  name : Bytes
  code : Bytes
  losses : Int
  whole : Int
structure ContrD where
  tenant : Bytes
  guar : Int
  snap : Int
  burst : Int
  rank : Int
  cls : Bytes
structure TermsD where
  classes : List ClassD
  contracts : List ContrD
inductive BR (α : Type) where
  | ok (a : α)
  | bad (p e : Nat)
def BR.next {α β : Type} (x : BR α) (f : α → BR β) : BR β := match x with
  | .ok a => f a
  | .bad p e => .bad p e
def valD (s : Bytes) : Nat := s.foldl (fun n c => 10 * n + (c.toNat - 48)) 0
def numOfF (w : Bytes) : List Field → Option Nat
  | [] => none
  | f :: fs => if f.1 = w ∧ numB f.2.text = true then some (valD f.2.text) else numOfF w fs
def nF (w : Bytes) (fs : List Field) : Nat := (numOfF w fs).getD 0
def permB (w : Bytes) (n : Int) : Bool :=
  if w = kLosses then decide (0 ≤ n ∧ n ≤ 4) else if w = kWhole then decide (1 ≤ n ∧ n ≤ 1048576) else if w = kGuar then decide (0 ≤ n ∧ n ≤ 1048576)
  else if w = kSnap then decide (0 ≤ n ∧ n ≤ 1048576) else if w = kBurst then decide (0 ≤ n ∧ n ≤ 1048576) else if w = kRank then decide (0 ≤ n ∧ n ≤ 9) else false
/-- The first field that is wrong: where, and which error. -/
def fieldsBad (fs : List Field) : List Field → Option (Nat × Nat)
  | [] => none
  | f :: r => match numOfF f.1 fs with
    | none => if 12 < f.2.text.length then some (f.2.at_, 2) else fieldsBad fs r
    | some n => if permB f.1 n = false then some (f.2.at_, 1) else if f.1 = kRank ∧ nF kBurst fs = 0 ∧ 0 < n then some (f.2.at_, 1) else fieldsBad fs r
def tok0 : Tok := ⟨[], 0⟩
def firstF (x : Item) : Tok := (x.fields.head?.map Prod.snd).getD tok0
def lastF (x : Item) : Tok := (x.fields.getLast?.map Prod.snd).getD tok0
def secondF (x : Item) : Tok := (x.fields[1]?.map Prod.snd).getD tok0
def addB (classes : List Bytes) (T : TermsD) (x : Item) : BR TermsD :=
  if x.tenant then
    if 16 ≤ T.contracts.length ∨ 12 < (firstF x).text.length then .bad (firstF x).at_ 2
    else if (firstF x).text ∈ T.contracts.map ContrD.tenant then .bad (firstF x).at_ 4
    else match fieldsBad x.fields (x.fields.drop 1) with
      | some (p, e) => .bad p e
      | none => if (lastF x).text ∈ classes then .ok ⟨T.classes, T.contracts ++ [⟨(firstF x).text, nF kGuar x.fields, nF kSnap x.fields, nF kBurst x.fields, nF kRank x.fields, (lastF x).text⟩]⟩ else .bad (lastF x).at_ 4
  else
    if 8 ≤ T.classes.length ∨ 12 < (firstF x).text.length then .bad (firstF x).at_ 2
    else if (firstF x).text ∈ T.classes.map ClassD.name then .bad (firstF x).at_ 4
    else match fieldsBad x.fields (x.fields.drop 1) with
      | some (p, e) => .bad p e
      | none => .ok ⟨T.classes ++ [⟨(firstF x).text, (secondF x).text, nF kLosses x.fields, nF kWhole x.fields⟩], T.contracts⟩
def addsB (classes : List Bytes) : TermsD → List Item → BR TermsD
  | T, [] => .ok T
  | T, x :: xs => (addB classes T x).next fun T' => addsB classes T' xs
def classNames (l : List Item) : List Bytes := (l.filter fun x => !x.tenant).map fun x => (firstF x).text
def itemsB (x : PR (List Item)) : BR TermsD := match x with
  | .bad p => .bad p 3
  | .ok l _ => addsB (classNames l) ⟨[], []⟩ l
/-- What the parser makes of a text: the terms, or an offset and an error. -/
def parseB (t : Bytes) : BR TermsD := if 2000 < t.length then .bad 0 2 else itemsB (itemsT t.length ((toks t 0).length + 1) [] (toks t 0))
/-- The line and the column of an offset. -/
def lineB (t : Bytes) (p : Nat) : Nat := 1 + (t.take p).count 10
def colB (t : Bytes) (p : Nat) : Nat := 1 + ((t.take p).reverse.takeWhile (· != 10)).length
end Go.Proofs.YtimmffncfkcpfaaGreatDoor
