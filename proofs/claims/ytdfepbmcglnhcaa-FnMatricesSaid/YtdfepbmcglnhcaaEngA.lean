import Derived.WalkKit
import Derived.KernelRfl
import Derived.Deep.Quiet
/-! The abstract machine: values, objects, what they stand for. -/
set_option linter.unusedSimpArgs false
set_option linter.unusedVariables false
namespace Go.Eng
open Go

/-- an abstract value -/
inductive DV where
  | un
  | v (x : Value)
  | lb (b : Bool)
  | nl
  | bx (o off : Nat)
  | ow (o : Nat)
  | pw (o i esz off : Nat)
  | ro (fl : Bool) (esz n : Nat) (L : List (List DV))
  | pe (cs : List DV) (off : Nat)
  | ag (cs : List DV)
  | tu (vs : List DV)
  | cl (f : Nat) (cs : List (Nat × Nat))
  deriving Inhabited

/-- an own object -/
inductive Ob where
  | box (cs : List DV)
  | row (fl : Bool) (T esz n : Nat) (L : List (List DV))
  deriving Inhabited

def undef' : Value := .tuple #[]

/-- what may lie in a row -/
def rpD : DV → Bool
  | .v _ | .lb _ | .nl | .ro .. => true
  | _ => false

def flatD : DV → Bool
  | .v _ | .lb _ => true
  | _ => false

/-- what may lie in memory that is only read -/
inductive RP (w : World) (ok : Nat → Prop) : DV → Value → Prop
  | v (x : Value) : RP w ok (.v x) x
  | lb (b : Bool) : RP w ok (.lb b) (.bool b)
  | nl : RP w ok .nl (.slice none 0 0)
  | ro (fl : Bool) (esz n : Nat) (L : List (List DV)) (A : Option Addr) (c : Nat) (ad : Addr) (f : Nat → Nat → Value) (hL : L.length = n) (hc : n ≤ c) (hm : c ≤ maxLen)
      (hA : n = 0 ∨ (A = some ad ∧ ok ad.block)) (he : ∀ l ∈ L, l.length = esz) (hf : fl = true → ∀ l ∈ L, ∀ d ∈ l, flatD d = true)
      (hr : ∀ i j, i < n → j < esz → w.cell? (ad.add (i * esz + j)) = some (f i j)) (h1 : ∀ i j, i < n → j < esz → (f i j).oneCell' = true)
      (hp : ∀ i j, i < n → j < esz → RP w ok ((L.getD i []).getD j .un) (f i j)) : RP w ok (.ro fl esz n L) (.slice A n c)

structure Env where
  w : World
  bo : Nat → Option Nat
  σ : Nat → Value
  ok : Nat → Prop

def RV0 (E : Env) : DV → Value → Prop
  | .un, _ => True
  | .v y, x => x = y
  | .lb b, x => x = .bool b
  | .nl, x => x = .slice none 0 0
  | .bx o off, x => ∃ b, E.bo o = some b ∧ x = .pointer (some ⟨b, off, none⟩)
  | .ow o, x => E.σ o = x ∧ ∃ A n c, x = .slice A n c
  | .pw o i esz off, x => ∃ b, E.bo o = some b ∧ x = .pointer (some ⟨b, i * esz + off, none⟩)
  | .ro fl esz n L, x => RP E.w E.ok (.ro fl esz n L) x
  | .pe cs off, x => ∃ a0 : Addr, E.ok a0.block ∧ x = .pointer (some (a0.add off)) ∧ ∀ j, j < cs.length → ∃ y, E.w.cell? (a0.add j) = some y ∧ y.oneCell' = true ∧ RP E.w E.ok (cs.getD j .un) y
  | .ag _, _ => False
  | .tu _, _ => False
  | .cl f cs, x => ∃ vs : List Value, x = .func (.func f) #[] vs.toArray ∧ vs.length = cs.length ∧ ∀ j, j < cs.length → ∃ b, E.bo (cs.getD j (0, 0)).1 = some b ∧ vs.getD j undef' = .pointer (some ⟨b, (cs.getD j (0, 0)).2, none⟩)

def RV1 (E : Env) : DV → Value → Prop
  | .ag cs, x => ∃ vs : List Value, x = .agg vs.toArray ∧ vs.length = cs.length ∧ ∀ j, j < cs.length → RV0 E (cs.getD j .un) (vs.getD j undef') ∧ (vs.getD j undef').oneCell' = true
  | d, x => RV0 E d x

def RV (E : Env) : DV → Value → Prop
  | .tu ds, x => ∃ vs : List Value, x = .tuple vs.toArray ∧ vs.length = ds.length ∧ ∀ j, j < ds.length → RV1 E (ds.getD j .un) (vs.getD j undef')
  | d, x => RV1 E d x

def ObOk (E : Env) (o : Nat) : Ob → Prop
  | .box cs => ∃ b T, ∃ vs : List Value, E.bo o = some b ∧ E.w.heap[b]? = some (.cells vs.toArray T (0, 0)) ∧ vs.length = cs.length ∧ ∀ j, j < cs.length → RV0 E (cs.getD j .un) (vs.getD j undef') ∧ (vs.getD j undef').oneCell' = true
  | .row fl T esz n L => L.length = n ∧ 0 < esz ∧ (∀ l ∈ L, l.length = esz) ∧ (fl = true → ∀ l ∈ L, ∀ d ∈ l, flatD d = true) ∧ E.bo o = (E.σ o).ownBlock ∧ ∃ vs : List Value, E.w.ownsRow 0 T esz (E.σ o) n vs ∧
      ∀ i j, i < n → j < esz → RP E.w E.ok ((L.getD i []).getD j .un) (vs.getD (i * esz + j) undef') ∧ (vs.getD (i * esz + j) undef').oneCell' = true

def refs0 : DV → List Nat
  | .bx o _ | .ow o | .pw o _ _ _ => [o]
  | .cl _ cs => cs.map (·.1)
  | _ => []
def refs1 : DV → List Nat
  | .ag cs => cs.flatMap refs0
  | d => refs0 d
def refs : DV → List Nat
  | .tu vs => vs.flatMap refs1
  | d => refs1 d
def orefs : Ob → List Nat
  | .box cs => cs.flatMap refs0
  | .row .. => []

abbrev Obs := List (Nat × Ob)

/-- old streams, old blocks but for some -/
structure Keep (w w' : World) (X : Nat → Prop) : Prop where
  os : w'.os = w.os
  tape : w'.tape = w.tape
  output : w'.output = w.output
  size : w.heap.size ≤ w'.heap.size
  block : ∀ k, k < w.heap.size → ¬ X k → w'.heap[k]? = w.heap[k]?

def okAfter (w w' : World) (ok : Nat → Prop) (bo : Nat → Option Nat) (pre : Obs) (bo' : Nat → Option Nat) (post : Obs) (k : Nat) : Prop :=
  k < w'.heap.size ∧ (k < w.heap.size → ok k ∨ ∃ q ∈ pre, bo q.1 = some k) ∧ ∀ p ∈ post, bo' p.1 ≠ some k

/-- what a function's contract says: handed these, with these own objects, it returns this and leaves these objects -/
def Fn (P : Program) (f : Nat) (as : List DV) (pre post : Obs) (r : DV) : Prop :=
  ∀ (w : World) (bo : Nat → Option Nat) (σ : Nat → Value) (ok : Nat → Prop) (vs : List Value),
    vs.length = as.length → (∀ j, j < as.length → RV1 ⟨w, bo, σ, ok⟩ (as.getD j .un) (vs.getD j undef')) →
    (∀ p ∈ pre, ObOk ⟨w, bo, σ, ok⟩ p.1 p.2) → (∀ p ∈ pre, ∀ b, bo p.1 = some b → b < w.heap.size ∧ ¬ ok b) →
    (∀ p ∈ pre, ∀ q ∈ pre, ∀ b, bo p.1 = some b → bo q.1 = some b → p.1 = q.1) → (∀ b, ok b → b < w.heap.size) →
    Calls P f vs.toArray w fun e w' => ∃ x bo' σ', e = .returned x ∧ Keep w w' (fun k => ∃ p ∈ pre, bo p.1 = some k) ∧
      RV ⟨w', bo', σ', okAfter w w' ok bo pre bo' post⟩ r x ∧ (∀ p ∈ post, ObOk ⟨w', bo', σ', okAfter w w' ok bo pre bo' post⟩ p.1 p.2) ∧
      (∀ p ∈ post, ∀ b, bo' p.1 = some b → b < w'.heap.size ∧ (b < w.heap.size → ∃ q ∈ pre, bo q.1 = some b)) ∧
      (∀ p ∈ post, ∀ q ∈ post, ∀ b, bo' p.1 = some b → bo' q.1 = some b → p.1 = q.1) ∧ (∀ p ∈ pre, bo' p.1 = bo p.1 ∧ σ' p.1 = σ p.1)

/-- the state of a function at work -/
structure St where
  fr : List DV
  ob : Obs

def lk (o : Nat) : Obs → Option Ob
  | [] => none
  | (k, x) :: l => if k == o then some x else lk o l
def del (o : Nat) : Obs → Obs
  | [] => []
  | (k, x) :: l => if k == o then del o l else (k, x) :: del o l
def St.slot (S : St) (t : Nat) : DV := S.fr.getD t .un
def St.obj (S : St) (o : Nat) : Option Ob := lk o S.ob

/-- a place of the state -/
inductive Loc where
  | sl (t : Nat)
  | ob (o : Nat)
  deriving DecidableEq

end Go.Eng
