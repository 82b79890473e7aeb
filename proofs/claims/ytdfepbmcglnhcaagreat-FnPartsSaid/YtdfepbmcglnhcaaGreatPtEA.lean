import Derived.WalkKit
import Derived.KernelRfl
import Derived.Deep.Quiet
import Derived.ChangeKeysEq
/-! The abstract machine: values, objects, what they stand for. -/
section
set_option linter.unusedSimpArgs false
set_option linter.unusedVariables false
namespace Go.Eng
open Go

/-- an abstract value -/
inductive DV where
  | un
  | v (x : Value)
  | lb (b : Bool)
  | nl
  | bx (o off : Nat)
  | ow (o : Nat)
  | pw (o i esz off : Nat)
  | ro (fl : Bool) (esz n : Nat) (L : List (List DV))
  | pe (cs : List DV) (off : Nat)
  | ag (cs : List DV)
  | tu (vs : List DV)
  | cl (f : Nat) (cs : List (Nat × Nat))
  deriving Inhabited

/-- an own object -/
inductive Ob where
  | box (cs : List DV)
  | row (fl : Bool) (T esz n : Nat) (L : List (List DV))
  deriving Inhabited

def undef' : Value := .tuple #[]

/-- what may lie in a row -/
def rpD : DV → Bool
  | .v _ | .lb _ | .nl | .ro .. => true
  | _ => false

def flatD : DV → Bool
  | .v _ | .lb _ => true
  | _ => false

/-- what may lie in memory that is only read -/
inductive RP (w : World) (ok : Nat → Prop) : DV → Value → Prop
  | v (x : Value) : RP w ok (.v x) x
  | lb (b : Bool) : RP w ok (.lb b) (.bool b)
  | nl : RP w ok .nl (.slice none 0 0)
  | ro (fl : Bool) (esz n : Nat) (L : List (List DV)) (A : Option Addr) (c : Nat) (ad : Addr) (f : Nat → Nat → Value) (hL : L.length = n) (hc : n ≤ c) (hm : c ≤ maxLen)
      (hA : n = 0 ∨ (A = some ad ∧ ok ad.block)) (he : ∀ l ∈ L, l.length = esz) (hf : fl = true → ∀ l ∈ L, ∀ d ∈ l, flatD d = true)
      (hr : ∀ i j, i < n → j < esz → w.cell? (ad.add (i * esz + j)) = some (f i j)) (h1 : ∀ i j, i < n → j < esz → (f i j).oneCell' = true)
      (hp : ∀ i j, i < n → j < esz → RP w ok ((L.getD i []).getD j .un) (f i j)) : RP w ok (.ro fl esz n L) (.slice A n c)

structure Env where
  w : World
  bo : Nat → Option Nat
  σ : Nat → Value
  ok : Nat → Prop

def RV0 (E : Env) : DV → Value → Prop
  | .un, _ => True
  | .v y, x => x = y
  | .lb b, x => x = .bool b
  | .nl, x => x = .slice none 0 0
  | .bx o off, x => ∃ b, E.bo o = some b ∧ x = .pointer (some ⟨b, off, none⟩)
  | .ow o, x => E.σ o = x ∧ ∃ A n c, x = .slice A n c
  | .pw o i esz off, x => ∃ b, E.bo o = some b ∧ x = .pointer (some ⟨b, i * esz + off, none⟩)
  | .ro fl esz n L, x => RP E.w E.ok (.ro fl esz n L) x
  | .pe cs off, x => ∃ a0 : Addr, E.ok a0.block ∧ x = .pointer (some (a0.add off)) ∧ ∀ j, j < cs.length → ∃ y, E.w.cell? (a0.add j) = some y ∧ y.oneCell' = true ∧ RP E.w E.ok (cs.getD j .un) y
  | .ag _, _ => False
  | .tu _, _ => False
  | .cl f cs, x => ∃ vs : List Value, x = .func (.func f) #[] vs.toArray ∧ vs.length = cs.length ∧ ∀ j, j < cs.length → ∃ b, E.bo (cs.getD j (0, 0)).1 = some b ∧ vs.getD j undef' = .pointer (some ⟨b, (cs.getD j (0, 0)).2, none⟩)

def RV1 (E : Env) : DV → Value → Prop
  | .ag cs, x => ∃ vs : List Value, x = .agg vs.toArray ∧ vs.length = cs.length ∧ ∀ j, j < cs.length → RV0 E (cs.getD j .un) (vs.getD j undef') ∧ (vs.getD j undef').oneCell' = true
  | d, x => RV0 E d x

def RV (E : Env) : DV → Value → Prop
  | .tu ds, x => ∃ vs : List Value, x = .tuple vs.toArray ∧ vs.length = ds.length ∧ ∀ j, j < ds.length → RV1 E (ds.getD j .un) (vs.getD j undef')
  | d, x => RV1 E d x

def ObOk (E : Env) (o : Nat) : Ob → Prop
  | .box cs => ∃ b T, ∃ vs : List Value, E.bo o = some b ∧ E.w.heap[b]? = some (.cells vs.toArray T (0, 0)) ∧ vs.length = cs.length ∧ ∀ j, j < cs.length → RV0 E (cs.getD j .un) (vs.getD j undef') ∧ (vs.getD j undef').oneCell' = true
  | .row fl T esz n L => L.length = n ∧ 0 < esz ∧ (∀ l ∈ L, l.length = esz) ∧ (fl = true → ∀ l ∈ L, ∀ d ∈ l, flatD d = true) ∧ E.bo o = (E.σ o).ownBlock ∧ ∃ vs : List Value, E.w.ownsRow 0 T esz (E.σ o) n vs ∧
      ∀ i j, i < n → j < esz → RP E.w E.ok ((L.getD i []).getD j .un) (vs.getD (i * esz + j) undef') ∧ (vs.getD (i * esz + j) undef').oneCell' = true

def refs0 : DV → List Nat
  | .bx o _ | .ow o | .pw o _ _ _ => [o]
  | .cl _ cs => cs.map (·.1)
  | _ => []
def refs1 : DV → List Nat
  | .ag cs => cs.flatMap refs0
  | d => refs0 d
def refs : DV → List Nat
  | .tu vs => vs.flatMap refs1
  | d => refs1 d
def orefs : Ob → List Nat
  | .box cs => cs.flatMap refs0
  | .row .. => []

abbrev Obs := List (Nat × Ob)

/-- old streams, old blocks but for some -/
structure Keep (w w' : World) (X : Nat → Prop) : Prop where
  os : w'.os = w.os
  tape : w'.tape = w.tape
  output : w'.output = w.output
  size : w.heap.size ≤ w'.heap.size
  block : ∀ k, k < w.heap.size → ¬ X k → w'.heap[k]? = w.heap[k]?

def okAfter (w w' : World) (ok : Nat → Prop) (bo : Nat → Option Nat) (pre : Obs) (bo' : Nat → Option Nat) (post : Obs) (k : Nat) : Prop :=
  k < w'.heap.size ∧ (k < w.heap.size → ok k ∨ ∃ q ∈ pre, bo q.1 = some k) ∧ ∀ p ∈ post, bo' p.1 ≠ some k

/-- what a function's contract says: handed these, with these own objects, it returns this and leaves these objects -/
def Fn (P : Program) (f : Nat) (as : List DV) (pre post : Obs) (r : DV) : Prop :=
  ∀ (w : World) (bo : Nat → Option Nat) (σ : Nat → Value) (ok : Nat → Prop) (vs : List Value),
    vs.length = as.length → (∀ j, j < as.length → RV1 ⟨w, bo, σ, ok⟩ (as.getD j .un) (vs.getD j undef')) →
    (∀ p ∈ pre, ObOk ⟨w, bo, σ, ok⟩ p.1 p.2) → (∀ p ∈ pre, ∀ b, bo p.1 = some b → b < w.heap.size ∧ ¬ ok b) →
    (∀ p ∈ pre, ∀ q ∈ pre, ∀ b, bo p.1 = some b → bo q.1 = some b → p.1 = q.1) → (∀ b, ok b → b < w.heap.size) →
    Calls P f vs.toArray w fun e w' => ∃ x bo' σ', e = .returned x ∧ Keep w w' (fun k => ∃ p ∈ pre, bo p.1 = some k) ∧
      RV ⟨w', bo', σ', okAfter w w' ok bo pre bo' post⟩ r x ∧ (∀ p ∈ post, ObOk ⟨w', bo', σ', okAfter w w' ok bo pre bo' post⟩ p.1 p.2) ∧
      (∀ p ∈ post, ∀ b, bo' p.1 = some b → b < w'.heap.size ∧ (b < w.heap.size → ∃ q ∈ pre, bo q.1 = some b)) ∧
      (∀ p ∈ post, ∀ q ∈ post, ∀ b, bo' p.1 = some b → bo' q.1 = some b → p.1 = q.1) ∧ (∀ p ∈ pre, bo' p.1 = bo p.1 ∧ σ' p.1 = σ p.1)

/-- the state of a function at work -/
structure St where
  fr : List DV
  ob : Obs

def lk (o : Nat) : Obs → Option Ob
  | [] => none
  | (k, x) :: l => if k == o then some x else lk o l
def del (o : Nat) : Obs → Obs
  | [] => []
  | (k, x) :: l => if k == o then del o l else (k, x) :: del o l
def St.slot (S : St) (t : Nat) : DV := S.fr.getD t .un
def St.obj (S : St) (o : Nat) : Option Ob := lk o S.ob

/-- a place of the state -/
inductive Loc where
  | sl (t : Nat)
  | ob (o : Nat)
  deriving DecidableEq

end Go.Eng
end
/-! The abstract machine: the run. -/
section
set_option linter.unusedSimpArgs false
set_option linter.unusedVariables false
namespace Go.Eng
open Go

inductive It where
  | code (c : Code)
  | endb (id : Nat)
  | lp (c : Code)

/-- a place of a cell -/
inductive Pl where
  | sl (t : Nat)
  | sc (t j : Nat)
  | ob (o j : Nat)

/-- another telling of one cell: a nil slice as an own row or as one that is read alone, an own row as one that is read alone -/
inductive Adj where
  | own (pl : Pl) (k T esz : Nat) (fl : Bool)
  | nro (pl : Pl) (esz : Nat) (fl : Bool)
  | frz (pl : Pl)

variable (P : Program) (Φ : List It → St → Prop)

/-- what the one who proves hands in, in the run's order -/
inductive Ora where
  | br {c b : Bool} (h : c = b)
  | num {n m : Int} (h : n = m)
  | nz {y : Int} (h : y ≠ 0)
  | le {a b : Nat} (h : a ≤ b)
  | ib {i : Int} {s : Nat} (h : 0 ≤ i ∧ i < s)
  | el {i : Int} {L : List (List DV)} {cs : List DV} (h : 0 ≤ i ∧ L[i.toNat]? = some cs)
  | upd {n n' : Nat} {L : List (List DV)} {i : Nat} {cs : List DV} {L' : List (List DV)} (h : L.set i cs = L' ∧ n = n')
  | cat {n k : Nat} {L M L' : List (List DV)} (h : L ++ M = L' ∧ n = k)
  | call (to : List (Nat × Nat)) {f : Nat} {as : List DV} {pre post : Obs} {r : DV} (h : Fn P f as pre post r)
  | seg {L L' : List (List DV)} {lo hi : Int} {n n' : Nat} (h : 0 ≤ lo ∧ lo ≤ hi ∧ hi ≤ n ∧ (L.take hi.toNat).drop lo.toNat = L' ∧ L'.length = n')
  | b3 {lo hi : Int} {n : Nat} (h : 0 ≤ lo ∧ lo ≤ hi ∧ hi ≤ n)
  | sx {i : Int} {s : ByteArray} {b : UInt8} (h : 0 ≤ i ∧ s[i.toNat]? = some b)
  | mks {n m : Int} {k : Nat} {z : List DV} {L : List (List DV)} (h : n = (k : Int) ∧ m = (k : Int) ∧ List.replicate k z = L)
  | str {L : List (List DV)} {s : ByteArray} (h : L = s.data.toList.map fun c => [.v (.int .u8 (c.toNat : Int))])
  | adj (id : Nat) (c : Adj)
  | tidy (id : Nat) (keep : List Nat) (to : List (Nat × Nat))
  | unroll
  | fin (id : Nat) (keep : List Nat) (to : List (Nat × Nat)) {items : List It} {S : St} (h : Φ items S)

/-- what the run asks -/
inductive Ask where
  | br (c b : Bool)
  | num (n m : Int)
  | nz (y : Int)
  | le (a b : Nat)
  | ib (i : Int) (s : Nat)
  | el (i : Int) (L : List (List DV)) (cs : List DV)
  | upd (n n' : Nat) (L : List (List DV)) (i : Nat) (cs : List DV) (L' : List (List DV))
  | cat (n k : Nat) (L M L' : List (List DV))
  | call (f : Nat) (as : List DV) (pre post : Obs) (r : DV)
  | seg (L L' : List (List DV)) (lo hi : Int) (n n' : Nat)
  | b3 (lo hi : Int) (n : Nat)
  | sx (i : Int) (s : ByteArray) (b : UInt8)
  | mks (n m : Int) (k : Nat) (z : List DV) (L : List (List DV))
  | str (L : List (List DV)) (s : ByteArray)
  | adj
  | unroll
  | fin (items : List It) (S : St)
  | ret (r : DV) (post : Obs)

variable {P Φ}
def Ora.ask : Ora P Φ → Ask
  | @Ora.br _ _ c b _ => .br c b
  | @Ora.num _ _ n m _ => .num n m
  | @Ora.nz _ _ y _ => .nz y
  | @Ora.le _ _ a b _ => .le a b
  | @Ora.ib _ _ i s _ => .ib i s
  | @Ora.el _ _ i L cs _ => .el i L cs
  | @Ora.upd _ _ n n' L i cs L' _ => .upd n n' L i cs L'
  | @Ora.cat _ _ n k L M L' _ => .cat n k L M L'
  | @Ora.call _ _ _ f as pre post r _ => .call f as pre post r
  | @Ora.seg _ _ L L' lo hi n n' _ => .seg L L' lo hi n n'
  | @Ora.b3 _ _ lo hi n _ => .b3 lo hi n
  | @Ora.sx _ _ i s b _ => .sx i s b
  | @Ora.mks _ _ n m k z L _ => .mks n m k z L
  | @Ora.str _ _ L s _ => .str L s
  | .adj _ _ => .adj
  | .tidy _ _ _ => .adj
  | .unroll => .unroll
  | @Ora.fin _ _ _ _ _ items S _ => .fin items S
variable (P Φ)

/-- an operation, as a reading of places -/
inductive RD (α : Type) where
  | ret (a : α)
  | slot (t : Nat) (k : DV → RD α)
  | obj (o : Nat) (k : Ob → RD α)
  | peek (k : Ora P Φ → RD α)
  | req (d : Ask) (k : RD α)
  | fail

variable {P Φ}
def RD.bind {α β : Type} : RD P Φ α → (α → RD P Φ β) → RD P Φ β
  | .ret a, f => f a
  | .slot t k, f => .slot t fun d => (k d).bind f
  | .obj o k, f => .obj o fun d => (k d).bind f
  | .peek k, f => .peek fun d => (k d).bind f
  | .req d k, f => .req d (k.bind f)
  | .fail, _ => .fail

def RD.go {α : Type} (S : St) : RD P Φ α → List (Ora P Φ) → Option (α × List Loc × List Ask × List (Ora P Φ))
  | .ret a, os => some (a, [], [], os)
  | .slot t k, os => match (k (S.slot t)).go S os with
    | some (a, R, D, os') => some (a, .sl t :: R, D, os')
    | none => none
  | .obj o k, os => match S.obj o with
    | some x => match (k x).go S os with
      | some (a, R, D, os') => some (a, .ob o :: R, D, os')
      | none => none
    | none => none
  | .peek k, os => match os with
    | o :: os => (k o).go S (o :: os)
    | [] => none
  | .req d k, os => match os with
    | _ :: os => match k.go S os with
      | some (a, R, D, os') => some (a, R, d :: D, os')
      | none => none
    | [] => none
  | .fail, _ => none

structure Upd where
  sl : List (Nat × DV)
  ob : List (Nat × Option Ob)
  new : List Nat

def St.put (S : St) : List (Nat × DV) → St
  | [] => S
  | (t, d) :: l => St.put ⟨S.fr.set t d, S.ob⟩ l
def setOb (o : Nat) (x : Ob) : Obs → Obs
  | [] => [(o, x)]
  | (k, y) :: l => if k == o then (k, x) :: l else (k, y) :: setOb o x l
def putOb : List (Nat × Option Ob) → Obs → Obs
  | [], l => l
  | (o, some x) :: us, l => putOb us (setOb o x l)
  | (o, none) :: us, l => putOb us (del o l)
def St.app (S : St) (u : Upd) : St := ⟨(S.put u.sl).fr, putOb u.ob S.ob⟩

/-! types -/
def tsize (P : Program) (T : Nat) : Option Nat := (P.info? T).map (·.size)
def tagg (P : Program) (T : Nat) : Option Bool := match P.underlying T with | some (.struct _) | some (.array _ _) => some true | some _ => some false | none => none
def tzero (P : Program) (T : Nat) : Option Value := match P.info? T with | some i => i.zero | none => none

/-- a value of the program, as an abstract one -/
def ofV0 : Value → DV
  | .bool b => .lb b
  | .slice none 0 0 => .nl
  | x => .v x
def ofV : Value → DV
  | .agg cs => .ag (cs.toList.map ofV0)
  | x => ofV0 x
/-- what an operation yields: bools may be unknown -/
def ofR : Value → DV
  | .agg cs => .ag (cs.toList.map .v)
  | x => .v x
def toV0 : DV → Option Value
  | .v x => some x
  | .lb b => some (.bool b)
  | .nl => some (.slice none 0 0)
  | _ => none
def toVs : List DV → Option (List Value)
  | [] => some []
  | d :: l => match toV0 d, toVs l with
    | some x, some xs => some (x :: xs)
    | _, _ => none
def toV : DV → Option Value
  | .ag cs => match toVs cs with | some l => some (.agg l.toArray) | none => none
  | d => toV0 d

/-- cells of one place each -/
def okV : Value → Bool
  | .agg cs => cs.toList.all (·.oneCell')
  | x => x.oneCell'

def opd : Operand → RD P Φ DV
  | .tmp t => .slot t .ret
  | .const v => if okV v then .ret (ofV v) else .fail
  | .global g => .ret (.v (.pointer (some ⟨g, 0, none⟩)))
  | .func f => .ret (.v (.func (.func f) #[] #[]))

def opds : List Operand → RD P Φ (List DV)
  | [] => .ret []
  | x :: l => (opd x).bind fun d => (opds l).bind fun ds => .ret (d :: ds)

/-- a Sem without memory -/
def evP (P : Program) {α : Type} : Sem α → Option α
  | .pure a => some a
  | .program k => evP P (k P)
  | .mark _ k => evP P k
  | _ => none

def one (d : Option Nat) (x : DV) : Upd := ⟨match d with | some t => [(t, x)] | none => [], [], []⟩

def setRange : List DV → Nat → List DV → List DV
  | cs, _, [] => cs
  | cs, off, d :: l => setRange (cs.set off d) (off + 1) l

def cellsOf : DV → List DV
  | .ag cs => cs
  | d => [d]

/-- the cells of type T at off -/
def pickC (P : Program) (T : Nat) (cs : List DV) (off : Nat) : Option DV :=
  match tsize P T, tagg P T with
  | some n, some g => if off + n ≤ cs.length ∧ 0 < n then (if g then some (.ag ((cs.drop off).take n)) else cs[off]?) else none
  | _, _ => none

def place (P : Program) (T : Nat) (f : Nat) : Option (Nat × Nat) :=
  match P.underlying T with
  | some (.struct fs) => match fs[f]? with | some fd => (tsize P fd.type).map fun s => (fd.offset, s) | none => none
  | some (.array n e) => if f < n then (tsize P e).map fun s => (f * s, s) else none
  | _ => none

def buildC (P : Program) (T : Nat) : List (Nat × DV) → List DV → Option (List DV)
  | [], cs => some cs
  | (i, d) :: l, cs => match place P T i with
    | some (off, s) => if (cellsOf d).length == s && off + s ≤ cs.length then buildC P T l (setRange cs off (cellsOf d)) else none
    | none => none

def ofO {α : Type} : Option α → RD P Φ α
  | some a => .ret a
  | none => .fail

/-- a bool is known, or asked -/
def known (d : DV) : RD P Φ Bool :=
  match d with
  | .lb b => .ret b
  | .v (.bool c) => .peek fun o => match o with
    | @Ora.br _ _ _ b _ => .req (.br c b) (.ret b)
    | _ => .fail
  | _ => .fail

end Go.Eng
end
/-! The abstract machine: operations and control. -/
section
set_option linter.unusedSimpArgs false
set_option linter.unusedVariables false
namespace Go.Eng
open Go
variable {P : Program} {Φ : List It → St → Prop}

/-- a bool that is known, told as a value -/
def nrm0 : DV → DV
  | .lb b => .v (.bool b)
  | d => d

def oneD : DV → Bool
  | .v x => x.oneCell'
  | .lb _ | .nl | .bx .. | .ow _ | .pw .. | .ro .. | .pe .. | .cl .. => true
  | _ => false

def fwd (to : List (Nat × Nat)) (o : Nat) : Option Nat := (to.find? (·.1 == o)).map (·.2)
def bwd (to : List (Nat × Nat)) (k : Nat) : Option Nat := (to.find? (·.2 == k)).map (·.1)

/-- what a closure has captured, by other names -/
def mapC (g : Nat → Option Nat) : List (Nat × Nat) → Option (List (Nat × Nat))
  | [] => some []
  | (o, off) :: l => match g o, mapC g l with
    | some k, some r => some ((k, off) :: r)
    | _, _ => none

/-- our own things, as the callee's own -/
def put0 (to : List (Nat × Nat)) : DV → Option DV
  | .ow o => (fwd to o).map .ow
  | .bx o off => (fwd to o).map fun k => .bx k off
  | .v x => some (.v x)
  | .lb b => some (.v (.bool b))
  | .nl => some .nl
  | .ro fl esz n L => some (.ro fl esz n L)
  | .cl f cs => (mapC (fwd to) cs).map (.cl f)
  | _ => none
def putL (to : List (Nat × Nat)) : List DV → Option (List DV)
  | [] => some []
  | d :: l => match put0 to d, putL to l with
    | some x, some xs => some (x :: xs)
    | _, _ => none

/-- what an argument of a call is told as: own rows may be lent for reading alone -/
def argOf (to : List (Nat × Nat)) : DV → RD P Φ DV
  | .ow o => match fwd to o with
    | some k => .ret (.ow k)
    | none => .obj o fun x => match x with | .row fl _ esz n L => .ret (.ro fl esz n L) | _ => .fail
  | d => ofO (put0 to d)
def argL (to : List (Nat × Nat)) : List DV → RD P Φ (List DV)
  | [] => .ret []
  | d :: l => (argOf to d).bind fun x => (argL to l).bind fun xs => .ret (x :: xs)
def argOf1 (to : List (Nat × Nat)) : DV → RD P Φ DV
  | .ag cs => (argL to cs).bind fun l => .ret (.ag l)
  | d => argOf to d
def argsOf (to : List (Nat × Nat)) : List DV → RD P Φ (List DV)
  | [] => .ret []
  | d :: l => (argOf1 to d).bind fun x => (argsOf to l).bind fun xs => .ret (x :: xs)

def back0 (to : List (Nat × Nat)) : DV → DV
  | .ow k => match bwd to k with | some o => .ow o | none => .un
  | .bx k off => match bwd to k with | some o => .bx o off | none => .un
  | .pw .. => .un
  | .cl .. => .un
  | d => d
def back1 (to : List (Nat × Nat)) : DV → DV
  | .ag cs => .ag (cs.map (back0 to))
  | d => back0 to d
def back (to : List (Nat × Nat)) : DV → DV
  | .tu vs => .tu (vs.map (back1 to))
  | d => back1 to d
def backO (to : List (Nat × Nat)) : Ob → Ob
  | .box cs => .box (cs.map (back0 to))
  | x => x

def putO (to : List (Nat × Nat)) : Ob → Option Ob
  | .box cs => (putL to cs).map .box
  | x => some x
/-- the callee's own objects, as the caller has them -/
def preOf (to : List (Nat × Nat)) : Obs → RD P Φ Obs
  | [] => .ret []
  | (k, _) :: l => match bwd to k with
    | some o => .obj o fun x => (ofO (putO to x)).bind fun y => (preOf to l).bind fun r => .ret ((k, y) :: r)
    | none => .fail

def isPre (pre : Obs) (k : Nat) : Bool := pre.any (·.1 == k)

/-- what the call leaves: the objects that came back, those that are gone -/
def postUpd (to : List (Nat × Nat)) (pre post : Obs) : List (Nat × Option Ob) × List Nat :=
  ((pre.filterMap fun p => (bwd to p.1).map fun o => (o, none)) ++ (post.filterMap fun p => (bwd to p.1).map fun o => (o, some (backO to p.2))),
   post.filterMap fun p => if isPre pre p.1 then none else bwd to p.1)

def callable (P : Program) (f : Nat) : Bool := match P.funcs[f]? with | some fn => fn.body.isSome && !(fn.name == "runtime.NumGoroutine") | none => false

def nodupB : List Nat → Bool
  | [] => true
  | x :: l => !l.any (· == x) && nodupB l
def subB (l m : List Nat) : Bool := l.all fun x => m.any (· == x)

def toOk (to : List (Nat × Nat)) (pre post : Obs) : Bool :=
  nodupB (to.map (·.1)) && nodupB (to.map (·.2)) && nodupB (pre.map (·.1)) && nodupB (post.map (·.1)) && subB (pre.map (·.1)) (to.map (·.2)) && subB (to.map (·.2)) (pre.map (·.1) ++ post.map (·.1))

def roFree0 : DV → Bool
  | .ro .. | .pe .. => false
  | _ => true
def roFree1 : DV → Bool
  | .ag cs => cs.all roFree0
  | d => roFree0 d
def roFree : DV → Bool
  | .tu vs => vs.all roFree1
  | d => roFree1 d
def roFreeO : Ob → Bool
  | .box cs => cs.all roFree0
  | .row fl .. => fl

/-- rows of our own that are lent -/
def lentIds0 (to : List (Nat × Nat)) : DV → List Nat
  | .ow o => if (fwd to o).isNone then [o] else []
  | _ => []
def lentIds1 (to : List (Nat × Nat)) : DV → List Nat
  | .ag cs => cs.flatMap (lentIds0 to)
  | d => lentIds0 to d
/-- may lent rows come back to us? if not, they are gone -/
def consumed (to : List (Nat × Nat)) (ds : List DV) (r : DV) (post : Obs) : List (Nat × Option Ob) :=
  if roFree r && post.all fun p => roFreeO p.2 then [] else (ds.flatMap (lentIds1 to)).map fun o => (o, none)

def callD (dst : Option Nat) (f : Nat) (ds : List DV) : RD P Φ Upd :=
  if callable P f then
    .peek fun q => match q with
      | @Ora.call _ _ to _ _ pre post r _ => (argsOf to ds).bind fun as => (preOf to pre).bind fun pre' =>
        if toOk to pre post then
          .req (.call f as pre' post r) (.ret ⟨(one dst (back to r)).sl, consumed to ds r post ++ (postUpd to pre post).1, (postUpd to pre post).2⟩)
        else .fail
      | _ => .fail
  else .fail

def callE (dst : Option Nat) (f : Nat) (args : List Operand) : RD P Φ Upd :=
  (opds args).bind fun ds => callD dst f ds

/-- the call of a closure -/
def callV (dst : Option Nat) (x : Operand) (args : List Operand) : RD P Φ Upd :=
  (opd x).bind fun d => match d with
    | .cl f cs => (opds args).bind fun ds => callD dst f (ds ++ cs.map fun p => .bx p.1 p.2)
    | _ => .fail

def capsOf : List DV → Option (List (Nat × Nat))
  | [] => some []
  | .bx o off :: l => (capsOf l).map ((o, off) :: ·)
  | _ => none

def intOfD : DV → RD P Φ Int
  | .v (.int _ n) => .ret n
  | _ => .fail

def rowOf (d : DV) : RD P Φ (Bool × Nat × Nat × List (List DV)) :=
  match d with
  | .ro fl esz n L => .ret (fl, esz, n, L)
  | .ow o => .obj o fun | .row fl _ esz n L => .ret (fl, esz, n, L) | _ => .fail
  | _ => .fail

def lenE (T : Nat) (d : DV) : RD P Φ DV :=
  match P.underlying T with
  | some .string => match d with
    | .v (.string s) => .ret (.v (.int .i64 (s.size : Nat)))
    | _ => .fail
  | some (.slice _) => match d with
    | .nl => .ret (.v (.int .i64 0))
    | d => (rowOf d).bind fun r => .ret (.v (.int .i64 (r.2.2.1 : Nat)))
  | _ => .fail

def zeroOk (P : Program) (e s : Nat) : Bool := match P.info? e with | some i => i.size == s && i.zero.isSome && decide (0 < i.bytes) && i.zero.map (fun z => z.cells.size) == some i.size | none => false

def ofDst (dst : Option Nat) (r : RD P Φ DV) : RD P Φ Upd := r.bind fun d => .ret (one dst d)

def elemT (P : Program) (T : Nat) : Option Nat := match P.underlying T with | some (.slice e) => some e | _ => none

def resE (v : Option Value) : RD P Φ DV := (ofO v).bind fun v => if okV v then .ret (ofR v) else .fail

def binE (op : BinOp) (T : Nat) (x y : Operand) : RD P Φ DV :=
  (opd x).bind fun d => (opd y).bind fun e => match toV d, toV e with
    | some a, some b => resE (evP P (do eqGuard op T x y a b; binOp op T a b))
    | _, _ => .fail

mutual
/-- equality of two values, the cells unknown -/
def eqV (P : Program) : Nat → Nat → TypeId → Value → Value → Option Bool
  | 0, _, _, _, _ => none
  | k + 1, d, t, x, y => match P.underlying t, x, y with
    | some (.struct fs), .agg xs, .agg ys => if P.stoodInHeld t then none else match d with
      | d + 1 => eqF P k d xs ys fs.toList
      | 0 => none
    | some (.array n e), .agg xs, .agg ys => match P.info? e, d with
      | some _, d + 1 => eqA P k d e xs ys (List.range n)
      | _, _ => none
    | some _, x, y => evP P (Op.equalIn (d + 1) t x y)
    | none, _, _ => none
def eqF (P : Program) : Nat → Nat → Array Value → Array Value → List Field → Option Bool
  | 0, _, _, _, _ => none
  | _, _, _, _, [] => some true
  | k + 1, d, xs, ys, f :: fs => if f.name ≠ "_" then match evP P (part f.type xs f.offset), evP P (part f.type ys f.offset) with
      | some a, some b => match eqV P k d f.type a b, eqF P k d xs ys fs with
        | some r, some q => some (r && q)
        | _, _ => none
      | _, _ => none
    else none
def eqA (P : Program) : Nat → Nat → TypeId → Array Value → Array Value → List Nat → Option Bool
  | 0, _, _, _, _, _ => none
  | _, _, _, _, _, [] => some true
  | k + 1, d, e, xs, ys, i :: is => match evP P (part e xs (i * P.cellsOf e)), evP P (part e ys (i * P.cellsOf e)) with
      | some a, some b => match eqV P k d e a b, eqA P k d e xs ys is with
        | some r, some q => some (r && q)
        | _, _ => none
      | _, _ => none
end

def eqE (neg : Bool) (T : Nat) (x y : Operand) : RD P Φ DV :=
  (opd x).bind fun d => (opd y).bind fun e => match toV d, toV e with
    | some (.agg a), some (.agg b) => if P.eqGuardType P.depth T then .fail else (ofO (eqV P 20 9999 T (.agg a) (.agg b))).bind fun r => .ret (.v (.bool (if neg then !r else r)))
    | some a, some b => resE (evP P (do eqGuard (if neg then .neq else .eql) T x y a b; binOp (if neg then .neq else .eql) T a b))
    | _, _ => .fail

def unE (op : UnOp) (x : Operand) : RD P Φ DV :=
  (opd x).bind fun d => match op, d with
    | .not, .lb b => .ret (.lb (!b))
    | op, d => match toV d with
      | some a => resE (evP P (Op.unary op a))
      | none => .fail

def convE (s t : Nat) (x : Operand) : RD P Φ DV :=
  (opd x).bind fun d => match toV d with
    | some a => resE (evP P (convert s t a))
    | none => .fail

def toVals : List DV → Option (List Value)
  | [] => some []
  | d :: l => match toV d, toVals l with
    | some x, some xs => some (x :: xs)
    | _, _ => none

def maxE (isMax : Bool) (Ts : Array Nat) (T : Nat) (xs : List Operand) : RD P Φ DV :=
  (opds xs).bind fun ds => match toVals ds with
    | some vs => resE (evP P (if isMax then Builtin.max_ Ts T vs.toArray else Builtin.min_ Ts T vs.toArray))
    | none => .fail

def divE (quo : Bool) (x y : Operand) : RD P Φ DV :=
  (opd x).bind fun d => (opd y).bind fun e => match d, e with
    | .v (.int k a), .v (.int k' b) => if k == k' then .peek fun _ => .req (.nz b) (.ret (.v (.int k (if quo then k.wrap (a.tdiv b) else a.tmod b)))) else .fail
    | _, _ => .fail

def dropO : Option Nat → List (Nat × Option Ob)
  | some o => [(o, none)]
  | none => []

def appendE (dst : Option Nat) (T : Nat) (a b : DV) : RD P Φ Upd :=
  match elemT P T, dst with
  | some e, some t => match P.info? e with
    | some i => ((match b with | .nl => .ret (true, i.size, 0, []) | b => rowOf b : RD P Φ (Bool × Nat × Nat × List (List DV)))).bind fun (gl, esz, m, M) =>
      ((match a with | .nl => .ret (true, none, 0, []) | .ow o => .obj o (fun x => match x with | .row fl T' s n L => if T' == e && s == i.size then .ret (fl, some o, n, L) else .fail | _ => .fail) | _ => .fail : RD P Φ (Bool × Option Nat × Nat × List (List DV)))).bind fun (fl, o, n, L) =>
      if i.size == esz && decide (0 < esz) && zeroOk P e esz then
        .peek fun _ => .req (.le ((n + m) * i.bytes) 140737488355328) (.peek fun q => match q with
          | @Ora.cat _ _ n' _ _ _ L' _ => .req (.cat n' (n + m) L M L') (.ret ⟨[(t, .ow t)], dropO o ++ [(t, some (.row (fl && gl) e esz n' L'))], [t]⟩)
          | _ => .fail)
      else .fail
    | none => .fail
  | _, _ => .fail

def loadE (T : Nat) (p : DV) : RD P Φ DV :=
  match p with
  | .bx k off => .obj k fun x => match x with | .box cs => ofO (pickC P T cs off) | _ => .fail
  | .pe cs off => ofO (pickC P T cs off)
  | .pw k i esz off => .obj k fun x => match x with
    | .row _ _ s _ L => if s == esz then .peek fun q => match q with
      | @Ora.el _ _ _ _ cs _ => .req (.el (i : Int) L cs) (ofO (pickC P T cs off))
      | _ => .fail
      else .fail
    | _ => .fail
  | _ => .fail

def storeE (p : DV) (l : List DV) : RD P Φ Upd :=
  match p with
  | .bx k off => .obj k fun x => match x with
    | .box cs => if off + l.length ≤ cs.length then .ret ⟨[], [(k, some (.box (setRange cs off l)))], []⟩ else .fail
    | _ => .fail
  | .pw k i esz off => .obj k fun x => match x with
    | .row fl T s n L => if s == esz then .peek fun q => match q with
      | @Ora.el _ _ _ _ cs _ => .req (.el (i : Int) L cs) (.peek fun q => match q with
        | @Ora.upd _ _ _ n' _ _ _ L' _ => if off + l.length ≤ cs.length && l.all flatD then .req (.upd n n' L i (setRange cs off (l.map nrm0)) L') (.ret ⟨[], [(k, some (.row fl T s n' L'))], []⟩) else .fail
        | _ => .fail)
      | _ => .fail
      else .fail
    | _ => .fail
  | _ => .fail

def fieldE (T f : Nat) (d : DV) : RD P Φ DV :=
  match place P T f with
  | some (off', s) => if s == 0 then .fail else match d with
    | .bx k off => .ret (.bx k (off + off'))
    | .pe cs off => .ret (.pe cs (off + off'))
    | .pw k i esz off => .ret (.pw k i esz (off + off'))
    | _ => .fail
  | none => .fail

def indexE (T : Nat) (i : Operand) (d : DV) (n : Int) : RD P Φ DV :=
  match d with
  | .bx k off => (match i with
    | .const _ => if 0 ≤ n then placeE n.toNat (.bx k off) else .fail
    | _ => .peek fun q => match q with
      | @Ora.num _ _ _ m _ => if 0 ≤ m then .req (.num n m) (placeE m.toNat (.bx k off)) else .fail
      | _ => .fail)
  | .ow k => .obj k fun x => match x with
    | .row _ T' esz n' _ => if elemT P T == some T' && tsize P T' == some esz then .peek fun _ => .req (.ib n n') (.ret (.pw k n.toNat esz 0)) else .fail
    | _ => .fail
  | .ro _ esz _ L => match elemT P T with
    | some T' => if tsize P T' == some esz then .peek fun q => match q with
      | @Ora.el _ _ _ _ cs _ => .req (.el n L cs) (.ret (.pe cs 0))
      | _ => .fail
      else .fail
    | none => .fail
  | _ => .fail
where placeE (j : Nat) (d : DV) : RD P Φ DV := match P.underlying T with
  | some (.array _ _) => fieldE T j d
  | _ => .fail

/-- own rows that are laid into a row are read alone from then on -/
def frz : List DV → RD P Φ (List DV × List Nat)
  | [] => .ret ([], [])
  | d :: l => (match d with
    | .ow o => .obj o fun x => match x with | .row fl _ esz n L => .ret (.ro fl esz n L, [o]) | _ => .fail
    | d => if rpD d && oneD d then .ret (nrm0 d, []) else .fail : RD P Φ (DV × List Nat)).bind fun r => (frz l).bind fun q => .ret (r.1 :: q.1, r.2 ++ q.2)
def frzL : List (List DV) → RD P Φ (List (List DV) × List Nat)
  | [] => .ret ([], [])
  | d :: l => (frz d).bind fun r => (frzL l).bind fun q => .ret (r.1 :: q.1, r.2 ++ q.2)

def optI (x : Option Operand) (d : Int) : RD P Φ Int := match x with
  | none => .ret d
  | some x => (opd x).bind intOfD

def sliceE (T : Nat) (x : Operand) (lo hi : Option Operand) : RD P Φ DV :=
  (opd x).bind fun d => match P.underlying T with
    | some .string => match d with
      | .v (.string s) => (optI lo 0).bind fun l => (optI hi s.size).bind fun h => .peek fun _ => .req (.b3 l h s.size) (.ret (.v (.string (s.extract l.toNat h.toNat))))
      | _ => .fail
    | some (.slice e) => match d with
      | .ro fl esz n L => if tsize P e == some esz then (optI lo 0).bind fun l => (optI hi n).bind fun h => .peek fun q => match q with
          | @Ora.seg _ _ _ L' _ _ _ n' _ => .req (.seg L L' l h n n') (.ret (.ro fl esz n' L'))
          | _ => .fail
        else .fail
      | _ => .fail
    | _ => .fail

/-- a byte of a string -/
def idxE (T : Nat) (x i : Operand) : RD P Φ DV :=
  (opd x).bind fun d => (opd i).bind fun e => (intOfD e).bind fun n => match P.underlying T with
    | some .string => match d with
      | .v (.string s) => .peek fun q => match q with
        | @Ora.sx _ _ _ _ b _ => .req (.sx n s b) (.ret (.v (.int .u8 (b.toNat : Int))))
        | _ => .fail
      | _ => .fail
    | _ => .fail

def zeroD : DV → Bool
  | .v _ | .lb _ | .nl => true
  | _ => false
def zeroL (z : Value) : List DV := (cellsOf (ofV z)).map nrm0

/-- a row of zeros -/
def mkE (dst : Option Nat) (T : Nat) (len cap : Operand) : RD P Φ Upd :=
  match dst, elemT P T with
  | some t, some e => match P.info? e with
    | some i => match i.zero with
      | some z => if okV z && (cellsOf (ofV z)).all zeroD && zeroOk P e i.size && decide (0 < i.size) then
          (opd len).bind fun a => (intOfD a).bind fun n => (opd cap).bind fun b => (intOfD b).bind fun m => .peek fun q => match q with
            | @Ora.mks _ _ _ _ k _ L _ => .req (.mks n m k (zeroL z) L) (.peek fun _ => .req (.le (k * i.bytes) 140737488355328) (.ret ⟨[(t, .ow t)], [(t, some (.row ((zeroL z).all flatD) e i.size k L))], [t]⟩))
            | _ => .fail
        else .fail
      | none => .fail
    | none => .fail
  | _, _ => .fail

/-- a beginning of an own row -/
def preE (dst : Option Nat) (T : Nat) (o' : Nat) (lo hi : Option Operand) : RD P Φ Upd :=
  match dst, lo, elemT P T with
  | some t, none, some e => .obj o' fun x => match x with
    | .row fl T' esz n L => if T' == e && tsize P e == some esz then (optI hi n).bind fun h => .peek fun q => match q with
        | @Ora.seg _ _ _ L' _ _ _ n' _ => .req (.seg L L' 0 h n n') (.ret ⟨[(t, .ow t)], [(o', none), (t, some (.row fl e esz n' L'))], [t]⟩)
        | _ => .fail
      else .fail
    | _ => .fail
  | _, _, _ => .fail
def slE (dst : Option Nat) (T : Nat) (x : Operand) (lo hi : Option Operand) : RD P Φ Upd :=
  (opd x).bind fun d => match d with
    | .ow o' => preE dst T o' lo hi
    | _ => ofDst dst (sliceE T x lo hi)

/-- bytes as a string -/
def strE (s t : Nat) (d : DV) : RD P Φ DV :=
  match P.underlying s, P.underlying t with
  | some (.slice e), some .string => match P.underlying e with
    | some (.int .u8) => (rowOf d).bind fun r => if r.2.1 == 1 then .peek fun q => match q with
        | @Ora.str _ _ _ b _ => .req (.str r.2.2.2 b) (.ret (.v (.string b)))
        | _ => .fail
      else .fail
    | _ => .fail
  | _, _ => .fail
def cvE (s t : Nat) (x : Operand) : RD P Φ DV :=
  (opd x).bind fun d => match d with
    | .ow o => strE s t (.ow o)
    | .ro fl esz n L => strE s t (.ro fl esz n L)
    | _ => convE s t x

/-- + of numbers or strings -/
def addE (T : Nat) (x y : Operand) : RD P Φ DV :=
  (opd x).bind fun d => match d with
    | .v (.string a) => (opd y).bind fun e => match e with
      | .v (.string b) => .peek fun _ => .req (.le (a.size + b.size) 9223372036854775807) (.ret (.v (.string (a ++ b))))
      | _ => .fail
    | _ => binE .add T x y

/-- shifts by a count that is no literal -/
def shE (left : Bool) (T : Nat) (x y : Operand) : RD P Φ DV :=
  match y with
  | .tmp _ => (opd x).bind fun d => (opd y).bind fun e => match d, e with
    | .v (.int k a), .v (.int _ n) => if k.bits == 64 then .peek fun _ => .req (.ib n 64) (.ret (.v (.int k (if left then k.wrap (a * 2 ^ n.toNat) else a.fdiv (2 ^ n.toNat))))) else .fail
    | _, _ => .fail
  | _ => binE (if left then .shl else .shr) T x y

def fieldsOk (P : Program) (T : Nat) : Bool := match P.underlying T with
  | some (.struct fs) => fs.toList.all fun f => (P.info? f.type).isSome
  | some (.array _ e) => (P.info? e).isSome
  | _ => false

def opE (o : Oper) : RD P Φ Upd :=
  match o.op with
  | .move x | .assign x => ofDst o.dst (opd x)
  | .pick c a b => ofDst o.dst ((opd c).bind fun d => (known d).bind fun t => if t then opd a else opd b)
  | .alloc T => match o.dst, tzero P T with
    | some t, some z => if okV z then .ret ⟨[(t, .bx t 0)], [(t, some (.box (cellsOf (ofV z))))], [t]⟩ else .fail
    | _, _ => .fail
  | .box _ x => (opd x).bind fun d => match o.dst with
    | some t => if (cellsOf d).all oneD then .ret ⟨[(t, .bx t 0)], [(t, some (.box (cellsOf d)))], [t]⟩ else .fail
    | none => .fail
  | .build T ps => ofDst o.dst ((opds (ps.toList.map (·.2))).bind fun ds => match tzero P T with
    | some z => if !okV z || !ds.all (fun d => (cellsOf d).all oneD) || !fieldsOk P T then .fail else (ofO (buildC P T ((ps.toList.map (·.1)).zip ds) (cellsOf (ofV z)))).bind fun cs => .ret (.ag cs)
    | none => .fail)
  | .buildSlice T n ps => (opds (ps.toList.map (·.2))).bind fun ds => match o.dst, elemT P T with
    | some t, some e => match tsize P e with
      | some s => if n == ds.length && ps.toList.map (·.1) == List.range n && ds.all (fun d => (cellsOf d).length == s) && decide (n * s ≤ 1000) && decide (0 < s) && zeroOk P e s then
          (frzL (ds.map cellsOf)).bind fun q => .ret ⟨[(t, .ow t)], q.2.map (fun o => (o, none)) ++ [(t, some (.row (q.1.all fun l => l.all flatD) e s n q.1))], [t]⟩ else .fail
      | none => .fail
    | _, _ => .fail
  | .load T a => ofDst o.dst ((opd a).bind fun p => loadE T p)
  | .store T a x => (opd a).bind fun p => (opd x).bind fun d =>
    if o.dst.isNone && tsize P T == some (cellsOf d).length && (cellsOf d).all oneD then storeE p (cellsOf d) else .fail
  | .nilCheck x => ofDst o.dst ((opd x).bind fun | .bx k off => .ret (.bx k off) | _ => .fail)
  | .binOp op T x y _ => ofDst o.dst (match op with
    | .quo => divE true x y
    | .rem => divE false x y
    | .eql => eqE false T x y
    | .neq => eqE true T x y
    | .add => addE T x y
    | .shl => shE true T x y
    | .shr => shE false T x y
    | op => binE op T x y)
  | .unOp op _ x => ofDst o.dst (unE op x)
  | .convert s t x => ofDst o.dst (cvE s t x)
  | .index T x i => ofDst o.dst (idxE T x i)
  | .makeSlice T len cap => mkE o.dst T len cap
  | .fieldAddr T x f => ofDst o.dst (match P.underlying T with
    | some (.struct _) => (opd x).bind fun d => fieldE T f d
    | _ => .fail)
  | .indexAddr T x i => ofDst o.dst ((opd x).bind fun d => (opd i).bind fun e => (intOfD e).bind fun n => indexE T i d n)
  | .slice T x lo hi mx => if mx.isNone then slE o.dst T x lo hi else .fail
  | .extract x j => ofDst o.dst ((opd x).bind fun | .tu vs => ofO vs[j]? | _ => .fail)
  | .makeFunc fn first caps => match fn with
    | .func f => if first.isEmpty then ofDst o.dst ((opds caps.toList).bind fun ds => (ofO (capsOf ds)).bind fun cs => .ret (.cl f cs)) else .fail
    | _ => .fail
  | .call c => match c.callee with
    | .value (.func f) => callE o.dst f c.args.toList
    | .value (.tmp t) => callV o.dst (.tmp t) c.args.toList
    | .builtin .len => ofDst o.dst (match c.args.toList, c.argTypes.toList with | [x], [T] => (opd x).bind fun d => lenE T d | _, _ => .fail)
    | .builtin .append => match c.args.toList, c.argTypes.toList with
      | [a, b], [T, T'] => if T == T' then (opd a).bind fun d => (opd b).bind fun e => appendE o.dst T d e else .fail
      | _, _ => .fail
    | .builtin .max => ofDst o.dst (maxE true c.argTypes o.type c.args.toList)
    | .builtin .min => ofDst o.dst (maxE false c.argTypes o.type c.args.toList)
    | _ => .fail
  | _ => .fail

/-- an operation; a bool that guards others is made known -/
def opRun (o : Oper) (guards : Bool) : RD P Φ Upd := (opE o).bind fun u => if guards then match u.sl with
  | [(t, d)] => (known d).bind fun b => .ret ⟨[(t, .lb b)], u.ob, u.new⟩
  | _ => .fail else .ret u

/-- with its guard -/
def opG (o : Oper) (ops : List Oper) (guards : Bool) : RD P Φ Upd :=
  match o.guard with
  | none => opRun o guards
  | some (g, b) => match ops[g]? with
    | some og => match og.dst with
      | some t => .slot t fun d => match d with | .lb c => if c == b then opRun o guards else .ret (one o.dst (.v undef')) | .v (.tuple _) => .ret (one o.dst (.v undef')) | _ => .fail
      | none => .fail
    | none => .fail

def isGuard (ops : List Oper) (i : Nat) : Bool := ops.any fun o => match o.guard with | some (g, _) => g == i | none => false

structure Info where
  R : List Loc
  W : List Loc

def Upd.locs (u : Upd) : List Loc := u.sl.map (fun p => .sl p.1) ++ u.ob.map (fun p => .ob p.1)

/-- the text's order; 'kl': the objects' names that have been used -/
def ops (all : List Oper) : Nat → List Oper → St → List Nat → List (Ora P Φ) → Option (St × List Nat × List Info × List Ask × List (Ora P Φ))
  | _, [], S, kl, os => some (S, kl, [], [], os)
  | i, o :: l, S, kl, os => match (opG o all (isGuard all i)).go S os with
    | some (u, R, D, os') => if nodupB u.new && u.new.all (fun n => !kl.any (· == n)) then match ops all (i + 1) l (S.app u) (u.new ++ kl) os' with
      | some (S', kl', I, D', os'') => some (S', kl', ⟨R, u.locs⟩ :: I, D ++ D', os'')
      | none => none
      else none
    | none => none

def Loc.eqb : Loc → Loc → Bool
  | .sl a, .sl b => a == b
  | .ob a, .ob b => a == b
  | _, _ => false
def meetB (l m : List Loc) : Bool := l.any fun x => m.any fun y => x.eqb y

/-- of each operation: all those that come ahead of it in every order -/
def ancs : List Oper → List (List Nat) → List (List Nat)
  | [], acc => acc
  | o :: l, acc => ancs l (acc ++ [o.after.toList.flatMap fun e => if Region.binds .any e then e.on :: acc.getD e.on [] else []])

def drawOk (l : List Oper) (I : List Info) : Bool :=
  let A := ancs l []
  (List.range l.length).all fun j => (l.getD j default).after.toList.all (fun e => !Region.binds .any e || decide (e.on < j)) &&
    (List.range j).all fun i => (A.getD j []).any (· == i) ||
      (let x := I.getD i ⟨[], []⟩; let y := I.getD j ⟨[], []⟩; !meetB x.W y.R && !meetB x.R y.W && !meetB x.W y.W)

def keepS (ks : List Nat) : Nat → List DV → List DV
  | _, [] => []
  | i, d :: l => (if ks.any (· == i) then d else .un) :: keepS ks (i + 1) l
def ren0 (to : List (Nat × Nat)) : DV → DV
  | .ow k => match fwd to k with | some o => .ow o | none => .un
  | .bx k off => match fwd to k with | some o => .bx o off | none => .un
  | .pw .. => .un
  | .lb b => .v (.bool b)
  | .cl f cs => match mapC (fwd to) cs with | some r => .cl f r | none => .un
  | d => d
def ren1 (to : List (Nat × Nat)) : DV → DV
  | .ag cs => .ag (cs.map (ren0 to))
  | .tu _ => .un
  | d => ren0 to d
def renO (to : List (Nat × Nat)) : Ob → Ob
  | .box cs => .box (cs.map (ren0 to))
  | x => x
def renS (ks : List Nat) (to : List (Nat × Nat)) (S : St) : St :=
  ⟨(keepS ks 0 S.fr).map (ren1 to), to.filterMap fun p => (S.obj p.1).map fun x => (p.2, renO to x)⟩

def popTo (id : Nat) : List It → Option (List It)
  | .endb id' :: k => if id' == id then some k else popTo id k
  | _ :: k => popTo id k
  | [] => none

/-- bools that are known, told as values -/
def nrm1 : DV → DV
  | .ag cs => .ag (cs.map nrm0)
  | d => nrm0 d
def nrmO : Ob → Ob
  | .box cs => .box (cs.map nrm0)
  | x => x

def resD (P : Program) (S : St) : ResultVar → Option DV
  | .tmp t => match S.slot t with | .tu _ => none | d => some (nrm1 d)
  | .cell a T => match S.slot a with
    | .bx o off => match S.obj o with
      | some (.box cs) => (pickC P T cs off).map nrm1
      | _ => none
    | _ => none
def resDs (P : Program) (S : St) : List ResultVar → Option (List DV)
  | [] => some []
  | x :: l => match resD P S x, resDs P S l with
    | some d, some ds => some (d :: ds)
    | _, _ => none
def result (P : Program) (fn : Func) (S : St) : Option DV :=
  match resDs P S fn.results.toList with
  | some [d] => some d
  | some ds => some (.tu ds)
  | none => none

def atFin (id : Nat) : List It → Bool
  | .code (.region i _ _) :: _ => i == id
  | .code (.loop _) :: _ => id == 100000
  | _ => false

def getP (S : St) : Pl → Option DV
  | .sl t => some (S.slot t)
  | .sc t j => match S.slot t with | .ag cs => cs[j]? | _ => none
  | .ob o j => match S.obj o with | some (.box cs) => cs[j]? | _ => none
/-- the update that puts a cell -/
def putP (S : St) (d : DV) : Pl → Option (List (Nat × DV) × List (Nat × Option Ob))
  | .sl t => some ([(t, d)], [])
  | .sc t j => match S.slot t with | .ag cs => some ([(t, .ag (cs.set j d))], []) | _ => none
  | .ob o j => match S.obj o with | some (.box cs) => some ([], [(o, some (.box (cs.set j d)))]) | _ => none

def adjU (S : St) (kl : List Nat) : Adj → Option Upd
  | .own pl k T esz fl => match getP S pl, putP S (.ow k) pl with
    | some .nl, some (sl, ob) => if decide (0 < esz) && !kl.any (· == k) then some ⟨sl, ob ++ [(k, some (.row fl T esz 0 []))], [k]⟩ else none
    | _, _ => none
  | .nro pl esz fl => match getP S pl, putP S (.ro fl esz 0 []) pl with
    | some .nl, some (sl, ob) => some ⟨sl, ob, []⟩
    | _, _ => none
  | .frz pl => match getP S pl with
    | some (.ow o) => match S.obj o with
      | some (.row fl _ esz n L) => match putP S (.ro fl esz n L) pl with
        | some (sl, ob) => some ⟨sl, ob ++ [(o, none)], []⟩
        | none => none
      | _ => none
    | _ => none

def adjAt (id : Nat) (its : List It) : Bool :=
  if id == 200000 then (match its with | [] => true | .code .ret :: _ => true | _ => false) else atFin id its

abbrev Rec (P : Program) (Φ : List It → St → Prop) := List It → St → List Nat → List (Ora P Φ) → Option (List Ask)

def endE (fn : Func) (po : List Nat) (S : St) (os : List (Ora P Φ)) : Option (List Ask) :=
  match result P fn S with
  | some r => if os.isEmpty then some [.ret r (po.filterMap fun o => (S.obj o).map fun x => (o, nrmO x))] else none
  | none => none

def stepE (fn : Func) (po : List Nat) (rec : Rec P Φ) (its : List It) (S : St) (kl : List Nat) (os : List (Ora P Φ)) : Option (List Ask) :=
    match its with
    | [] => endE fn po S os
    | .endb _ :: k => rec k S kl os
    | .lp c :: k => rec (.code (.loop c) :: k) S kl os
    | .code c :: k => match c with
      | .ret => endE fn po S os
      | .skip => rec k S kl os
      | .seq a b => rec (.code a :: .code b :: k) S kl os
      | .block id c => rec (.code c :: .endb id :: k) S kl os
      | .exit id => match popTo id k with | some k' => rec k' S kl os | none => none
      | .loop c => match os with
        | .unroll :: os => match rec (.code c :: .lp c :: k) S kl os with
          | some D => some (.unroll :: D)
          | none => none
        | _ => none
      | .cond x a b => match ((opd x : RD P Φ DV).bind known).go S os with
        | some (t, _, D, os') => match rec (.code (if t then a else b) :: k) S kl os' with
          | some D' => some (D ++ D')
          | none => none
        | none => none
      | .region _ os' draw => match ops os'.toList 0 os'.toList S kl os with
        | some (S', kl', I, D, os'') => if !draw || drawOk os'.toList I then match rec k S' kl' os'' with
          | some D' => some (D ++ D')
          | none => none
          else none
        | none => none
      | _ => none

/-- objects keep their names, or take names that no object of the caller has -/
def renOk (pi : List Nat) (to : List (Nat × Nat)) : Bool :=
  nodupB (to.map (·.1)) && nodupB (to.map (·.2)) && to.all fun p => p.1 == p.2 || (!pi.any (· == p.2) && !pi.any (· == p.1))

/-- all names that a state bears -/
def names (S : St) : List Nat := S.fr.flatMap refs ++ S.ob.flatMap fun p => p.1 :: orefs p.2

def run (fn : Func) (pi po : List Nat) : Nat → Rec P Φ
  | 0 => fun _ _ _ _ => none
  | n + 1 => fun its S kl os => match os with
    | .adj id c :: os' => if adjAt id its then (match adjU S kl c with
      | some u => match run fn pi po n its (S.app u) (u.new ++ kl) os' with
        | some D => some (.adj :: D)
        | none => none
      | none => none) else stepE fn po (run fn pi po n) its S kl os
    | .tidy id ks to :: os' => if adjAt id its && renOk pi to then (match run fn pi po n its (renS ks to S) (names (renS ks to S) ++ pi) os' with
        | some D => some (.adj :: D)
        | none => none) else stepE fn po (run fn pi po n) its S kl os
    | [@Ora.fin _ _ id ks to _ _ _] => if atFin id its then (if renOk pi to then some [.fin its (renS ks to S)] else none) else stepE fn po (run fn pi po n) its S kl os
    | _ => stepE fn po (run fn pi po n) its S kl os

end Go.Eng
end
/-! Soundness, 1: what stays true when the world goes on. -/
section
set_option linter.unusedSimpArgs false
set_option linter.unusedVariables false
namespace Go.Eng
open Go

theorem RP.mono {w w' : World} {ok ok' : Nat → Prop} {d : DV} {x : Value} (h : RP w ok d x) (hm : ∀ k, ok k → ok' k ∧ w'.heap[k]? = w.heap[k]?) : RP w' ok' d x := by
  induction h with
  | v x => exact .v x
  | lb b => exact .lb b
  | nl => exact .nl
  | ro fl esz n L A c ad f hL hc hm' hA he hf hr h1 hp ih =>
    rcases hA with h0 | ⟨hA, hok⟩
    · exact .ro fl esz n L A c ad f hL hc hm' (.inl h0) he hf (fun i j hi => by omega) (fun i j hi => by omega) (fun i j hi => by omega)
    · refine .ro fl esz n L A c ad f hL hc hm' (.inr ⟨hA, (hm _ hok).1⟩) he hf (fun i j hi hj => ?_) h1 ih
      rw [← hr i j hi hj]
      refine World.cell?_of_block ?_
      have : (ad.add (i * esz + j)).block = ad.block := by unfold Addr.add; split <;> rfl
      rw [this]; exact (hm _ hok).2

theorem add_block (a : Addr) (n : Nat) : (a.add n).block = a.block := by unfold Addr.add; split <;> rfl

/-- flat things do not ask for memory -/
theorem RP.flat {w : World} {ok ok' : Nat → Prop} {w' : World} {d : DV} {x : Value} (h : RP w ok d x) (hd : flatD d = true) : RP w' ok' d x := by
  cases h with
  | v x => exact .v x
  | lb b => exact .lb b
  | nl => simp [flatD] at hd
  | ro => simp [flatD] at hd

theorem RV0.mono {E E' : Env} {d : DV} {x : Value} (h : RV0 E d x) (hm : ∀ k, E.ok k → E'.ok k ∧ E'.w.heap[k]? = E.w.heap[k]?) (hb : ∀ o ∈ refs0 d, E'.bo o = E.bo o ∧ E'.σ o = E.σ o) : RV0 E' d x := by
  cases d with
  | un => trivial
  | v y => exact h
  | lb b => exact h
  | nl => exact h
  | bx o off => obtain ⟨b, h1, h2⟩ := h; exact ⟨b, by rw [(hb o (by simp [refs0])).1]; exact h1, h2⟩
  | ow o => exact ⟨by rw [(hb o (by simp [refs0])).2]; exact h.1, h.2⟩
  | pw o i esz off => obtain ⟨b, h1, h2⟩ := h; exact ⟨b, by rw [(hb o (by simp [refs0])).1]; exact h1, h2⟩
  | ro fl esz n L => exact RP.mono h hm
  | pe cs off =>
    obtain ⟨a0, h1, h2, h3⟩ := h
    refine ⟨a0, (hm _ h1).1, h2, fun j hj => ?_⟩
    obtain ⟨y, h4, h5, h6⟩ := h3 j hj
    exact ⟨y, by rw [← h4]; exact World.cell?_of_block (by rw [add_block]; exact (hm _ h1).2), h5, h6.mono hm⟩
  | ag cs => exact h
  | tu vs => exact h
  | cl f cs =>
    obtain ⟨vs, h1, h2, h3⟩ := h
    refine ⟨vs, h1, h2, fun j hj => ?_⟩
    obtain ⟨b, h4, h5⟩ := h3 j hj
    refine ⟨b, ?_, h5⟩
    rw [(hb (cs.getD j (0, 0)).1 (by simp only [refs0, List.mem_map]; exact ⟨_, by simp [List.getD_eq_getElem?_getD, hj], rfl⟩)).1]; exact h4

theorem getD_mem {α : Type} (l : List α) (j : Nat) (d : α) (h : j < l.length) : l.getD j d ∈ l := by
  simp [List.getD_eq_getElem?_getD, h]

theorem RV1.mono {E E' : Env} {d : DV} {x : Value} (h : RV1 E d x) (hm : ∀ k, E.ok k → E'.ok k ∧ E'.w.heap[k]? = E.w.heap[k]?) (hb : ∀ o ∈ refs1 d, E'.bo o = E.bo o ∧ E'.σ o = E.σ o) : RV1 E' d x := by
  cases d with
  | ag cs =>
    obtain ⟨vs, h1, h2, h3⟩ := h
    refine ⟨vs, h1, h2, fun j hj => ⟨(h3 j hj).1.mono hm fun o ho => hb o ?_, (h3 j hj).2⟩⟩
    simp only [refs1, List.mem_flatMap]
    exact ⟨_, getD_mem cs j _ hj, ho⟩
  | _ => simp only [RV1] at h ⊢; exact RV0.mono h hm hb

theorem RV.mono {E E' : Env} {d : DV} {x : Value} (h : RV E d x) (hm : ∀ k, E.ok k → E'.ok k ∧ E'.w.heap[k]? = E.w.heap[k]?) (hb : ∀ o ∈ refs d, E'.bo o = E.bo o ∧ E'.σ o = E.σ o) : RV E' d x := by
  cases d with
  | tu vs =>
    obtain ⟨xs, h1, h2, h3⟩ := h
    refine ⟨xs, h1, h2, fun j hj => (h3 j hj).mono hm fun o ho => hb o ?_⟩
    simp only [refs, List.mem_flatMap]
    exact ⟨_, getD_mem vs j _ hj, ho⟩
  | _ => simp only [RV] at h ⊢; exact RV1.mono h hm hb

theorem ownBlock_lt {w : World} {T esz n : Nat} {v : Value} {xs : List Value} (h : w.ownsRow 0 T esz v n xs) {b : Nat} (hb : v.ownBlock = some b) : b < w.heap.size := (h.lt b hb).2

theorem ownsRow_block {w w' : World} {T esz n : Nat} {v : Value} {xs : List Value} (h : w.ownsRow 0 T esz v n xs) (hb : ∀ b, v.ownBlock = some b → w'.heap[b]? = w.heap[b]?) : w'.ownsRow 0 T esz v n xs := by
  obtain ⟨h1, h2⟩ := h
  refine ⟨h1, ?_⟩
  rcases h2 with h2 | ⟨g, cap, cur, rfl, hg, hh, h3⟩
  · exact .inl h2
  · exact .inr ⟨g, cap, cur, rfl, hg, by rw [hb g (by simp [Value.ownBlock])]; exact hh, h3⟩

theorem ObOk.mono {E E' : Env} {o : Nat} {x : Ob} (h : ObOk E o x) (hm : ∀ k, E.ok k → E'.ok k ∧ E'.w.heap[k]? = E.w.heap[k]?) (hself : ∀ b, E.bo o = some b → E'.w.heap[b]? = E.w.heap[b]?)
    (ho : E'.bo o = E.bo o ∧ E'.σ o = E.σ o) (hb : ∀ p ∈ orefs x, E'.bo p = E.bo p ∧ E'.σ p = E.σ p) : ObOk E' o x := by
  cases x with
  | box cs =>
    obtain ⟨b, T, vs, h1, h2, h3, h4⟩ := h
    refine ⟨b, T, vs, by rw [ho.1]; exact h1, by rw [hself b h1]; exact h2, h3, fun j hj => ⟨(h4 j hj).1.mono hm fun p hp => hb p ?_, (h4 j hj).2⟩⟩
    simp only [orefs, List.mem_flatMap]
    exact ⟨_, getD_mem cs j _ hj, hp⟩
  | row fl T esz n L =>
    obtain ⟨h1, h2, h3, hfl, h4, vs, h5, h6⟩ := h
    refine ⟨h1, h2, h3, hfl, by rw [ho.1, ho.2]; exact h4, vs, ?_, fun i j hi hj => ⟨(h6 i j hi hj).1.mono hm, (h6 i j hi hj).2⟩⟩
    rw [ho.2]
    exact ownsRow_block h5 fun b hb' => hself b (by rw [h4]; exact hb')

/-- the call's surroundings -/
structure Amb where
  w0 : World
  bo : Nat → Option Nat
  σ : Nat → Value
  ok : Nat → Prop
  pre : Obs

def Amb.X (A : Amb) (k : Nat) : Prop := ∃ p ∈ A.pre, A.bo p.1 = some k

def okS (A : Amb) (S : St) (w : World) (bo : Nat → Option Nat) (k : Nat) : Prop :=
  k < w.heap.size ∧ (k < A.w0.heap.size → A.ok k ∨ A.X k) ∧ ∀ o x, S.obj o = some x → bo o ≠ some k

def Amb.env (A : Amb) (S : St) (w : World) (bo : Nat → Option Nat) (σ : Nat → Value) : Env := ⟨w, bo, σ, okS A S w bo⟩

structure Rel (A : Amb) (S : St) (tm : Array Value) (w : World) (bo : Nat → Option Nat) (σ : Nat → Value) (kl : List Nat) : Prop where
  keep : Keep A.w0 w A.X
  sz : tm.size = S.fr.length
  sl : ∀ t, RV (A.env S w bo σ) (S.slot t) (tm.getD t undef')
  ob : ∀ o x, S.obj o = some x → ObOk (A.env S w bo σ) o x
  live : ∀ o x b, S.obj o = some x → bo o = some b → b < w.heap.size ∧ (b < A.w0.heap.size → A.X b)
  inj : ∀ o o' x x' b, S.obj o = some x → S.obj o' = some x' → bo o = some b → bo o' = some b → o = o'
  pre : ∀ p ∈ A.pre, bo p.1 = A.bo p.1 ∧ σ p.1 = A.σ p.1
  prk : ∀ p ∈ A.pre, p.1 ∈ kl
  rfs : ∀ t o, o ∈ refs (S.slot t) → o ∈ kl
  orf : ∀ o x, S.obj o = some x → o ∈ kl ∧ ∀ p ∈ orefs x, p ∈ kl
  axo : ∀ k, A.ok k → ¬ A.X k

theorem Keep.refl (w : World) (X : Nat → Prop) : Keep w w X := ⟨rfl, rfl, rfl, Nat.le_refl _, fun _ _ _ => rfl⟩

theorem Keep.trans {w w1 w2 : World} {X Y : Nat → Prop} (h : Keep w w1 X) (k : Keep w1 w2 Y) (hxy : ∀ b, b < w.heap.size → Y b → X b) : Keep w w2 X :=
  ⟨k.os.trans h.os, k.tape.trans h.tape, k.output.trans h.output, Nat.le_trans h.size k.size, fun b hb hx =>
    (k.block b (Nat.lt_of_lt_of_le hb h.size) fun hy => hx (hxy b hb hy)).trans (h.block b hb hx)⟩

theorem lk_del (o o' : Nat) (l : Obs) : lk o' (del o l) = if o' = o then none else lk o' l := by
  induction l with
  | nil => simp [del, lk]
  | cons p l ih =>
    obtain ⟨k, x⟩ := p
    by_cases h : k = o
    · subst h
      simp only [del, beq_self_eq_true, if_true, ih, lk]
      by_cases h2 : o' = k
      · simp [h2]
      · have : (k == o') = false := by simp; omega
        simp [h2, this]
    · have hk : (k == o) = false := by simp [h]
      simp only [del, hk, Bool.false_eq_true, if_false, lk, ih]
      by_cases h2 : k = o'
      · subst h2; simp [h]
      · have : (k == o') = false := by simp [h2]
        simp [this]

theorem lk_setOb (o o' : Nat) (x : Ob) (l : Obs) : lk o' (setOb o x l) = if o' = o then some x else lk o' l := by
  induction l with
  | nil => 
    simp only [setOb, lk]
    by_cases h : o' = o
    · simp [h]
    · have : (o == o') = false := by simp; omega
      simp [h, this]
  | cons p l ih =>
    obtain ⟨k, y⟩ := p
    by_cases h : k = o
    · subst h
      simp only [setOb, beq_self_eq_true, if_true, lk]
      by_cases h2 : k = o'
      · subst h2; simp
      · have : (k == o') = false := by simp [h2]
        have h3 : ¬ o' = k := fun e => h2 e.symm
        simp [this, h3]
    · have hk : (k == o) = false := by simp [h]
      simp only [setOb, hk, Bool.false_eq_true, if_false, lk, ih]
      by_cases h2 : k = o'
      · subst h2; simp [h]
      · have : (k == o') = false := by simp [h2]
        simp [this]

/-- what an update writes at an object -/
def wrOb (us : List (Nat × Option Ob)) (o : Nat) (c : Option Ob) : Option Ob := us.foldl (fun c p => if p.1 = o then p.2 else c) c

theorem lk_putOb (us : List (Nat × Option Ob)) (o : Nat) (l : Obs) : lk o (putOb us l) = wrOb us o (lk o l) := by
  induction us generalizing l with
  | nil => rfl
  | cons p us ih =>
    obtain ⟨k, x⟩ := p
    cases x with
    | some x =>
      simp only [putOb, ih, lk_setOb, wrOb, List.foldl_cons]
      congr 1
      by_cases h : o = k
      · simp [h]
      · have : ¬ k = o := fun e => h e.symm
        simp [h, this]
    | none =>
      simp only [putOb, ih, lk_del, wrOb, List.foldl_cons]
      congr 1
      by_cases h : o = k
      · simp [h]
      · have : ¬ k = o := fun e => h e.symm
        simp [h, this]

theorem put_ob (S : St) (l : List (Nat × DV)) : (S.put l).ob = S.ob := by
  induction l generalizing S with
  | nil => rfl
  | cons p l ih => obtain ⟨t, d⟩ := p; simp only [St.put, ih]

theorem put_len (S : St) (l : List (Nat × DV)) : (S.put l).fr.length = S.fr.length := by
  induction l generalizing S with
  | nil => rfl
  | cons p l ih => obtain ⟨t, d⟩ := p; simp only [St.put, ih, List.length_set]

theorem app_obj (S : St) (u : Upd) (o : Nat) : (S.app u).obj o = wrOb u.ob o (S.obj o) := by
  unfold St.app St.obj; rw [lk_putOb]

theorem app_slot (S : St) (sl : List (Nat × DV)) (ob : List (Nat × Option Ob)) (new : List Nat) (t : Nat) : (S.app ⟨sl, ob, new⟩).slot t = (S.put sl).slot t := rfl

theorem slot_set (S : St) (t u : Nat) (d : DV) (ob : Obs) : St.slot ⟨S.fr.set t d, ob⟩ u = if u = t ∧ t < S.fr.length then d else S.slot u := by
  simp only [St.slot, List.getD_eq_getElem?_getD, List.getElem?_set]
  by_cases h : t = u
  · subst h
    by_cases h2 : t < S.fr.length
    · simp [h2]
    · simp [h2]
  · have : ¬ (u = t ∧ t < S.fr.length) := fun e => h e.1.symm
    simp [h, this]

end Go.Eng
end
/-! Soundness, 2: one step. -/
section
set_option linter.unusedSimpArgs false
set_option linter.unusedVariables false
namespace Go.Eng
open Go

def putT (tm : Array Value) (dst : Option Nat) (v : Value) : Array Value := match dst with | some t => tm.setIfInBounds t v | none => tm

theorem wrOb_not {us : List (Nat × Option Ob)} {o : Nat} (h : o ∉ us.map (·.1)) (c : Option Ob) : wrOb us o c = c := by
  induction us generalizing c with
  | nil => rfl
  | cons p us ih =>
    simp only [List.map_cons, List.mem_cons, not_or] at h
    simp only [wrOb, List.foldl_cons]
    have : ¬ p.1 = o := fun e => h.1 e.symm
    simp only [this, if_false]
    exact ih h.2 c

theorem getD_set (tm : Array Value) (t u : Nat) (v : Value) : (tm.setIfInBounds t v).getD u undef' = if u = t ∧ t < tm.size then v else tm.getD u undef' := by
  simp only [Array.getD_eq_getD_getElem?, Array.getElem?_setIfInBounds]
  by_cases h : t = u
  · subst h
    by_cases h2 : t < tm.size
    · simp [h2]
    · simp [h2]
  · have : ¬ (u = t ∧ t < tm.size) := fun e => h e.1.symm
    simp [h, this]

theorem Rel.step {A : Amb} {S : St} {tm : Array Value} {w w' : World} {bo bo' : Nat → Option Nat} {σ σ' : Nat → Value} {kl : List Nat} (hR : Rel A S tm w bo σ kl)
    (u : Upd) (dst : Option Nat) (v : Value)
    (hkeep : Keep w w' (fun k => ∃ o ∈ u.ob.map (·.1), ∃ x, S.obj o = some x ∧ bo o = some k))
    (hbo : ∀ o ∈ kl, bo' o = bo o ∧ σ' o = σ o)
    (hsl : (u.sl = [] ∧ dst = none) ∨ ∃ t d, u.sl = [(t, d)] ∧ dst = some t ∧ RV (A.env (S.app u) w' bo' σ') d v ∧ ∀ o ∈ refs d, o ∈ u.new ++ kl)
    (hob : ∀ o x, o ∈ u.ob.map (·.1) → (S.app u).obj o = some x → ObOk (A.env (S.app u) w' bo' σ') o x ∧ o ∈ u.new ++ kl ∧ (∀ p ∈ orefs x, p ∈ u.new ++ kl) ∧
      (∀ b, bo' o = some b → b < w'.heap.size ∧ (b < w.heap.size → ∃ o2 ∈ u.ob.map (·.1), ∃ x2, S.obj o2 = some x2 ∧ bo o2 = some b)))
    (hinj : ∀ o o' x x' b, o ∈ u.ob.map (·.1) → o' ∈ u.ob.map (·.1) → (S.app u).obj o = some x → (S.app u).obj o' = some x' → bo' o = some b → bo' o' = some b → o = o') :
    Rel A (S.app u) (putT tm dst v) w' bo' σ' (u.new ++ kl) := by
  have hnot : ∀ o, o ∉ u.ob.map (·.1) → (S.app u).obj o = S.obj o := fun o ho => by rw [app_obj, wrOb_not ho]
  have hok : ∀ k, okS A S w bo k → okS A (S.app u) w' bo' k ∧ w'.heap[k]? = w.heap[k]? := by
    intro k ⟨h1, h2, h3⟩
    refine ⟨⟨Nat.lt_of_lt_of_le h1 hkeep.size, h2, fun o x hx hb => ?_⟩, hkeep.block k h1 ?_⟩
    · by_cases ho : o ∈ u.ob.map (·.1)
      · obtain ⟨o2, _, x2, h4, h5⟩ := ((hob o x ho hx).2.2.2 k hb).2 h1
        exact h3 o2 x2 h4 h5
      · rw [hnot o ho] at hx
        rw [(hbo o (hR.orf o x hx).1).1] at hb
        exact h3 o x hx hb
    · rintro ⟨o, _, x, h4, h5⟩
      exact h3 o x h4 h5
  have hslot : ∀ t, (S.app u).slot t = S.slot t ∨ ∃ d, u.sl = [(t, d)] ∧ t < S.fr.length ∧ (S.app u).slot t = d := by
    intro t
    rcases hsl with ⟨h1, _⟩ | ⟨t', d, h1, _⟩
    · exact .inl (by unfold St.app; rw [h1]; rfl)
    · have : (S.app u).slot t = if t = t' ∧ t' < S.fr.length then d else S.slot t := by
        unfold St.app; rw [h1]; exact slot_set S t' t d _
      rw [this]
      split
      · rename_i h; obtain ⟨rfl, h⟩ := h; exact .inr ⟨d, h1, h, rfl⟩
      · exact .inl rfl
  refine ⟨?_, ?_, ?_, ?_, ?_, ?_, ?_, ?_, ?_, ?_, hR.axo⟩
  · refine hR.keep.trans hkeep fun b hb ⟨o, _, x, h4, h5⟩ => (hR.live o x b h4 h5).2 hb
  · have : (S.app u).fr.length = S.fr.length := by unfold St.app; exact put_len S u.sl
    rw [this, ← hR.sz]
    unfold putT; split <;> simp
  · intro t
    have hold : RV (A.env (S.app u) w' bo' σ') (S.slot t) (tm.getD t undef') := (hR.sl t).mono hok fun o ho => hbo o (hR.rfs t o ho)
    rcases hsl with ⟨h1, h2⟩ | ⟨t', d, h1, h2, h3, _⟩
    · subst h2
      have : (S.app u).slot t = S.slot t := by unfold St.app; rw [h1]; rfl
      rw [this]; exact hold
    · subst h2
      have : (S.app u).slot t = if t = t' ∧ t' < S.fr.length then d else S.slot t := by
        unfold St.app; rw [h1]; exact slot_set S t' t d _
      rw [this]
      simp only [putT, getD_set, hR.sz]
      split
      · exact h3
      · exact hold
  · intro o x hx
    by_cases ho : o ∈ u.ob.map (·.1)
    · exact (hob o x ho hx).1
    · rw [hnot o ho] at hx
      have hkk := hR.orf o x hx
      refine (hR.ob o x hx).mono hok (fun b hb => ?_) (hbo o hkk.1) fun p hp => hbo p (hkk.2 p hp)
      refine hkeep.block b (hR.live o x b hx hb).1 ?_
      rintro ⟨o2, h4, x2, h5, h6⟩
      have := hR.inj o o2 x x2 b hx h5 hb h6
      subst this
      exact ho h4
  · intro o x b hx hb
    by_cases ho : o ∈ u.ob.map (·.1)
    · obtain ⟨h1, h2⟩ := (hob o x ho hx).2.2.2 b hb
      refine ⟨h1, fun hlt => ?_⟩
      obtain ⟨o2, _, x2, h5, h6⟩ := h2 (Nat.lt_of_lt_of_le hlt hR.keep.size)
      exact (hR.live o2 x2 b h5 h6).2 hlt
    · rw [hnot o ho] at hx
      rw [(hbo o (hR.orf o x hx).1).1] at hb
      obtain ⟨h1, h2⟩ := hR.live o x b hx hb
      exact ⟨Nat.lt_of_lt_of_le h1 hkeep.size, h2⟩
  · intro o o' x x' b hx hx' hb hb'
    by_cases ho : o ∈ u.ob.map (·.1) <;> by_cases ho' : o' ∈ u.ob.map (·.1)
    · exact hinj o o' x x' b ho ho' hx hx' hb hb'
    · rw [hnot o' ho'] at hx'
      rw [(hbo o' (hR.orf o' x' hx').1).1] at hb'
      obtain ⟨_, h2⟩ := (hob o x ho hx).2.2.2 b hb
      obtain ⟨o2, h4, x2, h5, h6⟩ := h2 (hR.live o' x' b hx' hb').1
      have := hR.inj o' o2 x' x2 b hx' h5 hb' h6
      subst this; exact absurd h4 ho'
    · rw [hnot o ho] at hx
      rw [(hbo o (hR.orf o x hx).1).1] at hb
      obtain ⟨_, h2⟩ := (hob o' x' ho' hx').2.2.2 b hb'
      obtain ⟨o2, h4, x2, h5, h6⟩ := h2 (hR.live o x b hx hb).1
      have := hR.inj o o2 x x2 b hx h5 hb h6
      subst this; exact absurd h4 ho
    · rw [hnot o ho] at hx
      rw [hnot o' ho'] at hx'
      rw [(hbo o (hR.orf o x hx).1).1] at hb
      rw [(hbo o' (hR.orf o' x' hx').1).1] at hb'
      exact hR.inj o o' x x' b hx hx' hb hb'
  · intro p hp
    obtain ⟨h1, h2⟩ := hbo p.1 (hR.prk p hp)
    rw [h1, h2]; exact hR.pre p hp
  · intro p hp; exact List.mem_append.2 (.inr (hR.prk p hp))
  · intro t o ho
    rcases hslot t with h | ⟨d, h1, _, h3⟩
    · rw [h] at ho; exact List.mem_append.2 (.inr (hR.rfs t o ho))
    · rw [h3] at ho
      rcases hsl with ⟨h4, _⟩ | ⟨t', d', h4, _, _, h5⟩
      · rw [h1] at h4; cases h4
      · rw [h1] at h4; cases h4; exact h5 o ho
  · intro o x hx
    by_cases ho : o ∈ u.ob.map (·.1)
    · exact ⟨(hob o x ho hx).2.1, (hob o x ho hx).2.2.1⟩
    · rw [hnot o ho] at hx
      have := hR.orf o x hx
      exact ⟨List.mem_append.2 (.inr this.1), fun p hp => List.mem_append.2 (.inr (this.2 p hp))⟩

/-- an update that touches one slot alone -/
theorem Rel.set {A : Amb} {S : St} {tm : Array Value} {w w' : World} {bo : Nat → Option Nat} {σ : Nat → Value} {kl : List Nat} (hR : Rel A S tm w bo σ kl)
    (dst : Option Nat) (d : DV) (v : Value) (hk : Keep w w' (fun _ => False)) (hv : RV (A.env S w' bo σ) d v) (hr : ∀ o ∈ refs d, o ∈ kl) : Rel A (S.app (one dst d)) (putT tm dst v) w' bo σ kl := by
  have hob : (one dst d).ob = [] := rfl
  have hk' : Keep w w' (fun k => ∃ o ∈ (one dst d).ob.map (·.1), ∃ x, S.obj o = some x ∧ bo o = some k) := ⟨hk.os, hk.tape, hk.output, hk.size, fun k h1 _ => hk.block k h1 (fun h => h)⟩
  refine hR.step (one dst d) dst v hk' (fun _ _ => ⟨rfl, rfl⟩) ?_ (fun o x h => by simp [hob] at h) (fun o o' x x' b h => by simp [hob] at h)
  cases dst with
  | none => exact .inl ⟨rfl, rfl⟩
  | some t => 
    refine .inr ⟨t, d, rfl, rfl, ?_, hr⟩
    exact hv

end Go.Eng
end
/-! Soundness, 3: reading, and the plain operations. -/
section
set_option linter.unusedSimpArgs false
set_option linter.unusedVariables false
namespace Go.Eng
open Go
variable {P : Program} {Φ : List It → St → Prop}

def Sat (P : Program) (Φ : List It → St → Prop) : Ask → Prop
  | .br c b => c = b
  | .num n m => n = m
  | .nz y => y ≠ 0
  | .le a b => a ≤ b
  | .ib i s => 0 ≤ i ∧ i < (s : Int)
  | .el i L cs => 0 ≤ i ∧ L[i.toNat]? = some cs
  | .upd n n' L i cs L' => L.set i cs = L' ∧ n = n'
  | .cat n k L M L' => L ++ M = L' ∧ n = k
  | .call f as pre post r => Fn P f as pre post r
  | .seg L L' lo hi n n' => 0 ≤ lo ∧ lo ≤ hi ∧ hi ≤ n ∧ (L.take hi.toNat).drop lo.toNat = L' ∧ L'.length = n'
  | .b3 lo hi n => 0 ≤ lo ∧ lo ≤ hi ∧ hi ≤ n
  | .sx i s b => 0 ≤ i ∧ s[i.toNat]? = some b
  | .mks n m k z L => n = (k : Int) ∧ m = (k : Int) ∧ List.replicate k z = L
  | .str L s => L = s.data.toList.map fun c => [.v (.int .u8 (c.toNat : Int))]
  | .adj => True
  | .unroll => True
  | .fin items S => Φ items S
  | .ret _ _ => True

theorem Ora.sat (o : Ora P Φ) : Sat P Φ o.ask := by
  cases o <;> simp only [Ora.ask, Sat] <;> first | assumption | trivial

theorem go_bind {α β : Type} {S : St} (m : RD P Φ α) (f : α → RD P Φ β) : ∀ {os : List (Ora P Φ)} {b R D os'}, (m.bind f).go S os = some (b, R, D, os') →
    ∃ a R1 D1 os1 R2 D2, m.go S os = some (a, R1, D1, os1) ∧ (f a).go S os1 = some (b, R2, D2, os') ∧ R = R1 ++ R2 ∧ D = D1 ++ D2 := by
  induction m with
  | ret a => intro os b R D os' h; exact ⟨a, [], [], os, R, D, rfl, h, rfl, rfl⟩
  | slot t k ih =>
    intro os b R D os' h
    simp only [RD.bind, RD.go] at h
    split at h
    · rename_i b1 R1 D1 os1 h1
      obtain ⟨a, Ra, Da, osa, Rb, Db, h2, h3, h4, h5⟩ := ih _ h1
      cases h
      exact ⟨a, .sl t :: Ra, Da, osa, Rb, Db, by simp only [RD.go, h2], h3, by rw [h4]; rfl, h5⟩
    · cases h
  | obj o k ih =>
    intro os b R D os' h
    simp only [RD.bind, RD.go] at h
    split at h
    · rename_i x hx
      split at h
      · rename_i b1 R1 D1 os1 h1
        obtain ⟨a, Ra, Da, osa, Rb, Db, h2, h3, h4, h5⟩ := ih _ h1
        cases h
        exact ⟨a, .ob o :: Ra, Da, osa, Rb, Db, by simp only [RD.go, hx, h2], h3, by rw [h4]; rfl, h5⟩
      · cases h
    · cases h
  | peek k ih =>
    intro os b R D os' h
    cases os with
    | nil => simp [RD.bind, RD.go] at h
    | cons o os =>
      simp only [RD.bind, RD.go] at h
      obtain ⟨a, Ra, Da, osa, Rb, Db, h2, h3, h4, h5⟩ := ih _ h
      exact ⟨a, Ra, Da, osa, Rb, Db, by simp only [RD.go, h2], h3, h4, h5⟩
  | req d k ih =>
    intro os b R D os' h
    cases os with
    | nil => simp [RD.bind, RD.go] at h
    | cons o os =>
      simp only [RD.bind, RD.go] at h
      split at h
      · rename_i b1 R1 D1 os1 h1
        obtain ⟨a, Ra, Da, osa, Rb, Db, h2, h3, h4, h5⟩ := ih h1
        cases h
        exact ⟨a, Ra, d :: Da, osa, Rb, Db, by simp only [RD.go, h2], h3, h4, by rw [h5]; rfl⟩
      · cases h
  | fail => intro os b R D os' h; simp [RD.bind, RD.go] at h

theorem go_ret {α : Type} {S : St} {a b : α} {os os' : List (Ora P Φ)} {R D} (h : (RD.ret a : RD P Φ α).go S os = some (b, R, D, os')) : b = a ∧ R = [] ∧ D = [] ∧ os' = os := by
  simp only [RD.go] at h; cases h; exact ⟨rfl, rfl, rfl, rfl⟩

theorem go_ofO {α : Type} {S : St} {a : Option α} {b : α} {os os' : List (Ora P Φ)} {R D} (h : (ofO a : RD P Φ α).go S os = some (b, R, D, os')) : a = some b ∧ D = [] := by
  cases a with
  | none => simp [ofO, RD.go] at h
  | some a => obtain ⟨rfl, _, rfl, _⟩ := go_ret h; exact ⟨rfl, rfl⟩

/-! constants -/
theorem rv0_ofV0 (E : Env) (x : Value) : RV0 E (ofV0 x) x := by
  unfold ofV0
  split <;> simp [RV0]

theorem rv_ofV (E : Env) (x : Value) (h : okV x = true) : RV E (ofV x) x := by
  cases x with
  | agg cs =>
    simp only [ofV, RV, RV1]
    refine ⟨cs.toList, by simp, by simp, fun j hj => ?_⟩
    simp at hj
    have h1 : (List.map ofV0 cs.toList).getD j .un = ofV0 cs[j] := by simp [List.getD_eq_getElem?_getD, hj]
    have h2 : cs.toList.getD j undef' = cs[j] := by simp [List.getD_eq_getElem?_getD, hj]
    rw [h1, h2]
    refine ⟨rv0_ofV0 E _, ?_⟩
    simp only [okV, List.all_eq_true] at h
    exact h _ (by simp)
  | bool b => simp [ofV, ofV0, RV, RV1, RV0]
  | slice a n c => cases a <;> cases n <;> cases c <;> simp [ofV, ofV0, RV, RV1, RV0]
  | _ => simp [ofV, ofV0, RV, RV1, RV0]

theorem refs_ofV (x : Value) : refs (ofV x) = [] := by
  cases x with
  | agg cs =>
    simp only [ofV, refs, refs1, List.flatMap_eq_nil_iff, List.mem_map]
    rintro _ ⟨y, _, rfl⟩
    unfold ofV0; split <;> rfl
  | bool b => rfl
  | slice a n c => cases a <;> cases n <;> cases c <;> rfl
  | _ => rfl

theorem eval_tmp (a : Act) (t : Nat) : a.eval (.tmp t) = a.tmps.getD t undef' := rfl

theorem opd_ok {A : Amb} {S : St} {a : Act} {w : World} {bo : Nat → Option Nat} {σ : Nat → Value} {kl : List Nat} (hR : Rel A S a.tmps w bo σ kl) {x : Operand} {d : DV} {os os' : List (Ora P Φ)} {R D}
    (h : (opd x : RD P Φ DV).go S os = some (d, R, D, os')) : RV (A.env S w bo σ) d (a.eval x) ∧ D = [] ∧ os' = os ∧ (∀ o ∈ refs d, o ∈ kl) := by
  cases x with
  | tmp t =>
    simp only [opd, RD.go] at h
    cases h
    exact ⟨hR.sl t, rfl, rfl, fun o ho => hR.rfs t o ho⟩
  | const v =>
    simp only [opd] at h
    split at h
    · rename_i hv
      obtain ⟨rfl, _, rfl, rfl⟩ := go_ret h
      exact ⟨rv_ofV _ v hv, rfl, rfl, fun o ho => by rw [refs_ofV] at ho; cases ho⟩
    · simp [RD.go] at h
  | global g =>
    obtain ⟨rfl, _, rfl, rfl⟩ := go_ret h
    exact ⟨by simp [RV, RV1, RV0, Act.eval], rfl, rfl, fun o ho => by simp [refs, refs1, refs0] at ho⟩
  | func f =>
    obtain ⟨rfl, _, rfl, rfl⟩ := go_ret h
    exact ⟨by simp [RV, RV1, RV0, Act.eval], rfl, rfl, fun o ho => by simp [refs, refs1, refs0] at ho⟩

theorem opds_ok {A : Amb} {S : St} {a : Act} {w : World} {bo : Nat → Option Nat} {σ : Nat → Value} {kl : List Nat} (hR : Rel A S a.tmps w bo σ kl) : ∀ {xs : List Operand} {ds : List DV} {os os' : List (Ora P Φ)} {R D},
    (opds xs : RD P Φ (List DV)).go S os = some (ds, R, D, os') → ds.length = xs.length ∧ D = [] ∧ os' = os ∧ (∀ j, j < xs.length → RV (A.env S w bo σ) (ds.getD j .un) ((xs.map a.eval).getD j undef')) ∧ (∀ d ∈ ds, ∀ o ∈ refs d, o ∈ kl)
  | [], ds, os, os', R, D, h => by
    obtain ⟨rfl, _, rfl, rfl⟩ := go_ret h
    exact ⟨rfl, rfl, rfl, fun j hj => by simp at hj, fun d hd => by cases hd⟩
  | x :: xs, ds, os, os', R, D, h => by
    simp only [opds] at h
    obtain ⟨d, R1, D1, os1, R2, D2, h1, h2, rfl, rfl⟩ := go_bind _ _ h
    obtain ⟨ds', R3, D3, os3, R4, D4, h3, h4, rfl, rfl⟩ := go_bind _ _ h2
    obtain ⟨k1, rfl, rfl, k2⟩ := opd_ok hR h1
    obtain ⟨k3, rfl, rfl, k4, k5⟩ := opds_ok hR h3
    obtain ⟨rfl, _, rfl, rfl⟩ := go_ret h4
    refine ⟨by simp [k3], rfl, rfl, fun j hj => ?_, fun e he => ?_⟩
    · cases j with
      | zero => simpa using k1
      | succ j => simpa using k4 j (by simpa using hj)
    · rcases List.mem_cons.1 he with rfl | he
      · exact k2
      · exact k5 e he

theorem wp_value {o : Oper} {a : Act} {w w' : World} {v : Value} {K : Act → World → Prop} {Q : Exit → Act → World → Prop} (hr : (execOp a.eval o).run P w = .ok (.value v) w') (hK : K (a.put o.dst v) w') : o.wp P a w K Q := by
  unfold Oper.wp; rw [hr]; exact hK

theorem wp_skipv {o : Oper} {a : Act} {w w' : World} {K : Act → World → Prop} {Q : Exit → Act → World → Prop} (hr : (execOp a.eval o).run P w = .ok .skip w') (hK : K (a.put o.dst undef) w') : o.wp P a w K Q := by
  unfold Oper.wp; rw [hr]; exact hK

theorem put_tmps (a : Act) (dst : Option Nat) (v : Value) : (a.put dst v).tmps = putT a.tmps dst v := by cases dst <;> rfl

/-- what is shown of one operation -/
def OpOk (P : Program) (A : Amb) (o : Oper) (S : St) (u : Upd) (kl : List Nat) : Prop :=
  ∀ (a : Act) (w : World) (bo : Nat → Option Nat) (σ : Nat → Value), Rel A S a.tmps w bo σ kl → (∀ n ∈ u.new, n ∉ kl) →
    ∀ (K : Act → World → Prop) (Q : Exit → Act → World → Prop),
      (∀ v w' bo' σ', Rel A (S.app u) (putT a.tmps o.dst v) w' bo' σ' (u.new ++ kl) → K (a.put o.dst v) w') → o.wp P a w K Q

/-- a value, the world as it was -/
theorem OpOk.val {A : Amb} {o : Oper} {S : St} {kl : List Nat} {d : DV} (h : ∀ (a : Act) (w : World) (bo : Nat → Option Nat) (σ : Nat → Value), Rel A S a.tmps w bo σ kl →
    ∃ v, (execOp a.eval o).run P w = .ok (.value v) w ∧ RV (A.env S w bo σ) d v ∧ ∀ p ∈ refs d, p ∈ kl) : OpOk P A o S (one o.dst d) kl := by
  intro a w bo σ hR _ K Q hK
  obtain ⟨v, h1, h2, h3⟩ := h a w bo σ hR
  exact wp_value h1 (hK v w bo σ (hR.set o.dst d v (Keep.refl _ _) h2 h3))

theorem move_ok {A : Amb} {o : Oper} {S : St} {kl : List Nat} {x : Operand} (ho : o.op = .move x ∨ o.op = .assign x) {u : Upd} {os os' : List (Ora P Φ)} {R D}
    (h : (ofDst o.dst (opd x) : RD P Φ Upd).go S os = some (u, R, D, os')) : OpOk P A o S u kl := by
  obtain ⟨d, R1, D1, os1, R2, D2, h1, h2, rfl, rfl⟩ := go_bind _ _ h
  obtain ⟨rfl, _, rfl, rfl⟩ := go_ret h2
  refine OpOk.val fun a w bo σ hR => ?_
  obtain ⟨k1, _, _, k2⟩ := opd_ok hR h1
  refine ⟨a.eval x, ?_, k1, k2⟩
  rcases ho with ho | ho <;> simp [execOp, ho, Sem.run, pure]

/-! plain operations -/
theorem evP_run {α : Type} (s : Sem α) {a : α} (h : evP P s = some a) : ∀ w, s.run P w = .ok a w := by
  induction s with
  | pure b => intro w; simp only [evP] at h; cases h; rfl
  | program k ih => intro w; simp only [evP] at h; simp only [Sem.run]; exact ih P h w
  | mark m k ih => intro w; simp only [evP] at h; simp only [Sem.run]; exact ih h w
  | _ => simp [evP] at h

theorem toV0_ok {E : Env} {d : DV} {x y : Value} (h : toV0 d = some y) (hr : RV0 E d x) : x = y := by
  cases d <;> simp [toV0] at h <;> simp only [RV0] at hr <;> (subst h; exact hr)

theorem toVs_ok {E : Env} : ∀ {cs : List DV} {ys : List Value}, toVs cs = some ys → ∀ {vs : List Value}, vs.length = cs.length → (∀ j, j < cs.length → RV0 E (cs.getD j .un) (vs.getD j undef')) → vs = ys
  | [], ys, h, vs, hl, _ => by simp [toVs] at h; subst h; exact List.eq_nil_of_length_eq_zero hl
  | d :: cs, ys, h, vs, hl, hr => by
    simp only [toVs] at h
    split at h
    · rename_i x xs h1 h2
      cases h
      cases vs with
      | nil => simp at hl
      | cons v vs =>
        have e1 := toV0_ok h1 (by simpa using hr 0 (by simp))
        have e2 := toVs_ok h2 (vs := vs) (by simpa using hl) (fun j hj => by simpa using hr (j + 1) (by simpa using hj))
        rw [e1, e2]
    · cases h

theorem toV_ok {E : Env} {d : DV} {x y : Value} (h : toV d = some y) (hr : RV E d x) : x = y := by
  cases d with
  | ag cs =>
    simp only [toV] at h
    split at h
    · rename_i l hl
      cases h
      obtain ⟨vs, rfl, h2, h3⟩ := hr
      rw [toVs_ok hl h2 fun j hj => (h3 j hj).1]
    · cases h
  | tu vs => simp [toV, toV0] at h
  | _ =>
    simp only [toV] at h
    simp only [RV, RV1] at hr
    exact toV0_ok h hr

theorem rv_ofR (E : Env) (v : Value) (h : okV v = true) : RV E (ofR v) v := by
  cases v with
  | agg cs =>
    simp only [ofR, RV, RV1]
    refine ⟨cs.toList, by simp, by simp, fun j hj => ?_⟩
    simp at hj
    have h1 : (List.map DV.v cs.toList).getD j .un = .v cs[j] := by simp [List.getD_eq_getElem?_getD, hj]
    have h2 : cs.toList.getD j undef' = cs[j] := by simp [List.getD_eq_getElem?_getD, hj]
    rw [h1, h2]
    refine ⟨rfl, ?_⟩
    simp only [okV, List.all_eq_true] at h
    exact h _ (by simp)
  | _ => simp [ofR, RV, RV1, RV0]

theorem refs_ofR (v : Value) : refs (ofR v) = [] := by
  cases v with
  | agg cs =>
    simp only [ofR, refs, refs1, List.flatMap_eq_nil_iff, List.mem_map]
    rintro _ ⟨y, _, rfl⟩; rfl
  | _ => rfl

end Go.Eng
end
/-! Soundness, 4: operations. -/
section
set_option linter.unusedSimpArgs false
set_option linter.unusedVariables false
namespace Go.Eng
open Go
variable {P : Program} {Φ : List It → St → Prop}

theorem go_fail {α : Type} {S : St} {b : α} {os os' : List (Ora P Φ)} {R D} (h : (RD.fail : RD P Φ α).go S os = some (b, R, D, os')) : False := by simp [RD.go] at h

theorem resE_ok {S : St} {v : Option Value} {d : DV} {os os' : List (Ora P Φ)} {R D} (h : (resE v : RD P Φ DV).go S os = some (d, R, D, os')) : ∃ x, v = some x ∧ okV x = true ∧ d = ofR x ∧ D = [] := by
  obtain ⟨x, R1, D1, os1, R2, D2, h1, h2, rfl, rfl⟩ := go_bind _ _ h
  obtain ⟨rfl, rfl⟩ := go_ofO h1
  split at h2
  · rename_i hx
    obtain ⟨rfl, _, rfl, _⟩ := go_ret h2
    exact ⟨x, rfl, hx, rfl, rfl⟩
  · exact (go_fail h2).elim

/-- the shape of all value operations: what the reading gives, a value of it that the machine yields -/
theorem ofDst_ok {A : Amb} {o : Oper} {S : St} {kl : List Nat} {r : RD P Φ DV} {u : Upd} {os os' : List (Ora P Φ)} {R D}
    (h : (ofDst o.dst r).go S os = some (u, R, D, os')) (hs : ∀ d ∈ D, Sat P Φ d)
    (hr : ∀ d os1 R1 D1, r.go S os = some (d, R1, D1, os1) → (∀ d ∈ D1, Sat P Φ d) → ∀ (a : Act) (w : World) (bo : Nat → Option Nat) (σ : Nat → Value), Rel A S a.tmps w bo σ kl →
      ∃ v, (execOp a.eval o).run P w = .ok (.value v) w ∧ RV (A.env S w bo σ) d v ∧ ∀ p ∈ refs d, p ∈ kl) : OpOk P A o S u kl := by
  obtain ⟨d, R1, D1, os1, R2, D2, h1, h2, rfl, rfl⟩ := go_bind _ _ h
  obtain ⟨rfl, _, rfl, _⟩ := go_ret h2
  exact OpOk.val (hr d os1 R1 D1 h1 fun e he => hs e (by simp [he]))

theorem bin_ok {A : Amb} {o : Oper} {S : St} {kl : List Nat} {op : BinOp} {T yT : Nat} {x y : Operand} (ho : o.op = .binOp op T x y yT) {d : DV} {os os' : List (Ora P Φ)} {R D}
    (h : (binE op T x y : RD P Φ DV).go S os = some (d, R, D, os')) (a : Act) (w : World) (bo : Nat → Option Nat) (σ : Nat → Value) (hR : Rel A S a.tmps w bo σ kl) :
    ∃ v, (execOp a.eval o).run P w = .ok (.value v) w ∧ RV (A.env S w bo σ) d v ∧ ∀ p ∈ refs d, p ∈ kl := by
  obtain ⟨dx, R1, D1, os1, R2, D2, h1, h2, rfl, rfl⟩ := go_bind _ _ h
  obtain ⟨dy, R3, D3, os3, R4, D4, h3, h4, rfl, rfl⟩ := go_bind _ _ h2
  split at h4
  · rename_i vx vy hx hy
    obtain ⟨v, hv, hok, rfl, _⟩ := resE_ok h4
    obtain ⟨k1, -, rfl, -⟩ := opd_ok hR h1
    obtain ⟨k2, -, -, -⟩ := opd_ok hR h3
    have e1 := toV_ok hx k1
    have e2 := toV_ok hy k2
    refine ⟨v, ?_, rv_ofR _ v hok, fun p hp => by rw [refs_ofR] at hp; cases hp⟩
    have := evP_run _ hv w
    simp only [execOp, ho, e1, e2]
    simp only [Sem.run_bind, this, Result.andThen_ok, Sem.run_pure]
  · exact (go_fail h4).elim

theorem un_ok {A : Amb} {o : Oper} {S : St} {kl : List Nat} {op : UnOp} {T : Nat} {x : Operand} (ho : o.op = .unOp op T x) {d : DV} {os os' : List (Ora P Φ)} {R D}
    (h : (unE op x : RD P Φ DV).go S os = some (d, R, D, os')) (a : Act) (w : World) (bo : Nat → Option Nat) (σ : Nat → Value) (hR : Rel A S a.tmps w bo σ kl) :
    ∃ v, (execOp a.eval o).run P w = .ok (.value v) w ∧ RV (A.env S w bo σ) d v ∧ ∀ p ∈ refs d, p ∈ kl := by
  obtain ⟨dx, R1, D1, os1, R2, D2, h1, h2, rfl, rfl⟩ := go_bind _ _ h
  obtain ⟨k1, -, rfl, -⟩ := opd_ok hR h1
  split at h2
  · rename_i b
    obtain ⟨rfl, _, _, _⟩ := go_ret h2
    simp only [RV, RV1, RV0] at k1
    refine ⟨.bool (!b), ?_, by simp [RV, RV1, RV0], fun p hp => by simp [refs, refs1, refs0] at hp⟩
    simp [execOp, ho, k1, Op.unary]
  · split at h2
    · rename_i vx hx
      obtain ⟨v, hv, hok, rfl, _⟩ := resE_ok h2
      have e1 := toV_ok hx k1
      refine ⟨v, ?_, rv_ofR _ v hok, fun p hp => by rw [refs_ofR] at hp; cases hp⟩
      have := evP_run _ hv w
      simp only [execOp, ho, e1]
      simp only [Sem.run_bind, this, Result.andThen_ok, Sem.run_pure]
    · exact (go_fail h2).elim

theorem conv_ok {A : Amb} {o : Oper} {S : St} {kl : List Nat} {s t : Nat} {x : Operand} (ho : o.op = .convert s t x) {d : DV} {os os' : List (Ora P Φ)} {R D}
    (h : (convE s t x : RD P Φ DV).go S os = some (d, R, D, os')) (a : Act) (w : World) (bo : Nat → Option Nat) (σ : Nat → Value) (hR : Rel A S a.tmps w bo σ kl) :
    ∃ v, (execOp a.eval o).run P w = .ok (.value v) w ∧ RV (A.env S w bo σ) d v ∧ ∀ p ∈ refs d, p ∈ kl := by
  obtain ⟨dx, R1, D1, os1, R2, D2, h1, h2, rfl, rfl⟩ := go_bind _ _ h
  obtain ⟨k1, -, rfl, -⟩ := opd_ok hR h1
  split at h2
  · rename_i vx hx
    obtain ⟨v, hv, hok, rfl, _⟩ := resE_ok h2
    have e1 := toV_ok hx k1
    refine ⟨v, ?_, rv_ofR _ v hok, fun p hp => by rw [refs_ofR] at hp; cases hp⟩
    have := evP_run _ hv w
    simp only [execOp, ho, e1]
    simp only [Sem.run_bind, this, Result.andThen_ok, Sem.run_pure]
  · exact (go_fail h2).elim

theorem rv_int {E : Env} {k : IntKind} {n : Int} {x : Value} (h : RV E (.v (.int k n)) x) : x = .int k n := h

theorem div_ok {A : Amb} {o : Oper} {S : St} {kl : List Nat} {quo : Bool} {T yT : Nat} {x y : Operand} (ho : o.op = .binOp (if quo then .quo else .rem) T x y yT) {d : DV} {os os' : List (Ora P Φ)} {R D}
    (h : (divE quo x y : RD P Φ DV).go S os = some (d, R, D, os')) (hs : ∀ d ∈ D, Sat P Φ d) (a : Act) (w : World) (bo : Nat → Option Nat) (σ : Nat → Value) (hR : Rel A S a.tmps w bo σ kl) :
    ∃ v, (execOp a.eval o).run P w = .ok (.value v) w ∧ RV (A.env S w bo σ) d v ∧ ∀ p ∈ refs d, p ∈ kl := by
  obtain ⟨dx, R1, D1, os1, R2, D2, h1, h2, rfl, rfl⟩ := go_bind _ _ h
  obtain ⟨dy, R3, D3, os3, R4, D4, h3, h4, rfl, rfl⟩ := go_bind _ _ h2
  obtain ⟨k1, rfl, rfl, -⟩ := opd_ok hR h1
  obtain ⟨k2, rfl, rfl, -⟩ := opd_ok hR h3
  split at h4
  · rename_i k vx k' vy
    split at h4
    · rename_i hk
      have hk' : k = k' := by simpa using hk
      subst hk'
      cases os3 with
      | nil => simp [RD.go] at h4
      | cons q os3 =>
        simp only [RD.go] at h4
        cases h4
        have hz : vy ≠ 0 := hs (.nz vy) (by simp)
        have e1 := rv_int k1
        have e2 := rv_int k2
        refine ⟨_, ?_, rfl, fun p hp => by simp [refs, refs1, refs0] at hp⟩
        cases quo <;> simp [execOp, ho, e1, e2, eqGuard, binOp, Op.intDiv, hz]
    · exact (go_fail h4).elim
  · exact (go_fail h4).elim

theorem toVals_ok {E : Env} : ∀ {ds : List DV} {vs : List Value}, toVals ds = some vs → ∀ {xs : List Value}, xs.length = ds.length → (∀ j, j < ds.length → RV E (ds.getD j .un) (xs.getD j undef')) → xs = vs
  | [], vs, h, xs, hl, _ => by simp [toVals] at h; subst h; exact List.eq_nil_of_length_eq_zero hl
  | d :: ds, vs, h, xs, hl, hr => by
    simp only [toVals] at h
    split at h
    · rename_i x ys h1 h2
      cases h
      cases xs with
      | nil => simp at hl
      | cons v xs =>
        have e1 := toV_ok h1 (by simpa using hr 0 (by simp))
        have e2 := toVals_ok h2 (xs := xs) (by simpa using hl) (fun j hj => by simpa using hr (j + 1) (by simpa using hj))
        rw [e1, e2]
    · cases h

theorem max_ok {A : Amb} {o : Oper} {S : St} {kl : List Nat} {m : Bool} {c : Call} (ho : o.op = .call c) (hc : c.callee = .builtin (if m then .max else .min)) {d : DV} {os os' : List (Ora P Φ)} {R D}
    (h : (maxE m c.argTypes o.type c.args.toList : RD P Φ DV).go S os = some (d, R, D, os')) (a : Act) (w : World) (bo : Nat → Option Nat) (σ : Nat → Value) (hR : Rel A S a.tmps w bo σ kl) :
    ∃ v, (execOp a.eval o).run P w = .ok (.value v) w ∧ RV (A.env S w bo σ) d v ∧ ∀ p ∈ refs d, p ∈ kl := by
  obtain ⟨ds, R1, D1, os1, R2, D2, h1, h2, rfl, rfl⟩ := go_bind _ _ h
  obtain ⟨k0, _, rfl, k1, _⟩ := opds_ok hR h1
  split at h2
  · rename_i vs hvs
    obtain ⟨v, hv, hok, rfl, _⟩ := resE_ok h2
    have e1 := toVals_ok hvs (xs := c.args.toList.map a.eval) (by simp [k0]) (fun j hj => k1 j (by rw [← k0]; exact hj))
    have e2 : c.args.map a.eval = vs.toArray := by apply Array.ext'; simpa using e1
    refine ⟨v, ?_, rv_ofR _ v hok, fun p hp => by rw [refs_ofR] at hp; cases hp⟩
    have := evP_run _ hv w
    cases m
    · have h3 : (Builtin.min_ c.argTypes o.type vs.toArray).run P w = .ok v w := this
      simp [execOp, ho, hc, resolve, invoke, builtin, e2, h3]
    · have h3 : (Builtin.max_ c.argTypes o.type vs.toArray).run P w = .ok v w := this
      simp [execOp, ho, hc, resolve, invoke, builtin, e2, h3]
  · exact (go_fail h2).elim


theorem nil_ok {A : Amb} {o : Oper} {S : St} {kl : List Nat} {x : Operand} (ho : o.op = .nilCheck x) {d : DV} {os os' : List (Ora P Φ)} {R D}
    (h : ((opd x).bind (fun d => match d with | .bx k off => .ret (.bx k off) | _ => .fail) : RD P Φ DV).go S os = some (d, R, D, os')) (a : Act) (w : World) (bo : Nat → Option Nat) (σ : Nat → Value) (hR : Rel A S a.tmps w bo σ kl) :
    ∃ v, (execOp a.eval o).run P w = .ok (.value v) w ∧ RV (A.env S w bo σ) d v ∧ ∀ p ∈ refs d, p ∈ kl := by
  obtain ⟨dx, R1, D1, os1, R2, D2, h1, h2, rfl, rfl⟩ := go_bind _ _ h
  obtain ⟨k1, -, rfl, k2⟩ := opd_ok hR h1
  split at h2
  · obtain ⟨rfl, -, -, -⟩ := go_ret h2
    refine ⟨a.eval x, ?_, k1, k2⟩
    obtain ⟨b, -, hx⟩ := k1
    simp [execOp, ho, hx]
  · exact (go_fail h2).elim

theorem extract_ok {A : Amb} {o : Oper} {S : St} {kl : List Nat} {x : Operand} {j : Nat} (ho : o.op = .extract x j) {d : DV} {os os' : List (Ora P Φ)} {R D}
    (h : ((opd x).bind (fun d => match d with | .tu vs => ofO vs[j]? | _ => .fail) : RD P Φ DV).go S os = some (d, R, D, os')) (a : Act) (w : World) (bo : Nat → Option Nat) (σ : Nat → Value) (hR : Rel A S a.tmps w bo σ kl) :
    ∃ v, (execOp a.eval o).run P w = .ok (.value v) w ∧ RV (A.env S w bo σ) d v ∧ ∀ p ∈ refs d, p ∈ kl := by
  obtain ⟨dx, R1, D1, os1, R2, D2, h1, h2, rfl, rfl⟩ := go_bind _ _ h
  obtain ⟨k1, -, rfl, k2⟩ := opd_ok hR h1
  split at h2
  · rename_i vs
    obtain ⟨hj, -⟩ := go_ofO h2
    obtain ⟨xs, hx, hl, hv⟩ := k1
    have hlt : j < vs.length := by
      rcases Nat.lt_or_ge j vs.length with h | h
      · exact h
      · rw [List.getElem?_eq_none h] at hj; cases hj
    have hd : vs.getD j .un = d := by simp [List.getD_eq_getElem?_getD, hj]
    have h3 := hv j hlt
    rw [hd] at h3
    obtain ⟨y, hy⟩ : ∃ y, xs[j]? = some y := ⟨xs[j]'(by omega), List.getElem?_eq_getElem (by omega)⟩
    have hyy : xs.getD j undef' = y := by simp [List.getD_eq_getElem?_getD, hy]
    rw [hyy] at h3
    refine ⟨y, ?_, ?_, fun p hp => k2 p ?_⟩
    · simp [execOp, ho, hx, Instr.extract, hy]
    · cases d with
      | tu ws => exact (show False from h3).elim
      | _ => exact h3
    · simp only [refs, List.mem_flatMap]
      have hm : d ∈ vs := List.mem_of_getElem? hj
      refine ⟨d, hm, ?_⟩
      cases d with
      | tu ws => exact (show False from h3).elim
      | _ => exact hp
  · exact (go_fail h2).elim

/-! memory -/
theorem tsize_run {T n : Nat} (h : tsize P T = some n) (w : World) : (sizeOf T).run P w = .ok n w := by
  unfold tsize at h
  cases hi : P.info? T with
  | none => rw [hi] at h; cases h
  | some i => rw [hi] at h; cases h; simp [sizeOf, typeInfo, hi]

theorem agg_run {T : Nat} {g : Bool} (h : tagg P T = some g) (w : World) : (isAgg T).run P w = .ok g w := by
  unfold tagg at h
  unfold isAgg underlying
  simp only [Sem.run_bind, run_program, Result.andThen_ok]
  cases hu : P.underlying T with
  | none => rw [hu] at h; cases h
  | some d =>
    rw [hu] at h
    cases d <;> simp at h <;> subst h <;> simp

theorem run_loadCells (a : Addr) (f : Nat → Value) : ∀ (n i : Nat) (acc : Array Value) (w : World), (∀ j, j < n → w.cell? (a.add (i + j)) = some (f j)) →
    (loadCellsFrom a i n acc).run P w = .ok (acc ++ ((List.range n).map f).toArray) w
  | 0, i, acc, w, _ => by simp [loadCellsFrom]
  | n + 1, i, acc, w, h => by
    have h0 : w.cell? (a.add i) = some (f 0) := by simpa using h 0 (by omega)
    have ih := run_loadCells a (fun j => f (j + 1)) n (i + 1) (acc.push (f 0)) w (fun j hj => by have := h (j + 1) (by omega); rw [show i + 1 + j = i + (j + 1) from by omega]; exact this)
    have hl : (load (a.add i)).run P w = .ok (f 0) w := by simp [load, Sem.run, h0]
    simp only [loadCellsFrom, Sem.run_bind, hl, Result.andThen_ok, ih]
    rw [List.range_succ_eq_map]
    simp [Function.comp_def]

/-- a load of cells that are known -/
theorem run_load_cells {T n : Nat} {g : Bool} (hn : tsize P T = some n) (hg : tagg P T = some g) (a : Addr) (f : Nat → Value) (w : World) (h : ∀ j, j < n → w.cell? (a.add j) = some (f j)) (hpos : g = false → 0 < n) :
    (loadVar T a).run P w = .ok (if g then .agg ((List.range n).map f).toArray else f 0) w := by
  unfold loadVar
  simp only [Sem.run_bind, agg_run hg, Result.andThen_ok]
  cases g with
  | true =>
    simp only [if_true]
    simp only [Sem.run_bind, tsize_run hn, Result.andThen_ok, loadCells]
    rw [run_loadCells a f n 0 #[] w (fun j hj => by rw [Nat.zero_add]; exact h j hj)]
    simp
  | false =>
    simp only [Bool.false_eq_true, if_false]
    have h0 := h 0 (hpos rfl)
    have : a.add 0 = a := by simp [Addr.add]
    rw [this] at h0
    simp [load, Sem.run, h0]

theorem pickC_spec {T : Nat} {cs : List DV} {off : Nat} {d : DV} (h : pickC P T cs off = some d) :
    ∃ n g, tsize P T = some n ∧ tagg P T = some g ∧ off + n ≤ cs.length ∧ 0 < n ∧ ((g = true ∧ d = .ag ((cs.drop off).take n)) ∨ (g = false ∧ cs[off]? = some d)) := by
  unfold pickC at h
  split at h
  · rename_i n g hn hg
    split at h
    · rename_i hle
      refine ⟨n, g, hn, hg, hle.1, hle.2, ?_⟩
      cases g with
      | true => simp at h; exact .inl ⟨rfl, h.symm⟩
      | false => simp at h; exact .inr ⟨rfl, by simpa using h⟩
    · cases h
  · cases h

theorem add_add (a : Addr) (i j : Nat) : (a.add i).add j = a.add (i + j) := by
  unfold Addr.add
  by_cases hi : i = 0 <;> by_cases hj : j = 0 <;> simp [hi, hj, Nat.add_assoc]

theorem add_mk (b o j : Nat) : (⟨b, o, none⟩ : Addr).add j = ⟨b, o + j, none⟩ := by unfold Addr.add; split <;> simp_all

/-- loading what is picked out of cells that lie from 'a' on -/
theorem run_pick {E : Env} {T : Nat} {cs : List DV} {off : Nat} {d : DV} (h : pickC P T cs off = some d) (a : Addr) (f : Nat → Value)
    (hc : ∀ j, j < cs.length → E.w.cell? (a.add j) = some (f j) ∧ RV0 E (cs.getD j .un) (f j) ∧ (f j).oneCell' = true) :
    ∃ v, (loadVar T (a.add off)).run P E.w = .ok v E.w ∧ RV E d v ∧ ∀ p ∈ refs d, ∃ e ∈ cs, p ∈ refs0 e := by
  obtain ⟨n, g, hn, hg, hle, hpos, hd⟩ := pickC_spec h
  have hrun := run_load_cells (P := P) hn hg (a.add off) (fun j => f (off + j)) E.w (fun j hj => by rw [add_add]; exact (hc (off + j) (by omega)).1) (fun _ => hpos)
  refine ⟨_, hrun, ?_, ?_⟩
  · rcases hd with ⟨rfl, rfl⟩ | ⟨rfl, hd⟩
    · simp only [if_true, RV, RV1]
      refine ⟨_, rfl, by simp; omega, fun j hj => ?_⟩
      have hjn : j < n := by simp at hj; omega
      have h1 : ((cs.drop off).take n).getD j .un = cs.getD (off + j) .un := by
        simp [List.getD_eq_getElem?_getD, hjn, List.getElem?_drop]
      have h2 : (List.map (fun j => f (off + j)) (List.range n)).getD j undef' = f (off + j) := by
        simp [List.getD_eq_getElem?_getD, hjn]
      rw [h1, h2]
      exact (hc (off + j) (by omega)).2
    · simp only [Bool.false_eq_true, if_false, Nat.add_zero]
      have h1 := (hc off (by omega)).2.1
      have h2 : cs.getD off .un = d := by simp [List.getD_eq_getElem?_getD, hd]
      rw [h2] at h1
      cases d with
      | ag ws => exact (show False from h1).elim
      | tu ws => exact (show False from h1).elim
      | _ => exact h1
  · intro p hp
    rcases hd with ⟨rfl, rfl⟩ | ⟨rfl, hd⟩
    · simp only [refs, refs1, List.mem_flatMap] at hp
      obtain ⟨e, he, hp⟩ := hp
      exact ⟨e, List.mem_of_mem_drop (List.mem_of_mem_take he), hp⟩
    · have h1 := (hc off (by omega)).2.1
      have h2 : cs.getD off .un = d := by simp [List.getD_eq_getElem?_getD, hd]
      rw [h2] at h1
      refine ⟨d, List.mem_of_getElem? hd, ?_⟩
      cases d with
      | ag ws => exact (show False from h1).elim
      | tu ws => exact (show False from h1).elim
      | _ => exact hp

end Go.Eng
end
section
set_option linter.unusedSimpArgs false
set_option linter.unusedVariables false
/-! Soundness, 4a: equality of structs and arrays. -/
namespace Go.Eng
open Go
variable {P : Program} {Φ : List It → St → Prop}

mutual
theorem eqV_ok : ∀ (k d : Nat) (t : TypeId) (x y : Value) (b : Bool) (w : World), eqV P k d t x y = some b → (Op.equalIn (d + 1) t x y).run P w = .ok b w
  | 0, _, _, _, _, _, _, h => by simp [eqV] at h
  | k + 1, d, t, x, y, b, w, h => by
    unfold eqV at h
    split at h
    · rename_i fs xs ys hu
      split at h
      · cases h
      · rename_i hp
        split at h
        · rename_i d'
          have hf : P.fieldsOf t = fs := by simp [Program.fieldsOf, hu]
          rw [run_equalIn_struct w _ t xs ys (by rw [hf]; exact hu) (by simpa using hp), hf]
          exact eqF_ok k d' xs ys fs.toList b w h
        · cases h
    · rename_i n e xs ys hu
      split at h
      · rename_i i d' hi
        rw [run_equalIn_array w _ xs ys hu hi]
        exact eqA_ok k d' e xs ys (List.range n) b w h
      · cases h
    · exact evP_run _ h w
    · cases h
theorem eqF_ok : ∀ (k d : Nat) (xs ys : Array Value) (fs : List Field) (b : Bool) (w : World), eqF P k d xs ys fs = some b → (Op.eqFields (d + 1) xs ys fs).run P w = .ok b w
  | 0, _, _, _, _, _, _, h => by simp [eqF] at h
  | k + 1, d, xs, ys, [], b, w, h => by
    simp only [eqF] at h; cases h
    simp [Op.eqFields]
  | k + 1, d, xs, ys, f :: fs, b, w, h => by
    simp only [eqF] at h
    split at h
    · rename_i hn
      split at h
      · rename_i a c ha hc
        split at h
        · rename_i r q hr hq
          cases h
          have h1 := eqV_ok k d f.type a c r w hr
          have h2 := eqF_ok k d xs ys fs q w hq
          simp only [Op.eqFields, hn, ne_eq, not_false_eq_true, if_true, Sem.run_bind, evP_run _ ha, evP_run _ hc, Result.andThen_ok, h1]
          cases r
          · simp
          · simpa using h2
        · cases h
      · cases h
    · cases h
theorem eqA_ok : ∀ (k d : Nat) (e : TypeId) (xs ys : Array Value) (is : List Nat) (b : Bool) (w : World), eqA P k d e xs ys is = some b → (Op.eqItems (d + 1) e (P.cellsOf e) xs ys is).run P w = .ok b w
  | 0, _, _, _, _, _, _, _, h => by simp [eqA] at h
  | k + 1, d, e, xs, ys, [], b, w, h => by
    simp only [eqA] at h; cases h
    simp [Op.eqItems]
  | k + 1, d, e, xs, ys, i :: is, b, w, h => by
    simp only [eqA] at h
    split at h
    · rename_i a c ha hc
      split at h
      · rename_i r q hr hq
        cases h
        have h1 := eqV_ok k d e a c r w hr
        have h2 := eqA_ok k d e xs ys is q w hq
        simp only [Op.eqItems, Sem.run_bind, evP_run _ ha, evP_run _ hc, Result.andThen_ok, h1]
        cases r
        · simp
        · simpa using h2
      · cases h
    · cases h
end

theorem eq_ok {A : Amb} {o : Oper} {S : St} {kl : List Nat} {neg : Bool} {T yT : Nat} {x y : Operand} (ho : o.op = .binOp (if neg then .neq else .eql) T x y yT) {d : DV} {os os' : List (Ora P Φ)} {R D}
    (h : (eqE neg T x y : RD P Φ DV).go S os = some (d, R, D, os')) (a : Act) (w : World) (bo : Nat → Option Nat) (σ : Nat → Value) (hR : Rel A S a.tmps w bo σ kl) :
    ∃ v, (execOp a.eval o).run P w = .ok (.value v) w ∧ RV (A.env S w bo σ) d v ∧ ∀ p ∈ refs d, p ∈ kl := by
  unfold eqE at h
  obtain ⟨dx, R1, D1, os1, R2, D2, h1, h2, rfl, rfl⟩ := go_bind _ _ h
  obtain ⟨dy, R3, D3, os3, R4, D4, h3, h4, rfl, rfl⟩ := go_bind _ _ h2
  obtain ⟨k1, -, rfl, -⟩ := opd_ok hR h1
  obtain ⟨k2, -, -, -⟩ := opd_ok hR h3
  split at h4
  · rename_i xs ys hx hy
    have e1 := toV_ok hx k1
    have e2 := toV_ok hy k2
    split at h4
    · exact (go_fail h4).elim
    · rename_i hgd
      obtain ⟨r, R5, D5, os5, R6, D6, h5, h6, rfl, rfl⟩ := go_bind _ _ h4
      obtain ⟨hr, -⟩ := go_ofO h5
      obtain ⟨rfl, -, -, -⟩ := go_ret h6
      have hq := eqV_ok 20 9999 T _ _ r w hr
      have hgd' : P.eqGuardType P.depth T = false := by simpa using hgd
      refine ⟨.bool (if neg then !r else r), ?_, rfl, fun p hp => by simp [refs, refs1, refs0] at hp⟩
      simp only [execOp, ho, e1, e2, Sem.run_bind, run_eqGuard_agg w _ T x y xs ys hgd', Result.andThen_ok]
      cases neg
      · simp only [Bool.false_eq_true, if_false, run_eql_struct, hq, Result.andThen_ok, Sem.run_pure]
      · simp only [if_true, run_neq_struct, hq, Result.andThen_ok, Sem.run_pure]
  · rename_i vx vy hn hx hy
    obtain ⟨v, hv, hok, rfl, _⟩ := resE_ok h4
    have e1 := toV_ok hx k1
    have e2 := toV_ok hy k2
    refine ⟨v, ?_, rv_ofR _ v hok, fun p hp => by rw [refs_ofR] at hp; cases hp⟩
    have := evP_run _ hv w
    simp only [execOp, ho, e1, e2]
    simp only [Sem.run_bind, this, Result.andThen_ok, Sem.run_pure]
  · exact (go_fail h4).elim

end Go.Eng
end
/-! Soundness, 5: memory. -/
section
set_option linter.unusedSimpArgs false
set_option linter.unusedVariables false
namespace Go.Eng
open Go
variable {P : Program} {Φ : List It → St → Prop}

theorem go_obj {α : Type} {S : St} {o : Nat} {k : Ob → RD P Φ α} {b : α} {os os' : List (Ora P Φ)} {R D} (h : (RD.obj o k).go S os = some (b, R, D, os')) :
    ∃ x R1, S.obj o = some x ∧ (k x).go S os = some (b, R1, D, os') ∧ R = .ob o :: R1 := by
  simp only [RD.go] at h
  split at h
  · rename_i x hx
    split at h
    · rename_i a R1 D1 os1 h1
      cases h
      exact ⟨x, R1, hx, h1, rfl⟩
    · cases h
  · cases h

theorem go_peek {α : Type} {S : St} {k : Ora P Φ → RD P Φ α} {b : α} {os os' : List (Ora P Φ)} {R D} (h : (RD.peek k).go S os = some (b, R, D, os')) :
    ∃ q os1, os = q :: os1 ∧ (k q).go S os = some (b, R, D, os') := by
  cases os with
  | nil => simp [RD.go] at h
  | cons q os1 => exact ⟨q, os1, rfl, h⟩

theorem go_req {α : Type} {S : St} {d : Ask} {k : RD P Φ α} {b : α} {os os' : List (Ora P Φ)} {R D} (h : (RD.req d k).go S os = some (b, R, D, os')) :
    ∃ q os1 D1, os = q :: os1 ∧ k.go S os1 = some (b, R, D1, os') ∧ D = d :: D1 := by
  cases os with
  | nil => simp [RD.go] at h
  | cons q os1 =>
    simp only [RD.go] at h
    split at h
    · rename_i a R1 D1 os2 h1
      cases h
      exact ⟨q, os1, D1, rfl, h1, rfl⟩
    · cases h

theorem cell_of_heap {w : World} {b T : Nat} {vs : List Value} (h : w.heap[b]? = some (.cells vs.toArray T (0, 0))) (j : Nat) (hj : j < vs.length) :
    w.cell? ⟨b, j, none⟩ = some (vs.getD j undef') := by
  simp [World.cell?, h, List.getD_eq_getElem?_getD, hj]

theorem rv0_rp {E : Env} {d : DV} {x : Value} (h : RP E.w E.ok d x) : RV0 E d x := by
  cases h with
  | v x => rfl
  | lb b => rfl
  | nl => rfl
  | ro fl esz n L A c ad f hL hc hm hA he hf hr h1 hp => exact .ro fl esz n L A c ad f hL hc hm hA he hf hr h1 hp

theorem load_ok {A : Amb} {o : Oper} {S : St} {kl : List Nat} {x : Operand} {T : Nat} (ho : o.op = .load T x) {d : DV} {os os' : List (Ora P Φ)} {R D}
    (h : ((opd x).bind fun p => loadE T p : RD P Φ DV).go S os = some (d, R, D, os')) (hs : ∀ d ∈ D, Sat P Φ d) (a : Act) (w : World) (bo : Nat → Option Nat) (σ : Nat → Value) (hR : Rel A S a.tmps w bo σ kl) :
    ∃ v, (execOp a.eval o).run P w = .ok (.value v) w ∧ RV (A.env S w bo σ) d v ∧ ∀ p ∈ refs d, p ∈ kl := by
  obtain ⟨p, R1, D1, os1, R2, D2, h1, h2, rfl, rfl⟩ := go_bind _ _ h
  obtain ⟨k1, -, rfl, k2⟩ := opd_ok hR h1
  have hexec : ∀ (ad : Addr) (v : Value), a.eval x = .pointer (some ad) → (loadVar T ad).run P w = .ok v w → (execOp a.eval o).run P w = .ok (.value v) w := by
    intro ad v he hl
    simp [execOp, ho, he, Instr.loadAt, Instr.sureAddr, hl]
  unfold loadE at h2
  split at h2
  · rename_i k off
    obtain ⟨x', R3, hx, h3, -⟩ := go_obj h2
    split at h3
    · rename_i cs
      obtain ⟨hp, -⟩ := go_ofO h3
      obtain ⟨b, T', vs, g1, g2, g3, g4⟩ := hR.ob k _ hx
      obtain ⟨b', g5, g6⟩ := k1
      have hb : b' = b := Option.some.inj (g5.symm.trans g1)
      subst hb
      obtain ⟨v, r1, r2, r3⟩ := run_pick (P := P) (E := A.env S w bo σ) hp ⟨b', 0, none⟩ (fun j => vs.getD j undef') (fun j hj => by
        rw [add_mk, Nat.zero_add]
        exact ⟨cell_of_heap g2 j (by omega), (g4 j hj).1, (g4 j hj).2⟩)
      rw [add_mk, Nat.zero_add] at r1
      refine ⟨v, hexec _ v g6 r1, r2, fun q hq => ?_⟩
      obtain ⟨e, he, hqe⟩ := r3 q hq
      exact (hR.orf k _ hx).2 q (by simp only [orefs, List.mem_flatMap]; exact ⟨e, he, hqe⟩)
    · exact (go_fail h3).elim
  · rename_i cs off
    obtain ⟨hp, -⟩ := go_ofO h2
    obtain ⟨a0, g1, g2, g3⟩ := k1
    obtain ⟨v, r1, r2, r3⟩ := run_pick (P := P) (E := A.env S w bo σ) hp a0 (fun j => (w.cell? (a0.add j)).getD undef') (fun j hj => by
      obtain ⟨y, q1, q2, q3⟩ := g3 j hj
      have q1' : w.cell? (a0.add j) = some y := q1
      refine ⟨?_, ?_, ?_⟩
      · show w.cell? (a0.add j) = _
        rw [q1']; rfl
      · rw [q1']; exact rv0_rp q3
      · rw [q1']; exact q2)
    refine ⟨v, hexec _ v g2 r1, r2, fun q hq => ?_⟩
    obtain ⟨e, he, hqe⟩ := r3 q hq
    exfalso
    obtain ⟨j, hj, rfl⟩ := List.getElem_of_mem he
    obtain ⟨y, -, -, q3⟩ := g3 j hj
    have : cs.getD j .un = cs[j] := by simp [List.getD_eq_getElem?_getD, hj]
    rw [this] at q3
    generalize cs[j] = c at q3 hqe
    cases q3 <;> simp [refs0] at hqe
  · rename_i k i esz off
    obtain ⟨x', R3, hx, h3, -⟩ := go_obj h2
    split at h3
    · rename_i fl T' s n L
      split at h3
      · rename_i hse
        have hse : s = esz := by simpa using hse
        subst hse
        obtain ⟨q, os4, rfl, h4⟩ := go_peek h3
        split at h4
        · rename_i i' L' cs hel
          obtain ⟨_, os5, D5, -, h5, rfl⟩ := go_req h4
          obtain ⟨hp, -⟩ := go_ofO h5
          have hsat : 0 ≤ (i : Int) ∧ L[(i : Int).toNat]? = some cs := hs (.el i L cs) (by simp)
          have hLi : L[i]? = some cs := by simpa using hsat.2
          obtain ⟨g1, g2, g3, g4, g5, vs, g6, g7⟩ := hR.ob k _ hx
          obtain ⟨b, q1, q2⟩ := k1
          have hin : i < n := by
            rw [← g1]
            rcases Nat.lt_or_ge i L.length with h | h
            · exact h
            · rw [List.getElem?_eq_none h] at hLi; cases hLi
          obtain ⟨hvl, hown⟩ := g6
          have hcs : cs.length = s := g3 cs (List.mem_of_getElem? hLi)
          have hLd : L.getD i [] = cs := by simp [List.getD_eq_getElem?_getD, hLi]
          have hbo : bo k = some b := q1
          rcases hown with ⟨-, h0⟩ | ⟨g, cap, cur, hv, -, hh, hnc, -, hcs2, htk⟩
          · omega
          · have hbg : b = g := by
              have e : bo k = (σ k).ownBlock := g5
              have hv' : σ k = .slice (some ⟨g, 0, none⟩) n cap := hv
              rw [hv', hbo] at e
              simpa [Value.ownBlock] using e
            subst hbg
            have hcell : ∀ j, j < s → w.cell? ⟨b, i * s + j, none⟩ = some (vs.getD (i * s + j) undef') := by
              intro j hj
              have hlt : i * s + j < n * s := by
                have : (i + 1) * s ≤ n * s := Nat.mul_le_mul_right s (by omega)
                have : (i + 1) * s = i * s + s := Nat.succ_mul i s
                omega
              have hh' : w.heap[b]? = some (.cells cur T' (0, 0)) := hh
              have : vs.getD (i * s + j) undef' = cur[i * s + j]?.getD undef' := by
                rw [← htk]
                simp [List.getD_eq_getElem?_getD, hlt]
              rw [this]
              have hsz : i * s + j < cur.size := by
                have : n * s ≤ cap * s := Nat.mul_le_mul_right s hnc
                omega
              simp [World.cell?, hh', hsz]
            obtain ⟨v, r1, r2, r3⟩ := run_pick (P := P) (E := A.env S w bo σ) hp ⟨b, i * s, none⟩ (fun j => vs.getD (i * s + j) undef') (fun j hj => by
              rw [add_mk]
              have h7 := g7 i j hin (by omega)
              rw [hLd] at h7
              exact ⟨hcell j (by omega), rv0_rp h7.1, h7.2⟩)
            rw [add_mk] at r1
            refine ⟨v, hexec _ v q2 r1, r2, fun q hq => ?_⟩
            obtain ⟨e, he, hqe⟩ := r3 q hq
            exfalso
            obtain ⟨j, hj, rfl⟩ := List.getElem_of_mem he
            have h7 := (g7 i j hin (by omega)).1
            rw [hLd] at h7
            have : cs.getD j .un = cs[j] := by simp [List.getD_eq_getElem?_getD, hj]
            rw [this] at h7
            generalize cs[j] = c at h7 hqe
            generalize vs.getD (i * s + j) undef' = y at h7
            cases h7 <;> simp [refs0] at hqe
        · exact (go_fail h4).elim
      · exact (go_fail h3).elim
    · exact (go_fail h3).elim
  · exact (go_fail h2).elim


/-! stores -/
theorem run_stores (b o T : Nat) : ∀ (l : List Value) (i : Nat) (vs : List Value) (w : World), w.heap[b]? = some (.cells vs.toArray T (0, 0)) → o + i + l.length ≤ vs.length → (∀ v ∈ l, v.oneCell' = true) →
    ∃ w', (storeCells ⟨b, o, none⟩ l i).run P w = .ok () w' ∧ Keep w w' (fun k => k = b) ∧ w'.heap.size = w.heap.size ∧
      ∃ vs' : List Value, w'.heap[b]? = some (.cells vs'.toArray T (0, 0)) ∧ vs'.length = vs.length ∧ ∀ j, vs'.getD j undef' = if o + i ≤ j ∧ j < o + i + l.length then l.getD (j - (o + i)) undef' else vs.getD j undef'
  | [], i, vs, w, hh, _, _ => ⟨w, by simp [storeCells], Keep.refl _ _, rfl, vs, hh, rfl, fun j => by
      have : ¬ (o + i ≤ j ∧ j < o + i + ([] : List Value).length) := by simp
      rw [if_neg this]⟩
  | v :: l, i, vs, w, hh, hl, h1 => by
    simp only [List.length_cons] at hl
    have hc : w.cell? ⟨b, o + i, none⟩ = some (vs.getD (o + i) undef') := cell_of_heap hh _ (by omega)
    have hf : w.frozen? ⟨b, o + i, none⟩ = false := by simp [World.frozen?, hh]
    have hv := h1 v (by simp)
    have hst : (store (⟨b, o + i, none⟩ : Addr) v).run P w = .ok () (w.setCell ⟨b, o + i, none⟩ v) := by
      rw [run_store P w _ v .plain hv]
      simp [hc, hf]
    have hblk : ∀ k, (w.setCell ⟨b, o + i, none⟩ v).heap[k]? = if k = b then some (.cells (vs.set (o + i) v).toArray T (0, 0)) else w.heap[k]? := by
      intro k
      simp only [World.setCell, Array.getElem?_modify]
      by_cases hk : b = k
      · subst hk; simp [hh]
      · have : ¬ k = b := fun e => hk e.symm
        simp [hk, this]
    obtain ⟨w', r1, r2, r3, vs', r4, r5, r6⟩ := run_stores b o T l (i + 1) (vs.set (o + i) v) (w.setCell ⟨b, o + i, none⟩ v) (by rw [hblk, if_pos rfl]) (by simp; omega) (fun u hu => h1 u (by simp [hu]))
    refine ⟨w', ?_, ?_, ?_, vs', r4, by simpa using r5, fun j => ?_⟩
    · simp only [storeCells, Sem.run_bind, add_mk, hst, Result.andThen_ok]
      exact r1
    · have hk : Keep w (w.setCell ⟨b, o + i, none⟩ v) (fun k => k = b) := ⟨rfl, rfl, rfl, by simp [World.setCell], fun k _ hk => by rw [hblk, if_neg hk]⟩
      exact hk.trans r2 fun _ _ h => h
    · rw [r3]; simp [World.setCell]
    · rw [r6]
      simp only [List.getD_eq_getElem?_getD, List.getElem?_set, List.length_cons]
      by_cases hj : j = o + i
      · subst hj
        have h2 : ¬ (o + (i + 1) ≤ o + i ∧ o + i < o + (i + 1) + l.length) := by omega
        have h3 : o + i ≤ o + i ∧ o + i < o + i + (l.length + 1) := by omega
        rw [if_neg h2, if_pos h3]
        have h4 : o + i < vs.length := by omega
        simp [h4]
      · by_cases hj2 : o + (i + 1) ≤ j ∧ j < o + (i + 1) + l.length
        · have h3 : o + i ≤ j ∧ j < o + i + (l.length + 1) := by omega
          rw [if_pos hj2, if_pos h3]
          have : j - (o + i) = (j - (o + (i + 1))) + 1 := by omega
          rw [this]; simp
        · have h3 : ¬ (o + i ≤ j ∧ j < o + i + (l.length + 1)) := by omega
          rw [if_neg hj2, if_neg h3]
          have : ¬ o + i = j := fun e => hj e.symm
          simp [this]

theorem setRange_len : ∀ (cs : List DV) (off : Nat) (l : List DV), (setRange cs off l).length = cs.length
  | _, _, [] => rfl
  | cs, off, d :: l => by simp only [setRange]; rw [setRange_len]; simp

theorem setRange_get : ∀ (cs : List DV) (off : Nat) (l : List DV) (j : Nat), off + l.length ≤ cs.length → (setRange cs off l).getD j .un = if off ≤ j ∧ j < off + l.length then l.getD (j - off) .un else cs.getD j .un
  | cs, off, [], j, _ => by
    have : ¬ (off ≤ j ∧ j < off + ([] : List DV).length) := by simp
    rw [if_neg this]; rfl
  | cs, off, d :: l, j, h => by
    simp only [List.length_cons] at h
    simp only [setRange]
    rw [setRange_get (cs.set off d) (off + 1) l j (by simp; omega)]
    simp only [List.length_cons]
    by_cases hj : j = off
    · subst hj
      have h2 : ¬ (j + 1 ≤ j ∧ j < j + 1 + l.length) := by omega
      have h3 : j ≤ j ∧ j < j + (l.length + 1) := by omega
      rw [if_neg h2, if_pos h3]
      have : j < cs.length := by omega
      simp [List.getD_eq_getElem?_getD, this]
    · by_cases hj2 : off + 1 ≤ j ∧ j < off + 1 + l.length
      · have h3 : off ≤ j ∧ j < off + (l.length + 1) := by omega
        rw [if_pos hj2, if_pos h3]
        have : j - off = (j - (off + 1)) + 1 := by omega
        rw [this]; simp
      · have h3 : ¬ (off ≤ j ∧ j < off + (l.length + 1)) := by omega
        rw [if_neg hj2, if_neg h3]
        have : ¬ off = j := fun e => hj e.symm
        simp [List.getD_eq_getElem?_getD, this]

/-- the cells of a value and of what it is told as -/
theorem cells_rel {E : Env} {d : DV} {x : Value} (h : RV E d x) (hone : (cellsOf d).all oneD = true) : x.cells.toList.length = (cellsOf d).length ∧
    ∀ j, j < (cellsOf d).length → RV0 E ((cellsOf d).getD j .un) (x.cells.toList.getD j undef') ∧ (x.cells.toList.getD j undef').oneCell' = true := by
  cases d with
  | ag cs =>
    obtain ⟨vs, rfl, h2, h3⟩ := h
    simp only [cellsOf, Value.cells]
    exact ⟨h2, h3⟩
  | tu vs => simp [cellsOf, oneD] at hone
  | un => simp [cellsOf, oneD] at hone
  | v y =>
    simp only [RV, RV1, RV0] at h
    subst h
    simp only [cellsOf, List.all_cons, oneD, List.all_nil, Bool.and_true] at hone
    have hc : x.cells = #[x] := by cases x <;> first | rfl | simp [Value.oneCell'] at hone
    rw [hc]
    refine ⟨rfl, fun j hj => ?_⟩
    simp [cellsOf] at hj; subst hj
    exact ⟨rfl, hone⟩
  | lb b =>
    simp only [RV, RV1, RV0] at h
    subst h
    refine ⟨rfl, fun j hj => ?_⟩
    simp [cellsOf] at hj; subst hj
    exact ⟨rfl, rfl⟩
  | nl =>
    simp only [RV, RV1, RV0] at h
    subst h
    refine ⟨rfl, fun j hj => ?_⟩
    simp [cellsOf] at hj; subst hj
    exact ⟨rfl, rfl⟩
  | bx o off =>
    obtain ⟨b, h1, rfl⟩ := h
    refine ⟨rfl, fun j hj => ?_⟩
    simp [cellsOf] at hj; subst hj
    exact ⟨⟨b, h1, rfl⟩, rfl⟩
  | pw o i esz off =>
    obtain ⟨b, h1, rfl⟩ := h
    refine ⟨rfl, fun j hj => ?_⟩
    simp [cellsOf] at hj; subst hj
    exact ⟨⟨b, h1, rfl⟩, rfl⟩
  | pe cs off =>
    have h' := h
    obtain ⟨a0, h1, rfl, h3⟩ := h
    refine ⟨rfl, fun j hj => ?_⟩
    simp [cellsOf] at hj; subst hj
    exact ⟨h', rfl⟩
  | cl f cs =>
    have h' := h
    obtain ⟨vs, rfl, h3⟩ := h
    refine ⟨rfl, fun j hj => ?_⟩
    simp [cellsOf] at hj; subst hj
    exact ⟨h', rfl⟩
  | ro fl esz n L =>
    have h' := h
    simp only [RV, RV1, RV0] at h
    cases h
    refine ⟨rfl, fun j hj => ?_⟩
    simp [cellsOf] at hj; subst hj
    exact ⟨h', rfl⟩
  | ow o =>
    have h' := h
    obtain ⟨-, A, n, c, rfl⟩ := h
    refine ⟨rfl, fun j hj => ?_⟩
    simp [cellsOf] at hj; subst hj
    exact ⟨h', rfl⟩

end Go.Eng
end
/-! Soundness, 6: stores, new boxes, addresses, lengths. -/
section
set_option linter.unusedSimpArgs false
set_option linter.unusedVariables false
namespace Go.Eng
open Go
variable {P : Program} {Φ : List It → St → Prop}

theorem okS_keep {A : Amb} {S S' : St} {w w' : World} {bo : Nat → Option Nat} {X : Nat → Prop} (hk : Keep w w' X) (hX : ∀ k, X k → ∃ o x, S.obj o = some x ∧ bo o = some k)
    (hS : ∀ o x, S'.obj o = some x → (∃ y, S.obj o = some y) ∨ ∀ b, bo o = some b → w.heap.size ≤ b) : ∀ k, okS A S w bo k → okS A S' w' bo k ∧ w'.heap[k]? = w.heap[k]? := by
  intro k ⟨h1, h2, h3⟩
  refine ⟨⟨Nat.lt_of_lt_of_le h1 hk.size, h2, fun o x hx hb => ?_⟩, hk.block k h1 fun hx => ?_⟩
  · rcases hS o x hx with ⟨y, hy⟩ | h
    · exact h3 o y hy hb
    · have := h k hb; omega
  · obtain ⟨o, x, h4, h5⟩ := hX k hx
    exact h3 o x h4 h5

theorem storeVar_run {T n : Nat} (hn : tsize P T = some n) (a : Addr) (v : Value) (hv : v.cells.size = n) (w : World) : (storeVar T a v).run P w = (storeCells a v.cells.toList).run P w := by
  unfold storeVar
  simp only [Sem.run_bind, tsize_run hn, Result.andThen_ok]
  simp [hv]

theorem store_ok {A : Amb} {o : Oper} {S : St} {kl : List Nat} {x y : Operand} {T : Nat} (ho : o.op = .store T x y) {u : Upd} {os os' : List (Ora P Φ)} {R D}
    (h : ((opd x).bind fun p => (opd y).bind fun d => if o.dst.isNone && tsize P T == some (cellsOf d).length && (cellsOf d).all oneD then storeE p (cellsOf d) else .fail : RD P Φ Upd).go S os = some (u, R, D, os'))
    (hs : ∀ d ∈ D, Sat P Φ d) : OpOk P A o S u kl := by
  intro a w bo σ hR hnew K Q hK
  obtain ⟨p, R1, D1, os1, R2, D2, h1, h2, rfl, rfl⟩ := go_bind _ _ h
  obtain ⟨d, R3, D3, os3, R4, D4, h3, h4, rfl, rfl⟩ := go_bind _ _ h2
  obtain ⟨k1, rfl, rfl, k2⟩ := opd_ok hR h1
  obtain ⟨k3, rfl, rfl, k4⟩ := opd_ok hR h3
  by_cases hc : (o.dst.isNone && tsize P T == some (cellsOf d).length && (cellsOf d).all oneD) = true
  case neg => rw [if_neg hc] at h4; exact (go_fail h4).elim
  rw [if_pos hc] at h4
  simp only [Bool.and_eq_true, Option.isNone_iff_eq_none, beq_iff_eq] at hc
  obtain ⟨⟨hdst, hsz⟩, hone⟩ := hc
  obtain ⟨c1, c2⟩ := cells_rel k3 hone
  have hvs : (a.eval y).cells.size = (cellsOf d).length := by simpa using c1
  have hexec : ∀ (ad : Addr) (w' : World), a.eval x = .pointer (some ad) → (storeCells ad (a.eval y).cells.toList).run P w = .ok () w' → (execOp a.eval o).run P w = .ok .skip w' := by
    intro ad w' he hl
    have := storeVar_run (P := P) hsz ad (a.eval y) hvs w
    simp [execOp, ho, he, Instr.storeAt, Instr.sureAddr, this, hl]
  have hall : ∀ v ∈ (a.eval y).cells.toList, v.oneCell' = true := by
    intro v hv
    obtain ⟨j, hj, rfl⟩ := List.getElem_of_mem hv
    have := (c2 j (by omega)).2
    have e : (a.eval y).cells.toList.getD j undef' = (a.eval y).cells.toList[j] := by simp only [List.getD_eq_getElem?_getD, List.getElem?_eq_getElem hj, Option.getD_some]
    rw [e] at this; exact this
  have hrefs : ∀ j, j < (cellsOf d).length → ∀ q ∈ refs0 ((cellsOf d).getD j .un), q ∈ kl := by
    intro j hj q hq
    refine k4 q ?_
    cases d with
    | ag cs =>
      simp only [refs, refs1, List.mem_flatMap]
      exact ⟨_, getD_mem cs j _ hj, hq⟩
    | tu ws => simp [cellsOf] at hj; subst hj; simp [cellsOf, refs0] at hq
    | _ => simp [cellsOf] at hj; subst hj; exact hq
  unfold storeE at h4
  split at h4
  · rename_i k off
    obtain ⟨x', R5, hx, h5, -⟩ := go_obj h4
    split at h5
    · rename_i cs
      split at h5
      · rename_i hle
        obtain ⟨rfl, -, -, -⟩ := go_ret h5
        obtain ⟨b, T', vs, g1, g2, g3, g4⟩ := hR.ob k _ hx
        obtain ⟨b', g5, g6⟩ := k1
        have hb : b' = b := Option.some.inj (g5.symm.trans g1)
        subst hb
        have g1' : bo k = some b' := g1
        obtain ⟨w', r1, r2, r3, vs', r4, r5, r6⟩ := run_stores (P := P) b' off T' (a.eval y).cells.toList 0 vs w g2 (by omega) hall
        refine wp_skipv (hexec _ w' g6 r1) ?_
        have hmono := okS_keep (A := A) (S := S) (S' := S.app ⟨[], [(k, some (.box (setRange cs off (cellsOf d))))], []⟩) (bo := bo) r2 (fun k' hk' => ⟨k, _, hx, by rw [hk']; exact g1'⟩) (fun o' x' hx' => by
          rw [app_obj] at hx'
          by_cases he : k = o'
          · subst he; exact .inl ⟨_, hx⟩
          · rw [wrOb_not (by simp; exact fun e => he e.symm)] at hx'; exact .inl ⟨_, hx'⟩)
        have hobj : (S.app ⟨[], [(k, some (.box (setRange cs off (cellsOf d))))], []⟩).obj k = some (.box (setRange cs off (cellsOf d))) := by rw [app_obj]; simp [wrOb]
        have hst := hR.step (w' := w') (bo' := bo) (σ' := σ) ⟨[], [(k, some (.box (setRange cs off (cellsOf d))))], []⟩ none undef
          ⟨r2.os, r2.tape, r2.output, r2.size, fun k' hk' hn => r2.block k' hk' fun e => hn ⟨k, by simp, _, hx, by rw [e]; exact g1'⟩⟩
          (fun _ _ => ⟨rfl, rfl⟩) (.inl ⟨rfl, rfl⟩)
          (fun o' x' ho' hx' => by
            simp at ho'; subst ho'
            rw [hobj] at hx'; cases hx'
            refine ⟨⟨b', T', vs', g1', r4, by rw [r5, g3, setRange_len], fun j hj => ?_⟩, by simpa using (hR.orf o' _ hx).1, fun q hq => ?_, fun b2 hb2 => ?_⟩
            · rw [setRange_len] at hj
              rw [setRange_get _ _ _ _ (by omega), r6]
              have e0 : (off + 0 ≤ j ∧ j < off + 0 + (a.eval y).cells.toList.length) ↔ (off ≤ j ∧ j < off + (cellsOf d).length) := by rw [c1]; omega
              by_cases hin : off ≤ j ∧ j < off + (cellsOf d).length
              · rw [if_pos hin, if_pos (e0.2 hin)]
                have := c2 (j - off) (by omega)
                refine ⟨?_, by simpa using this.2⟩
                have h7 := RV0.mono (E' := A.env (S.app ⟨[], [(o', some (.box (setRange cs off (cellsOf d))))], []⟩) w' bo σ) this.1 hmono (fun _ _ => ⟨rfl, rfl⟩)
                simpa using h7
              · rw [if_neg hin, if_neg (fun h => hin (e0.1 h))]
                exact ⟨RV0.mono (g4 j hj).1 hmono (fun _ _ => ⟨rfl, rfl⟩), (g4 j hj).2⟩
            · simp only [orefs, List.mem_flatMap] at hq
              obtain ⟨e, he, hq⟩ := hq
              obtain ⟨j, hj, rfl⟩ := List.getElem_of_mem he
              have hj' : j < cs.length := by rw [setRange_len] at hj; exact hj
              have e1 : (setRange cs off (cellsOf d))[j] = (setRange cs off (cellsOf d)).getD j .un := by simp [List.getD_eq_getElem?_getD, hj]
              rw [e1, setRange_get _ _ _ _ (by omega)] at hq
              split at hq
              · exact List.mem_append.2 (.inr (hrefs _ (by omega) q hq))
              · refine List.mem_append.2 (.inr ((hR.orf o' _ hx).2 q ?_))
                simp only [orefs, List.mem_flatMap]
                exact ⟨_, getD_mem cs j _ hj', hq⟩
            · have : b2 = b' := Option.some.inj (hb2.symm.trans g1')
              subst this
              exact ⟨Nat.lt_of_lt_of_le (hR.live o' _ b2 hx g1').1 r2.size, fun _ => ⟨o', by simp, _, hx, g1'⟩⟩)
          (fun o1 o2 x1 x2 b1 ho1 ho2 _ _ _ _ => by simp at ho1 ho2; rw [ho1, ho2])
        rw [hdst] at hK ⊢
        exact hK undef w' bo σ hst
      · exact (go_fail h5).elim
    · exact (go_fail h5).elim
  · rename_i k i esz off
    obtain ⟨x', R5, hx, h5, -⟩ := go_obj h4
    split at h5
    · rename_i fl T' s n L
      split at h5
      · rename_i hse
        have hse : s = esz := by simpa using hse
        subst hse
        obtain ⟨q1, os4, rfl, h6⟩ := go_peek h5
        split at h6
        · rename_i i' L1 cs hel
          obtain ⟨_, os5, D5, -, h7, rfl⟩ := go_req h6
          obtain ⟨q2, os6, -, h8⟩ := go_peek h7
          split at h8
          · rename_i nq n' L2 i2 cs2 L' hupd
            split at h8
            · rename_i hcond
              obtain ⟨_, os7, D7, -, h9, rfl⟩ := go_req h8
              obtain ⟨rfl, -, -, -⟩ := go_ret h9
              simp only [Bool.and_eq_true, decide_eq_true_eq, List.all_eq_true] at hcond
              have hsat : 0 ≤ (i : Int) ∧ L[(i : Int).toNat]? = some cs := hs (.el i L cs) (by simp)
              have hLi : L[i]? = some cs := by simpa using hsat.2
              obtain ⟨hL', hnn⟩ : L.set i (setRange cs off ((cellsOf d).map nrm0)) = L' ∧ n = n' := hs (.upd n n' L i (setRange cs off ((cellsOf d).map nrm0)) L') (by simp)
              have hlen : ((cellsOf d).map nrm0).length = (cellsOf d).length := List.length_map _
              have hget : ∀ k, k < (cellsOf d).length → ((cellsOf d).map nrm0).getD k .un = nrm0 ((cellsOf d).getD k .un) := fun k hk => by simp [List.getD_eq_getElem?_getD, hk]
              subst hL'
              subst hnn
              obtain ⟨g1, g2, g3, g4, g5, vs, g6, g7⟩ := hR.ob k _ hx
              obtain ⟨b, p1, p2⟩ := k1
              have hin : i < n := by
                rw [← g1]
                rcases Nat.lt_or_ge i L.length with h | h
                · exact h
                · rw [List.getElem?_eq_none h] at hLi; cases hLi
              have hcs : cs.length = s := g3 cs (List.mem_of_getElem? hLi)
              have hbo : bo k = some b := p1
              obtain ⟨hvl, hown⟩ := g6
              rcases hown with ⟨-, h0⟩ | ⟨g, cap, cur, hv, hg0, hh, hnc, hcm, hcs2, htk⟩
              · omega
              have hv' : σ k = .slice (some ⟨g, 0, none⟩) n cap := hv
              have hbg : b = g := by
                have e : bo k = (σ k).ownBlock := g5
                rw [hv', hbo] at e
                simpa [Value.ownBlock] using e
              subst hbg
              have hh0 : w.heap[b]? = some (.cells cur T' (0, 0)) := hh
              have hh' : w.heap[b]? = some (.cells cur.toList.toArray T' (0, 0)) := by simpa using hh0
              have hns : n * s ≤ cap * s := Nat.mul_le_mul_right s hnc
              have his : i * s + s ≤ n * s := by
                have : (i + 1) * s ≤ n * s := Nat.mul_le_mul_right s (by omega)
                have : (i + 1) * s = i * s + s := Nat.succ_mul i s
                omega
              obtain ⟨w', r1, r2, r3, vs', r4, r5, r6⟩ := run_stores (P := P) b (i * s + off) T' (a.eval y).cells.toList 0 cur.toList w hh' (by simp [hcs2]; simp at c1; omega) hall
              refine wp_skipv (hexec _ w' p2 r1) ?_
              have hmono := okS_keep (A := A) (S := S) (S' := S.app ⟨[], [(k, some (.row fl T' s n (L.set i (setRange cs off ((cellsOf d).map nrm0)))))], []⟩) (bo := bo) r2 (fun k' hk' => ⟨k, _, hx, by rw [hk']; exact hbo⟩) (fun o' x' hx' => by
                rw [app_obj] at hx'
                by_cases he : k = o'
                · subst he; exact .inl ⟨_, hx⟩
                · rw [wrOb_not (by simp; exact fun e => he e.symm)] at hx'; exact .inl ⟨_, hx'⟩)
              have hobj : (S.app ⟨[], [(k, some (.row fl T' s n (L.set i (setRange cs off ((cellsOf d).map nrm0)))))], []⟩).obj k = some (.row fl T' s n (L.set i (setRange cs off ((cellsOf d).map nrm0)))) := by rw [app_obj]; simp [wrOb]
              have hvs_cur : ∀ j, j < n * s → vs.getD j undef' = cur.toList.getD j undef' := by
                intro j hj
                rw [← htk]; simp [List.getD_eq_getElem?_getD, List.getElem?_take, hj]
              have hst := hR.step (w' := w') (bo' := bo) (σ' := σ) ⟨[], [(k, some (.row fl T' s n (L.set i (setRange cs off ((cellsOf d).map nrm0)))))], []⟩ none undef
                ⟨r2.os, r2.tape, r2.output, r2.size, fun k' hk' hn => r2.block k' hk' fun e => hn ⟨k, by simp, _, hx, by rw [e]; exact hbo⟩⟩
                (fun _ _ => ⟨rfl, rfl⟩) (.inl ⟨rfl, rfl⟩)
                (fun o' x' ho' hx' => by
                  simp at ho'; subst ho'
                  rw [hobj] at hx'; cases hx'
                  refine ⟨⟨by simpa using g1, g2, fun l hl => ?_, fun hfl l hl e he => ?_, g5, (vs'.take (n * s)), ⟨?_, .inr ⟨b, cap, vs'.toArray, hv, hg0, r4, hnc, hcm, by simp [r5, hcs2], by simp⟩⟩, fun i2 j hi2 hj => ?_⟩, by simpa using (hR.orf o' _ hx).1, fun q hq => by simp [orefs] at hq, fun b2 hb2 => ?_⟩
                  · rcases List.mem_or_eq_of_mem_set hl with h | h
                    · exact g3 l h
                    · rw [h, setRange_len, hcs]
                  · rcases List.mem_or_eq_of_mem_set hl with h | h
                    · exact g4 hfl l h e he
                    · rw [h] at he
                      obtain ⟨j, hj, rfl⟩ := List.getElem_of_mem he
                      have hj' : j < cs.length := by rw [setRange_len] at hj; exact hj
                      have e1 : (setRange cs off ((cellsOf d).map nrm0))[j] = (setRange cs off ((cellsOf d).map nrm0)).getD j .un := by simp [List.getD_eq_getElem?_getD, hj]
                      rw [e1, setRange_get _ _ _ _ (by rw [hlen]; exact hcond.1), hlen]
                      split
                      · rw [hget _ (by omega)]
                        have := hcond.2 _ (getD_mem (cellsOf d) (j - off) .un (by omega))
                        generalize (cellsOf d).getD (j - off) .un = e5 at this
                        cases e5 <;> simp [flatD] at this <;> rfl
                      · exact g4 hfl cs (List.mem_of_getElem? hLi) _ (getD_mem _ _ _ hj')
                  · rw [List.length_take, r5]; simp only [Array.length_toList, hcs2]; omega
                  · have hij : i2 * s + j < n * s := by
                      have : (i2 + 1) * s ≤ n * s := Nat.mul_le_mul_right s (by omega)
                      have : (i2 + 1) * s = i2 * s + s := Nat.succ_mul i2 s
                      omega
                    have e2 : (vs'.take (n * s)).getD (i2 * s + j) undef' = vs'.getD (i2 * s + j) undef' := by
                      simp [List.getD_eq_getElem?_getD, List.getElem?_take, hij]
                    rw [e2, r6]
                    by_cases hii : i2 = i
                    · subst hii
                      have e3 : (L.set i2 (setRange cs off ((cellsOf d).map nrm0))).getD i2 [] = setRange cs off ((cellsOf d).map nrm0) := by
                        have : i2 < L.length := by omega
                        simp [List.getD_eq_getElem?_getD, this]
                      rw [e3, setRange_get _ _ _ _ (by rw [hlen]; exact hcond.1), hlen]
                      have e0 : (i2 * s + off + 0 ≤ i2 * s + j ∧ i2 * s + j < i2 * s + off + 0 + (a.eval y).cells.toList.length) ↔ (off ≤ j ∧ j < off + (cellsOf d).length) := by rw [c1]; omega
                      by_cases hoo : off ≤ j ∧ j < off + (cellsOf d).length
                      · rw [if_pos hoo, if_pos (e0.2 hoo), hget _ (by omega)]
                        have h10 := c2 (j - off) (by omega)
                        have e4 : i2 * s + j - (i2 * s + off + 0) = j - off := by omega
                        rw [e4]
                        refine ⟨?_, h10.2⟩
                        have hfl2 := hcond.2 _ (getD_mem (cellsOf d) (j - off) .un (by omega))
                        have h11 := h10.1
                        generalize (cellsOf d).getD (j - off) .un = e5 at hfl2 h11
                        cases e5 <;> simp [flatD] at hfl2 <;> simp only [RV0] at h11 <;> rw [h11] <;> constructor
                      · rw [if_neg hoo, if_neg (fun h => hoo (e0.1 h))]
                        have h10 := g7 i2 j hi2 hj
                        have e6 : L.getD i2 [] = cs := by simp [List.getD_eq_getElem?_getD, hLi]
                        rw [e6, hvs_cur _ hij] at h10
                        exact ⟨h10.1.mono hmono, h10.2⟩
                    · have e3 : (L.set i (setRange cs off ((cellsOf d).map nrm0))).getD i2 [] = L.getD i2 [] := by
                        have : ¬ i = i2 := fun e => hii e.symm
                        simp [List.getD_eq_getElem?_getD, List.getElem?_set, this]
                      rw [e3]
                      have hnot : ¬ (i * s + off + 0 ≤ i2 * s + j ∧ i2 * s + j < i * s + off + 0 + (a.eval y).cells.toList.length) := by
                        rw [c1]
                        intro ⟨q1, q2⟩
                        rcases Nat.lt_or_gt_of_ne hii with hlt | hlt
                        · have : (i2 + 1) * s ≤ i * s := Nat.mul_le_mul_right s (by omega)
                          have : (i2 + 1) * s = i2 * s + s := Nat.succ_mul i2 s
                          omega
                        · have : (i + 1) * s ≤ i2 * s := Nat.mul_le_mul_right s (by omega)
                          have : (i + 1) * s = i * s + s := Nat.succ_mul i s
                          omega
                      rw [if_neg hnot]
                      have h10 := g7 i2 j hi2 hj
                      rw [hvs_cur _ hij] at h10
                      exact ⟨h10.1.mono hmono, h10.2⟩
                  · have : b2 = b := Option.some.inj (hb2.symm.trans hbo)
                    subst this
                    exact ⟨Nat.lt_of_lt_of_le (hR.live o' _ b2 hx hbo).1 r2.size, fun _ => ⟨o', by simp, _, hx, hbo⟩⟩)
                (fun o1 o2 x1 x2 b1 ho1 ho2 _ _ _ _ => by simp at ho1 ho2; rw [ho1, ho2])
              rw [hdst] at hK ⊢
              exact hK undef w' bo σ hst
            · exact (go_fail h8).elim
          · exact (go_fail h8).elim
        · exact (go_fail h6).elim
      · exact (go_fail h5).elim
    · exact (go_fail h5).elim
  · exact (go_fail h4).elim

end Go.Eng
end
