import Derived.Test.YtdfepbmcglnhcaaEngA
/-! The abstract machine: the run. -/
set_option linter.unusedSimpArgs false
set_option linter.unusedVariables false
namespace Go.Eng
open Go

inductive It where
  | code (c : Code)
  | endb (id : Nat)
  | lp (c : Code)

/-- a place of a cell -/
inductive Pl where
  | sl (t : Nat)
  | sc (t j : Nat)
  | ob (o j : Nat)

/-- another telling of one cell: a nil slice as an own row or as one that is read alone, an own row as one that is read alone -/
inductive Adj where
  | own (pl : Pl) (k T esz : Nat) (fl : Bool)
  | nro (pl : Pl) (esz : Nat) (fl : Bool)
  | frz (pl : Pl)

variable (P : Program) (Φ : List It → St → Prop)

/-- what the one who proves hands in, in the run's order -/
inductive Ora where
  | br {c b : Bool} (h : c = b)
  | num {n m : Int} (h : n = m)
  | nz {y : Int} (h : y ≠ 0)
  | le {a b : Nat} (h : a ≤ b)
  | ib {i : Int} {s : Nat} (h : 0 ≤ i ∧ i < s)
  | el {i : Int} {L : List (List DV)} {cs : List DV} (h : 0 ≤ i ∧ L[i.toNat]? = some cs)
  | upd {n n' : Nat} {L : List (List DV)} {i : Nat} {cs : List DV} {L' : List (List DV)} (h : L.set i cs = L' ∧ n = n')
  | cat {n k : Nat} {L M L' : List (List DV)} (h : L ++ M = L' ∧ n = k)
  | call (to : List (Nat × Nat)) {f : Nat} {as : List DV} {pre post : Obs} {r : DV} (h : Fn P f as pre post r)
  | seg {L L' : List (List DV)} {lo hi : Int} {n n' : Nat} (h : 0 ≤ lo ∧ lo ≤ hi ∧ hi ≤ n ∧ (L.take hi.toNat).drop lo.toNat = L' ∧ L'.length = n')
  | b3 {lo hi : Int} {n : Nat} (h : 0 ≤ lo ∧ lo ≤ hi ∧ hi ≤ n)
  | sx {i : Int} {s : ByteArray} {b : UInt8} (h : 0 ≤ i ∧ s[i.toNat]? = some b)
  | mks {n m : Int} {k : Nat} {z : List DV} {L : List (List DV)} (h : n = (k : Int) ∧ m = (k : Int) ∧ List.replicate k z = L)
  | str {L : List (List DV)} {s : ByteArray} (h : L = s.data.toList.map fun c => [.v (.int .u8 (c.toNat : Int))])
  | adj (id : Nat) (c : Adj)
  | tidy (id : Nat) (keep : List Nat) (to : List (Nat × Nat))
  | unroll
  | fin (id : Nat) (keep : List Nat) (to : List (Nat × Nat)) {items : List It} {S : St} (h : Φ items S)

/-- what the run asks -/
inductive Ask where
  | br (c b : Bool)
  | num (n m : Int)
  | nz (y : Int)
  | le (a b : Nat)
  | ib (i : Int) (s : Nat)
  | el (i : Int) (L : List (List DV)) (cs : List DV)
  | upd (n n' : Nat) (L : List (List DV)) (i : Nat) (cs : List DV) (L' : List (List DV))
  | cat (n k : Nat) (L M L' : List (List DV))
  | call (f : Nat) (as : List DV) (pre post : Obs) (r : DV)
  | seg (L L' : List (List DV)) (lo hi : Int) (n n' : Nat)
  | b3 (lo hi : Int) (n : Nat)
  | sx (i : Int) (s : ByteArray) (b : UInt8)
  | mks (n m : Int) (k : Nat) (z : List DV) (L : List (List DV))
  | str (L : List (List DV)) (s : ByteArray)
  | adj
  | unroll
  | fin (items : List It) (S : St)
  | ret (r : DV) (post : Obs)

variable {P Φ}
def Ora.ask : Ora P Φ → Ask
  | @Ora.br _ _ c b _ => .br c b
  | @Ora.num _ _ n m _ => .num n m
  | @Ora.nz _ _ y _ => .nz y
  | @Ora.le _ _ a b _ => .le a b
  | @Ora.ib _ _ i s _ => .ib i s
  | @Ora.el _ _ i L cs _ => .el i L cs
  | @Ora.upd _ _ n n' L i cs L' _ => .upd n n' L i cs L'
  | @Ora.cat _ _ n k L M L' _ => .cat n k L M L'
  | @Ora.call _ _ _ f as pre post r _ => .call f as pre post r
  | @Ora.seg _ _ L L' lo hi n n' _ => .seg L L' lo hi n n'
  | @Ora.b3 _ _ lo hi n _ => .b3 lo hi n
  | @Ora.sx _ _ i s b _ => .sx i s b
  | @Ora.mks _ _ n m k z L _ => .mks n m k z L
  | @Ora.str _ _ L s _ => .str L s
  | .adj _ _ => .adj
  | .tidy _ _ _ => .adj
  | .unroll => .unroll
  | @Ora.fin _ _ _ _ _ items S _ => .fin items S
variable (P Φ)

/-- an operation, as a reading of places -/
inductive RD (α : Type) where
  | ret (a : α)
  | slot (t : Nat) (k : DV → RD α)
  | obj (o : Nat) (k : Ob → RD α)
  | peek (k : Ora P Φ → RD α)
  | req (d : Ask) (k : RD α)
  | fail

variable {P Φ}
def RD.bind {α β : Type} : RD P Φ α → (α → RD P Φ β) → RD P Φ β
  | .ret a, f => f a
  | .slot t k, f => .slot t fun d => (k d).bind f
  | .obj o k, f => .obj o fun d => (k d).bind f
  | .peek k, f => .peek fun d => (k d).bind f
  | .req d k, f => .req d (k.bind f)
  | .fail, _ => .fail

def RD.go {α : Type} (S : St) : RD P Φ α → List (Ora P Φ) → Option (α × List Loc × List Ask × List (Ora P Φ))
  | .ret a, os => some (a, [], [], os)
  | .slot t k, os => match (k (S.slot t)).go S os with
    | some (a, R, D, os') => some (a, .sl t :: R, D, os')
    | none => none
  | .obj o k, os => match S.obj o with
    | some x => match (k x).go S os with
      | some (a, R, D, os') => some (a, .ob o :: R, D, os')
      | none => none
    | none => none
  | .peek k, os => match os with
    | o :: os => (k o).go S (o :: os)
    | [] => none
  | .req d k, os => match os with
    | _ :: os => match k.go S os with
      | some (a, R, D, os') => some (a, R, d :: D, os')
      | none => none
    | [] => none
  | .fail, _ => none

structure Upd where
  sl : List (Nat × DV)
  ob : List (Nat × Option Ob)
  new : List Nat

def St.put (S : St) : List (Nat × DV) → St
  | [] => S
  | (t, d) :: l => St.put ⟨S.fr.set t d, S.ob⟩ l
def setOb (o : Nat) (x : Ob) : Obs → Obs
  | [] => [(o, x)]
  | (k, y) :: l => if k == o then (k, x) :: l else (k, y) :: setOb o x l
def putOb : List (Nat × Option Ob) → Obs → Obs
  | [], l => l
  | (o, some x) :: us, l => putOb us (setOb o x l)
  | (o, none) :: us, l => putOb us (del o l)
def St.app (S : St) (u : Upd) : St := ⟨(S.put u.sl).fr, putOb u.ob S.ob⟩

/-! types -/
def tsize (P : Program) (T : Nat) : Option Nat := (P.info? T).map (·.size)
def tagg (P : Program) (T : Nat) : Option Bool := match P.underlying T with | some (.struct _) | some (.array _ _) => some true | some _ => some false | none => none
def tzero (P : Program) (T : Nat) : Option Value := match P.info? T with | some i => i.zero | none => none

/-- a value of the program, as an abstract one -/
def ofV0 : Value → DV
  | .bool b => .lb b
  | .slice none 0 0 => .nl
  | x => .v x
def ofV : Value → DV
  | .agg cs => .ag (cs.toList.map ofV0)
  | x => ofV0 x
/-- what an operation yields: bools may be unknown -/
def ofR : Value → DV
  | .agg cs => .ag (cs.toList.map .v)
  | x => .v x
def toV0 : DV → Option Value
  | .v x => some x
  | .lb b => some (.bool b)
  | .nl => some (.slice none 0 0)
  | _ => none
def toVs : List DV → Option (List Value)
  | [] => some []
  | d :: l => match toV0 d, toVs l with
    | some x, some xs => some (x :: xs)
    | _, _ => none
def toV : DV → Option Value
  | .ag cs => match toVs cs with | some l => some (.agg l.toArray) | none => none
  | d => toV0 d

/-- cells of one place each -/
def okV : Value → Bool
  | .agg cs => cs.toList.all (·.oneCell')
  | x => x.oneCell'

def opd : Operand → RD P Φ DV
  | .tmp t => .slot t .ret
  | .const v => if okV v then .ret (ofV v) else .fail
  | .global g => .ret (.v (.pointer (some ⟨g, 0, none⟩)))
  | .func f => .ret (.v (.func (.func f) #[] #[]))

def opds : List Operand → RD P Φ (List DV)
  | [] => .ret []
  | x :: l => (opd x).bind fun d => (opds l).bind fun ds => .ret (d :: ds)

/-- a Sem without memory -/
def evP (P : Program) {α : Type} : Sem α → Option α
  | .pure a => some a
  | .program k => evP P (k P)
  | .mark _ k => evP P k
  | _ => none

def one (d : Option Nat) (x : DV) : Upd := ⟨match d with | some t => [(t, x)] | none => [], [], []⟩

def setRange : List DV → Nat → List DV → List DV
  | cs, _, [] => cs
  | cs, off, d :: l => setRange (cs.set off d) (off + 1) l

def cellsOf : DV → List DV
  | .ag cs => cs
  | d => [d]

/-- the cells of type T at off -/
def pickC (P : Program) (T : Nat) (cs : List DV) (off : Nat) : Option DV :=
  match tsize P T, tagg P T with
  | some n, some g => if off + n ≤ cs.length ∧ 0 < n then (if g then some (.ag ((cs.drop off).take n)) else cs[off]?) else none
  | _, _ => none

def place (P : Program) (T : Nat) (f : Nat) : Option (Nat × Nat) :=
  match P.underlying T with
  | some (.struct fs) => match fs[f]? with | some fd => (tsize P fd.type).map fun s => (fd.offset, s) | none => none
  | some (.array n e) => if f < n then (tsize P e).map fun s => (f * s, s) else none
  | _ => none

def buildC (P : Program) (T : Nat) : List (Nat × DV) → List DV → Option (List DV)
  | [], cs => some cs
  | (i, d) :: l, cs => match place P T i with
    | some (off, s) => if (cellsOf d).length == s && off + s ≤ cs.length then buildC P T l (setRange cs off (cellsOf d)) else none
    | none => none

def ofO {α : Type} : Option α → RD P Φ α
  | some a => .ret a
  | none => .fail

/-- a bool is known, or asked -/
def known (d : DV) : RD P Φ Bool :=
  match d with
  | .lb b => .ret b
  | .v (.bool c) => .peek fun o => match o with
    | @Ora.br _ _ _ b _ => .req (.br c b) (.ret b)
    | _ => .fail
  | _ => .fail

end Go.Eng
