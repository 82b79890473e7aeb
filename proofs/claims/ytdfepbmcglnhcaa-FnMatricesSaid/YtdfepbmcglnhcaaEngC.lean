import Derived.ChangeKeysEq
import Derived.Test.YtdfepbmcglnhcaaEngB
/-! The abstract machine: operations and control. -/
set_option linter.unusedSimpArgs false
set_option linter.unusedVariables false
namespace Go.Eng
open Go
variable {P : Program} {Φ : List It → St → Prop}

def oneD : DV → Bool
  | .v x => x.oneCell'
  | .lb _ | .nl | .bx .. | .ow _ | .pw .. | .ro .. | .pe .. | .cl .. => true
  | _ => false

def fwd (to : List (Nat × Nat)) (o : Nat) : Option Nat := (to.find? (·.1 == o)).map (·.2)
def bwd (to : List (Nat × Nat)) (k : Nat) : Option Nat := (to.find? (·.2 == k)).map (·.1)

/-- what a closure has captured, by other names -/
def mapC (g : Nat → Option Nat) : List (Nat × Nat) → Option (List (Nat × Nat))
  | [] => some []
  | (o, off) :: l => match g o, mapC g l with
    | some k, some r => some ((k, off) :: r)
    | _, _ => none

/-- our own things, as the callee's own -/
def put0 (to : List (Nat × Nat)) : DV → Option DV
  | .ow o => (fwd to o).map .ow
  | .bx o off => (fwd to o).map fun k => .bx k off
  | .v x => some (.v x)
  | .lb b => some (.v (.bool b))
  | .nl => some .nl
  | .ro fl esz n L => some (.ro fl esz n L)
  | .cl f cs => (mapC (fwd to) cs).map (.cl f)
  | _ => none
def putL (to : List (Nat × Nat)) : List DV → Option (List DV)
  | [] => some []
  | d :: l => match put0 to d, putL to l with
    | some x, some xs => some (x :: xs)
    | _, _ => none

/-- what an argument of a call is told as: own rows may be lent for reading alone -/
def argOf (to : List (Nat × Nat)) : DV → RD P Φ DV
  | .ow o => match fwd to o with
    | some k => .ret (.ow k)
    | none => .obj o fun x => match x with | .row fl _ esz n L => .ret (.ro fl esz n L) | _ => .fail
  | d => ofO (put0 to d)
def argL (to : List (Nat × Nat)) : List DV → RD P Φ (List DV)
  | [] => .ret []
  | d :: l => (argOf to d).bind fun x => (argL to l).bind fun xs => .ret (x :: xs)
def argOf1 (to : List (Nat × Nat)) : DV → RD P Φ DV
  | .ag cs => (argL to cs).bind fun l => .ret (.ag l)
  | d => argOf to d
def argsOf (to : List (Nat × Nat)) : List DV → RD P Φ (List DV)
  | [] => .ret []
  | d :: l => (argOf1 to d).bind fun x => (argsOf to l).bind fun xs => .ret (x :: xs)

def back0 (to : List (Nat × Nat)) : DV → DV
  | .ow k => match bwd to k with | some o => .ow o | none => .un
  | .bx k off => match bwd to k with | some o => .bx o off | none => .un
  | .pw .. => .un
  | .cl .. => .un
  | d => d
def back1 (to : List (Nat × Nat)) : DV → DV
  | .ag cs => .ag (cs.map (back0 to))
  | d => back0 to d
def back (to : List (Nat × Nat)) : DV → DV
  | .tu vs => .tu (vs.map (back1 to))
  | d => back1 to d
def backO (to : List (Nat × Nat)) : Ob → Ob
  | .box cs => .box (cs.map (back0 to))
  | x => x

def putO (to : List (Nat × Nat)) : Ob → Option Ob
  | .box cs => (putL to cs).map .box
  | x => some x
/-- the callee's own objects, as the caller has them -/
def preOf (to : List (Nat × Nat)) : Obs → RD P Φ Obs
  | [] => .ret []
  | (k, _) :: l => match bwd to k with
    | some o => .obj o fun x => (ofO (putO to x)).bind fun y => (preOf to l).bind fun r => .ret ((k, y) :: r)
    | none => .fail

def isPre (pre : Obs) (k : Nat) : Bool := pre.any (·.1 == k)

/-- what the call leaves: the objects that came back, those that are gone -/
def postUpd (to : List (Nat × Nat)) (pre post : Obs) : List (Nat × Option Ob) × List Nat :=
  ((pre.filterMap fun p => (bwd to p.1).map fun o => (o, none)) ++ (post.filterMap fun p => (bwd to p.1).map fun o => (o, some (backO to p.2))),
   post.filterMap fun p => if isPre pre p.1 then none else bwd to p.1)

def callable (P : Program) (f : Nat) : Bool := match P.funcs[f]? with | some fn => fn.body.isSome && !(fn.name == "runtime.NumGoroutine") | none => false

def nodupB : List Nat → Bool
  | [] => true
  | x :: l => !l.any (· == x) && nodupB l
def subB (l m : List Nat) : Bool := l.all fun x => m.any (· == x)

def toOk (to : List (Nat × Nat)) (pre post : Obs) : Bool :=
  nodupB (to.map (·.1)) && nodupB (to.map (·.2)) && nodupB (pre.map (·.1)) && nodupB (post.map (·.1)) && subB (pre.map (·.1)) (to.map (·.2)) && subB (to.map (·.2)) (pre.map (·.1) ++ post.map (·.1))

def roFree0 : DV → Bool
  | .ro .. | .pe .. => false
  | _ => true
def roFree1 : DV → Bool
  | .ag cs => cs.all roFree0
  | d => roFree0 d
def roFree : DV → Bool
  | .tu vs => vs.all roFree1
  | d => roFree1 d
def roFreeO : Ob → Bool
  | .box cs => cs.all roFree0
  | .row fl .. => fl

/-- rows of our own that are lent -/
def lentIds0 (to : List (Nat × Nat)) : DV → List Nat
  | .ow o => if (fwd to o).isNone then [o] else []
  | _ => []
def lentIds1 (to : List (Nat × Nat)) : DV → List Nat
  | .ag cs => cs.flatMap (lentIds0 to)
  | d => lentIds0 to d
/-- may lent rows come back to us? if not, they are gone -/
def consumed (to : List (Nat × Nat)) (ds : List DV) (r : DV) (post : Obs) : List (Nat × Option Ob) :=
  if roFree r && post.all fun p => roFreeO p.2 then [] else (ds.flatMap (lentIds1 to)).map fun o => (o, none)

def callD (dst : Option Nat) (f : Nat) (ds : List DV) : RD P Φ Upd :=
  if callable P f then
    .peek fun q => match q with
      | @Ora.call _ _ to _ _ pre post r _ => (argsOf to ds).bind fun as => (preOf to pre).bind fun pre' =>
        if toOk to pre post then
          .req (.call f as pre' post r) (.ret ⟨(one dst (back to r)).sl, consumed to ds r post ++ (postUpd to pre post).1, (postUpd to pre post).2⟩)
        else .fail
      | _ => .fail
  else .fail

def callE (dst : Option Nat) (f : Nat) (args : List Operand) : RD P Φ Upd :=
  (opds args).bind fun ds => callD dst f ds

/-- the call of a closure -/
def callV (dst : Option Nat) (x : Operand) (args : List Operand) : RD P Φ Upd :=
  (opd x).bind fun d => match d with
    | .cl f cs => (opds args).bind fun ds => callD dst f (ds ++ cs.map fun p => .bx p.1 p.2)
    | _ => .fail

def capsOf : List DV → Option (List (Nat × Nat))
  | [] => some []
  | .bx o off :: l => (capsOf l).map ((o, off) :: ·)
  | _ => none

def intOfD : DV → RD P Φ Int
  | .v (.int _ n) => .ret n
  | _ => .fail

def rowOf (d : DV) : RD P Φ (Bool × Nat × Nat × List (List DV)) :=
  match d with
  | .ro fl esz n L => .ret (fl, esz, n, L)
  | .ow o => .obj o fun | .row fl _ esz n L => .ret (fl, esz, n, L) | _ => .fail
  | _ => .fail

def lenE (T : Nat) (d : DV) : RD P Φ DV :=
  match P.underlying T with
  | some .string => match d with
    | .v (.string s) => .ret (.v (.int .i64 (s.size : Nat)))
    | _ => .fail
  | some (.slice _) => match d with
    | .nl => .ret (.v (.int .i64 0))
    | d => (rowOf d).bind fun r => .ret (.v (.int .i64 (r.2.2.1 : Nat)))
  | _ => .fail

def zeroOk (P : Program) (e s : Nat) : Bool := match P.info? e with | some i => i.size == s && i.zero.isSome && decide (0 < i.bytes) && i.zero.map (fun z => z.cells.size) == some i.size | none => false

def ofDst (dst : Option Nat) (r : RD P Φ DV) : RD P Φ Upd := r.bind fun d => .ret (one dst d)

def elemT (P : Program) (T : Nat) : Option Nat := match P.underlying T with | some (.slice e) => some e | _ => none

def resE (v : Option Value) : RD P Φ DV := (ofO v).bind fun v => if okV v then .ret (ofR v) else .fail

def binE (op : BinOp) (T : Nat) (x y : Operand) : RD P Φ DV :=
  (opd x).bind fun d => (opd y).bind fun e => match toV d, toV e with
    | some a, some b => resE (evP P (do eqGuard op T x y a b; binOp op T a b))
    | _, _ => .fail

mutual
/-- equality of two values, the cells unknown -/
def eqV (P : Program) : Nat → Nat → TypeId → Value → Value → Option Bool
  | 0, _, _, _, _ => none
  | k + 1, d, t, x, y => match P.underlying t, x, y with
    | some (.struct fs), .agg xs, .agg ys => if P.stoodInHeld t then none else match d with
      | d + 1 => eqF P k d xs ys fs.toList
      | 0 => none
    | some (.array n e), .agg xs, .agg ys => match P.info? e, d with
      | some _, d + 1 => eqA P k d e xs ys (List.range n)
      | _, _ => none
    | some _, x, y => evP P (Op.equalIn (d + 1) t x y)
    | none, _, _ => none
def eqF (P : Program) : Nat → Nat → Array Value → Array Value → List Field → Option Bool
  | 0, _, _, _, _ => none
  | _, _, _, _, [] => some true
  | k + 1, d, xs, ys, f :: fs => if f.name ≠ "_" then match evP P (part f.type xs f.offset), evP P (part f.type ys f.offset) with
      | some a, some b => match eqV P k d f.type a b, eqF P k d xs ys fs with
        | some r, some q => some (r && q)
        | _, _ => none
      | _, _ => none
    else none
def eqA (P : Program) : Nat → Nat → TypeId → Array Value → Array Value → List Nat → Option Bool
  | 0, _, _, _, _, _ => none
  | _, _, _, _, _, [] => some true
  | k + 1, d, e, xs, ys, i :: is => match evP P (part e xs (i * P.cellsOf e)), evP P (part e ys (i * P.cellsOf e)) with
      | some a, some b => match eqV P k d e a b, eqA P k d e xs ys is with
        | some r, some q => some (r && q)
        | _, _ => none
      | _, _ => none
end

def eqE (neg : Bool) (T : Nat) (x y : Operand) : RD P Φ DV :=
  (opd x).bind fun d => (opd y).bind fun e => match toV d, toV e with
    | some (.agg a), some (.agg b) => if P.eqGuardType P.depth T then .fail else (ofO (eqV P 20 9999 T (.agg a) (.agg b))).bind fun r => .ret (.v (.bool (if neg then !r else r)))
    | some a, some b => resE (evP P (do eqGuard (if neg then .neq else .eql) T x y a b; binOp (if neg then .neq else .eql) T a b))
    | _, _ => .fail

def unE (op : UnOp) (x : Operand) : RD P Φ DV :=
  (opd x).bind fun d => match op, d with
    | .not, .lb b => .ret (.lb (!b))
    | op, d => match toV d with
      | some a => resE (evP P (Op.unary op a))
      | none => .fail

def convE (s t : Nat) (x : Operand) : RD P Φ DV :=
  (opd x).bind fun d => match toV d with
    | some a => resE (evP P (convert s t a))
    | none => .fail

def toVals : List DV → Option (List Value)
  | [] => some []
  | d :: l => match toV d, toVals l with
    | some x, some xs => some (x :: xs)
    | _, _ => none

def maxE (isMax : Bool) (Ts : Array Nat) (T : Nat) (xs : List Operand) : RD P Φ DV :=
  (opds xs).bind fun ds => match toVals ds with
    | some vs => resE (evP P (if isMax then Builtin.max_ Ts T vs.toArray else Builtin.min_ Ts T vs.toArray))
    | none => .fail

def divE (quo : Bool) (x y : Operand) : RD P Φ DV :=
  (opd x).bind fun d => (opd y).bind fun e => match d, e with
    | .v (.int k a), .v (.int k' b) => if k == k' then .peek fun _ => .req (.nz b) (.ret (.v (.int k (if quo then k.wrap (a.tdiv b) else a.tmod b)))) else .fail
    | _, _ => .fail

def dropO : Option Nat → List (Nat × Option Ob)
  | some o => [(o, none)]
  | none => []

def appendE (dst : Option Nat) (T : Nat) (a b : DV) : RD P Φ Upd :=
  match elemT P T, dst with
  | some e, some t => match P.info? e with
    | some i => ((match b with | .nl => .ret (true, i.size, 0, []) | b => rowOf b : RD P Φ (Bool × Nat × Nat × List (List DV)))).bind fun (gl, esz, m, M) =>
      ((match a with | .nl => .ret (true, none, 0, []) | .ow o => .obj o (fun x => match x with | .row fl T' s n L => if T' == e && s == i.size then .ret (fl, some o, n, L) else .fail | _ => .fail) | _ => .fail : RD P Φ (Bool × Option Nat × Nat × List (List DV)))).bind fun (fl, o, n, L) =>
      if i.size == esz && decide (0 < esz) && zeroOk P e esz then
        .peek fun _ => .req (.le ((n + m) * i.bytes) 140737488355328) (.peek fun q => match q with
          | @Ora.cat _ _ n' _ _ _ L' _ => .req (.cat n' (n + m) L M L') (.ret ⟨[(t, .ow t)], dropO o ++ [(t, some (.row (fl && gl) e esz n' L'))], [t]⟩)
          | _ => .fail)
      else .fail
    | none => .fail
  | _, _ => .fail

def loadE (T : Nat) (p : DV) : RD P Φ DV :=
  match p with
  | .bx k off => .obj k fun x => match x with | .box cs => ofO (pickC P T cs off) | _ => .fail
  | .pe cs off => ofO (pickC P T cs off)
  | .pw k i esz off => .obj k fun x => match x with
    | .row _ _ s _ L => if s == esz then .peek fun q => match q with
      | @Ora.el _ _ _ _ cs _ => .req (.el (i : Int) L cs) (ofO (pickC P T cs off))
      | _ => .fail
      else .fail
    | _ => .fail
  | _ => .fail

def storeE (p : DV) (l : List DV) : RD P Φ Upd :=
  match p with
  | .bx k off => .obj k fun x => match x with
    | .box cs => if off + l.length ≤ cs.length then .ret ⟨[], [(k, some (.box (setRange cs off l)))], []⟩ else .fail
    | _ => .fail
  | .pw k i esz off => .obj k fun x => match x with
    | .row fl T s n L => if s == esz then .peek fun q => match q with
      | @Ora.el _ _ _ _ cs _ => .req (.el (i : Int) L cs) (.peek fun q => match q with
        | @Ora.upd _ _ _ n' _ _ _ L' _ => if off + l.length ≤ cs.length && l.all flatD then .req (.upd n n' L i (setRange cs off l) L') (.ret ⟨[], [(k, some (.row fl T s n' L'))], []⟩) else .fail
        | _ => .fail)
      | _ => .fail
      else .fail
    | _ => .fail
  | _ => .fail

def fieldE (T f : Nat) (d : DV) : RD P Φ DV :=
  match place P T f with
  | some (off', s) => if s == 0 then .fail else match d with
    | .bx k off => .ret (.bx k (off + off'))
    | .pe cs off => .ret (.pe cs (off + off'))
    | .pw k i esz off => .ret (.pw k i esz (off + off'))
    | _ => .fail
  | none => .fail

def indexE (T : Nat) (i : Operand) (d : DV) (n : Int) : RD P Φ DV :=
  match d with
  | .bx k off => (match i with
    | .const _ => if 0 ≤ n then placeE n.toNat (.bx k off) else .fail
    | _ => .peek fun q => match q with
      | @Ora.num _ _ _ m _ => if 0 ≤ m then .req (.num n m) (placeE m.toNat (.bx k off)) else .fail
      | _ => .fail)
  | .ow k => .obj k fun x => match x with
    | .row _ T' esz n' _ => if elemT P T == some T' && tsize P T' == some esz then .peek fun _ => .req (.ib n n') (.ret (.pw k n.toNat esz 0)) else .fail
    | _ => .fail
  | .ro _ esz _ L => match elemT P T with
    | some T' => if tsize P T' == some esz then .peek fun q => match q with
      | @Ora.el _ _ _ _ cs _ => .req (.el n L cs) (.ret (.pe cs 0))
      | _ => .fail
      else .fail
    | none => .fail
  | _ => .fail
where placeE (j : Nat) (d : DV) : RD P Φ DV := match P.underlying T with
  | some (.array _ _) => fieldE T j d
  | _ => .fail

/-- own rows that are laid into a row are read alone from then on -/
def frz : List DV → RD P Φ (List DV × List Nat)
  | [] => .ret ([], [])
  | d :: l => (match d with
    | .ow o => .obj o fun x => match x with | .row fl _ esz n L => .ret (.ro fl esz n L, [o]) | _ => .fail
    | d => if rpD d && oneD d then .ret (d, []) else .fail : RD P Φ (DV × List Nat)).bind fun r => (frz l).bind fun q => .ret (r.1 :: q.1, r.2 ++ q.2)
def frzL : List (List DV) → RD P Φ (List (List DV) × List Nat)
  | [] => .ret ([], [])
  | d :: l => (frz d).bind fun r => (frzL l).bind fun q => .ret (r.1 :: q.1, r.2 ++ q.2)

def optI (x : Option Operand) (d : Int) : RD P Φ Int := match x with
  | none => .ret d
  | some x => (opd x).bind intOfD

def sliceE (T : Nat) (x : Operand) (lo hi : Option Operand) : RD P Φ DV :=
  (opd x).bind fun d => match P.underlying T with
    | some .string => match d with
      | .v (.string s) => (optI lo 0).bind fun l => (optI hi s.size).bind fun h => .peek fun _ => .req (.b3 l h s.size) (.ret (.v (.string (s.extract l.toNat h.toNat))))
      | _ => .fail
    | some (.slice e) => match d with
      | .ro fl esz n L => if tsize P e == some esz then (optI lo 0).bind fun l => (optI hi n).bind fun h => .peek fun q => match q with
          | @Ora.seg _ _ _ L' _ _ _ n' _ => .req (.seg L L' l h n n') (.ret (.ro fl esz n' L'))
          | _ => .fail
        else .fail
      | _ => .fail
    | _ => .fail

/-- a bool that is known, told as a value -/
def nrm0 : DV → DV
  | .lb b => .v (.bool b)
  | d => d

/-- a byte of a string -/
def idxE (T : Nat) (x i : Operand) : RD P Φ DV :=
  (opd x).bind fun d => (opd i).bind fun e => (intOfD e).bind fun n => match P.underlying T with
    | some .string => match d with
      | .v (.string s) => .peek fun q => match q with
        | @Ora.sx _ _ _ _ b _ => .req (.sx n s b) (.ret (.v (.int .u8 (b.toNat : Int))))
        | _ => .fail
      | _ => .fail
    | _ => .fail

def zeroD : DV → Bool
  | .v _ | .lb _ | .nl => true
  | _ => false
def zeroL (z : Value) : List DV := (cellsOf (ofV z)).map nrm0

/-- a row of zeros -/
def mkE (dst : Option Nat) (T : Nat) (len cap : Operand) : RD P Φ Upd :=
  match dst, elemT P T with
  | some t, some e => match P.info? e with
    | some i => match i.zero with
      | some z => if okV z && (cellsOf (ofV z)).all zeroD && zeroOk P e i.size && decide (0 < i.size) then
          (opd len).bind fun a => (intOfD a).bind fun n => (opd cap).bind fun b => (intOfD b).bind fun m => .peek fun q => match q with
            | @Ora.mks _ _ _ _ k _ L _ => .req (.mks n m k (zeroL z) L) (.peek fun _ => .req (.le (k * i.bytes) 140737488355328) (.ret ⟨[(t, .ow t)], [(t, some (.row ((zeroL z).all flatD) e i.size k L))], [t]⟩))
            | _ => .fail
        else .fail
      | none => .fail
    | none => .fail
  | _, _ => .fail

/-- a beginning of an own row -/
def preE (dst : Option Nat) (T : Nat) (o' : Nat) (lo hi : Option Operand) : RD P Φ Upd :=
  match dst, lo, elemT P T with
  | some t, none, some e => .obj o' fun x => match x with
    | .row fl T' esz n L => if T' == e && tsize P e == some esz then (optI hi n).bind fun h => .peek fun q => match q with
        | @Ora.seg _ _ _ L' _ _ _ n' _ => .req (.seg L L' 0 h n n') (.ret ⟨[(t, .ow t)], [(o', none), (t, some (.row fl e esz n' L'))], [t]⟩)
        | _ => .fail
      else .fail
    | _ => .fail
  | _, _, _ => .fail
def slE (dst : Option Nat) (T : Nat) (x : Operand) (lo hi : Option Operand) : RD P Φ Upd :=
  (opd x).bind fun d => match d with
    | .ow o' => preE dst T o' lo hi
    | _ => ofDst dst (sliceE T x lo hi)

/-- bytes as a string -/
def strE (s t : Nat) (d : DV) : RD P Φ DV :=
  match P.underlying s, P.underlying t with
  | some (.slice e), some .string => match P.underlying e with
    | some (.int .u8) => (rowOf d).bind fun r => if r.2.1 == 1 then .peek fun q => match q with
        | @Ora.str _ _ _ b _ => .req (.str r.2.2.2 b) (.ret (.v (.string b)))
        | _ => .fail
      else .fail
    | _ => .fail
  | _, _ => .fail
def cvE (s t : Nat) (x : Operand) : RD P Φ DV :=
  (opd x).bind fun d => match d with
    | .ow o => strE s t (.ow o)
    | .ro fl esz n L => strE s t (.ro fl esz n L)
    | _ => convE s t x

/-- + of numbers or strings -/
def addE (T : Nat) (x y : Operand) : RD P Φ DV :=
  (opd x).bind fun d => match d with
    | .v (.string a) => (opd y).bind fun e => match e with
      | .v (.string b) => .peek fun _ => .req (.le (a.size + b.size) 9223372036854775807) (.ret (.v (.string (a ++ b))))
      | _ => .fail
    | _ => binE .add T x y

def fieldsOk (P : Program) (T : Nat) : Bool := match P.underlying T with
  | some (.struct fs) => fs.toList.all fun f => (P.info? f.type).isSome
  | some (.array _ e) => (P.info? e).isSome
  | _ => false

def opE (o : Oper) : RD P Φ Upd :=
  match o.op with
  | .move x | .assign x => ofDst o.dst (opd x)
  | .pick c a b => ofDst o.dst ((opd c).bind fun d => (known d).bind fun t => if t then opd a else opd b)
  | .alloc T => match o.dst, tzero P T with
    | some t, some z => if okV z then .ret ⟨[(t, .bx t 0)], [(t, some (.box (cellsOf (ofV z))))], [t]⟩ else .fail
    | _, _ => .fail
  | .box _ x => (opd x).bind fun d => match o.dst with
    | some t => if (cellsOf d).all oneD then .ret ⟨[(t, .bx t 0)], [(t, some (.box (cellsOf d)))], [t]⟩ else .fail
    | none => .fail
  | .build T ps => ofDst o.dst ((opds (ps.toList.map (·.2))).bind fun ds => match tzero P T with
    | some z => if !okV z || !ds.all (fun d => (cellsOf d).all oneD) || !fieldsOk P T then .fail else (ofO (buildC P T ((ps.toList.map (·.1)).zip ds) (cellsOf (ofV z)))).bind fun cs => .ret (.ag cs)
    | none => .fail)
  | .buildSlice T n ps => (opds (ps.toList.map (·.2))).bind fun ds => match o.dst, elemT P T with
    | some t, some e => match tsize P e with
      | some s => if n == ds.length && ps.toList.map (·.1) == List.range n && ds.all (fun d => (cellsOf d).length == s) && decide (n * s ≤ 1000) && decide (0 < s) && zeroOk P e s then
          (frzL (ds.map cellsOf)).bind fun q => .ret ⟨[(t, .ow t)], q.2.map (fun o => (o, none)) ++ [(t, some (.row (q.1.all fun l => l.all flatD) e s n q.1))], [t]⟩ else .fail
      | none => .fail
    | _, _ => .fail
  | .load T a => ofDst o.dst ((opd a).bind fun p => loadE T p)
  | .store T a x => (opd a).bind fun p => (opd x).bind fun d =>
    if o.dst.isNone && tsize P T == some (cellsOf d).length && (cellsOf d).all oneD then storeE p (cellsOf d) else .fail
  | .nilCheck x => ofDst o.dst ((opd x).bind fun | .bx k off => .ret (.bx k off) | _ => .fail)
  | .binOp op T x y _ => ofDst o.dst (match op with
    | .quo => divE true x y
    | .rem => divE false x y
    | .eql => eqE false T x y
    | .neq => eqE true T x y
    | .add => addE T x y
    | op => binE op T x y)
  | .unOp op _ x => ofDst o.dst (unE op x)
  | .convert s t x => ofDst o.dst (cvE s t x)
  | .index T x i => ofDst o.dst (idxE T x i)
  | .makeSlice T len cap => mkE o.dst T len cap
  | .fieldAddr T x f => ofDst o.dst (match P.underlying T with
    | some (.struct _) => (opd x).bind fun d => fieldE T f d
    | _ => .fail)
  | .indexAddr T x i => ofDst o.dst ((opd x).bind fun d => (opd i).bind fun e => (intOfD e).bind fun n => indexE T i d n)
  | .slice T x lo hi mx => if mx.isNone then slE o.dst T x lo hi else .fail
  | .extract x j => ofDst o.dst ((opd x).bind fun | .tu vs => ofO vs[j]? | _ => .fail)
  | .makeFunc fn first caps => match fn with
    | .func f => if first.isEmpty then ofDst o.dst ((opds caps.toList).bind fun ds => (ofO (capsOf ds)).bind fun cs => .ret (.cl f cs)) else .fail
    | _ => .fail
  | .call c => match c.callee with
    | .value (.func f) => callE o.dst f c.args.toList
    | .value (.tmp t) => callV o.dst (.tmp t) c.args.toList
    | .builtin .len => ofDst o.dst (match c.args.toList, c.argTypes.toList with | [x], [T] => (opd x).bind fun d => lenE T d | _, _ => .fail)
    | .builtin .append => match c.args.toList, c.argTypes.toList with
      | [a, b], [T, T'] => if T == T' then (opd a).bind fun d => (opd b).bind fun e => appendE o.dst T d e else .fail
      | _, _ => .fail
    | .builtin .max => ofDst o.dst (maxE true c.argTypes o.type c.args.toList)
    | .builtin .min => ofDst o.dst (maxE false c.argTypes o.type c.args.toList)
    | _ => .fail
  | _ => .fail

/-- an operation; a bool that guards others is made known -/
def opRun (o : Oper) (guards : Bool) : RD P Φ Upd := (opE o).bind fun u => if guards then match u.sl with
  | [(t, d)] => (known d).bind fun b => .ret ⟨[(t, .lb b)], u.ob, u.new⟩
  | _ => .fail else .ret u

/-- with its guard -/
def opG (o : Oper) (ops : List Oper) (guards : Bool) : RD P Φ Upd :=
  match o.guard with
  | none => opRun o guards
  | some (g, b) => match ops[g]? with
    | some og => match og.dst with
      | some t => .slot t fun d => match d with | .lb c => if c == b then opRun o guards else .ret (one o.dst (.v undef')) | .v (.tuple _) => .ret (one o.dst (.v undef')) | _ => .fail
      | none => .fail
    | none => .fail

def isGuard (ops : List Oper) (i : Nat) : Bool := ops.any fun o => match o.guard with | some (g, _) => g == i | none => false

structure Info where
  R : List Loc
  W : List Loc

def Upd.locs (u : Upd) : List Loc := u.sl.map (fun p => .sl p.1) ++ u.ob.map (fun p => .ob p.1)

/-- the text's order; 'kl': the objects' names that have been used -/
def ops (all : List Oper) : Nat → List Oper → St → List Nat → List (Ora P Φ) → Option (St × List Nat × List Info × List Ask × List (Ora P Φ))
  | _, [], S, kl, os => some (S, kl, [], [], os)
  | i, o :: l, S, kl, os => match (opG o all (isGuard all i)).go S os with
    | some (u, R, D, os') => if nodupB u.new && u.new.all (fun n => !kl.any (· == n)) then match ops all (i + 1) l (S.app u) (u.new ++ kl) os' with
      | some (S', kl', I, D', os'') => some (S', kl', ⟨R, u.locs⟩ :: I, D ++ D', os'')
      | none => none
      else none
    | none => none

def Loc.eqb : Loc → Loc → Bool
  | .sl a, .sl b => a == b
  | .ob a, .ob b => a == b
  | _, _ => false
def meetB (l m : List Loc) : Bool := l.any fun x => m.any fun y => x.eqb y

/-- of each operation: all those that come ahead of it in every order -/
def ancs : List Oper → List (List Nat) → List (List Nat)
  | [], acc => acc
  | o :: l, acc => ancs l (acc ++ [o.after.toList.flatMap fun e => if Region.binds .any e then e.on :: acc.getD e.on [] else []])

def drawOk (l : List Oper) (I : List Info) : Bool :=
  let A := ancs l []
  (List.range l.length).all fun j => (l.getD j default).after.toList.all (fun e => !Region.binds .any e || decide (e.on < j)) &&
    (List.range j).all fun i => (A.getD j []).any (· == i) ||
      (let x := I.getD i ⟨[], []⟩; let y := I.getD j ⟨[], []⟩; !meetB x.W y.R && !meetB x.R y.W && !meetB x.W y.W)

def keepS (ks : List Nat) : Nat → List DV → List DV
  | _, [] => []
  | i, d :: l => (if ks.any (· == i) then d else .un) :: keepS ks (i + 1) l
def ren0 (to : List (Nat × Nat)) : DV → DV
  | .ow k => match fwd to k with | some o => .ow o | none => .un
  | .bx k off => match fwd to k with | some o => .bx o off | none => .un
  | .pw .. => .un
  | .lb b => .v (.bool b)
  | .cl f cs => match mapC (fwd to) cs with | some r => .cl f r | none => .un
  | d => d
def ren1 (to : List (Nat × Nat)) : DV → DV
  | .ag cs => .ag (cs.map (ren0 to))
  | .tu _ => .un
  | d => ren0 to d
def renO (to : List (Nat × Nat)) : Ob → Ob
  | .box cs => .box (cs.map (ren0 to))
  | x => x
def renS (ks : List Nat) (to : List (Nat × Nat)) (S : St) : St :=
  ⟨(keepS ks 0 S.fr).map (ren1 to), to.filterMap fun p => (S.obj p.1).map fun x => (p.2, renO to x)⟩

def popTo (id : Nat) : List It → Option (List It)
  | .endb id' :: k => if id' == id then some k else popTo id k
  | _ :: k => popTo id k
  | [] => none

/-- bools that are known, told as values -/
def nrm1 : DV → DV
  | .ag cs => .ag (cs.map nrm0)
  | d => nrm0 d
def nrmO : Ob → Ob
  | .box cs => .box (cs.map nrm0)
  | x => x

def resD (P : Program) (S : St) : ResultVar → Option DV
  | .tmp t => match S.slot t with | .tu _ => none | d => some (nrm1 d)
  | .cell a T => match S.slot a with
    | .bx o off => match S.obj o with
      | some (.box cs) => (pickC P T cs off).map nrm1
      | _ => none
    | _ => none
def resDs (P : Program) (S : St) : List ResultVar → Option (List DV)
  | [] => some []
  | x :: l => match resD P S x, resDs P S l with
    | some d, some ds => some (d :: ds)
    | _, _ => none
def result (P : Program) (fn : Func) (S : St) : Option DV :=
  match resDs P S fn.results.toList with
  | some [d] => some d
  | some ds => some (.tu ds)
  | none => none

def atFin (id : Nat) : List It → Bool
  | .code (.region i _ _) :: _ => i == id
  | .code (.loop _) :: _ => id == 100000
  | _ => false

def getP (S : St) : Pl → Option DV
  | .sl t => some (S.slot t)
  | .sc t j => match S.slot t with | .ag cs => cs[j]? | _ => none
  | .ob o j => match S.obj o with | some (.box cs) => cs[j]? | _ => none
/-- the update that puts a cell -/
def putP (S : St) (d : DV) : Pl → Option (List (Nat × DV) × List (Nat × Option Ob))
  | .sl t => some ([(t, d)], [])
  | .sc t j => match S.slot t with | .ag cs => some ([(t, .ag (cs.set j d))], []) | _ => none
  | .ob o j => match S.obj o with | some (.box cs) => some ([], [(o, some (.box (cs.set j d)))]) | _ => none

def adjU (S : St) (kl : List Nat) : Adj → Option Upd
  | .own pl k T esz fl => match getP S pl, putP S (.ow k) pl with
    | some .nl, some (sl, ob) => if decide (0 < esz) && !kl.any (· == k) then some ⟨sl, ob ++ [(k, some (.row fl T esz 0 []))], [k]⟩ else none
    | _, _ => none
  | .nro pl esz fl => match getP S pl, putP S (.ro fl esz 0 []) pl with
    | some .nl, some (sl, ob) => some ⟨sl, ob, []⟩
    | _, _ => none
  | .frz pl => match getP S pl with
    | some (.ow o) => match S.obj o with
      | some (.row fl _ esz n L) => match putP S (.ro fl esz n L) pl with
        | some (sl, ob) => some ⟨sl, ob ++ [(o, none)], []⟩
        | none => none
      | _ => none
    | _ => none

def adjAt (id : Nat) (its : List It) : Bool :=
  if id == 200000 then (match its with | [] => true | .code .ret :: _ => true | _ => false) else atFin id its

abbrev Rec (P : Program) (Φ : List It → St → Prop) := List It → St → List Nat → List (Ora P Φ) → Option (List Ask)

def endE (fn : Func) (po : List Nat) (S : St) (os : List (Ora P Φ)) : Option (List Ask) :=
  match result P fn S with
  | some r => if os.isEmpty then some [.ret r (po.filterMap fun o => (S.obj o).map fun x => (o, nrmO x))] else none
  | none => none

def stepE (fn : Func) (po : List Nat) (rec : Rec P Φ) (its : List It) (S : St) (kl : List Nat) (os : List (Ora P Φ)) : Option (List Ask) :=
    match its with
    | [] => endE fn po S os
    | .endb _ :: k => rec k S kl os
    | .lp c :: k => rec (.code (.loop c) :: k) S kl os
    | .code c :: k => match c with
      | .ret => endE fn po S os
      | .skip => rec k S kl os
      | .seq a b => rec (.code a :: .code b :: k) S kl os
      | .block id c => rec (.code c :: .endb id :: k) S kl os
      | .exit id => match popTo id k with | some k' => rec k' S kl os | none => none
      | .loop c => match os with
        | .unroll :: os => match rec (.code c :: .lp c :: k) S kl os with
          | some D => some (.unroll :: D)
          | none => none
        | _ => none
      | .cond x a b => match ((opd x : RD P Φ DV).bind known).go S os with
        | some (t, _, D, os') => match rec (.code (if t then a else b) :: k) S kl os' with
          | some D' => some (D ++ D')
          | none => none
        | none => none
      | .region _ os' draw => match ops os'.toList 0 os'.toList S kl os with
        | some (S', kl', I, D, os'') => if !draw || drawOk os'.toList I then match rec k S' kl' os'' with
          | some D' => some (D ++ D')
          | none => none
          else none
        | none => none
      | _ => none

/-- objects keep their names, or take names that no object of the caller has -/
def renOk (pi : List Nat) (to : List (Nat × Nat)) : Bool :=
  nodupB (to.map (·.1)) && nodupB (to.map (·.2)) && to.all fun p => p.1 == p.2 || (!pi.any (· == p.2) && !pi.any (· == p.1))

/-- all names that a state bears -/
def names (S : St) : List Nat := S.fr.flatMap refs ++ S.ob.flatMap fun p => p.1 :: orefs p.2

def run (fn : Func) (pi po : List Nat) : Nat → Rec P Φ
  | 0 => fun _ _ _ _ => none
  | n + 1 => fun its S kl os => match os with
    | .adj id c :: os' => if adjAt id its then (match adjU S kl c with
      | some u => match run fn pi po n its (S.app u) (u.new ++ kl) os' with
        | some D => some (.adj :: D)
        | none => none
      | none => none) else stepE fn po (run fn pi po n) its S kl os
    | .tidy id ks to :: os' => if adjAt id its && renOk pi to then (match run fn pi po n its (renS ks to S) (names (renS ks to S) ++ pi) os' with
        | some D => some (.adj :: D)
        | none => none) else stepE fn po (run fn pi po n) its S kl os
    | [@Ora.fin _ _ id ks to _ _ _] => if atFin id its then (if renOk pi to then some [.fin its (renS ks to S)] else none) else stepE fn po (run fn pi po n) its S kl os
    | _ => stepE fn po (run fn pi po n) its S kl os

end Go.Eng
