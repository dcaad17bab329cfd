/- Part 2 of the proof: the tools and contracts. Conditions: none. -/
import Derived.Test.YthnfcdkiaihfcaaGreatP1
import Derived.ChangeKeysEq
import Derived.Laws.CopyRow
import Derived.Laws.StructEq
import Derived.Shelf.Abstract
set_option linter.unusedVariables false
set_option linter.unusedSimpArgs false
namespace Go.Lift
open Go

inductive Opd where
  | t (n : Nat)
  | c (v : AV)

inductive Tag where
  | mov | pick | nilchk | not
  | conv (k : IntKind)
  | bin (op : BinOp)
  | binb (op : BinOp)
  | isnil
  | eqagg (isInt : Bool) (n : Nat)
  | mkfunc (fn : Fn) (nf : Nat)
  | load (ag : Bool) (n : Nat)
  | fieldaddr (off : Nat)
  | field (ag : Bool) (n off : Nat)
  | idxaddr (sz : Nat)
  | arraddr (len sz : Nat)
  | idx (len : Nat) (ag : Bool) (sz : Nat)
  | sub (sz : Nat)
  | arrsub (len sz : Nat)
  | arrall (len sz : Nat)
  | extract (i : Nat)
  | len
  | min
  | build (zs : List AV) (ps : List (Nat × Nat))
  | bslice (sz : Nat)
  | lookup (z : AV)
  | box
  | alloc (zs : List AV)
  | store (n : Nat)
  | mkmap
  | mkslice (sz bytes : Nat) (zs : List AV)
  | append (sz bytes : Nat)
  | copy (sz : Nat)
  | mapupd
  | mapent (z : AV)
  | entstore
  | call (f : FuncId)
  | callv
  | dead

structure AOp where
  dst : Option Nat
  tag : Tag
  xs : List Opd
  guard : Option (Nat × Bool)

def ev (env : Env) : Opd → AV
  | .t n => env n
  | .c v => v

def AV.isCell : AV → Bool
  | .any | .agg _ | .tup _ => false
  | _ => true
def AV.cells : AV → List AV
  | .agg cs => cs
  | x => [x]
def AV.ok : AV → Bool
  | .any | .tup _ => false
  | _ => true

def asSlice : AV → Option (List (List AV))
  | .emp => some []
  | .slice es => some es
  | .grow _ _ es => some es
  | _ => none

def cellsAt (H : AHeap) : AV → Option (List AV)
  | .ptr b off => match H b with
    | some (.box cs) => if off ≤ cs.length then some (cs.drop off) else none
    | _ => none
  | .elem cs => some cs
  | _ => none

def takeV (ag : Bool) (n : Nat) (cs : List AV) : Option AV :=
  if ag then (if n ≤ cs.length then some (.agg (cs.take n)) else none) else cs[0]?

def binInt (op : BinOp) (k : IntKind) (a : Int) (k' : IntKind) (b : Int) : Option AV :=
  match op with
  | .shl => if b < 0 then none else some (.int k (k.wrap (a * 2 ^ Nat.min b.toNat k.bits)))
  | .shr => if b < 0 then none else some (.int k (a.fdiv (2 ^ Nat.min b.toNat k.bits)))
  | op => if k = k' then (match op with
    | .add => some (.int k (k.wrap (a + b)))
    | .sub => some (.int k (k.wrap (a - b)))
    | .mul => some (.int k (k.wrap (a * b)))
    | .quo => if b = 0 then none else some (.int k (k.wrap (a.tdiv b)))
    | .rem => if b = 0 then none else some (.int k (a.tmod b))
    | .and => some (.int k (k.wrap ((BitVec.ofInt k.bits a &&& BitVec.ofInt k.bits b).toNat)))
    | .or => some (.int k (k.wrap ((BitVec.ofInt k.bits a ||| BitVec.ofInt k.bits b).toNat)))
    | .andNot => some (.int k (k.wrap ((BitVec.ofInt k.bits a &&& ~~~ BitVec.ofInt k.bits b).toNat)))
    | .eql => some (.bool (a == b))
    | .neq => some (.bool (a != b))
    | .lss => some (.bool (decide (a < b)))
    | .leq => some (.bool (decide (a ≤ b)))
    | .gtr => some (.bool (decide (a > b)))
    | .geq => some (.bool (decide (a ≥ b)))
    | _ => none) else none

def eqCells (isInt : Bool) : List AV → List AV → Option Bool
  | [], [] => some true
  | .int k a :: xs, .int k' b :: ys => if isInt = true ∧ k = k' then (eqCells isInt xs ys).map (fun r => (a == b) && r) else none
  | .bool a :: xs, .bool b :: ys => if isInt = false then (eqCells isInt xs ys).map (fun r => (a == b) && r) else none
  | _, _ => none

def placeAt (cs : List AV) (off : Nat) (new : List AV) : List AV := cs.take off ++ new ++ cs.drop (off + new.length)

def buildCells : List AV → List (Nat × Nat) → List AV → Option (List AV)
  | zs, [], [] => some zs
  | zs, (off, n) :: ps, x :: xs => if x.ok ∧ x.cells.length = n ∧ off + n ≤ zs.length then buildCells (placeAt zs off x.cells) ps xs else none
  | _, _, _ => none

def findKey' (k : Int × Int) : List ((Int × Int) × AV) → Option AV
  | [] => none
  | (k', v) :: es => if k' = k then some v else findKey' k es

def pairOf : AV → Option (Int × Int)
  | .agg [.int .i64 a, .int .i64 b] => some (a, b)
  | _ => none

def detV : Tag → List AV → AHeap → Option AV
  | .mov, [x], _ => some x
  | .pick, [.bool t, a, b], _ => some (if t then a else b)
  | .nilchk, [.ptr b off], _ => some (.ptr b off)
  | .nilchk, [.elem cs], _ => some (.elem cs)
  | .not, [.bool b], _ => some (.bool !b)
  | .conv k, [.int _ n], _ => some (.int k (k.wrap n))
  | .bin op, [.int k a, .int k' b], _ => binInt op k a k' b
  | .binb .eql, [.bool a, .bool b], _ => some (.bool (a == b))
  | .binb .neq, [.bool a, .bool b], _ => some (.bool (a != b))
  | .eqagg isInt n, [.agg xs, .agg ys], _ => if xs.length = n ∧ ys.length = n then (eqCells isInt xs ys).map .bool else none
  | .mkfunc fn nf, xs, _ => some (.func fn (xs.take nf) (xs.drop nf))
  | .load ag n, [p], H => (cellsAt H p).bind (takeV ag n)
  | .fieldaddr off, [.ptr b o], _ => some (.ptr b (o + off))
  | .fieldaddr off, [.elem cs], _ => some (.elem (cs.drop off))
  | .field true n off, [.agg cs], _ => if off + n ≤ cs.length then some (.agg ((cs.drop off).take n)) else none
  | .field false _ off, [.agg cs], _ => cs[off]?
  | .idxaddr sz, [x, .int _ i], _ =>
    match x with
    | .mslice b off len _ => if 0 ≤ i ∧ i < (len : Int) then some (.ptr b (off + i.toNat * sz)) else none
    | x => (asSlice x).bind fun es => if 0 ≤ i then es[i.toNat]?.bind fun e => if e.length = sz then some (.elem e) else none else none
  | .arraddr len sz, [.ptr b o, .int _ i], _ => if 0 ≤ i ∧ i < (len : Int) then some (.ptr b (o + i.toNat * sz)) else none
  | .arraddr len sz, [.elem cs, .int _ i], _ => if 0 ≤ i ∧ i < (len : Int) then some (.elem (cs.drop (i.toNat * sz))) else none
  | .idx len true sz, [.agg cs, .int _ i], _ => if 0 ≤ i ∧ i < (len : Int) ∧ i.toNat * sz + sz ≤ cs.length then some (.agg ((cs.drop (i.toNat * sz)).take sz)) else none
  | .idx len false sz, [.agg cs, .int _ i], _ => if 0 ≤ i ∧ i < (len : Int) then cs[i.toNat * sz]? else none
  | .sub _, [x, .int _ h], _ => (asSlice x).bind fun es => if 0 ≤ h ∧ h ≤ (es.length : Int) then some (.slice (es.take h.toNat)) else none
  | .arrsub len _, [.ptr b o, .int _ h], _ => if 0 ≤ h ∧ h ≤ (len : Int) then some (.mslice b o h.toNat len) else none
  | .arrall len _, [.ptr b o], _ => some (.mslice b o len len)
  | .extract i, [.tup vs], _ => vs[i]?
  | .len, [x], _ =>
    match x with
    | .mslice _ _ len _ => some (.int .i64 len)
    | x => (asSlice x).map fun es => .int .i64 es.length
  | .min, [.int k a, .int _ b], _ => some (.int k (if b < a then b else a))
  | .build zs ps, xs, _ => (buildCells zs ps xs).map .agg
  | .bslice sz, xs, _ => if xs = [] then some .emp else if xs.all (fun x => x.ok && x.cells.length == sz) then some (.slice (xs.map AV.cells)) else none
  | .lookup z, [m, k], H => match pairOf k with
    | none => none
    | some q => match m with
      | .mptr r => match H r with
        | some (.map es _) => some ((findKey' q es).getD z)
        | _ => none
      | .amap es => some ((findKey' q es).getD z)
      | _ => none
  | _, _, _ => none

def avC : Value → AV
  | .int k n => .int k n
  | .bool b => .bool b
  | .slice none 0 0 => .emp
  | .pointer none => .nilp
  | .nilFunc => .nilf
  | _ => .any
def opd : Operand → Opd
  | .tmp t => .t t
  | .const v => .c (avC v)
  | .global _ => .c .any
  | .func f => .c (.func (.func f) [] [])

theorem avC_rep (H : AHeap) (w : World) (v : Value) : Rep H w v (avC v) := by
  unfold avC
  split
  · exact .int _ _
  · exact .bool _
  · exact .emp _
  · exact .nilp
  · exact .nilf
  · exact .any _

def zeroCells (P : Program) (t : TypeId) : Option (List AV) := ((P.info? t).bind (·.zero)).map fun z => z.cells.toList.map avC
def isAggB (P : Program) (t : TypeId) : Option Bool := (P.underlying t).map fun d => match d with | .struct _ | .array _ _ => true | _ => false
def szB (P : Program) (t : TypeId) : Option Nat := (P.info? t).map (·.size)
def bytesB (P : Program) (t : TypeId) : Option Nat := (P.info? t).map (·.bytes)
def plainInt (P : Program) (t : TypeId) : Bool := match P.underlying t with | some (.int _) => true | _ => false
def plainBool (P : Program) (t : TypeId) : Bool := match P.underlying t with | some .bool => true | _ => false
def entersB (P : Program) (f : FuncId) : Bool := match P.funcs[f]? with
  | some fn => fn.name != "runtime.NumGoroutine" && fn.body.isSome
  | none => false
def isPair (P : Program) (t : TypeId) : Bool := match P.underlying t with
  | some (.struct fs) => !P.stoodInHeld t && match fs.toList with
    | [f, g] => f.offset == 0 && g.offset == 1 && f.name != "_" && g.name != "_" && plainInt P f.type && plainInt P g.type && szB P f.type == some 1 && szB P g.type == some 1
    | _ => false
  | _ => false

/-- The tag and the operands of an operation. -/
def trOp (P : Program) (o : Oper) : Option (Tag × List Opd) :=
  match o.op with
  | .move x => some (.mov, [opd x])
  | .assign x => some (.mov, [opd x])
  | .pick c a b => some (.pick, [opd c, opd a, opd b])
  | .alloc t => match zeroCells P t with
    | some zs => some (.alloc zs, [])
    | none => none
  | .box _ x => some (.box, [opd x])
  | .build t parts => match P.underlying t, zeroCells P t with
    | some (.struct fs), some zs => match fs.toList.mapM (fun f => szB P f.type) with
      | some szs => match parts.toList.mapM (fun p => (fs.toList.zip szs)[p.1]?.map fun q => (q.1.offset, q.2)) with
        | some ps => some (.build zs ps, parts.toList.map fun p => opd p.2)
        | none => none
      | none => none
    | some (.array n e), some zs => match szB P e with
      | some _ => if parts = #[] then some (.build zs [], []) else none
      | none => none
    | _, _ => none
  | .panic _ => some (.dead, [])
  | .makeInterface _ _ => some (.dead, [])
  | .buildSlice t len parts => match P.underlying t with
    | some (.slice e) => match szB P e, zeroCells P e with
      | some sz, some _ => if len * sz ≤ 16777216 ∧ 0 < sz ∧ parts.toList.map (·.1) = List.range len then some (.bslice sz, parts.toList.map fun p => opd p.2) else none
      | _, _ => none
    | _ => none
  | .load t x => match isAggB P t, szB P t with
    | some ag, some n => some (.load ag n, [opd x])
    | _, _ => none
  | .store t p x => match szB P t with
    | some n => some (.store n, [opd p, opd x])
    | none => none
  | .nilCheck x => some (.nilchk, [opd x])
  | .binOp op t x y _ => match P.underlying t with
    | some (.int _) => some (.bin op, [opd x, opd y])
    | some .bool => if op = .eql ∨ op = .neq then some (.binb op, [opd x, opd y]) else none
    | some (.slice _) => match op, y with
      | .eql, .const (.slice none 0 0) => some (.isnil, [opd x])
      | _, _ => none
    | some (.array n e) => if op = .eql ∧ szB P e = some 1 ∧ (plainInt P e || plainBool P e) = true ∧ P.eqGuardType P.depth t = false then some (.eqagg (plainInt P e) n, [opd x, opd y]) else none
    | _ => none
  | .unOp .not _ x => some (.not, [opd x])
  | .convert s d x => match P.underlying s, P.underlying d with
    | some (.int _), some (.int k) => some (.conv k, [opd x])
    | _, _ => none
  | .makeFunc fn first cap => some (.mkfunc fn first.size, (first ++ cap).toList.map opd)
  | .makeMap _ none => some (.mkmap, [])
  | .makeSlice t l c => match P.underlying t with
    | some (.slice e) => match szB P e, bytesB P e, zeroCells P e with
      | some sz, some bytes, some zs => match l, c with
        | .tmp i, .tmp j => if i = j ∧ zs.length = sz ∧ 0 < sz then some (.mkslice sz bytes zs, [.t i]) else none
        | _, _ => none
      | _, _, _ => none
    | _ => none
  | .slice t x lo hi mx => match P.underlying t, lo, hi, mx with
    | some (.slice e), none, some h, none => match szB P e with
      | some sz => some (.sub sz, [opd x, opd h])
      | none => none
    | some (.array n e), none, some h, none => match szB P e with
      | some sz => some (.arrsub n sz, [opd x, opd h])
      | none => none
    | some (.array n e), none, none, none => match szB P e with
      | some sz => some (.arrall n sz, [opd x])
      | none => none
    | _, _, _, _ => none
  | .fieldAddr s x f => match P.underlying s with
    | some (.struct fs) => match fs[f]? with
      | some fd => match szB P fd.type with
        | some n => if n = 0 then none else some (.fieldaddr fd.offset, [opd x])
        | none => none
      | none => none
    | _ => none
  | .field s x f => match P.underlying s with
    | some (.struct fs) => match fs[f]? with
      | some fd => match isAggB P fd.type, szB P fd.type with
        | some ag, some n => some (.field ag n fd.offset, [opd x])
        | _, _ => none
      | none => none
    | _ => none
  | .indexAddr t x i => match P.underlying t with
    | some (.slice e) => match szB P e with
      | some sz => some (.idxaddr sz, [opd x, opd i])
      | none => none
    | some (.array n e) => match szB P e with
      | some sz => some (.arraddr n sz, [opd x, opd i])
      | none => none
    | _ => none
  | .index t x i => match P.underlying t with
    | some (.array n e) => match isAggB P e, szB P e with
      | some ag, some sz => some (.idx n ag sz, [opd x, opd i])
      | _, _ => none
    | _ => none
  | .lookup t m k false => match P.underlying t with
    | some (.map kt e) => match isAggB P e, (P.info? e).bind (·.zero) with
      | some false, some z => if isPair P kt then some (.lookup (avC z), [opd m, opd k]) else none
      | _, _ => none
    | _ => none
  | .mapUpdate t m k v => match P.underlying t with
    | some (.map kt e) => if isPair P kt then some (.mapupd, [opd m, opd k, opd v]) else none
    | _ => none
  | .mapEntry t m k => match P.underlying t with
    | some (.map kt e) => match (P.info? e).bind (·.zero) with
      | some z => if isPair P kt then some (.mapent (avC z), [opd m, opd k]) else none
      | none => none
    | _ => none
  | .entryStore _ m s v => some (.entstore, [opd m, opd s, opd v])
  | .extract x i => some (.extract i, [opd x])
  | .call { callee := .builtin .len, args, argTypes } => match args.toList, argTypes.toList with
    | [x], [t] => match P.underlying t with
      | some (.slice _) => some (.len, [opd x])
      | _ => none
    | _, _ => none
  | .call { callee := .builtin .min, args, argTypes } => match args.toList with
    | [x, y] => some (.min, [opd x, opd y])
    | _ => none
  | .call { callee := .builtin .append, args, argTypes } => match args.toList, argTypes.toList with
    | [x, y], [t, t'] => match P.underlying t, P.underlying t' with
      | some (.slice e), some (.slice _) => match szB P e, bytesB P e, zeroCells P e with
        | some sz, some bytes, some zs => if zs.length = sz ∧ 0 < sz then some (.append sz bytes, [opd x, opd y]) else none
        | _, _, _ => none
      | _, _ => none
    | _, _ => none
  | .call { callee := .builtin .copy, args, argTypes } => match args.toList, argTypes.toList with
    | [x, y], [t, _] => match P.underlying t with
      | some (.slice e) => match szB P e with
        | some sz => if 0 < sz then some (.copy sz, [opd x, opd y]) else none
        | none => none
      | _ => none
    | _, _ => none
  | .call { callee := .value (.func f), args, .. } => if entersB P f then some (.call f, args.toList.map opd) else none
  | .call { callee := .value x, args, .. } => some (.callv, opd x :: args.toList.map opd)
  | _ => none
end Go.Lift

