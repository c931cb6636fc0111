/-
An abstract machine over values, part 2: operations with their types resolved, the translation into them, and what they yield.
Conditions: none (definitions; no program in sight).
-/
import Derived.Test.YtelmlpjkpebcgaaAbs1
set_option linter.unusedVariables false
set_option linter.unusedSimpArgs false
namespace Go.Sas

/-- Operands: a temporary of this region, one that lives on, a constant. -/
inductive Od where
  | l (t : Nat)
  | g (t : Nat)
  | c (a : AV)
  deriving Inhabited

/-- How a value is compared: a number, a truth value, a text, a struct by its fields. -/
inductive ESh where
  | i
  | b
  | s
  | nil
  | fld (off : Nat) (n : Option Nat) (sh rest : ESh)
  deriving Inhabited

inductive AOp where
  | mv (x : Od)
  | pick (c a b : Od)
  | new (zero : List Value)
  | box (x : Od)
  | mk (zero : List Value) (parts : List (Nat × Nat × Od))
  | mks (mu : Bool) (sz : Nat) (xs : List Od)
  | ld (n : Option Nat) (a : Od)
  | st (n : Nat) (a v : Od)
  | nilc (x : Od)
  | bin (op : BinOp) (x y : Od)
  | binb (neg : Bool) (x y : Od)
  | eqs (neg : Bool) (sh : ESh) (x y : Od)
  | eqn (neg : Bool) (x : Od)
  | un (op : UnOp) (x : Od)
  | cv (k : IntKind) (x : Od)
  | mkf (f : Nat) (caps : List Od)
  | mksl (sz bytes : Nat) (zero : List Value) (l c : Od)
  | sl (sz : Nat) (x : Od) (lo hi mx : Option Od)
  | ssl (x : Od) (lo hi : Option Od)
  | fa (x : Od) (off : Nat)
  | fd (n : Option Nat) (x : Od) (off : Nat)
  | ia (sz : Nat) (x i : Od)
  | iaa (len sz : Nat) (x i : Od)
  | ix (len sz : Nat) (n : Option Nat) (x i : Od)
  | sx (x i : Od)
  | ex (x : Od) (i : Nat)
  | len (x : Od)
  | lens (x : Od)
  | lenc (n : Nat)
  | app (sz bytes : Nat) (s x : Od)
  | cpy (sz : Nat) (d s : Od)
  | mx (xs : List Od)
  | mn (xs : List Od)
  | call (f : Od) (args : List Od)
  deriving Inhabited

/-! ### The translation -/
def ofVal : Value → AV
  | .agg us => if us.all (·.oneCell') then .agg (us.toList.map .lit) else .bad
  | v => .lit v

def od (K : List Nat) : Operand → Option Od
  | .tmp t => some (if K.contains t then .g t else .l t)
  | .const v => some (.c (ofVal v))
  | .func f => some (.c (.fn f []))
  | .global _ => none

def ods (K : List Nat) : List Operand → Option (List Od)
  | [] => some []
  | x :: xs => match od K x, ods K xs with
    | some y, some ys => some (y :: ys)
    | _, _ => none

def odo (K : List Nat) : Option Operand → Option (Option Od)
  | none => some none
  | some x => (od K x).map some

def szT (P : Program) (t : TypeId) : Option Nat := (P.info? t).map (·.size)
def byT (P : Program) (t : TypeId) : Option Nat := (P.info? t).map (·.bytes)
def shT (P : Program) (t : TypeId) : Option (Option Nat) := match P.underlying t with
  | some (.struct _) | some (.array _ _) => (szT P t).map some
  | some _ => some none
  | none => none
def zrT (P : Program) (t : TypeId) : Option (List Value) := match (P.info? t).bind (·.zero) with
  | some z => if z.cells.all (·.oneCell') then some z.cells.toList else none
  | none => none
/-- a field: its offset, its type; none where it has no cells -/
def flT (P : Program) (s : TypeId) (f : Nat) : Option (Nat × TypeId) := match P.underlying s with
  | some (.struct fs) => match fs[f]? with
    | some x => match szT P x.type with
      | some (_ + 1) => some (x.offset, x.type)
      | _ => none
    | none => none
  | _ => none
def slT (P : Program) (t : TypeId) : Option TypeId := match P.underlying t with
  | some (.slice e) => some e
  | _ => none

def trParts (pl : Nat → Option (Nat × Nat)) (K : List Nat) : List (Nat × Operand) → Option (List (Nat × Nat × Od))
  | [] => some []
  | (i, x) :: r => match pl i, od K x, trParts pl K r with
    | some (off, n), some y, some ys => some ((off, n, y) :: ys)
    | _, _, _ => none

def trCall (P : Program) (K : List Nat) (c : Call) : Option AOp := match c.callee with
  | .value f => match od K f, ods K c.args.toList with
    | some g, some xs => some (.call g xs)
    | _, _ => none
  | .invoke _ _ => none
  | .builtin b => match b, c.args.toList, c.argTypes.toList with
    | .len, [x], [t] => match P.underlying t, od K x with
      | some (.slice _), some y => some (.len y)
      | some .string, some y => some (.lens y)
      | some (.array n _), some _ => some (.lenc n)
      | _, _ => none
    | .append, [s, x], [ts, tx] => match slT P ts, od K s, od K x with
      | some e, some s', some x' => match szT P e, byT P e, zrT P e, slT P tx with
        | some (sz + 1), some (by_ + 1), some z, some _ => if z.length = sz + 1 then some (.app (sz + 1) (by_ + 1) s' x') else none
        | _, _, _, _ => none
      | _, _, _ => none
    | .copy, [d, s], [td, _] => match slT P td, od K d, od K s with
      | some e, some d', some s' => match szT P e with
        | some (sz + 1) => some (.cpy (sz + 1) d' s')
        | _ => none
      | _, _, _ => none
    | .max, xs, _ => (ods K xs).map .mx
    | .min, xs, _ => (ods K xs).map .mn
    | _, _, _ => none

def eqShT (P : Program) : Nat → TypeId → Option ESh
  | 0, _ => none
  | d + 1, t => match P.underlying t with
    | some .bool => some .b
    | some (.int _) => some .i
    | some .string => some .s
    | some (.struct fs) => if P.stoodInHeld t then none else
      fs.toList.foldr (fun f acc => match acc, (if f.name = "_" then none else eqShT P d f.type), shT P f.type with
        | some r, some sh, some n => some (.fld f.offset n sh r)
        | _, _, _ => none) (some .nil)
    | _ => none

def trEqs (P : Program) (t : TypeId) : Option ESh := match eqShT P 8 t with
  | some sh => if P.eqGuardType P.depth t then none else some sh
  | none => none

def trBin (P : Program) (op : BinOp) (t : TypeId) (x y : Od) : Option AOp := match op, P.underlying t with
  | .eql, some .bool => some (.binb false x y)
  | .neq, some .bool => some (.binb true x y)
  | .eql, some (.slice _) => match y with | .c (.lit (.slice none 0 0)) => some (.eqn false x) | _ => none
  | .neq, some (.slice _) => match y with | .c (.lit (.slice none 0 0)) => some (.eqn true x) | _ => none
  | .eql, some (.struct _) => (trEqs P t).map fun sh => .eqs false sh x y
  | .neq, some (.struct _) => (trEqs P t).map fun sh => .eqs true sh x y
  | op, some (.int _) => some (.bin op x y)
  | op, some .string => some (.bin op x y)
  | _, _ => none

def trOp (P : Program) (K : List Nat) (mu : Bool) (o : Oper) : Option AOp := match o.op with
  | .move x | .assign x => (od K x).map .mv
  | .pick c a b => match od K c, od K a, od K b with
    | some c', some a', some b' => some (.pick c' a' b')
    | _, _, _ => none
  | .alloc e => match zrT P e with | some z => if z.length = 0 then none else some (.new z) | none => none
  | .box _ x => (od K x).map .box
  | .build t parts => match P.underlying t, zrT P t with
    | some (.struct fs), some z => match fs.toList.mapM (fun f => (P.info? f.type).map fun i => (f.offset, i.size)) with
      | some pls => (trParts (pls[·]?) K parts.toList).map (.mk z)
      | none => none
    | some (.array _ e), some z => match szT P e with
      | some sz => (trParts (fun i => some (i * sz, sz)) K parts.toList).map (.mk z)
      | none => none
    | _, _ => none
  | .buildSlice t len parts => match slT P t with
    | some e => match szT P e, zrT P e with
      | some (sz + 1), some z => if z.length = sz + 1 ∧ parts.toList.map (·.1) = List.range len ∧ len * (sz + 1) ≤ 16777216 then (ods K (parts.toList.map (·.2))).map (.mks mu (sz + 1)) else none
      | _, _ => none
    | none => none
  | .load t a => match shT P t, od K a with
    | some n, some a' => some (.ld n a')
    | _, _ => none
  | .store t a v => match szT P t, od K a, od K v with
    | some n, some a', some v' => some (.st n a' v')
    | _, _, _ => none
  | .nilCheck x => (od K x).map .nilc
  | .binOp op t x y _ => match od K x, od K y with
    | some x', some y' => trBin P op t x' y'
    | _, _ => none
  | .unOp op _ x => (od K x).map (.un op)
  | .convert s d x => match P.underlying s, P.underlying d, od K x with
    | some _, some (.int k), some x' => some (.cv k x')
    | _, _, _ => none
  | .makeFunc (.func f) first caps => if first.size = 0 then (ods K caps.toList).map (.mkf f) else none
  | .makeSlice t l c => match slT P t with
    | some e => match szT P e, byT P e, zrT P e, od K l, od K c with
      | some (sz + 1), some b, some z, some l', some c' => if z.length = sz + 1 then some (.mksl (sz + 1) b z l' c') else none
      | _, _, _, _, _ => none
    | none => none
  | .slice t x lo hi mx => match P.underlying t, od K x, odo K lo, odo K hi, odo K mx with
    | some (.slice e), some x', some lo', some hi', some mx' => match szT P e with
      | some (sz + 1) => if mx'.isNone || hi'.isSome then some (.sl (sz + 1) x' lo' hi' mx') else none
      | _ => none
    | some .string, some x', some lo', some hi', some none => some (.ssl x' lo' hi')
    | _, _, _, _, _ => none
  | .fieldAddr s x f => match flT P s f, od K x with
    | some (off, _), some x' => some (.fa x' off)
    | _, _ => none
  | .field t x f => match flT P t f, od K x with
    | some (off, ft), some x' => match shT P ft with
      | some n => some (.fd n x' off)
      | none => none
    | _, _ => none
  | .indexAddr t x i => match P.underlying t, od K x, od K i with
    | some (.slice e), some x', some i' => match szT P e with
      | some (sz + 1) => some (.ia (sz + 1) x' i')
      | _ => none
    | some (.array len e), some x', some i' => match szT P e with
      | some (sz + 1) => some (.iaa len (sz + 1) x' i')
      | _ => none
    | _, _, _ => none
  | .index t x i => match P.underlying t, od K x, od K i with
    | some (.array len e), some x', some i' => match szT P e, shT P e with
      | some (sz + 1), some n => some (.ix len (sz + 1) n x' i')
      | _, _ => none
    | some .string, some x', some i' => some (.sx x' i')
    | _, _, _ => none
  | .extract x i => (od K x).map (.ex · i)
  | .call c => trCall P K c
  | _ => none

/-! ### What they yield -/
def AObj.gen : AObj → Option Nat
  | .gone => none
  | .own g _ => some g
  | .raw g _ => some g

/-- the object is there, in this state of it -/
def live (H : AHeap) (id g : Nat) : Bool := match H[id]? with
  | some (.own g' _) => g == g'
  | some (.raw g' _) => g == g'
  | _ => false

def fillA (cells : List AV) : List (Nat × Nat × AV) → Option (List AV)
  | [] => some cells
  | (off, n, a) :: r => match a.cells with
    | some cs => if cs.length = n ∧ off + n ≤ cells.length then fillA (cells.take off ++ cs ++ cells.drop (off + n)) r else none
    | none => none

/-! Arithmetic, under names of its own -/
def iAdd (k : IntKind) (a b : Int) : Int := k.wrap (a + b)
def iSub (k : IntKind) (a b : Int) : Int := k.wrap (a - b)
def iMul (k : IntKind) (a b : Int) : Int := k.wrap (a * b)
def iQuo (k : IntKind) (a b : Int) : Int := k.wrap (a.tdiv b)
def iRem (_ : IntKind) (a b : Int) : Int := a.tmod b
def iAnd (k : IntKind) (a b : Int) : Int := k.wrap ((BitVec.ofInt k.bits a &&& BitVec.ofInt k.bits b).toNat : Int)
def iOr (k : IntKind) (a b : Int) : Int := k.wrap ((BitVec.ofInt k.bits a ||| BitVec.ofInt k.bits b).toNat : Int)
def iXor (k : IntKind) (a b : Int) : Int := k.wrap ((BitVec.ofInt k.bits a ^^^ BitVec.ofInt k.bits b).toNat : Int)
def iShl (k : IntKind) (a b : Int) : Int := k.wrap (a * 2 ^ (min b.toNat k.bits))
def iShr (k : IntKind) (a b : Int) : Int := a.fdiv (2 ^ (min b.toNat k.bits))
def iNeg (k : IntKind) (a : Int) : Int := k.wrap (0 - a)
def iCv (k : IntKind) (a : Int) : Int := k.wrap a
def iEq (a b : Int) : Bool := a == b
def iNe (a b : Int) : Bool := a != b
def iLt (a b : Int) : Bool := decide (a < b)
def iLe (a b : Int) : Bool := decide (a ≤ b)
def iMax (a b : Int) : Int := if b > a then b else a
def iMin (a b : Int) : Int := if b < a then b else a
def iLen (n : Nat) : Int := n
def sEq (a b : ByteArray) : Bool := a.toList == b.toList
def sApp (a b : ByteArray) : ByteArray := a ++ b

def binA (op : BinOp) : AV → AV → Option AV
  | .lit (.int k a), .lit (.int k' b) => match op with
    | .shl => if b < 0 then none else some (.lit (.int k (iShl k a b)))
    | .shr => if b < 0 then none else some (.lit (.int k (iShr k a b)))
    | .add => if k = k' then some (.lit (.int k (iAdd k a b))) else none
    | .sub => if k = k' then some (.lit (.int k (iSub k a b))) else none
    | .mul => if k = k' then some (.lit (.int k (iMul k a b))) else none
    | .quo => if k = k' then (if b = 0 then none else some (.lit (.int k (iQuo k a b)))) else none
    | .rem => if k = k' then (if b = 0 then none else some (.lit (.int k (iRem k a b)))) else none
    | .and => if k = k' then some (.lit (.int k (iAnd k a b))) else none
    | .or => if k = k' then some (.lit (.int k (iOr k a b))) else none
    | .xor => if k = k' then some (.lit (.int k (iXor k a b))) else none
    | .andNot => none
    | .eql => if k = k' then some (.lit (.bool (iEq a b))) else none
    | .neq => if k = k' then some (.lit (.bool (iNe a b))) else none
    | .lss => if k = k' then some (.lit (.bool (iLt a b))) else none
    | .leq => if k = k' then some (.lit (.bool (iLe a b))) else none
    | .gtr => if k = k' then some (.lit (.bool (iLt b a))) else none
    | .geq => if k = k' then some (.lit (.bool (iLe b a))) else none
  | .lit (.string a), .lit (.string b) => match op with
    | .eql => some (.lit (.bool (sEq a b)))
    | .neq => some (.lit (.bool (!sEq a b)))
    | .add => if a.size + b.size ≤ 9223372036854775807 then some (.lit (.string (sApp a b))) else none
    | _ => none
  | _, _ => none

def getN (n : Option Nat) (cs : List AV) (off : Nat) : Option AV := match n with
  | none => cs[off]?
  | some k => if off + k ≤ cs.length then some (.agg ((cs.drop off).take k)) else none

def ldA (H : AHeap) (n : Option Nat) : AV → Option AV
  | .vp cs => getN n cs 0
  | .mp id g off => match H[id]? with
    | some (.own g' cs) => if g = g' then getN n cs off else none
    | _ => none
  | _ => none

def nilcA (H : AHeap) : AV → Option AV
  | .vp cs => some (.vp cs)
  | .mp id g off => if live H id g then some (.mp id g off) else none
  | .fn f caps => some (.fn f caps)
  | .yl id g => if live H id g then some (.yl id g) else none
  | _ => none

def faA (H : AHeap) (off : Nat) : AV → Option AV
  | .vp cs => some (.vp (cs.drop off))
  | .mp id g o => if live H id g then some (.mp id g (o + off)) else none
  | _ => none

def iaA (H : AHeap) (sz : Nat) : AV → AV → Option AV
  | .vs sz' es, .lit (.int _ n) => if sz = sz' ∧ 0 ≤ n then (match es[n.toNat]? with
    | some e => match e.cells with
      | some cs => some (.vp cs)
      | none => none
    | none => none) else none
  | .ms sz' id g off len, .lit (.int _ n) => if sz = sz' ∧ 0 ≤ n ∧ n < len ∧ live H id g then some (.mp id g (off + n.toNat * sz)) else none
  | _, _ => none

def iaaA (H : AHeap) (len sz : Nat) : AV → AV → Option AV
  | .vp cs, .lit (.int _ n) => if 0 ≤ n ∧ n < len then some (.vp (cs.drop (n.toNat * sz))) else none
  | .mp id g o, .lit (.int _ n) => if 0 ≤ n ∧ n < len ∧ live H id g then some (.mp id g (o + n.toNat * sz)) else none
  | _, _ => none

def lenA (H : AHeap) : AV → Option AV
  | .vs _ es => some (.lit (.int .i64 (iLen es.length)))
  | .ms _ id g _ len => if live H id g then some (.lit (.int .i64 (iLen len))) else none
  | .es => some (.lit (.int .i64 0))
  | .lit (.slice none 0 0) => some (.lit (.int .i64 0))
  | _ => none

def foldA (f : Int → Int → Int) : AV → List AV → Option AV
  | .lit (.int k a), [] => some (.lit (.int k a))
  | .lit (.int k a), .lit (.int _ b) :: r => foldA f (.lit (.int k (f a b))) r
  | _, _ => none

/-- a bound of a slice expression, if it is a number of the right size -/
def bdA (d : Nat) : Option AV → Option Nat
  | none => some d
  | some (.lit (.int _ n)) => if 0 ≤ n then some n.toNat else none
  | some _ => none

def slA (H : AHeap) (sz : Nat) (x : AV) (lo hi : Option AV) (mx : Option AV) : Option AV := match x with
  | .vs sz' es => match bdA 0 lo, bdA es.length hi with
    | some l, some h => if sz = sz' ∧ l ≤ h ∧ h ≤ es.length then (match mx with
      | none => some (.vs sz ((es.drop l).take (h - l)))
      | some m => match bdA 0 (some m) with
        | some m' => if h ≤ m' ∧ m' ≤ es.length then (if m' = l then some .es else some (.vs sz ((es.drop l).take (h - l)))) else none
        | none => none) else none
    | _, _ => none
  | .ms sz' id g off len => match bdA 0 lo, bdA len hi, mx with
    | some l, some h, none => if sz = sz' ∧ l ≤ h ∧ h ≤ len ∧ live H id g then some (.ms sz id g (off + l * sz) (h - l)) else none
    | some l, some h, some m => match bdA 0 (some m) with
      | some m' => if sz = sz' ∧ l ≤ h ∧ h ≤ len ∧ h ≤ m' ∧ m' ≤ len ∧ live H id g then (if m' = l then some .es else some (.ms sz id g (off + l * sz) (h - l))) else none
      | none => none
    | _, _, _ => none
  | .es => match bdA 0 lo, bdA 0 hi, mx with
    | some 0, some 0, none => some .es
    | _, _, _ => none
  | .lit (.slice none 0 0) => match bdA 0 lo, bdA 0 hi, mx with
    | some 0, some 0, none => some (.lit (.slice none 0 0))
    | _, _, _ => none
  | _ => none

def sslA (x : AV) (lo hi : Option AV) : Option AV := match x with
  | .lit (.string s) => match bdA 0 lo, bdA s.size hi with
    | some l, some h => if l ≤ h ∧ h ≤ s.size then some (.lit (.string (s.extract l h))) else none
    | _, _ => none
  | _ => none

def eqnA (H : AHeap) : AV → Option Bool
  | .lit (.slice none 0 0) => some true
  | .vs _ (_ :: _) => some false
  | .ms _ id g _ (_ + 1) => if live H id g then some false else none
  | _ => none

def eqE : ESh → AV → AV → Option Bool
  | .i, .lit (.int k a), .lit (.int k' b) => if k = k' then some (iEq a b) else none
  | .b, .lit (.bool a), .lit (.bool b) => some (a == b)
  | .s, .lit (.string a), .lit (.string b) => some (sEq a b)
  | .nil, .agg _, .agg _ => some true
  | .fld off n sh rest, .agg xs, .agg ys => match getN n xs off, getN n ys off with
    | some a, some b => match eqE sh a b, eqE rest (.agg xs) (.agg ys) with
      | some p, some q => some (p && q)
      | _, _ => none
    | _, _ => none
  | _, _, _ => none

def elemsLen (sz : Nat) (as : List AV) : Bool := as.all fun a => match a.cells with
  | some cs => cs.length == sz
  | none => false

/-- elements that may stand in a slice that nobody writes any more -/
def elemsOk (sz : Nat) (as : List AV) : Bool := AV.nidL as && elemsLen sz as

/-- An operation that changes nothing: its value. -/
def opVal (e : Od → AV) (H : AHeap) : AOp → Option AV
  | .mv x => some (e x)
  | .pick c a b => match e c with
    | .lit (.bool t) => some (if t then e a else e b)
    | _ => none
  | .mk zero parts => (fillA (zero.map .lit) (parts.map fun (o, n, x) => (o, n, e x))).map .agg
  | .mks false sz xs => if xs.length = 0 then some .es else if elemsOk sz (xs.map e) then some (.vs sz (xs.map e)) else none
  | .ld n a => ldA H n (e a)
  | .nilc x => nilcA H (e x)
  | .bin op x y => binA op (e x) (e y)
  | .binb neg x y => match e x, e y with
    | .lit (.bool a), .lit (.bool b) => some (.lit (.bool (if neg then !(a == b) else (a == b))))
    | _, _ => none
  | .eqs neg sh x y => (eqE sh (e x) (e y)).map fun r => .lit (.bool (if neg then !r else r))
  | .eqn neg x => (eqnA H (e x)).map fun r => .lit (.bool (if neg then !r else r))
  | .un op x => match op, e x with
    | .not, .lit (.bool b) => some (.lit (.bool (!b)))
    | .neg, .lit (.int k n) => some (.lit (.int k (iNeg k n)))
    | _, _ => none
  | .cv k x => match e x with
    | .lit (.int _ n) => some (.lit (.int k (iCv k n)))
    | _ => none
  | .mkf f caps => some (.fn f (caps.map e))
  | .sl sz x lo hi mx => slA H sz (e x) (lo.map e) (hi.map e) (mx.map e)
  | .ssl x lo hi => sslA (e x) (lo.map e) (hi.map e)
  | .fa x off => faA H off (e x)
  | .fd n x off => match e x with
    | .agg cs => getN n cs off
    | _ => none
  | .ia sz x i => iaA H sz (e x) (e i)
  | .iaa len sz x i => iaaA H len sz (e x) (e i)
  | .ix len sz n x i => match e x, e i with
    | .agg cs, .lit (.int _ m) => if 0 ≤ m ∧ m < len then getN n cs (m.toNat * sz) else none
    | _, _ => none
  | .sx x i => match e x, e i with
    | .lit (.string s), .lit (.int _ m) => if 0 ≤ m then (match s[m.toNat]? with
      | some b => some (.lit (.int .u8 b.toNat))
      | none => none) else none
    | _, _ => none
  | .ex x i => match e x with
    | .tup vs => vs[i]?
    | _ => none
  | .len x => lenA H (e x)
  | .lens x => match e x with
    | .lit (.string s) => some (.lit (.int .i64 (iLen s.size)))
    | _ => none
  | .lenc n => some (.lit (.int .i64 n))
  | .mx xs => match xs.map e with
    | a :: r => foldA iMax a r
    | [] => none
  | .mn xs => match xs.map e with
    | a :: r => foldA iMin a r
    | [] => none
  | _ => none

/-- the cells that a value of a slice type shows -/
def cellsOfSl (H : AHeap) (sz : Nat) : AV → Option (List AV)
  | .vs sz' es => if sz = sz' then es.foldr (fun e acc => match e.cells, acc with | some cs, some r => some (cs ++ r) | _, _ => none) (some []) else none
  | .ms sz' id g off len => match H[id]? with
    | some (.own g' cs) => if sz = sz' ∧ g = g' ∧ off + len * sz ≤ cs.length then some ((cs.drop off).take (len * sz)) else none
    | _ => none
  | .es => some []
  | .lit (.slice none 0 0) => some []
  | _ => none

def lenOfSl : AV → Option Nat
  | .vs _ es => some es.length
  | .ms _ _ _ _ len => some len
  | .es => some 0
  | .lit (.slice none 0 0) => some 0
  | _ => none

/-- An operation that writes or makes objects. -/
def opAct (e : Od → AV) (H : AHeap) : AOp → Option (AV × AHeap)
  | .new zero => some (.mp H.length 0 0, H ++ [.own 0 (zero.map .lit)])
  | .box x => match (e x).cells with
    | some cs => some (.mp H.length 0 0, H ++ [.own 0 cs])
    | none => none
  | .st n a v => match e a, (e v).cells with
    | .mp id g off, some xs => match H[id]? with
      | some (.own g' cs) => if g = g' ∧ xs.length = n ∧ off + n ≤ cs.length then some (.lit undef, H.set id (.own g (cs.take off ++ xs ++ cs.drop (off + n)))) else none
      | _ => none
    | _, _ => none
  | .mks true sz xs => match cellsOfSl H sz (.vs sz (xs.map e)) with
    | some cs => if elemsLen sz (xs.map e) then some (.ms sz H.length 0 0 xs.length, H ++ [.own 0 cs]) else none
    | none => none
  | .mksl sz by_ zero l c => match e l, e c with
    | .lit (.int .i64 ln), .lit (.int .i64 cp) => if 0 ≤ ln ∧ ln ≤ cp ∧ cp ≤ 9223372036854775807 ∧ by_ * cp ≤ 281474976710656 ∧ zero.length = sz then
        some (.ms sz H.length 0 0 ln.toNat, H ++ [.own 0 (List.flatten (List.replicate ln.toNat (zero.map .lit)))]) else none
    | _, _ => none
  | .app sz by_ s x => match cellsOfSl H sz (e x), lenOfSl (e x) with
    | some xs, some n => (match e s with
      | .ms sz' id g off len => match H[id]? with
        | some (.own g' cs) => if sz = sz' ∧ g = g' ∧ off + len * sz ≤ cs.length ∧ (len + n) * by_ ≤ 140737488355328 then
            some (.ms sz id (g + 1) 0 (len + n), H.set id (.own (g + 1) ((cs.drop off).take (len * sz) ++ xs))) else none
        | _ => none
      | .es => if n * by_ ≤ 140737488355328 then some (.ms sz H.length 0 0 n, H ++ [.own 0 xs]) else none
      | .lit (.slice none 0 0) => if n * by_ ≤ 140737488355328 then some (.ms sz H.length 0 0 n, H ++ [.own 0 xs]) else none
      | _ => none)
    | _, _ => none
  | .cpy sz d s => match cellsOfSl H sz (e s), lenOfSl (e s), e d with
    | some xs, some n, .ms sz' id g off len => match H[id]? with
      | some (.own g' cs) => if sz = sz' ∧ g = g' ∧ off + len * sz ≤ cs.length then
          some (.lit (.int .i64 ((min n len : Nat) : Int)), H.set id (.own g (cs.take off ++ xs.take (min n len * sz) ++ cs.drop (off + min n len * sz)))) else none
      | _ => none
    | _, _, _ => none
  | _ => none
end Go.Sas
