/- An abstract interpreter of the translated code: whole numbers, bools, strings, slices that nobody writes as plain lists; what a call writes lies in a small heap of its own, or in the frame. Definitions alone. -/
import Derived.Orders
import Derived.Tactics
import Derived.Laws.Sem
set_option maxHeartbeats 400000
set_option linter.unusedVariables false
set_option linter.unusedSimpArgs false
set_option linter.unusedSectionVars false
namespace Go.Proofs.YtdnhhdplcminlaaGreatDoor.AI

/-- A whole number that is not known: how it was made. -/
inductive Tm where
  | lit (n : Int)
  | var (i : Nat)
  | add (k : IntKind) (a b : Tm)
  | sub (k : IntKind) (a b : Tm)
  | mul (k : IntKind) (a b : Tm)
  | quo (k : IntKind) (a b : Tm)
  | rem (a b : Tm)
  | neg (k : IntKind) (a : Tm)
  | conv (k : IntKind) (a : Tm)
  deriving Inhabited, DecidableEq

/-- What the unknown numbers are. -/
class Nu where
  nu : Nat → Int

def Tm.val [Nu] : Tm → Int
  | .lit n => n
  | .var i => Nu.nu i
  | .add k a b => k.wrap (a.val + b.val)
  | .sub k a b => k.wrap (a.val - b.val)
  | .mul k a b => k.wrap (a.val * b.val)
  | .quo k a b => k.wrap (a.val.tdiv b.val)
  | .rem a b => a.val.tmod b.val
  | .neg k a => k.wrap (0 - a.val)
  | .conv k a => k.wrap a.val

/-- How two numbers compare. -/
def cmpI (op : BinOp) (a b : Int) : Option Bool :=
  match op with
  | .eql => some (a == b)
  | .neq => some (a != b)
  | .lss => some (a < b)
  | .leq => some (a ≤ b)
  | .gtr => some (a > b)
  | .geq => some (a ≥ b)
  | _ => none

/-- What is known of a value. -/
inductive AV where
  | sym (k : IntKind) (t : Tm)
  | undef
  | skip
  | bool (b : Bool)
  | int (k : IntKind) (n : Int)
  | str (s : List UInt8)
  | nilp
  | ptr (id off : Nat)
  | ip (cs : List AV) (off : Nat)
  | nilsl
  | se
  | sl (full : Bool) (n : Nat) (cs : List AV)
  | tk (id n : Nat) (cs : List AV)
  | ms (id off n c : Nat)
  | nilmap
  | mapv (id : Nat)
  | nilfn
  | fn (f : Fn) (caps : List AV)
  | nilif
  | agg (cs : List AV)
  | tup (vs : List AV)
  | box (cs : List AV)
  | bp (t off : Nat)
  | it (id : Nat)
  deriving Inhabited

/-- What is known of an object that the call itself has made. -/
inductive AObj where
  | arr (cs : List AV)
  | tok (e : TypeId) (n c : Nat)
  | map (es : List (AV × AV))
  | sit (s : List UInt8) (pos : Nat)
  deriving Inhabited

abbrev Heap := List (Option AObj)
abbrev Env := Nat → AV

structure St where
  env : Env
  heap : Heap

def Env.empty : Env := fun _ => .undef
def Env.upd (e : Env) (t : Nat) (v : AV) : Env := fun u => if u = t then v else e u
def Env.put (e : Env) (d : Option Nat) (v : AV) : Env := match d with | some t => e.upd t v | none => e

/-- No pointer into this frame. -/
def plain : AV → Bool
  | .box _ | .bp _ _ => false
  | _ => true
/-- A value that can be stored. -/
def solid : AV → Bool
  | .box _ | .bp _ _ | .undef | .skip | .tup _ => false
  | _ => true

def ofVal1 : Value → AV
  | .bool b => .bool b
  | .int k n => .int k n
  | .string s => .str s.data.toList
  | .pointer none => .nilp
  | .slice none 0 0 => .nilsl
  | .map none => .nilmap
  | .nilFunc => .nilfn
  | .nilIface => .nilif
  | _ => .undef
def ofVal : Value → AV
  | .agg cs => if cs.toList.all (·.oneCell') then .agg (cs.toList.map ofVal1) else .undef
  | v => ofVal1 v

structure Cfg where
  /-- what package-level variables hold -/
  glob : Nat → Option (List AV)
  /-- temporaries that live on behind a region -/
  keep : FuncId → List Nat
  /-- temporaries that live on at the head of a loop (named by the first region in its body) -/
  head : FuncId → Nat → List Nat
  /-- variables that lie in the heap -/
  esc : FuncId → Nat → Bool
  /-- functions that are called with plain data alone -/
  pure : FuncId → Bool
  /-- functions that are told by a Lean function -/
  prim : FuncId → Option (List AV → Option AV)
  /-- functions that are told which slices are nil -/
  nk : FuncId → Bool
  /-- functions that tell which slices are nil -/
  nr : FuncId → Bool
  /-- functions over the heap that are told by a Lean function -/
  hprim : FuncId → Option (List AV → Heap → Option (AV × Heap))
  /-- functions whose appends make rows that are written -/
  rows : FuncId → Bool
  /-- functions that may be entered -/
  good : FuncId → Bool
  /-- variables that lie in the frame -/
  boxes : FuncId → Nat → Bool
  /-- package-level variables that hold some whole number -/
  ints : Nat → Bool
  /-- what is known of the unknown numbers -/
  ora : BinOp → Tm → Tm → Option Bool

section
variable (P : Program) (G : Cfg)

def szOf (t : TypeId) : Option Nat := (P.info? t).map (·.size)
def isAggT (t : TypeId) : Bool := match P.underlying t with | some (.struct _) | some (.array _ _) => true | _ => false
def zeroOf (t : TypeId) : Option AV := ((P.info? t).bind (·.zero)).map ofVal
def cellsOf : AV → List AV
  | .agg cs => cs
  | v => [v]
/-- A nil slice in a variable is a row of its own with nothing in it yet. -/
def denil : AV → AV
  | .nilsl => .tk 0 0 []
  | v => v

def evalO (e : Env) : Operand → AV
  | .tmp t => match e t with | .box _ => .bp t 0 | v => v
  | .const v => ofVal v
  | .global g => match G.glob g with | some cs => .ip cs 0 | none => .undef
  | .func f => .fn (.func f) []

def seg (cs : List AV) (off n : Nat) : Option (List AV) := if off + n ≤ cs.length then some ((cs.drop off).take n) else none
def splice (cs : List AV) (off : Nat) (vs : List AV) : Option (List AV) := if off + vs.length ≤ cs.length then some (cs.take off ++ vs ++ cs.drop (off + vs.length)) else none

def readP (e : Env) (h : Heap) (p : AV) (n : Nat) : Option (List AV) :=
  match p with
  | .bp t off => match e t with | .box cs => seg cs off n | _ => none
  | .ptr id off => match h[id]? with | some (some (.arr cs)) => seg cs off n | _ => none
  | .ip cs off => seg cs off n
  | _ => none

def loadV (t : TypeId) (cs : List AV) : Option AV :=
  match P.underlying t with
  | none => none
  | some _ => if isAggT P t then some (.agg cs) else match cs with | [v] => some v | _ => none

def addOff (p : AV) (k : Nat) : Option AV :=
  match p with
  | .bp t off => some (.bp t (off + k))
  | .ptr id off => some (.ptr id (off + k))
  | .ip cs off => some (.ip cs (off + k))
  | _ => none

def fieldPtr (s : TypeId) (p : AV) (f : Nat) : Option AV :=
  match P.underlying s with
  | some (.struct fs) => match fs[f]? with
    | some fd => match szOf P fd.type with
      | some 0 => none
      | some _ => addOff p fd.offset
      | none => none
    | none => none
  | _ => none

def indexPtr (t : TypeId) (x i : AV) : Option AV :=
  match i with
  | .int _ i => match P.underlying t with
    | some (.slice elem) => match szOf P elem with
      | some sz => match x with
        | .sl _ n cs => if 0 ≤ i ∧ i < n then some (.ip cs (i.toNat * sz)) else none
        | .tk _ n cs => if 0 ≤ i ∧ i < n then some (.ip cs (i.toNat * sz)) else none
        | .ms id off n c => if 0 ≤ i ∧ i < n ∧ 0 < c then some (.ptr id (off + i.toNat * sz)) else none
        | _ => none
      | none => none
    | some (.array len elem) => match szOf P elem with
      | some sz => if 0 ≤ i ∧ i < len then addOff x (i.toNat * sz) else none
      | none => none
    | _ => none
  | _ => none

def partV (t : TypeId) (cs : List AV) (off : Nat) : Option AV :=
  match szOf P t, P.underlying t with
  | some sz, some _ => if isAggT P t then some (.agg ((cs.drop off).take sz)) else cs[off]?
  | _, _ => none

def indexVal (t : TypeId) (x i : AV) : Option AV :=
  match i with
  | .int _ i => match P.underlying t, x with
    | some .string, .str s => if 0 ≤ i then (s[i.toNat]?).map fun b => .int .u8 b.toNat else none
    | some (.array len elem), .agg cs => match szOf P elem with
      | some sz => if 0 ≤ i ∧ i < len then partV P elem cs (i.toNat * sz) else none
      | none => none
    | _, _ => none
  | _ => none

def bytesLt : List UInt8 → List UInt8 → Bool := Op.bytesLess

def symBin (op : BinOp) (k : IntKind) (a : Tm) (k' : IntKind) (b : Tm) : Option AV :=
  if k ≠ k' then none else match op with
  | .add => some (.sym k (.add k a b))
  | .sub => some (.sym k (.sub k a b))
  | .mul => some (.sym k (.mul k a b))
  | .quo => if G.ora .eql b (.lit 0) = some false then some (.sym k (.quo k a b)) else none
  | .rem => if G.ora .eql b (.lit 0) = some false then some (.sym k (.rem a b)) else none
  | .eql => (G.ora .eql a b).map .bool
  | .neq => (G.ora .neq a b).map .bool
  | .lss => (G.ora .lss a b).map .bool
  | .leq => (G.ora .leq a b).map .bool
  | .gtr => (G.ora .gtr a b).map .bool
  | .geq => (G.ora .geq a b).map .bool
  | _ => none

def aBin (op : BinOp) (t : TypeId) (x y : AV) : Option AV :=
  match x, y with
  | .int k a, .int k' b => match op with
    | .shl => if b < 0 then none else some (.int k (k.wrap (a * 2 ^ (min b.toNat k.bits))))
    | .shr => if b < 0 then none else some (.int k (a.fdiv (2 ^ (min b.toNat k.bits))))
    | _ => if k ≠ k' then none else match op with
      | .add => some (.int k (k.wrap (a + b)))
      | .sub => some (.int k (k.wrap (a - b)))
      | .mul => some (.int k (k.wrap (a * b)))
      | .quo => if b = 0 then none else some (.int k (k.wrap (a.tdiv b)))
      | .rem => if b = 0 then none else some (.int k (a.tmod b))
      | .eql => some (.bool (a == b))
      | .neq => some (.bool (a != b))
      | .lss => some (.bool (a < b))
      | .leq => some (.bool (a ≤ b))
      | .gtr => some (.bool (a > b))
      | .geq => some (.bool (a ≥ b))
      | .and => some (.int k (k.wrap (BitVec.ofInt k.bits a &&& BitVec.ofInt k.bits b).toNat))
      | .or => some (.int k (k.wrap (BitVec.ofInt k.bits a ||| BitVec.ofInt k.bits b).toNat))
      | .xor => some (.int k (k.wrap (BitVec.ofInt k.bits a ^^^ BitVec.ofInt k.bits b).toNat))
      | _ => none
  | .str a, .str b => match op with
    | .add => if a.length + b.length ≤ 4611686018427387904 then some (.str (a ++ b)) else none
    | .eql => some (.bool (a == b))
    | .neq => some (.bool !(a == b))
    | .lss => some (.bool (bytesLt a b))
    | .leq => some (.bool (bytesLt a b || a == b))
    | .gtr => some (.bool !(bytesLt a b || a == b))
    | .geq => some (.bool !(bytesLt a b))
    | _ => none
  | .bool a, .bool b => match P.underlying t, op with
    | some .bool, .eql => some (.bool (a == b))
    | some .bool, .neq => some (.bool !(a == b))
    | _, _ => none
  | .sym k a, .int k' b => symBin G op k a k' (.lit b)
  | .int k a, .sym k' b => symBin G op k (.lit a) k' b
  | .sym k a, .sym k' b => symBin G op k a k' b
  | x, .nilsl => match P.underlying t with
    | some (.slice _) => match x with
      | .nilsl => (match op with | .eql => some (.bool true) | .neq => some (.bool false) | _ => none)
      | .sl _ n _ => if n = 0 then none else (match op with | .eql => some (.bool false) | .neq => some (.bool true) | _ => none)
      | .tk _ n _ => if n = 0 then (match op with | .eql => some (.bool true) | .neq => some (.bool false) | _ => none) else (match op with | .eql => some (.bool false) | .neq => some (.bool true) | _ => none)
      | .ms _ _ n _ => if n = 0 then none else (match op with | .eql => some (.bool false) | .neq => some (.bool true) | _ => none)
      | .se => (match op with | .eql => some (.bool false) | .neq => some (.bool true) | _ => none)
      | _ => none
    | _ => none
  | x, .nilp => match P.underlying t with
    | some (.pointer _) => match x with
      | .nilp => (match op with | .eql => some (.bool true) | .neq => some (.bool false) | _ => none)
      | .ptr _ _ => (match op with | .eql => some (.bool false) | .neq => some (.bool true) | _ => none)
      | _ => none
    | _ => none
  | _, _ => none

def aUn (op : UnOp) (x : AV) : Option AV :=
  match op, x with
  | .neg, .int k n => some (.int k (k.wrap (0 - n)))
  | .not, .bool b => some (.bool !b)
  | .neg, .sym k a => some (.sym k (.neg k a))
  | _, _ => none

def aConv (src dst : TypeId) (x : AV) : Option AV :=
  match P.underlying src, P.underlying dst, x with
  | some _, some (.int k), .int _ n => some (.int k (k.wrap n))
  | some _, some (.int k), .sym _ a => some (.sym k (.conv k a))
  | some _, some .string, .str s => some (.str s)
  | _, _, _ => none

def fillA (place : Nat → Option (Nat × Nat)) (cells : List AV) : List (Nat × AV) → Option (List AV)
  | [] => some cells
  | (i, v) :: rest => match place i with
    | none => none
    | some (off, size) => if (cellsOf v).length ≠ size then none else match splice cells off (cellsOf v) with
      | some cs => fillA place cs rest
      | none => none

def aBuild (t : TypeId) (parts : List (Nat × AV)) : Option AV :=
  match zeroOf P t, P.underlying t with
  | some z, some (.struct fs) => if !fs.toList.all (fun f => (szOf P f.type).isSome) || !solid z then none else
    (fillA (fun i => match fs[i]? with | some f => (szOf P f.type).map fun s => (f.offset, s) | none => none) (cellsOf z) parts).map .agg
  | some z, some (.array _ elem) =>
    match szOf P elem with
    | some sz => if !solid z then none else (fillA (fun i => some (i * sz, sz)) (cellsOf z) parts).map .agg
    | none => none
  | _, _ => none

def aBuildSlice (t : TypeId) (len : Nat) (parts : List (Nat × AV)) : Option AV :=
  match P.underlying t with
  | some (.slice elem) => match szOf P elem, zeroOf P elem with
    | some sz, some z =>
      if len * sz ≤ 16777216 ∧ 0 < sz ∧ (cellsOf z).length = sz ∧ solid z = true then
        (fillA (fun i => some (i * sz, sz)) ((List.replicate len (cellsOf z)).flatten) parts).map fun cs => .sl true len cs
      else none
    | _, _ => none
  | _ => none

def lenV (x : AV) : Option Int :=
  match x with
  | .nilsl => some 0
  | .se => some 0
  | .sl _ n _ => some n
  | .tk _ n _ => some n
  | .ms _ _ n _ => some n
  | .str s => some s.length
  | _ => none

def boundV (v : Option AV) (d y : Nat) : Option Nat :=
  match v with
  | none => some d
  | some (.int _ i) => if 0 ≤ i ∧ i ≤ y then some i.toNat else none
  | some _ => none

/-- x[lo:hi:mx]; no bound behind the length. -/
def aSlice (t : TypeId) (x : AV) (lo hi mx : Option AV) : Option AV :=
  match P.underlying t, x with
  | some .string, .str s => match mx with
    | none => match boundV hi s.length s.length with
      | some h => match boundV lo 0 h with
        | some l => some (.str ((s.drop l).take (h - l)))
        | none => none
      | none => none
    | some _ => none
  | some (.slice elem), x => match szOf P elem with
    | some sz =>
      let go (n : Nat) (full : Bool) (mk : Bool → Nat → Nat → AV) : Option AV :=
        match boundV mx n n with
        | some m => match boundV hi n m with
          | some h => if mx.isSome && hi.isNone then none else match boundV lo 0 h with
            | some l => some (mk ((mx.isSome || full) && h == m) l (h - l))
            | none => none
          | none => none
        | none => none
      match x with
      | .nilsl => go 0 true fun _ _ _ => .nilsl
      | .sl full n cs => go n full fun fl l k => .sl fl k ((cs.drop (l * sz)).take (k * sz))
      | .tk _ n cs => go n false fun fl l k => .sl fl k ((cs.drop (l * sz)).take (k * sz))
      | .ms id off n c => if mx.isSome || c ≠ n * sz then none else go n false fun _ l k => .ms id (off + l * sz) k (k * sz)
      | _ => none
    | none => none
  | _, _ => none

def pickV (c : Bool) (a b : AV) : AV :=
  match a, b with
  | .bool x, .bool y => .bool (bif c then x else y)
  | a, b => bif c then a else b

def keyEq : AV → AV → Option Bool
  | .str a, .str b => some (a == b)
  | .int k a, .int k' b => if k = k' then some (a == b) else none
  | .bool a, .bool b => some (a == b)
  | _, _ => none

def findE (key : AV) : List (AV × AV) → Nat → Option (Option (Nat × AV))
  | [], _ => some none
  | (k, v) :: es, i => match keyEq key k with
    | some true => some (some (i, v))
    | some false => findE key es (i + 1)
    | none => none

def keyFits (t : TypeId) (k : AV) : Bool :=
  match P.underlying t, k with
  | some .string, .str _ => true
  | some (.int k), .int k' _ => k == k'
  | some .bool, .bool _ => true
  | _, _ => false

/-- The entries of a map. -/
def mapE (h : Heap) (m : AV) : Option (List (AV × AV)) :=
  match m with
  | .nilmap => some []
  | .mapv id => (match h[id]? with | some (some (.map es)) => some es | _ => none)
  | _ => none

def aLookup (t : TypeId) (h : Heap) (m k : AV) (commaOk : Bool) : Option AV :=
  match P.underlying t with
  | some (.map kt et) =>
    if !keyFits P kt k then none else
    match mapE h m with
    | none => none
    | some es => match findE k es 0, zeroOf P et with
      | some r, some z =>
        let v := match r with | some (_, v) => v | none => z
        some (if commaOk then .tup [v, .bool r.isSome] else v)
      | _, _ => none
  | _ => none

/-- What an operation does. -/
inductive Eff where
  | val (v : AV)
  | wbox (t : Nat) (cs : List AV)
  | heap (h : Heap) (v : AV)

def aStore (e : Env) (h : Heap) (t : TypeId) (p v : AV) : Option Eff :=
  match szOf P t with
  | some sz => if (cellsOf v).length ≠ sz || !solid v then none else match p with
    | .bp b off => match e b with
      | .box cs => (splice cs off ((cellsOf v).map denil)).map fun cs' => .wbox b cs'
      | _ => none
    | .ptr id off => match h[id]? with
      | some (some (.arr cs)) => (splice cs off ((cellsOf v).map denil)).map fun cs' => .heap (h.set id (some (.arr cs'))) .undef
      | _ => none
    | _ => none
  | none => none

def maxN : Nat := 1073741824

/-- The cells of what is appended, and how many elements they are. -/
def srcCells (h : Heap) (x : AV) : Option (Nat × List AV) :=
  match x with
  | .nilsl => some (0, [])
  | .se => some (0, [])
  | .sl _ n cs => some (n, cs)
  | .tk _ n cs => some (n, cs)
  | .ms id off n c => if c = 0 then some (n, []) else match h[id]? with
    | some (some (.arr cs)) => (seg cs off c).map fun c => (n, c)
    | _ => none
  | _ => none

def grown (rows : Bool) (h : Heap) (el : TypeId) (n : Nat) (cs : List AV) : Eff :=
  if rows then .heap (h ++ [some (.arr cs)]) (.ms h.length 0 n cs.length) else .heap (h ++ [some (.tok el n cs.length)]) (.tk h.length n cs)

def aAppend (rows : Bool) (ts : Array TypeId) (h : Heap) (s x : AV) : Option Eff :=
  match ts.toList with
  | [t, u] => if t ≠ u then none else match P.underlying t with
    | some (.slice elem) => match P.info? elem, zeroOf P elem with
      | some info, some z => match srcCells h x with
        | some (m, ys) =>
          if info.size = 0 || info.bytes = 0 || 65536 < info.bytes || ys.length ≠ m * info.size || !solid z || (cellsOf z).length ≠ info.size then none else
          match s with
          | .nilsl => if m = 0 then some (.val .nilsl) else if maxN < m then none else some (grown rows h elem m ys)
          | .sl full n cs => if m = 0 then some (.val (.sl full n cs)) else if !full || maxN < n + m || cs.length ≠ n * info.size then none else
            some (grown rows h elem (n + m) (cs ++ ys))
          | .tk id n cs => if m = 0 then some (.val (.tk id n cs)) else if n = 0 then (if maxN < m then none else some (grown rows h elem m ys)) else if maxN < n + m || cs.length ≠ n * info.size then none else match h[id]? with
            | some (some (.tok el k _)) => if k = n ∧ el = elem then some (.heap (h.set id (some (.tok elem (n + m) (cs.length + ys.length)))) (.tk id (n + m) (cs ++ ys))) else none
            | _ => none
          | _ => none
        | none => none
      | _, _ => none
    | _ => none
  | _ => none

def aMakeSlice (t : TypeId) (h : Heap) (l c : AV) : Option Eff :=
  match l, c, P.underlying t with
  | .int .i64 l, .int .i64 c, some (.slice elem) => match P.info? elem, zeroOf P elem with
    | some info, some z =>
      if l = c ∧ 0 ≤ l ∧ l ≤ maxN ∧ 0 < info.size ∧ info.bytes ≤ 65536 ∧ (cellsOf z).length = info.size ∧ solid z = true then
        some (.heap (h ++ [some (.arr ((List.replicate l.toNat (cellsOf z)).flatten))]) (.ms h.length 0 l.toNat (l.toNat * info.size)))
      else none
    | _, _ => none
  | _, _, _ => none

def aMapUpdate (t : TypeId) (h : Heap) (m k v : AV) : Option Eff :=
  match P.underlying t, m with
  | some (.map kt _), .mapv id => if !keyFits P kt k || !solid v then none else match h[id]? with
    | some (some (.map es)) => match findE k es 0 with
      | some (some (i, _)) => some (.heap (h.set id (some (.map (es.set i (k, v))))) .undef)
      | some none => some (.heap (h.set id (some (.map (es ++ [(k, v)])))) .undef)
      | none => none
    | _ => none
  | _, _ => none

def aNext (h : Heap) (x : AV) : Option Eff :=
  match x with
  | .it id => match h[id]? with
    | some (some (.sit s pos)) =>
      if pos < s.length then
        let (c, width) := Utf8.decode ⟨s.toArray⟩ pos
        some (.heap (h.set id (some (.sit s (pos + width)))) (.tup [.bool true, .int .i64 pos, .int .i32 c]))
      else some (.heap h (.tup [.bool false]))
    | _ => none
  | _ => none

def allPlain (vs : List AV) : Bool := vs.all plain
def optPlain : Option AV → Bool
  | none => true
  | some v => plain v
def allSolid (vs : List AV) : Bool := vs.all solid

/-- Every operation but a call of a function. -/
def aop (f : FuncId) (e : Env) (h : Heap) (o : Oper) : Option Eff :=
  let ev := evalO G e
  match o.op with
  | .move x => some (.val (denil (ev x)))
  | .assign x => some (.val (denil (ev x)))
  | .pick c a b => match ev c with | .bool c => some (.val (pickV c (ev a) (ev b))) | _ => none
  | .alloc elem => match zeroOf P elem, szOf P elem, o.dst with
    | some z, some sz, some d => if (cellsOf z).length ≠ sz || !solid z then none else
      if G.esc f d then some (.heap (h ++ [some (.arr ((cellsOf z).map denil))]) (.ptr h.length 0))
      else match e d with | .undef => some (.val (.box ((cellsOf z).map denil))) | _ => none
    | _, _, _ => none
  | .box elem x => match szOf P elem, o.dst with
    | some sz, some d => let v := ev x; if (cellsOf v).length ≠ sz || !solid v then none else
      if G.esc f d then some (.heap (h ++ [some (.arr ((cellsOf v).map denil))]) (.ptr h.length 0))
      else match e d with | .undef => some (.val (.box ((cellsOf v).map denil))) | _ => none
    | _, _ => none
  | .build t parts => let ps := parts.toList.map fun q => (q.1, ev q.2); if ps.all (fun q => solid q.2) then (aBuild P t ps).map .val else none
  | .buildSlice t len parts => let ps := parts.toList.map fun q => (q.1, ev q.2); if ps.all (fun q => solid q.2) then (aBuildSlice P t len ps).map .val else none
  | .load t a => match szOf P t with
    | some sz => match readP e h (ev a) sz with
      | some cs => (loadV P t cs).bind fun v => if plain v then some (.val v) else none
      | none => none
    | none => none
  | .store t a x => aStore P e h t (ev a) (ev x)
  | .nilCheck x => match ev x with
    | .ptr id off => some (.val (.ptr id off))
    | .bp t off => some (.val (.bp t off))
    | .ip cs off => some (.val (.ip cs off))
    | _ => none
  | .binOp op t x y _ => (aBin P G op t (ev x) (ev y)).map .val
  | .unOp op _ x => (aUn op (ev x)).map .val
  | .convert s d x => (aConv P s d (ev x)).map .val
  | .makeFunc fn first caps => if first.size = 0 && allPlain (caps.toList.map ev) then some (.val (.fn fn (caps.toList.map ev))) else none
  | .makeMap _ none => some (.heap (h ++ [some (.map [])]) (.mapv h.length))
  | .makeSlice t l c => aMakeSlice P t h (ev l) (ev c)
  | .slice t x lo hi mx => if optPlain (lo.map ev) && optPlain (hi.map ev) && optPlain (mx.map ev) then (aSlice P t (ev x) (lo.map ev) (hi.map ev) (mx.map ev)).map .val else none
  | .fieldAddr s x i => (fieldPtr P s (ev x) i).map .val
  | .indexAddr t x i => (indexPtr P t (ev x) (ev i)).map .val
  | .index t x i => (indexVal P t (ev x) (ev i)).map .val
  | .field t x i => match P.underlying t, ev x with
    | some (.struct fs), .agg cs => match fs[i]? with | some fd => (partV P fd.type cs fd.offset).map .val | none => none
    | _, _ => none
  | .lookup t m k ok => (aLookup P t h (ev m) (ev k) ok).map .val
  | .mapUpdate t m k v => aMapUpdate P t h (ev m) (ev k) (ev v)
  | .range t x => match P.underlying t, ev x with
    | some .string, .str s => some (.heap (h ++ [some (.sit s 0)]) (.it h.length))
    | _, _ => none
  | .next x true => aNext h (ev x)
  | .extract x i => match ev x with | .tup vs => (vs[i]?).map .val | _ => none
  | .call { callee := .builtin b, args, argTypes } => match b, args.toList.map ev with
    | .len, [x] => match argTypes[0]?.bind (P.underlying ·) , lenV x with
      | some .string, some n => (match x with | .str _ => some (.val (.int .i64 n)) | _ => none)
      | some (.slice _), some n => (match x with | .str _ => none | _ => some (.val (.int .i64 n)))
      | _, _ => none
    | .append, [s, x] => aAppend P (G.rows f) argTypes h s x
    | .min, [.int k a, .int _ b] => some (.val (.int k (if b < a then b else a)))
    | .max, [.int k a, .int _ b] => some (.val (.int k (if b > a then b else a)))
    | _, _ => none
  | _ => none

def Eff.apply (o : Oper) (s : St) : Eff → St
  | .val v => ⟨s.env.put o.dst v, s.heap⟩
  | .wbox t cs => ⟨(s.env.upd t (.box cs)).put o.dst .undef, s.heap⟩
  | .heap h v => ⟨s.env.put o.dst v, h⟩

/-- Is the operation carried out? -/
def guardOf (ops : Array Oper) (e : Env) (o : Oper) : Option Bool :=
  match o.guard with
  | none => some true
  | some (j, w) => match (ops[j]?).bind (·.dst) with
    | some t => match e t with | .bool b => some (b == w) | .skip => some false | _ => none
    | none => none

/-- A call of a function: which one, and the arguments. -/
def callOf (e : Env) (o : Oper) : Option (FuncId × List AV) :=
  match o.op with
  | .call { callee := .value x, args, .. } =>
    let vs := args.toList.map (evalO G e)
    match evalO G e x with
    | .fn (.func g) caps => if allPlain vs then some (g, vs ++ caps) else none
    | _ => none
  | _ => none

def isCall (o : Oper) : Bool := match o.op with | .call { callee := .value _, .. } => true | _ => false

abbrev Caller := FuncId → List AV → Heap → Option (AV × Heap)

/-- A variable of its own. -/
def isVar (o : Oper) : Bool := match o.op with | .alloc _ | .box _ _ => true | _ => false
def nobox : AV → Bool
  | .box _ => false
  | _ => true
def effPlain (o : Oper) : Eff → Bool
  | .val v => isVar o || nobox v
  | .wbox _ _ => true
  | .heap _ v => nobox v

/-- A function that sees plain data alone. -/
def apartF (g : FuncId) : Bool := G.pure g || (G.prim g).isSome

/-- What an operation does, a call too. -/
def effO (K : Caller) (f : FuncId) (ops : Array Oper) (o : Oper) (s : St) : Option Eff :=
  match guardOf ops s.env o with
  | none => none
  | some false => if isVar o then none else some (.val .skip)
  | some true =>
    if isCall o then match callOf G s.env o with
      | some (g, args) => if apartF G g then (K g args []).map fun r => .val r.1 else (K g args s.heap).map fun r => .heap r.2 r.1
      | none => none
    else aop P G f s.env s.heap o

def stepO (K : Caller) (f : FuncId) (ops : Array Oper) (o : Oper) (s : St) : Option St :=
  match effO P G K f ops o s with
  | some x => if effPlain o x then some (x.apply o s) else none
  | none => none

def runL (K : Caller) (f : FuncId) (ops : Array Oper) : List Oper → St → Option St
  | [], s => some s
  | o :: r, s => match stepO P G K f ops o s with
    | some s' => runL K f ops r s'
    | none => none

/-- The frame behind a region, or at a loop's head: these temporaries alone. -/
def keepOnly (e0 e : Env) : List Nat → Option Env
  | [] => some e0
  | t :: r => match e t with
    | .bp _ _ => none
    | v => keepOnly (e0.upd t v) e r

inductive AExit where
  | normal | exit (id : Nat) | ret
  deriving DecidableEq

def firstRegion : Code → Nat
  | .region id _ _ => id
  | .seq a _ => firstRegion a
  | .block _ b => firstRegion b
  | .loop b => firstRegion b
  | .cond _ a _ => firstRegion a
  | _ => 0

/-- One level of the interpreter. -/
def level (K : Caller) (X : FuncId → Code → St → Option (AExit × St)) (f : FuncId) (c : Code) (s : St) : Option (AExit × St) :=
  match c with
  | .skip => some (.normal, s)
  | .region _ ops _ => match runL P G K f ops ops.toList s with
    | some s' => (keepOnly Env.empty s'.env (G.keep f)).map fun e => (.normal, ⟨e, s'.heap⟩)
    | none => none
  | .seq a b => match X f a s with
    | some (.normal, s') => X f b s'
    | r => r
  | .cond x a b => match evalO G s.env x with
    | .bool t => bif t then X f a s else X f b s
    | _ => none
  | .block id b => match X f b s with
    | some (.exit id', s') => if id' = id then some (.normal, s') else some (.exit id', s')
    | r => r
  | .loop b => match keepOnly Env.empty s.env (G.head f (firstRegion b)) with
    | some e => match X f b ⟨e, s.heap⟩ with
      | some (.normal, s') => X f (.loop b) s'
      | r => r
    | none => none
  | .exit id => some (.exit id, s)
  | .ret => some (.ret, s)
  | _ => none

def envOf : List AV → Nat → Env
  | [], _ => Env.empty
  | v :: r, i => (envOf r (i + 1)).upd i v

/-- What a function hands back. -/
def resultOf (s : St) : ResultVar → Option AV
  | .tmp t => match s.env t with | .box _ => none | .bp _ _ => none | v => some v
  | .cell a t => match szOf P t with
    | some sz => match readP s.env s.heap (evalO G s.env (.tmp a)) sz with
      | some cs => (loadV P t cs).bind fun v => if plain v then some v else none
      | none => none
    | none => none

def resultsOf (s : St) : List ResultVar → Option (List AV)
  | [] => some []
  | r :: rs => match resultOf P G s r, resultsOf s rs with | some v, some vs => some (v :: vs) | _, _ => none

def packR : List AV → AV
  | [v] => v
  | vs => .tup vs

/-- A function's body, over the caller's heap. -/
def bodyOf (X : FuncId → Code → St → Option (AExit × St)) (f : FuncId) (args : List AV) (h : Heap) : Option (AV × Heap) :=
  match P.funcs[f]? with
  | some fn => match fn.body with
    | some c => if args.length ≠ fn.params.size + fn.nfree || !G.good f then none else
      match X f c ⟨envOf args 0, h⟩ with
      | some (.normal, s) => (resultsOf P G s fn.results.toList).map fun vs => (packR vs, s.heap)
      | some (.ret, s) => (resultsOf P G s fn.results.toList).map fun vs => (packR vs, s.heap)
      | _ => none
    | none => none
  | none => none

mutual
/-- A value without a mark of the heap; what lies in the heap is taken in by R; nk: what is known to be nil stays so. -/
def eraseW (nk : Bool) (R : Nat → Nat → Nat → Option (List AV)) : AV → Option AV
  | .undef => some .undef
  | .bool b => some (.bool b)
  | .int k n => some (.int k n)
  | .sym k t => some (.sym k t)
  | .str s => some (.str s)
  | .nilp => some .nilp
  | .nilsl => some (bif nk then .nilsl else .sl false 0 [])
  | .se => some (bif nk then .se else .sl false 0 [])
  | .sl fl n cs => (eraseL nk R cs).map fun c => .sl (nk && fl) n c
  | .tk _ n cs => bif nk && Nat.beq n 0 then some .nilsl else (eraseL nk R cs).map fun c => .sl false n c
  | .ms id off n c => if c = 0 then some (.sl false n []) else (R id off c).map fun c => .sl false n c
  | .nilmap => some .nilmap
  | .nilfn => some .nilfn
  | .fn f caps => (eraseL nk R caps).map fun c => .fn f c
  | .nilif => some .nilif
  | .agg cs => (eraseL nk R cs).map .agg
  | .tup cs => (eraseL nk R cs).map .tup
  | .ip cs off => (eraseL nk R cs).map fun c => .ip c off
  | _ => none
def eraseL (nk : Bool) (R : Nat → Nat → Nat → Option (List AV)) : List AV → Option (List AV)
  | [] => some []
  | v :: r => match eraseW nk R v with
    | some a => match eraseL nk R r with
      | some b => some (a :: b)
      | none => none
    | none => none
end

def resH (h : Heap) : Nat → Nat → Nat → Nat → Option (List AV)
  | 0 => fun _ _ _ => none
  | k + 1 => fun id off c => match h[id]? with
    | some (some (.arr cs)) => match seg cs off c with
      | some d => eraseL false (resH h k) d
      | none => none
    | _ => none

def noRes : Nat → Nat → Nat → Option (List AV) := fun _ _ _ => none

/-- A call of a function. -/
def callerOf (X : FuncId → Code → St → Option (AExit × St)) : Caller := fun g args h =>
  match G.prim g with
  | some p => match eraseL false noRes args with
    | some av => (p av).map fun v => (v, h)
    | none => none
  | none => if G.pure g then match eraseL (G.nk g) noRes args with
      | some av => match bodyOf P G X g av [] with
        | some (r, h') => (eraseW (G.nr g) (resH h' 8) r).map fun v => (v, h)
        | none => none
      | none => none
    else match G.hprim g with
      | some p => p args h
      | none => bodyOf P G X g args h

def exec : Nat → FuncId → Code → St → Option (AExit × St)
  | 0 => fun _ _ _ => none
  | n + 1 => level P G (callerOf P G (exec n)) (exec n)

end
end Go.Proofs.YtdnhhdplcminlaaGreatDoor.AI
