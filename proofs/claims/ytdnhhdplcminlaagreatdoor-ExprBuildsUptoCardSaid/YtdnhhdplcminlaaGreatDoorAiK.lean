/- What a piece of code comes to, as a proposition that the kernel unfolds: operations under a guard are merged, calls and loops stand as they are. Definitions alone. -/
import Derived.Test.YtdnhhdplcminlaaGreatDoorAiFun
set_option maxHeartbeats 400000
set_option linter.unusedVariables false
set_option linter.unusedSimpArgs false
set_option linter.unusedSectionVars false
namespace Go.Proofs.YtdnhhdplcminlaaGreatDoor.AI

/-- From some level on. -/
def Evt (p : Nat → Prop) : Prop := ∃ n, ∀ m, n ≤ m → p m

/-- Under which guards a temporary was made: its number, what was wanted, what the guard was. -/
abbrev Path := List (Nat × Bool × Bool)
structure GV where
  p : Path
  v : AV
abbrev GE := Nat → GV
def GE.of (e : Env) : GE := fun t => ⟨[], e t⟩
def GE.upd (g : GE) (t : Nat) (x : GV) : GE := fun u => bif Nat.beq u t then x else g u
def GE.put (g : GE) (d : Option Nat) (x : GV) : GE := match d with | some t => g.upd t x | none => g
def GE.env (g : GE) : Env := fun t => (g t).v
def litB : Bool → Bool → Bool
  | true, b => b
  | false, b => !b
def pathB : Path → Bool
  | [] => true
  | (_, w, b) :: r => litB w b && pathB r
def under (p : Path) (q : Prop) : Prop :=
  match p with
  | [] => q
  | x :: r => pathB (x :: r) = true → q
def sameB (a b : Bool) : Bool := bif a then b else !b
def samePath : Path → Path → Bool
  | [], [] => true
  | (t, w, _) :: a, (t', w', _) :: b => Nat.beq t t' && (sameB w w' && samePath a b)
  | _, _ => false
def sufOk (q : Path) : Path → Bool
  | [] => samePath q []
  | x :: r => samePath q (x :: r) || sufOk q r
def inL (t : Nat) : List Nat → Bool
  | [] => false
  | u :: r => Nat.beq t u || inL t r

def pathOf (ops : Array Oper) (g : GE) (keys : List Nat) (o : Oper) : Option (Path × List Nat) :=
  match o.guard with
  | none => some ([], keys)
  | some (j, w) => match (ops[j]?).bind (·.dst) with
    | some t => match (g t).v with
      | .bool b => some ((t, w, b) :: (g t).p, t :: keys)
      | _ => none
    | none => none

/-- What is not told by computing: how a heap is read, in which form slices come back from a call over the heap. -/
structure Mode where
  ptr : Bool
  sl : Nat

def shapeFs (F : TypeId → (List AV → Prop) → Prop) : List TypeId → List AV → (List AV → Prop) → Prop
  | [], acc, k => k acc
  | t :: ts, acc, k => F t fun cs => shapeFs F ts (acc ++ cs) k

section
variable (P : Program) (G : Cfg)

def Call (g : FuncId) (args : List AV) (h : Heap) (v : AV) (h' : Heap) : Prop := Evt fun m => callerOf P G (exec P G m) g args h = some (v, h')
def nkOf (g : FuncId) : Bool := match G.prim g with | some _ => false | none => G.nk g
/-- A call with plain data. -/
def PC (g : FuncId) (args : List AV) (v : AV) : Prop := ∃ a, eraseL (nkOf G g) noRes args = some a ∧ Call P G g a [] v []
def Runs (f : FuncId) (c : Code) (s : St) (ex : AExit) (s' : St) : Prop := Evt fun m => exec P G m f c s = some (ex, s')

/-- Cells of a type, whichever. -/
def shapeC (sl : Nat) : Nat → TypeId → (List AV → Prop) → Prop
  | 0, _, _ => False
  | n + 1, t, k => match P.underlying t with
    | some (.int kd) => ∃ x : Int, k [.int kd x]
    | some .bool => ∃ b : Bool, k [.bool b]
    | some .string => ∃ s : List UInt8, k [.str s]
    | some (.slice _) => match sl with
      | 0 => ∃ (m : Nat) (cs : List AV), k [.sl false m cs]
      | 1 => ∃ (id m : Nat) (cs : List AV), k [.tk id m cs]
      | _ => ∃ (id off m c : Nat), k [.ms id off m c]
    | some (.struct fs) => shapeFs (shapeC sl n) (fs.toList.map (·.type)) [] k
    | some (.array len e) => shapeFs (shapeC sl n) (List.replicate len e) [] k
    | some (.pointer _) => ∃ id off : Nat, k [.ptr id off]
    | some (.map _ _) => ∃ id : Nat, k [.mapv id]
    | _ => ∃ v : AV, k [v]

def shapeV (sl : Nat) (t : TypeId) (k : AV → Prop) : Prop :=
  match P.underlying t with
  | some (.struct _) => shapeC P sl 9 t fun cs => k (.agg cs)
  | some (.array _ _) => shapeC P sl 9 t fun cs => k (.agg cs)
  | _ => shapeC P sl 9 t fun cs => match cs with | [v] => k v | _ => False

def shapeT (sl : Nat) : List TypeId → List AV → (List AV → Prop) → Prop
  | [], acc, k => k acc
  | t :: ts, acc, k => shapeV P sl t fun v => shapeT sl ts (acc ++ [v]) k

def shapeR (sl : Nat) (t : TypeId) (k : AV → Prop) : Prop :=
  match P.underlying t with
  | some (.tuple ts) => shapeT P sl ts.toList [] fun vs => k (.tup vs)
  | _ => shapeV P sl t k

/-- Operations that fail at some numbers: when they go through, and what they hand back. -/
def binC (op : BinOp) (x y : AV) : Option (Prop × AV) :=
  match op, x, y with
  | .quo, .int k a, .int k' b => if k ≠ k' then none else some (b ≠ 0, .int k (k.wrap (a.tdiv b)))
  | .rem, .int k a, .int k' b => if k ≠ k' then none else some (b ≠ 0, .int k (a.tmod b))
  | .shl, .int k a, .int _ b => some (0 ≤ b, .int k (k.wrap (a * 2 ^ (min b.toNat k.bits))))
  | .shr, .int k a, .int _ b => some (0 ≤ b, .int k (a.fdiv (2 ^ (min b.toNat k.bits))))
  | .add, .str a, .str b => some (a.length + b.length ≤ 4611686018427387904, .str (a ++ b))
  | _, _, _ => none

def indexC (t : TypeId) (x i : AV) : Option (Prop × AV) :=
  match i with
  | .int _ i => match P.underlying t with
    | some (.slice elem) => match szOf P elem with
      | some sz => match x with
        | .sl _ n cs => some (0 ≤ i ∧ i < n, .ip cs (i.toNat * sz))
        | .tk _ n cs => some (0 ≤ i ∧ i < n, .ip cs (i.toNat * sz))
        | .ms id off n c => some (0 ≤ i ∧ i < n ∧ 0 < c, .ptr id (off + i.toNat * sz))
        | _ => none
      | none => none
    | some (.array len elem) => match szOf P elem with
      | some sz => match addOff x (i.toNat * sz) with
        | some p => some (0 ≤ i ∧ i < len, p)
        | none => none
      | none => none
    | _ => none
  | _ => none

def indexVC (t : TypeId) (x i : AV) : Option (Prop × AV) :=
  match i with
  | .int _ i => match P.underlying t, x with
    | some .string, .str s => some (0 ≤ i ∧ i < s.length, .int .u8 (s.getD i.toNat 0).toNat)
    | _, _ => none
  | _ => none

def bndC (v : Option AV) (d y : Nat) : Option (Prop × Nat) :=
  match v with
  | none => some (True, d)
  | some (.int _ i) => some (0 ≤ i ∧ i ≤ y, i.toNat)
  | some _ => none

def sliceC (t : TypeId) (x : AV) (lo hi mx : Option AV) : Option (Prop × AV) :=
  match mx with
  | some _ => none
  | none => match P.underlying t, x with
    | some .string, .str s => match bndC hi s.length s.length with
      | some (c1, h) => match bndC lo 0 h with
        | some (c2, l) => some (c1 ∧ c2, .str ((s.drop l).take (h - l)))
        | none => none
      | none => none
    | some (.slice elem), .sl false n cs => match szOf P elem, bndC hi n n with
      | some sz, some (c1, h) => match bndC lo 0 h with
        | some (c2, l) => some (c1 ∧ c2, .sl false (h - l) ((cs.drop (l * sz)).take ((h - l) * sz)))
        | none => none
      | _, _ => none
    | some (.slice elem), .tk _ n cs => match szOf P elem, bndC hi n n with
      | some sz, some (c1, h) => match bndC lo 0 h with
        | some (c2, l) => some (c1 ∧ c2, .sl false (h - l) ((cs.drop (l * sz)).take ((h - l) * sz)))
        | none => none
      | _, _ => none
    | _, _ => none

def condV (e : Env) (o : Oper) : Option (Prop × AV) :=
  match o.op with
  | .binOp op _ x y _ => binC op (evalO G e x) (evalO G e y)
  | .indexAddr t x i => indexC P t (evalO G e x) (evalO G e i)
  | .index t x i => indexVC P t (evalO G e x) (evalO G e i)
  | .slice t x lo hi mx => sliceC P t (evalO G e x) (lo.map (evalO G e)) (hi.map (evalO G e)) (mx.map (evalO G e))
  | _ => none

/-- An append to a row of the call's own. -/
def AppT (ts : Array TypeId) (h : Heap) (id n : Nat) (cs : List AV) (x : AV) (m : Nat) (ys : List AV) (h' : Heap) (id' : Nat) : Prop :=
  aAppend P false ts h (.tk id n cs) x = some (.heap h' (.tk id' (n + m) (cs ++ ys))) ∨ (m = 0 ∧ ys = [] ∧ h' = h ∧ id' = id ∧ aAppend P false ts h (.tk id n cs) x = some (.val (.tk id n cs)))

section
variable (M : Mode) (f : FuncId) (o : Oper) (q : Path) (e : Env) (h : Heap) (k : AV → Prop) (kb : Nat → List AV → Prop) (kh : Heap → AV → Prop)

def genK : Prop :=
  match aop P G f e h o with
  | some (.val v) => bif isVar o || nobox v then k v else False
  | some (.wbox t cs) => kb t cs
  | some (.heap h' v) => bif nobox v then kh h' v else False
  | none => False

def condK : Prop :=
  match condV P G e o with
  | some (c, v) => under q c ∧ bif nobox v then k v else False
  | none => genK P G f o e h k kb kh

def gotK (t : TypeId) (cells : List AV) : Prop :=
  match loadV P t cells with
  | some v => bif plain v && nobox v then k v else False
  | none => False

def loadK (t : TypeId) (a : AV) : Prop :=
  match a with
  | .ip cs off => match szOf P t with
    | some sz => shapeC P 0 9 t fun cells => under q (seg cs off sz = some cells) ∧ gotK P k t cells
    | none => False
  | .ptr id off => bif M.ptr then match szOf P t with
      | some sz => shapeC P (bif Nat.beq M.sl 2 then 0 else M.sl) 9 t fun cells => under q (readP Env.empty h (.ptr id off) sz = some cells) ∧ gotK P k t cells
      | none => False
    else genK P G f o e h k kb kh
  | _ => genK P G f o e h k kb kh

def storeK (t : TypeId) (a x : AV) : Prop :=
  match a with
  | .ptr id off => bif M.ptr then ∃ h', aStore P Env.empty h t (.ptr id off) x = some (.heap h' .undef) ∧ kh h' .undef else genK P G f o e h k kb kh
  | _ => genK P G f o e h k kb kh

def lookupK (t : TypeId) (m key : AV) (ok : Bool) : Prop :=
  match P.underlying t with
  | some (.map _ et) =>
    bif ok then shapeV P 0 et fun v => ∃ b : Bool, under q (aLookup P t h m key true = some (.tup [v, .bool b])) ∧ k (.tup [v, .bool b])
    else shapeV P 0 et fun v => under q (aLookup P t h m key false = some v) ∧ bif nobox v then k v else False
  | _ => False

def callK : Prop :=
  match callOf G e o with
  | some (g, args) => bif apartF G g then shapeR P 0 o.type fun v => under q (PC P G g args v) ∧ bif nobox v then k v else False
      else shapeR P M.sl o.type fun v => ∃ h', Call P G g args h v h' ∧ bif nobox v then kh h' v else False
  | none => False

def appendK (ts : Array TypeId) (s x : AV) : Prop :=
  bif G.rows f then ∃ (h' : Heap) (id off n c : Nat), aAppend P true ts h s x = some (.heap h' (.ms id off n c)) ∧ kh h' (.ms id off n c)
  else match s, srcCells h x with
    | .tk id n cs, some (m, ys) => ∃ (h' : Heap) (id' : Nat), AppT P ts h id n cs x m ys h' id' ∧ kh h' (.tk id' (n + m) (cs ++ ys))
    | .sl full n cs, some (m, ys) => (m = 0 → aAppend P false ts h (.sl full n cs) x = some (.val (.sl full n cs)) ∧ k (.sl full n cs)) ∧
        (m ≠ 0 → ∃ (h' : Heap) (id' : Nat), aAppend P false ts h (.sl full n cs) x = some (.heap h' (.tk id' (n + m) (cs ++ ys))) ∧ kh h' (.tk id' (n + m) (cs ++ ys)))
    | _, _ => False

/-- One operation that is carried out. -/
def opK : Prop :=
  match o.op with
  | .load t a => loadK P G M f o q e h k kb kh t (evalO G e a)
  | .store t a x => storeK P G M f o e h k kb kh t (evalO G e a) (evalO G e x)
  | .lookup t m key ok => lookupK P q h k t (evalO G e m) (evalO G e key) ok
  | .mapUpdate t m key v => ∃ h', aMapUpdate P t h (evalO G e m) (evalO G e key) (evalO G e v) = some (.heap h' .undef) ∧ kh h' .undef
  | .makeSlice t l c => ∃ (h' : Heap) (id off n c' : Nat), aMakeSlice P t h (evalO G e l) (evalO G e c) = some (.heap h' (.ms id off n c')) ∧ kh h' (.ms id off n c')
  | .next x true => (∃ (h' : Heap) (i c : Int), aNext h (evalO G e x) = some (.heap h' (.tup [.bool true, .int .i64 i, .int .i32 c])) ∧ kh h' (.tup [.bool true, .int .i64 i, .int .i32 c])) ∨
      (∃ h' : Heap, aNext h (evalO G e x) = some (.heap h' (.tup [.bool false])) ∧ kh h' (.tup [.bool false]))
  | .call { callee := .value _, .. } => callK P G M o q e h k kh
  | .call { callee := .builtin .append, args, argTypes } => match args.toList.map (evalO G e) with
    | [s, x] => appendK P G f h k kh argTypes s x
    | _ => False
  | _ => condK P G f o q e h k kb kh
end

/-- Operations that touch the heap or a variable of the frame. -/
def heapish (e : Env) (o : Oper) : Bool :=
  match o.op with
  | .store _ _ _ | .mapUpdate _ _ _ _ | .makeSlice _ _ _ | .next _ _ | .makeMap _ _ | .range _ _ => true
  | .call { callee := .value _, .. } => match callOf G e o with
    | some (g, _) => !(apartF G g)
    | none => true
  | .call { callee := .builtin .append, .. } => true
  | _ => false

def opdOk (g : GE) (p : Path) : Operand → Bool
  | .tmp t => sufOk (g t).p p
  | _ => true
/-- An arm of a pick may have been made under the pick's own condition. -/
def armOk (g : GE) (p : Path) (tc : Nat) (w : Bool) : Operand → Bool
  | .tmp t => sufOk (g t).p p || (match (g t).p with
    | (u, w', _) :: r => Nat.beq u tc && (sameB w' w && samePath r p)
    | [] => false)
  | _ => true
def dstOk (keys : List Nat) (o : Oper) : Bool :=
  match o.dst with
  | some d => !(inL d keys)
  | none => true
def varOk (g : GE) (p : Path) (o : Oper) : Bool :=
  bif isVar o then (match p with | [] => true | _ => false) && (match o.dst with | some d => (match (g d).p with | [] => true | _ => false) | none => true) else true

def stepK (M : Mode) (f : FuncId) (ops : Array Oper) (o : Oper) (g : GE) (keys : List Nat) (h : Heap) (k : GE → List Nat → Heap → Prop) : Prop :=
  match pathOf ops g keys o with
  | none => False
  | some (p, keys') => bif dstOk keys' o && varOk g p o then
      match o.op with
      | .pick (.tmp tc) a b => bif sufOk (g tc).p p && (armOk g p tc true a && armOk g p tc false b) then
          match (g tc).v with
          | .bool c => bif nobox (pickV c (evalO G g.env a) (evalO G g.env b)) then k (g.put o.dst ⟨p, pickV c (evalO G g.env a) (evalO G g.env b)⟩) keys' h else False
          | _ => False
        else False
      | _ => bif o.op.operands.toList.all (opdOk g p) then
          match p with
          | [] => opK P G M f o [] g.env h (fun v => k (g.put o.dst ⟨[], v⟩) keys' h)
              (fun t cs => match (g t).v with | .box _ => k ((g.upd t ⟨[], .box cs⟩).put o.dst ⟨[], .undef⟩) keys' h | _ => False) (fun h' v => k (g.put o.dst ⟨[], v⟩) keys' h')
          | x :: r => bif heapish G g.env o then
              cond (pathB (x :: r)) (opK P G M f o [] g.env h (fun v => bif nobox v then k (g.put o.dst ⟨x :: r, v⟩) keys' h else False)
                (fun t cs => match (g t).v with | .box _ => k ((g.upd t ⟨[], .box cs⟩).put o.dst ⟨x :: r, .undef⟩) keys' h | _ => False) (fun h' v => bif nobox v then k (g.put o.dst ⟨x :: r, v⟩) keys' h' else False))
                (k (g.put o.dst ⟨x :: r, .undef⟩) keys' h)
            else opK P G M f o (x :: r) g.env h (fun v => bif nobox v then k (g.put o.dst ⟨x :: r, v⟩) keys' h else False) (fun _ _ => False) (fun _ _ => False)
        else False
    else False

def opsK (M : Mode) (f : FuncId) (ops : Array Oper) : List Oper → GE → List Nat → Heap → (GE → List Nat → Heap → Prop) → Prop
  | [], g, keys, h, k => k g keys h
  | o :: r, g, keys, h, k => stepK P G M f ops o g keys h fun g' keys' h' => opsK M f ops r g' keys' h' k

def keepK (g : GE) : List Nat → Env → (Env → Prop) → Prop
  | [], e, k => k e
  | t :: r, e, k => match (g t).p with
    | [] => match (g t).v with
      | .bp _ _ => False
      | v => keepK g r (e.upd t v) k
    | _ => False

abbrev Kont := AExit → St → Prop

/-- The rounds of a loop, from the head on. -/
def loopFrom (m : Nat) (f : FuncId) (b : Code) (s : St) : Option (AExit × St) :=
  match exec P G m f b s with
  | some (.normal, s') => exec P G m f (.loop b) s'
  | r => r
def LoopP (f : FuncId) (b : Code) (k : Kont) (s : St) : Prop := ∃ ex s', Evt (fun m => loopFrom P G m f b s = some (ex, s')) ∧ k ex s'

def headK (f : FuncId) (b : Code) (k : Kont) (s : St) : Prop :=
  match keepOnly Env.empty s.env (G.head f (firstRegion b)) with
  | some e => LoopP P G f b k ⟨e, s.heap⟩
  | none => False

def blockC (id : Nat) (k : Kont) : Kont := fun ex s => match ex with
  | .exit i => bif Nat.beq i id then k .normal s else k (.exit i) s
  | .normal => k .normal s
  | .ret => k .ret s
def loopC (f : FuncId) (b : Code) (k : Kont) : Kont := fun ex s => match ex with
  | .normal => headK P G f b k s
  | .exit i => k (.exit i) s
  | .ret => k .ret s
def seqC (X : St → Kont → Prop) (k : Kont) : Kont := fun ex s => match ex with
  | .normal => X s k
  | .exit i => k (.exit i) s
  | .ret => k .ret s

/-- What a branch knows. -/
def setT (s : St) (x : Operand) (b : Bool) : St :=
  match x with
  | .tmp t => ⟨s.env.upd t (.bool b), s.heap⟩
  | _ => s

def execK (M : Mode) (f : FuncId) : Code → St → Kont → Prop
  | .skip, s, k => k .normal s
  | .region _ ops _, s, k => opsK P G M f ops ops.toList (GE.of s.env) [] s.heap fun g _ h => keepK g (G.keep f) Env.empty fun e => k .normal ⟨e, h⟩
  | .seq a b, s, k => execK M f a s (seqC (execK M f b) k)
  | .cond x a b, s, k => match evalO G s.env x with
    | .bool t => cond t (execK M f a (setT s x true) k) (execK M f b (setT s x false) k)
    | _ => False
  | .block id b, s, k => execK M f b s (blockC id k)
  | .loop b, s, k => headK P G f b k s
  | .exit id, s, k => k (.exit id) s
  | .ret, s, k => k .ret s
  | _, _, _ => False

/-- The body of a loop and what comes behind it. -/
def atLoop (M : Mode) (f : FuncId) (r : Nat) : Code → Kont → Option (Code × Kont)
  | .seq a b, k => match atLoop M f r a (seqC (execK P G M f b) k) with
    | some x => some x
    | none => atLoop M f r b k
  | .cond _ a b, k => match atLoop M f r a k with
    | some x => some x
    | none => atLoop M f r b k
  | .block id b, k => atLoop M f r b (blockC id k)
  | .loop b, k => bif Nat.beq (firstRegion b) r then some (b, k) else atLoop M f r b (loopC P G f b k)
  | _, _ => none

def retK (f : FuncId) (Q : AV → Heap → Prop) : Kont := fun ex s => match ex with
  | .exit _ => False
  | .normal => match P.funcs[f]? with
    | some fn => match resultsOf P G s fn.results.toList with
      | some vs => Q (packR vs) s.heap
      | none => False
    | none => False
  | .ret => match P.funcs[f]? with
    | some fn => match resultsOf P G s fn.results.toList with
      | some vs => Q (packR vs) s.heap
      | none => False
    | none => False

def chain : Env → List Nat → List AV → Env
  | e, t :: ts, v :: vs => chain (e.upd t v) ts vs
  | e, _, _ => e

def labelOf (M : Mode) (f : FuncId) (r : Nat) (Q : AV → Heap → Prop) : Option (Code × Kont) :=
  match P.funcs[f]? with
  | some fn => match fn.body with
    | some c => atLoop P G M f r c (retK P G f Q)
    | none => none
  | none => none
/-- What comes behind a loop's head, for these values of the temporaries that live there. -/
def LabelP (M : Mode) (f : FuncId) (r : Nat) (vals : List AV) (h : Heap) (Q : AV → Heap → Prop) : Prop :=
  match labelOf P G M f r Q with
  | some (b, k) => LoopP P G f b k ⟨chain Env.empty (G.head f r) vals, h⟩
  | none => False
def LabelB (M : Mode) (f : FuncId) (r : Nat) (vals : List AV) (h : Heap) (Q : AV → Heap → Prop) : Prop :=
  match labelOf P G M f r Q with
  | some (b, k) => execK P G M f b ⟨chain Env.empty (G.head f r) vals, h⟩ (loopC P G f b k)
  | none => False

def BodyP (M : Mode) (f : FuncId) (args : List AV) (h : Heap) (Q : AV → Heap → Prop) : Prop :=
  match P.funcs[f]? with
  | some fn => match fn.body with
    | some c => bif Nat.beq args.length (fn.params.size + fn.nfree) && G.good f then execK P G M f c ⟨envOf args 0, h⟩ (retK P G f Q) else False
    | none => False
  | none => False

/-- What a package-level variable holds. -/
def gT (g : Nat) : List AV := (G.glob g).getD []

/-- A result of a call with plain data. -/
def retE (Q : AV → Prop) (r : AV) (h : Heap) : Prop :=
  match r with
  | .int k n => Q (.int k n)
  | .bool b => Q (.bool b)
  | .str s => Q (.str s)
  | r => ∃ v, eraseW false (resH h 8) r = some v ∧ Q v
end
end Go.Proofs.YtdnhhdplcminlaaGreatDoor.AI
