/- The compilation of the model's code into the abstract machine's. -/
import Derived.Test.YtikedgpcgacgoaaHmCore
import Derived.Still
namespace Go.Hm
open Go

/-- A one-cell constant. -/
def of1 : Value → Option AV
  | .slice none 0 0 => some .e0
  | .bool b => some (.val (.bool b))
  | .int k n => some (.val (.int k n))
  | .string s => some (.val (.string s))
  | .pointer none => some (.val (.pointer none))
  | .map none => some (.val (.map none))
  | .nilFunc => some (.val .nilFunc)
  | _ => none

def of1s : List Value → Option (List AV)
  | [] => some []
  | v :: r => match of1 v with
    | some a => match of1s r with
      | some l => some (a :: l)
      | none => none
    | none => none

def ofVal : Value → AV
  | .agg cs => match of1s cs.toList with
    | some l => .agg l
    | none => .dead
  | v => (of1 v).getD .dead

def cO : Operand → AO
  | .tmp t => .tmp t
  | .const v => .con (ofVal v)
  | .func f => .con (if f < 1000 then .fn f [] else .dead)
  | .global _ => .con .dead

section
variable (P : Program)

def szOf (t : TypeId) : Option Nat := (P.info? t).map (·.size)
def byOf (t : TypeId) : Option Nat := (P.info? t).map (·.bytes)
def zOf (t : TypeId) : Option (List AV) := match (P.info? t).bind (·.zero) with
  | some z => of1s z.cells.toList
  | none => none
def aggT (t : TypeId) : Bool := match P.underlying t with
  | some (.struct _) | some (.array _ _) => true
  | _ => false

/-- Consecutive fields from an offset on, all of them scalars or flat themselves: their cells' kinds. -/
def flatFs (flat : TypeId → Option (List Nat)) : List Field → Nat → Option (List Nat)
  | [], _ => some []
  | f :: r, o => if f.name ≠ "_" ∧ f.offset = o then
      match flat f.type, szOf P f.type with
      | some ks, some n => if ks.length = n then
          match flatFs flat r (o + n) with
          | some l => some (ks ++ l)
          | none => none
        else none
      | _, _ => none
    else none
/-- A type whose values are equal just if their cells are, each a bool, an integer, a string: the cells' kinds. -/
def flatT : Nat → TypeId → Option (List Nat)
  | 0, _ => none
  | d + 1, t => match P.underlying t with
    | some .bool => some [0]
    | some (.int _) => some [1]
    | some .string => some [2]
    | some (.struct fs) => if P.stoodInHeld t then none else flatFs P (flatT d) fs.toList 0
    | some (.array n e) => match flatT d e, szOf P e with
      | some ks, some k => if ks.length = k then some (List.replicate n ks).flatten else none
      | _, _ => none
    | _ => none

def partsC (place : Nat → Option (Nat × Nat)) : List (Nat × Operand) → Option (List (Nat × Nat × AO))
  | [] => some []
  | (i, x) :: r => match place i with
    | some (off, n) => match partsC place r with
      | some l => some ((off, n, cO x) :: l)
      | none => none
    | none => none

def isZero : Option Operand → Bool
  | some (.const (.int _ 0)) => true
  | _ => false

/-- The choices of a compilation: 'hps': what is made in the heap; 'rt': what leads to which boxed local; 'al': the calls that go to a function's other compilation (its number and 1000). -/
structure Pm where
  hps : List Nat := []
  rt : List (Nat × Nat) := []
  al : List Nat := []
  T : Nat := 0

def locO (pm : Pm) : Operand → Option Nat
  | .tmp a => match pm.rt.find? (·.1 == a) with
    | some (_, t) => if pm.hps.contains t then none else some t
    | none => none
  | _ => none

def compOp (pm : Pm) (o : Oper) : AOp :=
  let hp : Bool := match o.dst with
    | some d => pm.hps.contains d
    | none => false
  match o.op with
  | .move x | .assign x => .mv (cO x)
  | .pick c a b => .pick (cO c) (cO a) (cO b)
  | .alloc e => match zOf P e with
    | some z => if hp then .allocH z else .allocR z
    | none => .bad
  | .box e x => match szOf P e with
    | some n => if hp then .boxH n (cO x) else .boxR n (cO x)
    | none => .bad
  | .build t parts => match P.underlying t, zOf P t with
    | some (.struct fs), some z =>
      if fs.toList.all (fun f => (szOf P f.type).isSome) = true then match partsC (fun i => match fs[i]? with
          | some f => (szOf P f.type).map fun n => (f.offset, n)
          | none => none) parts.toList with
      | some l => .build z l
      | none => .bad
      else .bad
    | some (.array _ e), some z => match szOf P e with
      | some k => match partsC (fun i => some (i * k, k)) parts.toList with
        | some l => .build z l
        | none => .bad
      | none => .bad
    | _, _ => .bad
  | .buildSlice t n parts => match P.underlying t with
    | some (.slice e) => match szOf P e, zOf P e with
      | some k, some z => if n * k ≤ 65536 ∧ z.length = k ∧ 0 < k then
          match partsC (fun i => some (i * k, k)) parts.toList with
          | some l => if hp then .buildH n k (repl n z) l else .buildS n (repl n z) l
          | none => .bad
        else .bad
      | _, _ => .bad
    | _ => .bad
  | .load t a => if aggT P t then (match szOf P t with
      | some n => .ldA (locO pm a) n (cO a)
      | none => .bad) else if (P.underlying t).isSome then .ld1 (locO pm a) (cO a) else .bad
  | .store t a x => match szOf P t with
    | some n => .st (locO pm a) n (cO a) (cO x)
    | none => .bad
  | .nilCheck x => .nilc (cO x)
  | .binOp op t x y _ => match P.underlying t with
    | some (.int _) => .bini op (cO x) (cO y)
    | some .string => .bins op (cO x) (cO y)
    | some .bool => match op with
      | .eql => .eqb false (cO x) (cO y)
      | .neq => .eqb true (cO x) (cO y)
      | _ => .bad
    | some (.pointer _) => match op with
      | .eql => .eqp false (cO x) (cO y)
      | .neq => .eqp true (cO x) (cO y)
      | _ => .bad
    | some (.func ..) => match op with
      | .eql => .eqf false (cO x) (cO y)
      | .neq => .eqf true (cO x) (cO y)
      | _ => .bad
    | some (.struct _) | some (.array _ _) => match flatT P 8 t with
      | some ks => if P.eqGuardType P.depth t then .bad else match op with
        | .eql => .eqa false ks (cO x) (cO y)
        | .neq => .eqa true ks (cO x) (cO y)
        | _ => .bad
      | none => .bad
    | _ => .bad
  | .unOp op _ x => match op with
    | .not => .not (cO x)
    | .neg => .negi (cO x)
    | .xor => .xori (cO x)
    | .plus => .bad
  | .convert s d x => match P.underlying s, P.underlying d with
    | some (.int _), some (.int k) => .cvi k (cO x)
    | some .string, some .string => .slS (cO x) none none
    | some (.slice e), some .string => match P.underlying e with
      | some (.int .u8) => .b2s (cO x)
      | _ => .bad
    | some .string, some (.slice e) => match P.underlying e with
      | some (.int .u8) => .s2b (cO x)
      | _ => .bad
    | _, _ => .bad
  | .makeFunc (.func f) first caps => if first.size = 0 ∧ f < 1000 then .mkf f (caps.toList.map cO) else .bad
  | .makeSlice t l c => match P.underlying t, l, c with
    | some (.slice e), .tmp a, .tmp b => match szOf P e, byOf P e, zOf P e with
      | some k, some by', some z => if a = b ∧ hp = true ∧ 0 < k ∧ 0 < by' then .mks k by' z (cO l) else .bad
      | _, _, _ => .bad
    | some (.slice e), .const (.int .i64 a), .const (.int .i64 b) => match szOf P e, byOf P e, zOf P e with
      | some k, some by', some z => if a = b ∧ hp = true ∧ 0 < k ∧ 0 < by' then .mks k by' z (cO l) else .bad
      | _, _, _ => .bad
    | _, _, _ => .bad
  | .slice t x lo hi mx => match P.underlying t with
    | some .string => (match mx with
      | none => .slS (cO x) (lo.map cO) (hi.map cO)
      | some _ => .bad)
    | some (.slice e) => match mx, szOf P e with
      | none, some k => .slC k (cO x) (lo.map cO) (hi.map cO)
      | some _, some _ => if isZero mx && isZero hi && (isZero lo || lo.isNone) then .sl00 (cO x) else .bad
      | _, none => .bad
    | _ => .bad
  | .fieldAddr s x f => match P.underlying s with
    | some (.struct fs) => match fs[f]? with
      | some fd => match szOf P fd.type with
        | some n => if n = 0 then .bad else .fldA fd.offset (cO x)
        | none => .bad
      | none => .bad
    | _ => .bad
  | .field t x f => match P.underlying t with
    | some (.struct fs) => match fs[f]? with
      | some fd => match szOf P fd.type with
        | some n => if (P.underlying fd.type).isSome then .fld fd.offset n (aggT P fd.type) (cO x) else .bad
        | none => .bad
      | none => .bad
    | _ => .bad
  | .indexAddr t x i => match P.underlying t with
    | some (.slice e) => match szOf P e with
      | some k => .ixA k (cO x) (cO i)
      | none => .bad
    | some (.array n e) => match szOf P e with
      | some k => .ixR n k (cO x) (cO i)
      | none => .bad
    | _ => .bad
  | .index t x i => match P.underlying t with
    | some .string => .ixS (cO x) (cO i)
    | some (.array n e) => match szOf P e with
      | some k => if (P.underlying e).isSome then .ixG n k (aggT P e) (cO x) (cO i) else .bad
      | none => .bad
    | _ => .bad
  | .extract x i => .ext (cO x) i
  | .call c => match c.callee with
    | .value (.func f) => if f < 1000 then .call (match o.dst with
      | some d => if pm.al.contains d then f + 1000 else f
      | none => f) (c.args.toList.map cO) else .bad
    | .value x => .callv (cO x) (c.args.toList.map cO)
    | .builtin .len => match c.argTypes[0]?, c.args.toList with
      | some t, [x] => match P.underlying t with
        | some .string => .len true (cO x)
        | some (.slice _) => .len false (cO x)
        | some (.array n _) => .lenK n
        | some (.pointer a) => (match P.underlying a with
          | some (.array n _) => .lenK n
          | _ => .bad)
        | _ => .bad
      | _, _ => .bad
    | .builtin .append => match c.argTypes.toList, c.args.toList with
      | [t, u], [x, y] => match P.underlying t, P.underlying u with
        | some (.slice e), some (.slice _) => match szOf P e, byOf P e with
          | some k, some by' => if 0 < k ∧ 0 < by' ∧ (zOf P e).map (·.length) = some k then .app k by' (cO x) (cO y) else .bad
          | _, _ => .bad
        | some (.slice e), some .string => match szOf P e, byOf P e, P.underlying e with
          | some 1, some by', some (.int .u8) => if 0 < by' ∧ (zOf P e).map (·.length) = some 1 then .app 1 by' (cO x) (cO y) else .bad
          | _, _, _ => .bad
        | _, _ => .bad
      | _, _ => .bad
    | .builtin .max => .mm true (c.args.toList.map cO)
    | .builtin .min => .mm false (c.args.toList.map cO)
    | _ => .bad
  | _ => .bad

def badI : AI := { dst := none, grd := none, op := .bad }
def bigDst (T : Nat) : Option Nat → Bool
  | some d => decide (T ≤ d)
  | none => false
def grdOf (ops : Array Oper) : Option (Nat × Bool) → Option (Option (Nat × Bool))
  | none => some none
  | some (j, want) => match (ops[j]?).bind (·.dst) with
    | some t => some (some (t, want))
    | none => none

def compI (pm : Pm) (ops : Array Oper) (o : Oper) : AI :=
  if bigDst pm.T o.dst = true then badI else
  match grdOf ops o.guard with
  | some g => { dst := o.dst, grd := g, op := compOp P pm o }
  | none => badI

def directs (o : Oper) : List Nat := (o.after.toList.filter (Region.binds .any)).map (·.on)

/-- What waits for what, through others: a row of numbers for each operation. -/
def befs : List Oper → List (List Nat) → List (List Nat)
  | [], acc => acc
  | o :: r, acc => befs r (acc ++ [((directs o) ++ (directs o).flatMap fun e => acc.getD e []).eraseDups])

def isMake (i : AI) : Bool := cls i.op == .make
/-- Numbers what makes blocks. -/
def numb : List AI → Nat → List AI
  | [], _ => []
  | i :: r, k => if isMake i then { i with at_ := k } :: numb r (k + 1) else i :: numb r k

/-- Does the text's order serve every order? Whatever does not wait for one another may change places. -/
def drawOk (ops : Array Oper) (l : List AI) : Bool :=
  let b := befs ops.toList []
  Region.noSelect ops &&
  (List.range ops.size).all fun j => ((directs (ops.getD j default)).all fun e => e < j) &&
    (List.range j).all fun i => (b.getD j []).contains i || indep (l.getD i default) (l.getD j default)

/-- Compiles; the list: what is kept at each region and loop, in the text's order. -/
def compC (pm : Pm) : Code → List (List Nat) → AC × List (List Nat)
  | .skip, ks => (.skip, ks)
  | .label _, ks => (.skip, ks)
  | .region _ ops draw, ks =>
    let l := ops.toList.map (compI P pm ops)
    if draw then
      let l' := numb l 0
      if drawOk ops l' then (.regD (ks.headD []) ((l.filter isMake).length) l', ks.tail) else (.bad, ks.tail)
    else (.regN (ks.headD []) l, ks.tail)
  | .seq a b, ks =>
    let x := compC pm a ks
    let y := compC pm b x.2
    (.seq x.1 y.1, y.2)
  | .cond c a b, ks =>
    let x := compC pm a ks
    let y := compC pm b x.2
    (.cond (cO c) x.1 y.1, y.2)
  | .block id b, ks =>
    let x := compC pm b ks
    (.block id x.1, x.2)
  | .loop b, ks =>
    let x := compC pm b ks.tail
    (.loop (ks.headD []) x.1, x.2)
  | .scope b, ks => compC pm b ks
  | .exit id, ks => (.exit id, ks)
  | .ret, ks => (.ret, ks)
  | _, ks => (.bad, ks)

def compR : ResultVar → ARes
  | .tmp t => .tmp t
  | .cell a t => .cell a ((szOf P t).getD 0) (aggT P t)

def resChk : ResultVar → Bool
  | .tmp _ => true
  | .cell _ t => (szOf P t).isSome && (P.underlying t).isSome

/-- A function of the program, compiled. -/
def compF (f : FuncId) (pm : Pm) (ks : List (List Nat)) (trunc : Bool) : Option AFn :=
  match P.funcs[f]? with
  | some fn => match fn.body with
    | some c => if fn.name ≠ "runtime.NumGoroutine" ∧ fn.params.size + fn.nfree ≤ fn.ntmps ∧ fn.results.toList.all (resChk P) = true then some { np := fn.params.size + fn.nfree, body := (compC P { pm with T := fn.ntmps } c ks).1, res := fn.results.toList.map (compR P), trunc } else none
    | none => none
  | none => none
end
end Go.Hm
