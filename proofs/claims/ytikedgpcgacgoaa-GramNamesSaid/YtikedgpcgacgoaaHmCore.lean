/- The abstract machine 'HM': values, heap, instructions, their execution, and the compilation of the model's code into it. -/
import GoSem.Claims
import Derived.Calls
import Derived.LoopN
namespace Go.Hm
open Go

/-- ABSTRACT VALUES. 'sl' and 'rop': a slice, a pointer into a row, frozen, by value; 'rp': a pointer to a boxed local; 'hp', 'hs': a pointer, a slice into block b of the heap (g: the block's length when the value was made); 'box': a boxed local's own cells (in a slot of the frame only); 'und': the value of what was passed over; 'dead': unknown. -/
inductive AV where
  | val (v : Value)
  | e0
  | sl (n : Nat) (cells : List AV)
  | rop (cells : List AV) (off : Nat)
  | rp (t off : Nat)
  | hp (b g off : Nat)
  | hs (b g off n es : Nat)
  | mp (b : Nat)
  | fn (f : FuncId) (cap : List AV)
  | agg (cells : List AV)
  | tup (vs : List AV)
  | box (cells : List AV)
  | und
  | dead
  deriving Inhabited

/-- A block of the abstract heap. -/
inductive HB where
  | hole
  | cells (cs : List AV)
  | map (es : List (AV × AV))
  deriving Inhabited

abbrev Env := List (Nat × AV)
abbrev Heap := List HB

def find : Env → Nat → AV
  | [], _ => .dead
  | (t', v) :: r, t => if t' = t then v else find r t

/-- Replaces the first entry of a slot. -/
def setAt : Env → Nat → AV → Env
  | [], _, _ => []
  | (t', v') :: r, t, v => if t' = t then (t, v) :: r else (t', v') :: setAt r t v

def restrict (keep : List Nat) (env : Env) : Env := keep.map fun t => (t, find env t)

/-- No slot holds a pointer to boxed local d. -/
def noRp (d : Nat) : Env → Bool
  | [] => true
  | (_, .rp t _) :: r => if t = d then false else noRp d r
  | _ :: r => noRp d r

def put (dst : Option Nat) (v : AV) (env : Env) : Option Env :=
  match dst with
  | none => some env
  | some d => if noRp d env = true then some ((d, v) :: env) else none

/-- The cells of a value that may be stored. -/
def cellsV : AV → Option (List AV)
  | .val v => some [.val v]
  | .e0 => some [.e0]
  | .sl n cs => some [.sl n cs]
  | .rop cs o => some [.rop cs o]
  | .hp b g o => some [.hp b g o]
  | .hs b g o n es => some [.hs b g o n es]
  | .mp b => some [.mp b]
  | .fn f c => some [.fn f c]
  | .agg cs => some cs
  | _ => none

/-- One cell. -/
def one : AV → Bool
  | .val _ | .e0 | .sl .. | .rop .. | .hp .. | .hs .. | .mp _ | .fn .. => true
  | _ => false
def argOk : AV → Bool
  | .agg _ => true
  | v => one v

mutual
/-- All references lead to blocks below lim. (What is frozen holds none.) -/
def below (lim : Nat) : AV → Bool
  | .hp b _ _ => Nat.blt b lim
  | .hs b _ _ _ _ => Nat.blt b lim
  | .mp b => Nat.blt b lim
  | .fn _ cap => belowL lim cap
  | .agg cs => belowL lim cs
  | .tup vs => belowL lim vs
  | .val _ => true
  | .e0 => true
  | .sl _ _ => true
  | .rop _ _ => true
  | .rp _ _ => false
  | .box _ => false
  | .und => false
  | .dead => false
def belowL (lim : Nat) : List AV → Bool
  | [] => true
  | v :: r => below lim v && belowL lim r
end

inductive AO where
  | tmp (t : Nat)
  | con (v : AV)
  deriving Inhabited

def ev (env : Env) : AO → AV
  | .con v => v
  | .tmp t => match find env t with
    | .box _ => .rp t 0
    | v => v

inductive AOp where
  | mv (x : AO)
  | pick (c a b : AO)
  | allocR (z : List AV)
  | boxR (n : Nat) (x : AO)
  | allocH (z : List AV)
  | boxH (n : Nat) (x : AO)
  | build (z : List AV) (parts : List (Nat × Nat × AO))
  | buildS (n : Nat) (z : List AV) (parts : List (Nat × Nat × AO))
  | buildH (n es : Nat) (z : List AV) (parts : List (Nat × Nat × AO))
  | ld1 (l : Option Nat) (a : AO)
  | ldA (l : Option Nat) (n : Nat) (a : AO)
  | st (l : Option Nat) (n : Nat) (a x : AO)
  | nilc (x : AO)
  | bini (op : BinOp) (x y : AO)
  | bins (op : BinOp) (x y : AO)
  | eqb (neg : Bool) (x y : AO)
  | eqp (neg : Bool) (x y : AO)
  | eqf (neg : Bool) (x y : AO)
  | eqa (neg : Bool) (ks : List Nat) (x y : AO)
  | not (x : AO)
  | negi (x : AO)
  | xori (x : AO)
  | cvi (k : IntKind) (x : AO)
  | b2s (x : AO)
  | s2b (x : AO)
  | mkf (f : FuncId) (caps : List AO)
  | mks (es bytes : Nat) (z : List AV) (l : AO)
  | slS (x : AO) (lo hi : Option AO)
  | slC (es : Nat) (x : AO) (lo hi : Option AO)
  | sl00 (x : AO)
  | fldA (off : Nat) (x : AO)
  | fld (off n : Nat) (isAgg : Bool) (x : AO)
  | ixA (es : Nat) (x i : AO)
  | ixR (len es : Nat) (a i : AO)
  | ixS (x i : AO)
  | ixG (len es : Nat) (isAgg : Bool) (x i : AO)
  | ext (x : AO) (i : Nat)
  | len (str : Bool) (x : AO)
  | lenK (n : Nat)
  | call (f : FuncId) (args : List AO)
  | callv (f : AO) (args : List AO)
  | app (es bytes : Nat) (x y : AO)
  | mm (mx : Bool) (args : List AO)
  | bad
  deriving Inhabited

/-- An instruction: where its value goes, its guard, what it does. -/
structure AI where
  dst : Option Nat
  grd : Option (Nat × Bool)
  op : AOp
  at_ : Nat := 0
  deriving Inhabited

inductive AC where
  | skip
  | regN (keep : List Nat) (ops : List AI)
  | regD (keep : List Nat) (m : Nat) (ops : List AI)
  | seq (a b : AC)
  | cond (c : AO) (a b : AC)
  | block (id : Nat) (b : AC)
  | loop (keep : List Nat) (b : AC)
  | exit (id : Nat)
  | ret
  | bad
  deriving Inhabited

inductive Ex where
  | nrm
  | exit (id : Nat)
  | ret
  deriving Inhabited, DecidableEq

/-! ### Reading instructions -/

/-- What a pointer leads to: a row of cells, and a place in it. 'l': it is a pointer to that boxed local; else it is none to any. -/
def ptrCells (l : Option Nat) (env : Env) (H : Heap) (a : AV) : Option (List AV × Nat) :=
  match l with
  | some t => match a with
    | .rp t' off => if t' = t then match find env t with
        | .box cs => some (cs, off)
        | _ => none
      else none
    | _ => none
  | none => match a with
    | .rop cs off => some (cs, off)
    | .hp b g off => match H[b]? with
      | some (.cells cs) => if cs.length = g then some (cs, off) else none
      | _ => none
    | _ => none

/-- The cells of a slice's elements. -/
def slCells (H : Heap) : AV → Option (List AV)
  | .e0 => some []
  | .sl _ cs => some cs
  | .hs b g off n es => match H[b]? with
    | some (.cells cs) => if cs.length = g ∧ off + n * es ≤ g then some ((cs.drop off).take (n * es)) else none
    | _ => none
  | _ => none

/-- A slice's length. -/
def slN : AV → Nat
  | .sl n _ => n
  | .hs _ _ _ n _ => n
  | _ => 0

def replaceAt (cs : List AV) (off : Nat) (new : List AV) : List AV := cs.take off ++ new ++ cs.drop (off + new.length)

/-- Lays parts into a row. -/
def fillP (env : Env) : List (Nat × Nat × AO) → List AV → Option (List AV)
  | [], z => some z
  | (off, n, x) :: r, z =>
    match cellsV (ev env x) with
    | some cs => if cs.length = n ∧ off + n ≤ z.length then fillP env r (replaceAt z off cs) else none
    | none => none

def abin (op : BinOp) (k : IntKind) (a : Int) (k' : IntKind) (b : Int) : Option AV :=
  match op with
  | .shl => if b < 0 then none else some (.val (.int k (k.wrap (a * 2 ^ (min b.toNat k.bits)))))
  | .shr => if b < 0 then none else some (.val (.int k (a.fdiv (2 ^ (min b.toNat k.bits)))))
  | _ =>
    if k = k' then
      match op with
      | .add => some (.val (.int k (k.wrap (a + b))))
      | .sub => some (.val (.int k (k.wrap (a - b))))
      | .mul => some (.val (.int k (k.wrap (a * b))))
      | .quo => if b = 0 then none else some (.val (.int k (k.wrap (a.tdiv b))))
      | .rem => if b = 0 then none else some (.val (.int k (a.tmod b)))
      | .and => some (.val (.int k (k.wrap (BitVec.ofInt k.bits a &&& BitVec.ofInt k.bits b).toNat)))
      | .or => some (.val (.int k (k.wrap (BitVec.ofInt k.bits a ||| BitVec.ofInt k.bits b).toNat)))
      | .xor => some (.val (.int k (k.wrap (BitVec.ofInt k.bits a ^^^ BitVec.ofInt k.bits b).toNat)))
      | .andNot => some (.val (.int k (k.wrap (BitVec.ofInt k.bits a &&& ~~~(BitVec.ofInt k.bits b)).toNat)))
      | .eql => some (.val (.bool (a == b)))
      | .neq => some (.val (.bool (a != b)))
      | .lss => some (.val (.bool (a < b)))
      | .leq => some (.val (.bool (a ≤ b)))
      | .gtr => some (.val (.bool (a > b)))
      | .geq => some (.val (.bool (a ≥ b)))
      | _ => none
    else none

def abins (op : BinOp) (x y : ByteArray) : Option AV :=
  match op with
  | .add => if ((x.size + y.size : Nat) : Int) > IntKind.i64.max then none else some (.val (.string (x ++ y)))
  | .eql => some (.val (.bool (x.toList == y.toList)))
  | .neq => some (.val (.bool (!(x.toList == y.toList))))
  | .lss => some (.val (.bool (Op.bytesLess x.toList y.toList)))
  | .leq => some (.val (.bool (Op.bytesLess x.toList y.toList || x.toList == y.toList)))
  | .gtr => some (.val (.bool (!(Op.bytesLess x.toList y.toList || x.toList == y.toList))))
  | .geq => some (.val (.bool (!Op.bytesLess x.toList y.toList)))
  | _ => none

/-- Equal scalars (0: bools, 1: integers, 2: strings). -/
def eqScalar : Nat → Value → Value → Option Bool
  | 0, .bool a, .bool b => some (a == b)
  | 1, .int k a, .int k' b => if k = k' then some (a == b) else none
  | 2, .string a, .string b => some (a.toList == b.toList)
  | _, _, _ => none
def eqCells : List Nat → List AV → List AV → Option Bool
  | [], [], [] => some true
  | k :: ks, .val a :: r, .val b :: s =>
    match eqScalar k a b with
    | some e => match eqCells ks r s with
      | some e' => some (e && e')
      | none => none
    | none => none
  | _, _, _ => none

/-- A pointer against a pointer: one of them nil. -/
def isPtr : AV → Bool
  | .rp .. | .hp .. | .rop .. => true
  | _ => false
def isFn : AV → Bool
  | .fn .. => true
  | _ => false
def eqPtr (a b : AV) : Option Bool :=
  match a with
  | .val (.pointer none) => match b with
    | .val (.pointer none) => some true
    | b => if isPtr b = true then some false else none
  | a => match b with
    | .val (.pointer none) => if isPtr a = true then some false else none
    | _ => none
/-- A function against a function: one of them nil. -/
def eqFn (a b : AV) : Option Bool :=
  match a with
  | .val .nilFunc => match b with
    | .val .nilFunc => some true
    | b => if isFn b = true then some false else none
  | a => match b with
    | .val .nilFunc => if isFn a = true then some false else none
    | _ => none

def bytesOf : List AV → Option (List UInt8)
  | [] => some []
  | .val (.int .u8 n) :: r => match bytesOf r with
    | some l => some (UInt8.ofNat n.toNat :: l)
    | none => none
  | _ => none

/-- A bound of a slice expression: from 0 to y. -/
def bnd (env : Env) (x : Option AO) (dflt y : Nat) : Option Nat :=
  match x with
  | none => some dflt
  | some o => match ev env o with
    | .val (.int _ i) => if 0 ≤ i ∧ i ≤ y then some i.toNat else none
    | _ => none

def mmFold (mx : Bool) : List AV → IntKind → Int → Option (IntKind × Int)
  | [], k, a => some (k, a)
  | .val (.int _ b) :: r, k, a => mmFold mx r k (if mx then (if b > a then b else a) else (if b < a then b else a))
  | _, _, _ => none

/-- THE READING INSTRUCTIONS: one value, nothing else turns. -/
def rdOp (op : AOp) (env : Env) (H : Heap) : Option AV :=
  match op with
  | .mv x => some (ev env x)
  | .pick c a b => match ev env c with
    | .val (.bool t) => some (if t then ev env a else ev env b)
    | _ => none
  | .allocR z => some (.box z)
  | .boxR n x => match cellsV (ev env x) with
    | some cs => if cs.length = n then some (.box cs) else none
    | none => none
  | .build z parts => match fillP env parts z with
    | some cs => some (.agg cs)
    | none => none
  | .buildS n z parts => match fillP env parts z with
    | some cs => if n = 0 then some .e0 else if belowL 0 cs = true then some (.sl n cs) else none
    | none => none
  | .ld1 l a => match ptrCells l env H (ev env a) with
    | some (cs, off) => match cs[off]? with
      | some v => if one v = true then some v else none
      | none => none
    | none => none
  | .ldA l n a => match ptrCells l env H (ev env a) with
    | some (cs, off) => if off + n ≤ cs.length then some (.agg ((cs.drop off).take n)) else none
    | none => none
  | .nilc x => match ev env x with
    | .rp t o => some (.rp t o)
    | .hp b g o => some (.hp b g o)
    | .rop cs o => some (.rop cs o)
    | .fn f c => some (.fn f c)
    | _ => none
  | .bini op x y => match ev env x, ev env y with
    | .val (.int k a), .val (.int k' b) => abin op k a k' b
    | _, _ => none
  | .bins op x y => match ev env x, ev env y with
    | .val (.string a), .val (.string b) => abins op a b
    | _, _ => none
  | .eqb neg x y => match ev env x, ev env y with
    | .val (.bool a), .val (.bool b) => some (.val (.bool (if neg then !(a == b) else a == b)))
    | _, _ => none
  | .eqp neg x y => match eqPtr (ev env x) (ev env y) with
    | some e => some (.val (.bool (if neg then !e else e)))
    | none => none
  | .eqf neg x y => match eqFn (ev env x) (ev env y) with
    | some e => some (.val (.bool (if neg then !e else e)))
    | none => none
  | .eqa neg ks x y => match ev env x, ev env y with
    | .agg a, .agg b => match eqCells ks a b with
      | some e => some (.val (.bool (if neg then !e else e)))
      | none => none
    | _, _ => none
  | .not x => match ev env x with
    | .val (.bool b) => some (.val (.bool (!b)))
    | _ => none
  | .negi x => match ev env x with
    | .val (.int k n) => some (.val (.int k (k.wrap (0 - n))))
    | _ => none
  | .xori x => match ev env x with
    | .val (.int k n) => some (.val (.int k (k.wrap (BitVec.ofInt k.bits (if k.signed then -1 else k.max) ^^^ BitVec.ofInt k.bits n).toNat)))
    | _ => none
  | .cvi k x => match ev env x with
    | .val (.int _ n) => some (.val (.int k (k.wrap n)))
    | _ => none
  | .b2s x => match slCells H (ev env x) with
    | some cs => if cs.length = slN (ev env x) then match bytesOf cs with
        | some l => some (.val (.string ⟨l.toArray⟩))
        | none => none
      else none
    | none => none
  | .s2b x => match ev env x with
    | .val (.string s) => some (.sl s.size (s.data.toList.map fun b => .val (.int .u8 b.toNat)))
    | _ => none
  | .mkf f caps => if (caps.map (ev env)).all one = true then some (.fn f (caps.map (ev env))) else none
  | .slS x lo hi => match ev env x with
    | .val (.string s) => match bnd env hi s.size s.size with
      | some h => match bnd env lo 0 h with
        | some l => some (.val (.string (s.extract l h)))
        | none => none
      | none => none
    | _ => none
  | .slC es x lo hi => match ev env x with
    | .e0 => match bnd env hi 0 0 with
      | some h => match bnd env lo 0 h with
        | some _ => some .e0
        | none => none
      | none => none
    | .sl n cs => match bnd env hi n n with
      | some h => match bnd env lo 0 h with
        | some l => some (.sl (h - l) ((cs.drop (l * es)).take ((h - l) * es)))
        | none => none
      | none => none
    | .hs b g off n es' => if es' = es then match bnd env hi n n with
      | some h => match bnd env lo 0 h with
        | some l => some (.hs b g (off + l * es) (h - l) es)
        | none => none
      | none => none
      else none
    | _ => none
  | .sl00 x => match ev env x with
    | .e0 => some .e0
    | .sl .. => some .e0
    | .hs .. => some .e0
    | _ => none
  | .fldA off x => match ev env x with
    | .rp t o => some (.rp t (o + off))
    | .hp b g o => some (.hp b g (o + off))
    | .rop cs o => some (.rop cs (o + off))
    | _ => none
  | .fld off n isAgg x => match ev env x with
    | .agg cs => if isAgg then (if off + n ≤ cs.length then some (.agg ((cs.drop off).take n)) else none) else cs[off]?
    | _ => none
  | .ixA es x i => match ev env i with
    | .val (.int _ i) => match ev env x with
      | .sl n cs => if 0 ≤ i ∧ i < n then some (.rop cs (i.toNat * es)) else none
      | .hs b g off n _ => if 0 ≤ i ∧ i < n then some (.hp b g (off + i.toNat * es)) else none
      | _ => none
    | _ => none
  | .ixR len es a i => match ev env i with
    | .val (.int _ i) => if 0 ≤ i ∧ i < len then
        match ev env a with
        | .rp t o => some (.rp t (o + i.toNat * es))
        | .hp b g o => some (.hp b g (o + i.toNat * es))
        | .rop cs o => some (.rop cs (o + i.toNat * es))
        | _ => none
      else none
    | _ => none
  | .ixS x i => match ev env i with
    | .val (.int _ i) => match ev env x with
      | .val (.string s) => if 0 ≤ i then match s[i.toNat]? with
          | some b => some (.val (.int .u8 b.toNat))
          | none => none
        else none
      | _ => none
    | _ => none
  | .ixG len es isAgg x i => match ev env i with
    | .val (.int _ i) => match ev env x with
      | .agg cs => if 0 ≤ i ∧ i < len then
          (if isAgg then (if i.toNat * es + es ≤ cs.length then some (.agg ((cs.drop (i.toNat * es)).take es)) else none) else cs[i.toNat * es]?)
        else none
      | _ => none
    | _ => none
  | .ext x i => match ev env x with
    | .tup vs => vs[i]?
    | _ => none
  | .len true x => match ev env x with
    | .val (.string s) => some (.val (.int .i64 s.size))
    | _ => none
  | .len false x => match ev env x with
    | .e0 => some (.val (.int .i64 0))
    | .sl n _ => some (.val (.int .i64 n))
    | .hs _ _ _ n _ => some (.val (.int .i64 n))
    | _ => none
  | .lenK n => some (.val (.int .i64 n))
  | .mm mx args => match args with
    | [] => none
    | x :: r => match ev env x with
      | .val (.int k a) => match mmFold mx (r.map (ev env)) k a with
        | some (k, m) => some (.val (.int k m))
        | none => none
      | _ => none
  | _ => none

/-! ### Instructions that act -/

/-- The oracle of calls: lock, limit, function, arguments, heap. -/
abbrev Orc := Nat → Nat → FuncId → List AV → Heap → Option (AV × Heap)

/-- A block is written anew: not a locked one; into one below the limit only what holds no references; into one that lay before a drawn region only what refers to such. -/
def setH (lk lim base : Nat) (H : Heap) (b : Nat) (cs new : List AV) : Option Heap :=
  if lk ≤ b ∧ (lim ≤ b ∨ belowL 0 new = true) ∧ (base ≤ b ∨ belowL base new = true) then some (H.set b (.cells cs)) else none

def room : Nat := 140737488355328

def srcCells (H : Heap) (v : AV) : Option (Nat × List AV) :=
  match v with
  | .val (.string s) => some (s.size, s.data.toList.map fun b => .val (.int .u8 b.toNat))
  | v => match slCells H v with
    | some cs => some (slN v, cs)
    | none => none

def repl (n : Nat) (z : List AV) : List AV := (List.replicate n z).flatten

/-- Makes a block: the block, its value at index b. -/
def mkOp (op : AOp) (env : Env) (b : Nat) : Option (AV × List AV) :=
  match op with
  | .allocH z => some (.hp b z.length 0, z)
  | .boxH n x => match cellsV (ev env x) with
    | some cs => if cs.length = n then some (.hp b n 0, cs) else none
    | none => none
  | .buildH n es z parts => match fillP env parts z with
    | some cs => if cs.length = n * es then some (.hs b (n * es) 0 n es, cs) else none
    | none => none
  | .mks es bytes z l => match ev env l with
    | .val (.int .i64 n) => if 0 ≤ n ∧ n * bytes ≤ (room : Int) ∧ z.length = es then
        some (.hs b (n.toNat * es) 0 n.toNat es, repl n.toNat z)
      else none
    | _ => none
  | _ => none

/-- A store, an append: what acts on memory. -/
def exOp (lk lim base : Nat) (dst : Option Nat) (op : AOp) (env : Env) (H : Heap) : Option (Env × Heap) :=
  match op with
  | .st l n a x =>
    match cellsV (ev env x) with
    | some new => if new.length = n then
        match l, ev env a with
        | some t, .rp t' off => if t' = t then match find env t with
            | .box cs => if off + n ≤ cs.length ∧ dst = none then
                some (setAt env t (.box (replaceAt cs off new)), H)
              else none
            | _ => none
          else none
        | none, .hp b g off => match H[b]? with
          | some (.cells cs) => if cs.length = g ∧ off + n ≤ g ∧ 0 < n ∧ dst = none then
              match setH lk lim base H b (replaceAt cs off new) new with
              | some H' => some (env, H')
              | none => none
            else none
          | _ => none
        | _, _ => none
      else none
    | none => none
  | .app es bytes x y => match srcCells H (ev env y) with
    | some (m, new) => if new.length = m * es then
        match ev env x with
        | .e0 =>
          if m = 0 then (match put dst .e0 env with
            | some env' => some (env', H)
            | none => none)
          else if m * bytes ≤ room then
            match put dst (.hs H.length (m * es) 0 m es) env with
            | some env' => some (env', H ++ [.cells new])
            | none => none
          else none
        | .hs b g off n es' => match H[b]? with
          | some (.cells cs) =>
            if off = 0 ∧ cs.length = g ∧ n * es = g ∧ es' = es ∧ (n + m) * bytes ≤ room then
              match setH lk lim base H b (cs ++ new) new with
              | some H' => match put dst (.hs b (g + m * es) 0 (n + m) es) env with
                | some env' => some (env', H')
                | none => none
              | none => none
            else none
          | _ => none
        | _ => none
      else none
    | none => none
  | _ => none

/-- A call: the function, the arguments. -/
def clArgs (op : AOp) (env : Env) : Option (FuncId × List AV) :=
  match op with
  | .call f args => some (f, args.map (ev env))
  | .callv g args => match ev env g with
    | .fn f cap => some (f, args.map (ev env) ++ cap)
    | _ => none
  | _ => none

inductive Cls where
  | env | memL (t : Nat) | memH | call | make | actL (t : Nat) | actH
  deriving DecidableEq, Inhabited

/-- What an instruction looks at, what it does: the frame alone; a boxed local; memory; a call; it makes a block; it writes to a boxed local; it acts on memory. -/
def cls : AOp → Cls
  | .st (some t) .. => .actL t
  | .st none .. | .app .. => .actH
  | .allocH .. | .boxH .. | .buildH .. | .mks .. => .make
  | .call .. | .callv .. => .call
  | .ld1 (some t) _ | .ldA (some t) _ _ => .memL t
  | .ld1 none _ | .ldA none _ _ | .b2s .. => .memH
  | _ => .env

/-- What an instruction reads of the frame. -/
def oT : AO → List Nat
  | .tmp t => [t]
  | .con _ => []
def opnds : AOp → List AO
  | .mv x | .boxR _ x | .boxH _ x | .ld1 _ x | .ldA _ _ x | .nilc x | .not x | .negi x | .xori x | .cvi _ x | .b2s x | .s2b x | .mks _ _ _ x | .sl00 x | .fldA _ x | .fld _ _ _ x | .ext x _ | .len _ x => [x]
  | .pick x y z => [x, y, z]
  | .build _ l | .buildS _ _ l | .buildH _ _ _ l => l.map fun p => p.2.2
  | .st _ _ x y | .bini _ x y | .bins _ x y | .eqb _ x y | .eqp _ x y | .eqf _ x y | .eqa _ _ x y | .ixA _ x y | .ixR _ _ x y | .ixS x y | .ixG _ _ _ x y | .app _ _ x y => [x, y]
  | .mkf _ l | .call _ l | .mm _ l => l
  | .callv x l => x :: l
  | .slS x y z | .slC _ x y z => x :: (y.toList ++ z.toList)
  | .allocR _ | .allocH _ | .lenK _ | .bad => []
def locOf : AOp → Option Nat
  | .st l _ _ _ | .ld1 l _ | .ldA l _ _ => l
  | _ => none
def rds (i : AI) : List Nat := (opnds i.op).flatMap oT ++ (locOf i.op).toList ++ (i.grd.map (·.1)).toList

def okPair (a b : Cls) : Bool :=
  match a, b with
  | .actL t, .memL u | .memL t, .actL u | .actL t, .actL u => t != u
  | .actH, .env | .env, .actH | .actH, .memL _ | .memL _, .actH | .actH, .actL _ | .actL _, .actH => true
  | .actH, _ | _, .actH => false
  | _, _ => true

def conOk : AO → Bool
  | .con (.rp ..) => false
  | _ => true
/-- May two instructions change places? -/
def indep (i j : AI) : Bool :=
  (match i.dst with
   | some d => !(rds j).contains d && j.dst != some d
   | none => true) &&
  (match j.dst with
   | some d => !(rds i).contains d
   | none => true) && okPair (cls i.op) (cls j.op) && (cls i.op != .make || cls j.op != .make || i.at_ != j.at_) && (opnds i.op).all conOk && (opnds j.op).all conOk

def actOp (C : Orc) (lk lim : Nat) (dst : Option Nat) (op : AOp) (env : Env) (H : Heap) : Option (Env × Heap) :=
  match cls op with
  | .actL _ | .actH => exOp lk lim 0 dst op env H
  | .make => match mkOp op env H.length with
    | some (v, cs) => match put dst v env with
      | some env' => some (env', H ++ [.cells cs])
      | none => none
    | none => none
  | .call => match clArgs op env with
    | some (g, as) => if as.all argOk = true then
        match C lk lim g as H with
        | some (v, H') => match put dst v env with
          | some env' => some (env', H')
          | none => none
        | none => none
      else none
    | none => none
  | _ => match rdOp op env H with
    | some v => match put dst v env with
      | some env' => some (env', H)
      | none => none
    | none => none

def isRp : AV → Bool
  | .rp .. => true
  | _ => false
def rpOp : AOp → Bool
  | .mv _ | .pick .. | .nilc _ | .fldA .. | .ixR .. => true
  | _ => false

/-- The same in a drawn region: memory is read as far as it lay at the region's beginning (base); a block is made at a place set free for it; a call leaves what there is alone; one at the most makes blocks. -/
def actD (C : Orc) (lk lim base cb : Nat) (dst : Option Nat) (op : AOp) (k : Nat) (env : Env) (H : Heap) : Option (Env × Heap) :=
  match cls op with
  | .actL _ | .actH => exOp lk lim cb dst op env H
  | .make => match mkOp op env (base + k) with
    | some (v, cs) => match H[base + k]? with
      | some .hole => match put dst v env with
        | some env' => some (env', H.set (base + k) (.cells cs))
        | none => none
      | _ => none
    | none => none
  | .call => match clArgs op env with
    | some (g, as) => if as.all argOk = true ∧ belowL base as = true then
        match C base lim g as (H.take base) with
        | some (v, H') => if (H'.length ≤ base ∨ H.length = base) ∧ isRp v = false then match put dst v env with
            | some env' => some (env', H ++ H'.drop base)
            | none => none
          else none
        | none => none
      else none
    | none => none
  | _ => match rdOp op env (H.take base) with
    | some v => if isRp v = false ∨ rpOp op = true then match put dst v env with
        | some env' => some (env', H)
        | none => none
      else none
    | none => none

/-- A guard: may it be carried out? -/
def guardI (i : AI) (env : Env) : Option Bool :=
  match i.grd with
  | none => some true
  | some (t, want) => match find env t with
    | .val (.bool b) => some (b == want)
    | .und => some false
    | _ => none

def stepI (C : Orc) (lk lim : Nat) (i : AI) (env : Env) (H : Heap) : Option (Env × Heap) :=
  match guardI i env with
  | some true => actOp C lk lim i.dst i.op env H
  | some false => match put i.dst .und env with
    | some env' => some (env', H)
    | none => none
  | none => none

def stepD (C : Orc) (lk lim base cb : Nat) (i : AI) (env : Env) (H : Heap) : Option (Env × Heap) :=
  match guardI i env with
  | some true => actD C lk lim base cb i.dst i.op i.at_ env H
  | some false => match put i.dst .und env with
    | some env' => some (env', H)
    | none => none
  | none => none

def isCall (i : AI) : Bool := cls i.op == .call

def runOps (C : Orc) (lk lim : Nat) : List AI → Env → Heap → Option (Env × Heap)
  | [], env, H => some (env, H)
  | i :: r, env, H => match stepI C lk lim i env H with
    | some (env', H') => runOps C lk lim r env' H'
    | none => none

def runD (C : Orc) (lk lim base : Nat) : List AI → Env → Heap → Option (Env × Heap)
  | [], env, H => some (env, H)
  | i :: r, env, H => match stepD C lk lim base (if r.any isCall = true then base else 0) i env H with
    | some (env', H') => runD C lk lim base r env' H'
    | none => none

abbrev Out := Option (Ex × Env × Heap)

def iter (f : Env → Heap → Out) : Nat → Env → Heap → Out
  | 0, _, _ => none
  | n + 1, env, H => match f env H with
    | some (.nrm, env', H') => iter f n env' H'
    | r => r

def exec (C : Orc) (n lk lim : Nat) : AC → Env → Heap → Out
  | .skip, env, H => some (.nrm, env, H)
  | .regN keep ops, env, H => match runOps C lk lim ops (restrict keep env) H with
    | some (env', H') => some (.nrm, env', H')
    | none => none
  | .regD keep m ops, env, H => match runD C lk lim H.length ops (restrict keep env) (H ++ List.replicate m .hole) with
    | some (env', H') => some (.nrm, env', H')
    | none => none
  | .seq a b, env, H => match exec C n lk lim a env H with
    | some (.nrm, env', H') => exec C n lk lim b env' H'
    | r => r
  | .cond c a b, env, H => match ev env c with
    | .val (.bool t) => if t = true then exec C n lk lim a env H else exec C n lk lim b env H
    | _ => none
  | .block id b, env, H => match exec C n lk lim b env H with
    | some (.exit id', env', H') => if id' = id then some (.nrm, env', H') else some (.exit id', env', H')
    | r => r
  | .loop keep b, env, H => iter (fun env H => exec C n lk lim b (restrict keep env) H) n env H
  | .exit id, env, H => some (.exit id, env, H)
  | .ret, env, H => some (.ret, env, H)
  | .bad, _, _ => none

inductive ARes where
  | tmp (t : Nat)
  | cell (t n : Nat) (isAgg : Bool)
  deriving Inhabited

structure AFn where
  np : Nat
  body : AC
  res : List ARes
  trunc : Bool
  deriving Inhabited

def enterFrom : Nat → List AV → Env
  | _, [] => []
  | k, v :: r => (k, v) :: enterFrom (k + 1) r

def resOne (env : Env) (H : Heap) : ARes → Option AV
  | .tmp t => if argOk (find env t) = true then some (find env t) else none
  | .cell t n isAgg => match (match find env t with
      | .box cs => some (cs, 0)
      | v => ptrCells none env H v) with
    | some (cs, off) => if isAgg then (if off + n ≤ cs.length then some (.agg ((cs.drop off).take n)) else none) else cs[off]?
    | none => none
def resList (env : Env) (H : Heap) : List ARes → Option (List AV)
  | [] => some []
  | r :: rs => match resOne env H r with
    | some v => match resList env H rs with
      | some vs => some (v :: vs)
      | none => none
    | none => none
def resOf (env : Env) (H : Heap) (rs : List ARes) : Option AV :=
  match resList env H rs with
  | some [v] => some v
  | some vs => some (.tup vs)
  | none => none

def mapO (f : AV → Option AV) : List AV → Option (List AV)
  | [] => some []
  | v :: r => match f v with
    | some v' => match mapO f r with
      | some r' => some (v' :: r')
      | none => none
    | none => none

/-- What the call has made is frozen. -/
def frz (lim : Nat) (H : Heap) : Nat → AV → Option AV
  | 0, v => some v
  | d + 1, .hs b g off n es => if b < lim then some (.hs b g off n es) else
    match slCells H (.hs b g off n es) with
    | some cs => match mapO (frz lim H d) cs with
      | some cs' => if belowL 0 cs' = true then some (.sl n cs') else none
      | none => none
    | none => none
  | d + 1, .agg cs => match mapO (frz lim H d) cs with
    | some cs' => some (.agg cs')
    | none => none
  | d + 1, .tup cs => match mapO (frz lim H d) cs with
    | some cs' => some (.tup cs')
    | none => none
  | _ + 1, v => some v

def finish (fd : AFn) (H : Heap) : Out → Option (AV × Heap)
  | some (.exit _, _, _) => none
  | some (_, env', H') => match resOf env' H' fd.res with
    | some v => if fd.trunc then
        match frz H.length H' 8 v with
        | some v' => if below H.length v' = true then some (v', H'.take H.length) else none
        | none => none
      else some (v, H')
    | none => none
  | none => none

/-- 'X': calls whose contracts are proved elsewhere. -/
def callN (X : Orc) (A : FuncId → Option AFn) : Nat → Orc
  | 0, _, _, _, _, _ => none
  | n + 1, lk, lim, f, args, H => match X lk lim f args H with
    | some r => some r
    | none => match A f with
      | none => none
      | some fd => if args.length = fd.np then
          finish fd H (exec (callN X A n) n lk (if fd.trunc then H.length else lim) fd.body (enterFrom 0 args) H)
        else none

end Go.Hm
