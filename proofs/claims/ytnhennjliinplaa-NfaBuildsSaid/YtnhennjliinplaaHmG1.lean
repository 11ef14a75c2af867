/- The machine HM, part 1. -/
import GoSem.Claims
import Derived.Calls
import Derived.LoopN
import Derived.Still
import Derived.Below
import Derived.MapKept
set_option linter.all false
namespace Go.Hm
open Go

inductive AV where
 | val (v:Value)
 | e0
 | sl (n:Nat) (cells:List AV)
 | rop (cells:List AV) (off:Nat)
 | rp (t off:Nat)
 | hp (b g off:Nat)
 | hs (b g off n es:Nat)
 | mp (b:Nat)
 | fn (f:FuncId) (cap:List AV)
 | agg (cells:List AV)
 | tup (vs:List AV)
 | box (cells:List AV)
 | und
 | dead
 deriving Inhabited

inductive HB where
 | hole
 | cells (cs:List AV)
 | map (es:List (AV×AV))
 deriving Inhabited

abbrev Env:=List (Nat×AV)
abbrev Heap:=List HB

def find:Env→Nat→AV
 | [],_=>.dead
 | (t',v)::r,t=>if t'=t then v else find r t

def setAt:Env→Nat→AV→Env
 | [],_,_=>[]
 | (t',v')::r,t,v=>if t'=t then (t,v)::r else (t',v')::setAt r t v

def restrict (keep:List Nat)(env:Env):Env:=keep.map fun t=>(t,find env t)

def noRp (d:Nat):Env→Bool
 | []=>true
 | (_,.rp t _)::r=>if t=d then false else noRp d r
 | _::r=>noRp d r

def put (dst:Option Nat)(v:AV)(env:Env):Option Env:=
 match dst with
 | none=>some env
 | some d=>if noRp d env=true then some ((d,v)::env) else none

def cellsV:AV→Option (List AV)
 | .val v=>some [.val v]
 | .e0=>some [.e0]
 | .sl n cs=>some [.sl n cs]
 | .rop cs o=>some [.rop cs o]
 | .hp b g o=>some [.hp b g o]
 | .hs b g o n es=>some [.hs b g o n es]
 | .mp b=>some [.mp b]
 | .fn f c=>some [.fn f c]
 | .agg cs=>some cs
 | _=>none

def one:AV→Bool
 | .val _ | .e0 | .sl .. | .rop .. | .hp .. | .hs .. | .mp _ | .fn .. =>true
 | _=>false
def argOk:AV→Bool
 | .agg _=>true
 | v=>one v

mutual
def below (lim:Nat):AV→Bool
 | .hp b _ _=>Nat.blt b lim
 | .hs b _ _ _ _=>Nat.blt b lim
 | .mp b=>Nat.blt b lim
 | .fn _ cap=>belowL lim cap
 | .agg cs=>belowL lim cs
 | .tup vs=>belowL lim vs
 | .val _=>true
 | .e0=>true
 | .sl _ cs=>belowL lim cs
 | .rop cs _=>belowL lim cs
 | .rp _ _=>false
 | .box _=>false
 | .und=>false
 | .dead=>false
def belowL (lim:Nat):List AV→Bool
 | []=>true
 | v::r=>below lim v&&belowL lim r
end

inductive AO where
 | tmp (t:Nat)
 | con (v:AV)
 deriving Inhabited

def ev (env:Env):AO→AV
 | .con v=>v
 | .tmp t=>match find env t with
  | .box _=>.rp t 0
  | v=>v

inductive AOp where
 | mv (x:AO)
 | pick (c a b:AO)
 | allocR (z:List AV)
 | boxR (n:Nat) (x:AO)
 | allocH (z:List AV)
 | boxH (n:Nat) (x:AO)
 | build (z:List AV) (parts:List (Nat×Nat×AO))
 | buildS (n:Nat) (z:List AV) (parts:List (Nat×Nat×AO))
 | buildH (n es:Nat) (z:List AV) (parts:List (Nat×Nat×AO))
 | ld1 (l:Option Nat) (a:AO)
 | ldA (l:Option Nat) (n:Nat) (a:AO)
 | st (l:Option Nat) (n:Nat) (a x:AO)
 | nilc (x:AO)
 | bini (op:BinOp) (x y:AO)
 | bins (op:BinOp) (x y:AO)
 | eqb (neg:Bool) (x y:AO)
 | eqp (neg:Bool) (x y:AO)
 | eqf (neg:Bool) (x y:AO)
 | eqa (neg:Bool) (ks:List Nat) (x y:AO)
 | not (x:AO)
 | negi (x:AO)
 | xori (x:AO)
 | cvi (k:IntKind) (x:AO)
 | b2s (x:AO)
 | s2b (x:AO)
 | mkf (f:FuncId) (caps:List AO)
 | mks (es bytes:Nat) (z:List AV) (l:AO)
 | slS (x:AO) (lo hi:Option AO)
 | slC (es:Nat) (x:AO) (lo hi:Option AO)
 | sl00 (x:AO)
 | fldA (off:Nat) (x:AO)
 | fld (off n:Nat) (isAgg:Bool) (x:AO)
 | ixA (es:Nat) (x i:AO)
 | ixR (len es:Nat) (a i:AO)
 | ixS (x i:AO)
 | ixG (len es:Nat) (isAgg:Bool) (x i:AO)
 | ext (x:AO) (i:Nat)
 | len (str:Bool) (x:AO)
 | lenK (n:Nat)
 | call (f:FuncId) (args:List AO)
 | callv (f:AO) (args:List AO)
 | app (es bytes:Nat) (x y:AO)
 | mm (mx:Bool) (args:List AO)
 | mkm
 | mlk (ag:Bool) (ks:List Nat) (z:AV) (ok:Bool) (m k:AO)
 | mlen (m:AO)
 | mup (ag:Bool) (ks:List Nat) (m k v:AO)
 | bad
 deriving Inhabited

structure AI where
 dst:Option Nat
 grd:Option (Nat×Bool)
 op:AOp
 at_:Nat:=0
 fl:Bool:=false
 deriving Inhabited

inductive AC where
 | skip
 | regN (keep:List Nat) (ops:List AI)
 | regD (keep:List Nat) (m:Nat) (ops:List AI)
 | seq (a b:AC)
 | cond (c:AO) (a b:AC)
 | block (id:Nat) (b:AC)
 | loop (keep:List Nat) (b:AC)
 | rangeM (keep:List Nat) (pre:Nat→Nat→Nat→List (AV×AV)→Env→Heap→Bool) (x:AO) (tI tE:Nat) (body:AC)
 | rangeF (keep:List Nat) (it:FuncId→List AV→Heap→Option (List (List Value))) (g:AO) (ps:List Nat) (asg body:AC)
 | exit (id:Nat)
 | ret
 | bad
 | frz
 deriving Inhabited

inductive Ex where
 | nrm
 | exit (id:Nat)
 | ret
 deriving Inhabited,DecidableEq


def ptrCells (l:Option Nat)(env:Env)(H:Heap)(a:AV):Option (List AV×Nat):=
 match l with
 | some t=>match a with
  | .rp t' off=>if t'=t then match find env t with
    | .box cs=>some (cs,off)
    | _=>none
   else none
  | _=>none
 | none=>match a with
  | .rop cs off=>some (cs,off)
  | .hp b g off=>match H[b]? with
   | some (.cells cs)=>if cs.length=g then some (cs,off) else none
   | _=>none
  | _=>none

def slCells (H:Heap):AV→Option (List AV)
 | .e0=>some []
 | .sl _ cs=>some cs
 | .hs b g off n es=>match H[b]? with
  | some (.cells cs)=>if cs.length=g∧off+n*es≤g then some ((cs.drop off).take (n*es)) else none
  | _=>none
 | _=>none

def slN:AV→Nat
 | .sl n _=>n
 | .hs _ _ _ n _=>n
 | _=>0

def replaceAt (cs:List AV)(off:Nat)(new:List AV):List AV:=cs.take off++new++cs.drop (off+new.length)

def fillP (env:Env):List (Nat×Nat×AO)→List AV→Option (List AV)
 | [],z=>some z
 | (off,n,x)::r,z=>
  match cellsV (ev env x) with
  | some cs=>if cs.length=n∧off+n≤z.length then fillP env r (replaceAt z off cs) else none
  | none=>none

def abin (op:BinOp)(k:IntKind)(a:Int)(k':IntKind)(b:Int):Option AV:=
 match op with
 | .shl=>if b<0 then none else some (.val (.int k (k.wrap (a*2 ^ (min b.toNat k.bits)))))
 | .shr=>if b<0 then none else some (.val (.int k (a.fdiv (2 ^ (min b.toNat k.bits)))))
 | _=>
  if k=k' then
   match op with
   | .add=>some (.val (.int k (k.wrap (a+b))))
   | .sub=>some (.val (.int k (k.wrap (a-b))))
   | .mul=>some (.val (.int k (k.wrap (a*b))))
   | .quo=>if b=0 then none else some (.val (.int k (k.wrap (a.tdiv b))))
   | .rem=>if b=0 then none else some (.val (.int k (a.tmod b)))
   | .and=>some (.val (.int k (k.wrap (BitVec.ofInt k.bits a&&& BitVec.ofInt k.bits b).toNat)))
   | .or=>some (.val (.int k (k.wrap (BitVec.ofInt k.bits a||| BitVec.ofInt k.bits b).toNat)))
   | .xor=>some (.val (.int k (k.wrap (BitVec.ofInt k.bits a ^^^ BitVec.ofInt k.bits b).toNat)))
   | .andNot=>some (.val (.int k (k.wrap (BitVec.ofInt k.bits a&&& ~~~(BitVec.ofInt k.bits b)).toNat)))
   | .eql=>some (.val (.bool (a==b)))
   | .neq=>some (.val (.bool (a != b)))
   | .lss=>some (.val (.bool (a<b)))
   | .leq=>some (.val (.bool (a≤b)))
   | .gtr=>some (.val (.bool (a > b)))
   | .geq=>some (.val (.bool (a≥b)))
   | _=>none
  else none

def abins (op:BinOp)(x y:ByteArray):Option AV:=
 match op with
 | .add=>if ((x.size+y.size:Nat):Int) > IntKind.i64.max then none else some (.val (.string (x++y)))
 | .eql=>some (.val (.bool (x.toList==y.toList)))
 | .neq=>some (.val (.bool (!(x.toList==y.toList))))
 | .lss=>some (.val (.bool (Op.bytesLess x.toList y.toList)))
 | .leq=>some (.val (.bool (Op.bytesLess x.toList y.toList||x.toList==y.toList)))
 | .gtr=>some (.val (.bool (!(Op.bytesLess x.toList y.toList||x.toList==y.toList))))
 | .geq=>some (.val (.bool (!Op.bytesLess x.toList y.toList)))
 | _=>none

def eqScalar:Nat→Value→Value→Option Bool
 | 0,.bool a,.bool b=>some (a==b)
 | 1,.int k a,.int k' b=>if k=k' then some (a==b) else none
 | 2,.string a,.string b=>some (a.toList==b.toList)
 | _,_,_=>none
def eqCells:List Nat→List AV→List AV→Option Bool
 | [],[],[]=>some true
 | k::ks,.val a::r,.val b::s=>
  match eqScalar k a b with
  | some e=>match eqCells ks r s with
   | some e'=>some (e&&e')
   | none=>none
  | none=>none
 | _,_,_=>none

def eqKey (ag:Bool)(ks:List Nat)(x y:AV):Option Bool:=
 match x,y with
 | .val a,.val b=>match ag,ks with
  | false,[k]=>eqScalar k a b
  | _,_=>none
 | .agg a,.agg b=>if ag=true then eqCells ks a b else none
 | _,_=>none
def mget (ag:Bool)(ks:List Nat)(key:AV):List (AV×AV)→Option (Option AV)
 | []=>some none
 | (k,v)::r=>match eqKey ag ks key k with
  | some true=>some (some v)
  | some false=>mget ag ks key r
  | none=>none
def mset (ag:Bool)(ks:List Nat)(key v:AV):List (AV×AV)→Option (List (AV×AV))
 | []=>some [(key,v)]
 | (k,u)::r=>match eqKey ag ks key k with
  | some true=>some ((key,v)::r)
  | some false=>match mset ag ks key v r with
   | some r'=>some ((k,u)::r')
   | none=>none
  | none=>none
def keyOk (ag:Bool)(ks:List Nat)(key:AV):Bool:=eqKey ag ks key key==some true
def mapOf (H:Heap):AV→Option (List (AV×AV))
 | .val (.map none)=>some []
 | .mp b=>match H[b]? with
  | some (.map es)=>some es
  | _=>none
 | _=>none

def isPtr:AV→Bool
 | .rp .. | .hp .. | .rop .. =>true
 | _=>false
def isFn:AV→Bool
 | .fn .. =>true
 | _=>false
def eqPtr (a b:AV):Option Bool:=
 match a with
 | .val (.pointer none)=>match b with
  | .val (.pointer none)=>some true
  | b=>if isPtr b=true then some false else none
 | a=>match b with
  | .val (.pointer none)=>if isPtr a=true then some false else none
  | _=>none
def eqFn (a b:AV):Option Bool:=
 match a with
 | .val .nilFunc=>match b with
  | .val .nilFunc=>some true
  | b=>if isFn b=true then some false else none
 | a=>match b with
  | .val .nilFunc=>if isFn a=true then some false else none
  | _=>none

def bytesOf:List AV→Option (List UInt8)
 | []=>some []
 | .val (.int .u8 n)::r=>match bytesOf r with
  | some l=>some (UInt8.ofNat n.toNat::l)
  | none=>none
 | _=>none

def bnd (env:Env)(x:Option AO)(dflt y:Nat):Option Nat:=
 match x with
 | none=>some dflt
 | some o=>match ev env o with
  | .val (.int _ i)=>if 0≤i∧i≤y then some i.toNat else none
  | _=>none

def mmFold (mx:Bool):List AV→IntKind→Int→Option (IntKind×Int)
 | [],k,a=>some (k,a)
 | .val (.int _ b)::r,k,a=>mmFold mx r k (if mx then (if b > a then b else a) else (if b<a then b else a))
 | _,_,_=>none

def rdOp (op:AOp)(env:Env)(H:Heap):Option AV:=
 match op with
 | .mv x=>some (ev env x)
 | .pick c a b=>match ev env c with
  | .val (.bool t)=>some (if t then ev env a else ev env b)
  | _=>none
 | .allocR z=>some (.box z)
 | .boxR n x=>match cellsV (ev env x) with
  | some cs=>if cs.length=n then some (.box cs) else none
  | none=>none
 | .build z parts=>match fillP env parts z with
  | some cs=>some (.agg cs)
  | none=>none
 | .buildS n z parts=>match fillP env parts z with
  | some cs=>if n=0 then some .e0 else some (.sl n cs)
  | none=>none
 | .ld1 l a=>match ptrCells l env H (ev env a) with
  | some (cs,off)=>match cs[off]? with
   | some v=>if one v=true then some v else none
   | none=>none
  | none=>none
 | .ldA l n a=>match ptrCells l env H (ev env a) with
  | some (cs,off)=>if off+n≤cs.length then some (.agg ((cs.drop off).take n)) else none
  | none=>none
 | .nilc x=>match ev env x with
  | .rp t o=>some (.rp t o)
  | .hp b g o=>some (.hp b g o)
  | .rop cs o=>some (.rop cs o)
  | .fn f c=>some (.fn f c)
  | _=>none
 | .bini op x y=>match ev env x,ev env y with
  | .val (.int k a),.val (.int k' b)=>abin op k a k' b
  | _,_=>none
 | .bins op x y=>match ev env x,ev env y with
  | .val (.string a),.val (.string b)=>abins op a b
  | _,_=>none
 | .eqb neg x y=>match ev env x,ev env y with
  | .val (.bool a),.val (.bool b)=>some (.val (.bool (if neg then !(a==b) else a==b)))
  | _,_=>none
 | .eqp neg x y=>match eqPtr (ev env x) (ev env y) with
  | some e=>some (.val (.bool (if neg then !e else e)))
  | none=>none
 | .eqf neg x y=>match eqFn (ev env x) (ev env y) with
  | some e=>some (.val (.bool (if neg then !e else e)))
  | none=>none
 | .eqa neg ks x y=>match ev env x,ev env y with
  | .agg a,.agg b=>match eqCells ks a b with
   | some e=>some (.val (.bool (if neg then !e else e)))
   | none=>none
  | _,_=>none
 | .not x=>match ev env x with
  | .val (.bool b)=>some (.val (.bool (!b)))
  | _=>none
 | .negi x=>match ev env x with
  | .val (.int k n)=>some (.val (.int k (k.wrap (0-n))))
  | _=>none
 | .xori x=>match ev env x with
  | .val (.int k n)=>some (.val (.int k (k.wrap (BitVec.ofInt k.bits (if k.signed then -1 else k.max) ^^^ BitVec.ofInt k.bits n).toNat)))
  | _=>none
 | .cvi k x=>match ev env x with
  | .val (.int _ n)=>some (.val (.int k (k.wrap n)))
  | _=>none
 | .b2s x=>match slCells H (ev env x) with
  | some cs=>if cs.length=slN (ev env x) then match bytesOf cs with
    | some l=>some (.val (.string ⟨l.toArray⟩))
    | none=>none
   else none
  | none=>none
 | .s2b x=>match ev env x with
  | .val (.string s)=>some (.sl s.size (s.data.toList.map fun b=>.val (.int .u8 b.toNat)))
  | _=>none
 | .mkf f caps=>if (caps.map (ev env)).all one=true then some (.fn f (caps.map (ev env))) else none
 | .slS x lo hi=>match ev env x with
  | .val (.string s)=>match bnd env hi s.size s.size with
   | some h=>match bnd env lo 0 h with
    | some l=>some (.val (.string (s.extract l h)))
    | none=>none
   | none=>none
  | _=>none
 | .slC es x lo hi=>match ev env x with
  | .e0=>match bnd env hi 0 0 with
   | some h=>match bnd env lo 0 h with
    | some _=>some .e0
    | none=>none
   | none=>none
  | .sl n cs=>match bnd env hi n n with
   | some h=>match bnd env lo 0 h with
    | some l=>some (.sl (h-l) ((cs.drop (l*es)).take ((h-l)*es)))
    | none=>none
   | none=>none
  | .hs b g off n es'=>if es'=es then match bnd env hi n n with
   | some h=>match bnd env lo 0 h with
    | some l=>some (.hs b g (off+l*es) (h-l) es)
    | none=>none
   | none=>none
   else none
  | _=>none
 | .sl00 x=>match ev env x with
  | .e0=>some .e0
  | .sl .. =>some .e0
  | .hs .. =>some .e0
  | _=>none
 | .fldA off x=>match ev env x with
  | .rp t o=>some (.rp t (o+off))
  | .hp b g o=>some (.hp b g (o+off))
  | .rop cs o=>some (.rop cs (o+off))
  | _=>none
 | .fld off n isAgg x=>match ev env x with
  | .agg cs=>if isAgg then (if off+n≤cs.length then some (.agg ((cs.drop off).take n)) else none) else cs[off]?
  | _=>none
 | .ixA es x i=>match ev env i with
  | .val (.int _ i)=>match ev env x with
   | .sl n cs=>if 0≤i∧i<n then some (.rop cs (i.toNat*es)) else none
   | .hs b g off n _=>if 0≤i∧i<n then some (.hp b g (off+i.toNat*es)) else none
   | _=>none
  | _=>none
 | .ixR len es a i=>match ev env i with
  | .val (.int _ i)=>if 0≤i∧i<len then
    match ev env a with
    | .rp t o=>some (.rp t (o+i.toNat*es))
    | .hp b g o=>some (.hp b g (o+i.toNat*es))
    | .rop cs o=>some (.rop cs (o+i.toNat*es))
    | _=>none
   else none
  | _=>none
 | .ixS x i=>match ev env i with
  | .val (.int _ i)=>match ev env x with
   | .val (.string s)=>if 0≤i then match s[i.toNat]? with
     | some b=>some (.val (.int .u8 b.toNat))
     | none=>none
    else none
   | _=>none
  | _=>none
 | .ixG len es isAgg x i=>match ev env i with
  | .val (.int _ i)=>match ev env x with
   | .agg cs=>if 0≤i∧i<len then
     (if isAgg then (if i.toNat*es+es≤cs.length then some (.agg ((cs.drop (i.toNat*es)).take es)) else none) else cs[i.toNat*es]?)
    else none
   | _=>none
  | _=>none
 | .ext x i=>match ev env x with
  | .tup vs=>vs[i]?
  | _=>none
 | .len true x=>match ev env x with
  | .val (.string s)=>some (.val (.int .i64 s.size))
  | _=>none
 | .len false x=>match ev env x with
  | .e0=>some (.val (.int .i64 0))
  | .sl n _=>some (.val (.int .i64 n))
  | .hs _ _ _ n _=>some (.val (.int .i64 n))
  | _=>none
 | .lenK n=>some (.val (.int .i64 n))
 | .mm mx args=>match args with
  | []=>none
  | x::r=>match ev env x with
   | .val (.int k a)=>match mmFold mx (r.map (ev env)) k a with
    | some (k,m)=>some (.val (.int k m))
    | none=>none
   | _=>none
 | .mlk ag ks z ok m k=>match mapOf H (ev env m) with
  | some es=>if keyOk ag ks (ev env k)=true then match mget ag ks (ev env k) es with
    | some (some v)=>some (if ok then .tup [v,.val (.bool true)] else v)
    | some none=>some (if ok then .tup [z,.val (.bool false)] else z)
    | none=>none
   else none
  | none=>none
 | .mlen m=>match mapOf H (ev env m) with
  | some es=>some (.val (.int .i64 es.length))
  | none=>none
 | _=>none


abbrev Orc:=Nat→Nat→FuncId→List AV→Heap→Option (AV×Heap)

def setH (lk lim base:Nat)(H:Heap)(b:Nat)(cs new:List AV):Option Heap:=
 if lk≤b∧(lim≤b∨belowL 0 new=true)∧(base≤b∨belowL base new=true) then some (H.set b (.cells cs)) else none

def room:Nat:=140737488355328

def srcCells (H:Heap)(v:AV):Option (Nat×List AV):=
 match v with
 | .val (.string s)=>some (s.size,s.data.toList.map fun b=>.val (.int .u8 b.toNat))
 | v=>match slCells H v with
  | some cs=>some (slN v,cs)
  | none=>none

def repl (n:Nat)(z:List AV):List AV:=(List.replicate n z).flatten

def mkOp (op:AOp)(env:Env)(b:Nat):Option (AV×HB):=
 match op with
 | .allocH z=>some (.hp b z.length 0,.cells z)
 | .mkm=>some (.mp b,.map [])
 | .boxH n x=>match cellsV (ev env x) with
  | some cs=>if cs.length=n then some (.hp b n 0,.cells cs) else none
  | none=>none
 | .buildH n es z parts=>match fillP env parts z with
  | some cs=>if cs.length=n*es then some (.hs b (n*es) 0 n es,.cells cs) else none
  | none=>none
 | .mks es bytes z l=>match ev env l with
  | .val (.int .i64 n)=>if 0≤n∧n*bytes≤(room:Int)∧z.length=es then
    some (.hs b (n.toNat*es) 0 n.toNat es,.cells (repl n.toNat z))
   else none
  | _=>none
 | _=>none

def appC (e g:Nat)(cs new:List AV):List AV:=if e=g then cs++new else replaceAt cs e new
def appG (e g k:Nat):Nat:=if e=g then g+k else g

def exOp (lk lim base:Nat)(dst:Option Nat)(op:AOp)(env:Env)(H:Heap):Option (Env×Heap):=
 match op with
 | .st l n a x=>
  match cellsV (ev env x) with
  | some new=>if new.length=n then
    match l,ev env a with
    | some t,.rp t' off=>if t'=t then match find env t with
      | .box cs=>if off+n≤cs.length∧dst=none then
        some (setAt env t (.box (replaceAt cs off new)),H)
       else none
      | _=>none
     else none
    | none,.hp b g off=>match H[b]? with
     | some (.cells cs)=>if cs.length=g∧off+n≤g∧0<n∧dst=none then
       match setH lk lim base H b (replaceAt cs off new) new with
       | some H'=>some (env,H')
       | none=>none
      else none
     | _=>none
    | _,_=>none
   else none
  | none=>none
 | .app es bytes x y=>match srcCells H (ev env y) with
  | some (m,new)=>if new.length=m*es then
    match ev env x with
    | .e0=>
     if m=0 then (match put dst .e0 env with
      | some env'=>some (env',H)
      | none=>none)
     else if m*bytes≤room then
      match put dst (.hs H.length (m*es) 0 m es) env with
      | some env'=>some (env',H++[.cells new])
      | none=>none
     else none
    | .hs b g off n es'=>match H[b]? with
     | some (.cells cs)=>
      if cs.length=g∧es'=es∧(off+n*es=g∨off+n*es+m*es≤g)∧(n+m)*bytes≤room then
       match setH lk lim base H b (appC (off+n*es) g cs new) new with
       | some H'=>match put dst (.hs b (appG (off+n*es) g (m*es)) off (n+m) es) env with
        | some env'=>some (env',H')
        | none=>none
       | none=>none
      else none
     | _=>none
    | _=>none
   else none
  | none=>none
 | .mup ag ks m k v=>match ev env m with
  | .mp b=>match H[b]? with
   | some (.map es)=>
    if lk≤b∧dst=none∧keyOk ag ks (ev env k)=true∧argOk (ev env v)=true∧Hm.below 0 (ev env v)=true then
     match mset ag ks (ev env k) (ev env v) es with
     | some es'=>some (env,H.set b (.map es'))
     | none=>none
    else none
   | _=>none
  | _=>none
 | _=>none

def clArgs (op:AOp)(env:Env):Option (FuncId×List AV):=
 match op with
 | .call f args=>some (f,args.map (ev env))
 | .callv g args=>match ev env g with
  | .fn f cap=>some (f,args.map (ev env)++cap)
  | _=>none
 | _=>none

inductive Cls where
 | env | memL (t:Nat) | memH | call | make | actL (t:Nat) | actH | callF
 deriving DecidableEq,Inhabited

def cls:AOp→Cls
 | .st (some t) .. =>.actL t
 | .st none .. | .app .. | .mup .. =>.actH
 | .allocH .. | .boxH .. | .buildH .. | .mks .. | .mkm=>.make
 | .call .. | .callv .. =>.call
 | .ld1 (some t) _ | .ldA (some t) _ _=>.memL t
 | .ld1 none _ | .ldA none _ _ | .b2s .. | .mlk .. | .mlen .. =>.memH
 | _=>.env

def oT:AO→List Nat
 | .tmp t=>[t]
 | .con _=>[]
def opnds:AOp→List AO
 | .mv x | .boxR _ x | .boxH _ x | .ld1 _ x | .ldA _ _ x | .nilc x | .not x | .negi x | .xori x | .cvi _ x | .b2s x | .s2b x | .mks _ _ _ x | .sl00 x | .fldA _ x | .fld _ _ _ x | .ext x _ | .len _ x | .mlen x=>[x]
 | .pick x y z=>[x,y,z]
 | .build _ l | .buildS _ _ l | .buildH _ _ _ l=>l.map fun p=>p.2.2
 | .st _ _ x y | .bini _ x y | .bins _ x y | .eqb _ x y | .eqp _ x y | .eqf _ x y | .eqa _ _ x y | .ixA _ x y | .ixR _ _ x y | .ixS x y | .ixG _ _ _ x y | .app _ _ x y | .mlk _ _ _ _ x y=>[x,y]
 | .mup _ _ x y z=>[x,y,z]
 | .mkf _ l | .call _ l | .mm _ l=>l
 | .callv x l=>x::l
 | .slS x y z | .slC _ x y z=>x::(y.toList++z.toList)
 | .allocR _ | .allocH _ | .lenK _ | .mkm | .bad=>[]
def locOf:AOp→Option Nat
 | .st l _ _ _ | .ld1 l _ | .ldA l _ _=>l
 | _=>none
def rds (i:AI):List Nat:=(opnds i.op).flatMap oT++(locOf i.op).toList++(i.grd.map (·.1)).toList

def isFree (i:AI):Bool:=i.fl&&cls i.op==.call
def isRow (i:AI):Bool:=i.fl&&cls i.op==.memH
def cls2 (i:AI):Cls:=if isFree i=true then .callF else if isRow i=true then .env else cls i.op

def okPair (a b:Cls):Bool:=
 match a,b with
 | .callF,.env | .env,.callF | .callF,.memL _ | .memL _,.callF | .callF,.actL _ | .actL _,.callF=>true
 | .callF,_ | _,.callF=>false
 | .actL t,.memL u | .memL t,.actL u | .actL t,.actL u=>t != u
 | .actH,.env | .env,.actH | .actH,.memL _ | .memL _,.actH | .actH,.actL _ | .actL _,.actH | .actH,.memH | .memH,.actH=>true
 | .actH,_ | _,.actH=>false
 | _,_=>true

def conOk:AO→Bool
 | .con (.rp ..)=>false
 | _=>true
def isMup:AOp→Bool
 | .mup .. =>true
 | _=>false
def isMk:AOp→Bool
 | .allocH .. | .boxH .. | .buildH .. | .mks .. =>true
 | _=>false
def isSa:AOp→Bool
 | .st none .. | .app .. =>true
 | _=>false
def isMm:AOp→Bool
 | .mkm=>true
 | _=>false
def mmPair (i j:AI):Bool:=(isMup i.op&&isMk j.op)||(isSa i.op&&isMm j.op)
def indep (i j:AI):Bool:=
 (match i.dst with
  | some d=>!(rds j).contains d&&j.dst != some d
  | none=>true)&&
 (match j.dst with
  | some d=>!(rds i).contains d
  | none=>true)&&(okPair (cls2 i) (cls2 j)||mmPair i j||mmPair j i)&&(cls2 i != .make||cls2 j != .make||i.at_ != j.at_)&&(cls2 i != .actH||cls2 j != .memH||i.fl)&&(cls2 i != .memH||cls2 j != .actH||j.fl)&&(opnds i.op).all conOk&&(opnds j.op).all conOk

def actOp (C:Orc)(lk lim:Nat)(dst:Option Nat)(op:AOp)(env:Env)(H:Heap):Option (Env×Heap):=
 match cls op with
 | .actL _ | .actH=>exOp lk lim 0 dst op env H
 | .make=>match mkOp op env H.length with
  | some (v,x)=>match put dst v env with
   | some env'=>some (env',H++[x])
   | none=>none
  | none=>none
 | .call=>match clArgs op env with
  | some (g,as)=>if as.all argOk=true then
    match C lk lim g as H with
    | some (v,H')=>match put dst v env with
     | some env'=>some (env',H')
     | none=>none
    | none=>none
   else none
  | none=>none
 | _=>match rdOp op env H with
  | some v=>match put dst v env with
   | some env'=>some (env',H)
   | none=>none
  | none=>none

def isRp:AV→Bool
 | .rp .. =>true
 | _=>false
def rpOp:AOp→Bool
 | .mv _ | .pick .. | .nilc _ | .fldA .. | .ixR .. =>true
 | _=>false

def actD (C:Orc)(lk lim base cb:Nat)(dst:Option Nat)(op:AOp)(k:Nat)(env:Env)(H:Heap):Option (Env×Heap):=
 match cls op with
 | .actL _ | .actH=>exOp lk lim cb dst op env H
 | .make=>match mkOp op env (base+k) with
  | some (v,x)=>match H[base+k]? with
   | some .hole=>match put dst v env with
    | some env'=>some (env',H.set (base+k) x)
    | none=>none
   | _=>none
  | none=>none
 | .call=>match clArgs op env with
  | some (g,as)=>if as.all argOk=true∧belowL base as=true then
    match C base lim g as (H.take base) with
    | some (v,H')=>if (H'.length≤base∨H.length=base)∧isRp v=false then match put dst v env with
      | some env'=>some (env',H++H'.drop base)
      | none=>none
     else none
    | none=>none
   else none
  | none=>none
 | _=>match rdOp op env (H.take base) with
  | some v=>if isRp v=false∨rpOp op=true then match put dst v env with
    | some env'=>some (env',H)
    | none=>none
   else none
  | none=>none

def rdTgt (op:AOp)(env:Env):Option Nat:=
 match op with
 | .ld1 none a | .ldA none _ a=>match ev env a with
  | .hp b _ _=>some b
  | _=>none
 | .b2s x=>match ev env x with
  | .hs b _ _ _ _=>some b
  | _=>none
 | .mlk _ _ _ _ m _ | .mlen m=>match ev env m with
  | .mp b=>some b
  | _=>none
 | _=>none
def wrTgt (op:AOp)(env:Env):Option Nat:=
 match op with
 | .st none _ a _=>match ev env a with
  | .hp b _ _=>some b
  | _=>none
 | .app _ _ x _=>match ev env x with
  | .hs b _ _ _ _=>some b
  | _=>none
 | .mup _ _ m _ _=>match ev env m with
  | .mp b=>some b
  | _=>none
 | _=>none

def actF (C:Orc)(lk lim:Nat)(dst:Option Nat)(op:AOp)(env:Env)(H:Heap):Option (Env×Heap):=
 match clArgs op env with
 | some (g,as)=>if as.all argOk=true then
   match C lk lim g as H with
   | some (v,H')=>if isRp v=false then match put dst v env with
     | some env'=>some (env',H')
     | none=>none
    else none
   | none=>none
  else none
 | none=>none

abbrev WS:=Nat→Bool

def okT (ws:WS)(i:AI)(env:Env):Bool:=
 (match wrTgt i.op env with
  | some b=>!i.fl||ws b
  | none=>true)&&
 (match rdTgt i.op env with
  | some b=>!ws b
  | none=>true)&&(!isRow i||(rdTgt i.op env).isNone)

def guardI (i:AI)(env:Env):Option Bool:=
 match i.grd with
 | none=>some true
 | some (t,want)=>match find env t with
  | .val (.bool b)=>some (b==want)
  | .und=>some false
  | _=>none

def stepI (C:Orc)(lk lim:Nat)(i:AI)(env:Env)(H:Heap):Option (Env×Heap):=
 match guardI i env with
 | some true=>actOp C lk lim i.dst i.op env H
 | some false=>match put i.dst .und env with
  | some env'=>some (env',H)
  | none=>none
 | none=>none

def stepD (C:Orc)(lk lim:Nat)(ws:WS)(base cb:Nat)(i:AI)(env:Env)(H:Heap):Option (Env×Heap):=
 match guardI i env with
 | some true=>if okT ws i env=true then (if isFree i=true then actF C lk lim i.dst i.op env H else actD C lk lim base cb i.dst i.op i.at_ env H) else none
 | some false=>match put i.dst .und env with
  | some env'=>some (env',H)
  | none=>none
 | none=>none

def isCall (i:AI):Bool:=cls2 i==.call

def runOps (C:Orc)(lk lim:Nat):List AI→Env→Heap→Option (Env×Heap)
 | [],env,H=>some (env,H)
 | i::r,env,H=>match stepI C lk lim i env H with
  | some (env',H')=>runOps C lk lim r env' H'
  | none=>none

def runD (C:Orc)(lk lim:Nat)(ws:WS)(base:Nat):List AI→Env→Heap→Option (Env×Heap)
 | [],env,H=>some (env,H)
 | i::r,env,H=>match stepD C lk lim ws base (if r.any isCall=true then base else 0) i env H with
  | some (env',H')=>runD C lk lim ws base r env' H'
  | none=>none

def collW (lk lim base:Nat):List AI→Env→Heap→List Nat
 | [],_,_=>[]
 | i::r,env,H=>match stepD (fun _ _ _ _ _=>none) lk lim (fun _=>false) base 0 { i with fl:=false } env H with
  | some (env',H')=>(match guardI i env with
   | some true=>if i.fl=true then (wrTgt i.op env).toList else []
   | _=>[])++collW lk lim base r env' H'
  | none=>[]
def wsSel (lk lim base:Nat)(ops:List AI)(env:Env)(H:Heap):WS:=
 if ops.any (·.fl)=true then fun b=>(collW lk lim base ops env H).contains b else fun _=>false

abbrev Out:=Option (Ex×Env×Heap)

def iter (f:Env→Heap→Out):Nat→Env→Heap→Out
 | 0,_,_=>none
 | n+1,env,H=>match f env H with
  | some (.nrm,env',H')=>iter f n env' H'
  | r=>r

def noBx:Env→Bool
 | []=>true
 | (_,.box _)::_=>false
 | (_,.rp ..)::_=>false
 | _::r=>noBx r
def putP:List Nat→List Value→Env→Option Env
 | [],[],env=>some env
 | p::ps,v::vs,env=>putP ps vs ((p,.val v)::env)
 | _,_,_=>none
def round1 (f g:Env→Heap→Out)(ps:List Nat)(env:Env)(x:List Value)(H:Heap):Out:=
 match putP ps x env with
 | some e=>match f e H with
  | some (.nrm,e1,H1)=>if noBx e1=true then g e1 H1 else none
  | _=>none
 | none=>none
def rangeN (f g:Env→Heap→Out)(ps:List Nat)(env:Env):List (List Value)→Heap→Out
 | [],H=>some (.nrm,env,H)
 | x::r,H=>match round1 f g ps env x H with
  | some (.nrm,_,H')=>rangeN f g ps env r H'
  | some (ex,_,H')=>some (ex,env,H')
  | none=>none
def itemsOf (it:FuncId→List AV→Heap→Option (List (List Value)))(g:AO)(ps:List Nat)(env:Env)(H:Heap):Option (List (List Value)):=
 if noBx env=true then match ev env g with
  | .fn f cap=>match it f cap H with
   | some l=>if l.all (fun x=>x.length==ps.length)=true then some l else none
   | none=>none
  | _=>none
 else none

def ikOk:List (AV×AV)→Bool
 | []=>true
 | (k,v)::r=>(match k with
  | .val (.int .i64 n)=>r.all fun p=>match p.1 with
   | .val (.int .i64 m)=>!(n==m)
   | _=>false
  | _=>false)&&ikOk r
def unitVs (es:List (AV×AV)):Bool:=es.all fun p=>match p.2 with
 | .agg []=>true
 | _=>false
def okM (H:Heap)(b n L:Nat):Bool:=(match H[b]? with
 | some (.map es)=>es.length==n&&unitVs es
 | _=>false)&&(match H[L]? with
 | some (.cells [])=>true
 | _=>false)
noncomputable def sameE (a b:Env):Bool:=@decide (a=b) (Classical.propDecidable _)
noncomputable def roundsM (f:Env→Heap→Out)(keep:List Nat)(tE:Nat)(env:Env)(b n L:Nat):List (AV×AV)→Heap→Option Heap
 | [],H=>some H
 | (k,v)::r,H=>match f ((tE,.tup [k,v])::env) H with
  | some (.nrm,e,H')=>if sameE (restrict keep e) env=true∧okM H' b n L=true then roundsM f keep tE env b n L r H' else none
  | _=>none
def rangeOf (pre:Nat→List (AV×AV)→Env→Heap→Bool)(v:AV)(env:Env)(H:Heap):Option (Nat×List (AV×AV)):=
 match v with
 | .mp b=>match H[b]? with
  | some (.map es)=>if noBx env=true∧ikOk es=true∧unitVs es=true∧pre b es env H=true then some (b,es) else none
  | _=>none
 | _=>none

def mapO (f:AV→Option AV):List AV→Option (List AV)
 | []=>some []
 | v::r=>match f v with
  | some v'=>match mapO f r with
   | some r'=>some (v'::r')
   | none=>none
  | none=>none

def frz (lim:Nat)(H:Heap):Nat→AV→Option AV
 | 0,v=>some v
 | d+1,.hs b g off n es=>if b<lim then some (.hs b g off n es) else
  match slCells H (.hs b g off n es) with
  | some cs=>match mapO (frz lim H d) cs with
   | some cs'=>if belowL lim cs'=true then some (.sl n cs') else none
   | none=>none
  | none=>none
 | d+1,.hp b g off=>if b<lim then some (.hp b g off) else
  match H[b]? with
  | some (.cells cs)=>if cs.length=g∧off<g then match mapO (frz lim H d) (cs.drop off) with
   | some cs'=>if belowL lim cs'=true then some (.rop cs' 0) else none
   | none=>none
   else none
  | _=>none
 | d+1,.fn f caps=>match mapO (frz lim H d) caps with
  | some cs'=>some (.fn f cs')
  | none=>none
 | d+1,.agg cs=>match mapO (frz lim H d) cs with
  | some cs'=>some (.agg cs')
  | none=>none
 | d+1,.tup cs=>match mapO (frz lim H d) cs with
  | some cs'=>some (.tup cs')
  | none=>none
 | _+1,v=>some v

def zro:Nat→AV→AV
 | 0,v=>v
 | _+1,.e0=>.sl 0 []
 | d+1,.sl n cs=>.sl n (cs.map (zro d))
 | d+1,.agg cs=>.agg (cs.map (zro d))
 | _+1,v=>v
def zroT (v:AV):AV:=
 match v with
 | .e0=>.e0
 | v=>zro 4 v
def frzV (lim:Nat)(H:Heap)(v:AV):AV:=
 match v with
 | .box cs=>match mapO (frz lim H 8) cs with
  | some cs'=>if belowL lim cs'=true then .box (cs'.map (zro 4)) else .dead
  | none=>.dead
 | v=>match frz lim H 8 v with
  | some v'=>if Hm.below lim v'=true then zroT v' else .dead
  | none=>.dead
def frzE (lim:Nat)(H:Heap):Env→Env
 | []=>[]
 | (t,v)::r=>(t,frzV lim H v)::frzE lim H r
def cutH (lim:Nat)(H:Heap):Heap:=H.take lim++List.replicate (H.length-lim) .hole
def frzC (lk lim:Nat)(env:Env)(H:Heap):Option (Env×Heap):=if lk≤lim∧lim≤H.length then some (frzE lim H env,cutH lim H) else none

noncomputable def exec (C:Orc)(n lk lim:Nat):AC→Env→Heap→Out
 | .skip,env,H=>some (.nrm,env,H)
 | .regN keep ops,env,H=>match runOps C lk lim ops (restrict keep env) H with
  | some (env',H')=>some (.nrm,env',H')
  | none=>none
 | .regD keep m ops,env,H=>match runD C lk lim (wsSel lk lim H.length ops (restrict keep env) (H++List.replicate m .hole)) H.length ops (restrict keep env) (H++List.replicate m .hole) with
  | some (env',H')=>some (.nrm,env',H')
  | none=>none
 | .seq a b,env,H=>match exec C n lk lim a env H with
  | some (.nrm,env',H')=>exec C n lk lim b env' H'
  | r=>r
 | .cond c a b,env,H=>match ev env c with
  | .val (.bool t)=>if t=true then exec C n lk lim a env H else exec C n lk lim b env H
  | _=>none
 | .block id b,env,H=>match exec C n lk lim b env H with
  | some (.exit id',env',H')=>if id'=id then some (.nrm,env',H') else some (.exit id',env',H')
  | r=>r
 | .loop keep b,env,H=>iter (fun env H=>exec C n lk lim b (restrict keep env) H) n env H
 | .rangeM keep pre x tI tE body,env,H=>match rangeOf (pre lk lim) (ev env x) (restrict keep env) H with
  | some (b,es)=>match roundsM (fun e H=>exec C n lk lim body e H) (tI::keep) tE ((tI,.hp H.length 0 0)::restrict keep env) b es.length H.length es (H++[.cells []]) with
   | some H'=>some (.nrm,restrict keep env,H')
   | none=>none
  | none=>none
 | .rangeF keep it g ps asg body,env,H=>match itemsOf it g ps (restrict keep env) H with
  | some items=>rangeN (fun e H=>exec C n lk lim asg e H) (fun e H=>exec C n lk lim body e H) ps (restrict keep env) items H
  | none=>none
 | .exit id,env,H=>some (.exit id,env,H)
 | .ret,env,H=>some (.ret,env,H)
 | .bad,_,_=>none
 | .frz,env,H=>match frzC lk lim env H with
  | some (e,h)=>some (.nrm,e,h)
  | none=>none

inductive ARes where
 | tmp (t:Nat)
 | cell (t n:Nat) (isAgg:Bool)
 deriving Inhabited

structure AFn where
 np:Nat
 body:AC
 res:List ARes
 trunc:Bool
 deriving Inhabited

def enterFrom:Nat→List AV→Env
 | _,[]=>[]
 | k,v::r=>(k,v)::enterFrom (k+1) r

def resOne (env:Env)(H:Heap):ARes→Option AV
 | .tmp t=>if argOk (find env t)=true then some (find env t) else none
 | .cell t n isAgg=>match (match find env t with
   | .box cs=>some (cs,0)
   | v=>ptrCells none env H v) with
  | some (cs,off)=>if isAgg then (if off+n≤cs.length then some (.agg ((cs.drop off).take n)) else none) else cs[off]?
  | none=>none
def resList (env:Env)(H:Heap):List ARes→Option (List AV)
 | []=>some []
 | r::rs=>match resOne env H r with
  | some v=>match resList env H rs with
   | some vs=>some (v::vs)
   | none=>none
  | none=>none
def resOf (env:Env)(H:Heap)(rs:List ARes):Option AV:=
 match resList env H rs with
 | some [v]=>some v
 | some vs=>some (.tup vs)
 | none=>none

def finish (fd:AFn)(H:Heap):Out→Option (AV×Heap)
 | some (.exit _,_,_)=>none
 | some (_,env',H')=>match resOf env' H' fd.res with
  | some v=>if fd.trunc then
    match frz H.length H' 8 v with
    | some v'=>if below H.length v'=true then some (v',H'.take H.length) else none
    | none=>none
   else some (v,H')
  | none=>none
 | none=>none

noncomputable def callN (X:Orc)(A:FuncId→Option AFn):Nat→Orc
 | 0,lk,lim,f,args,H=>X lk lim f args H
 | n+1,lk,lim,f,args,H=>match X lk lim f args H with
  | some r=>some r
  | none=>match A f with
   | none=>none
   | some fd=>if args.length=fd.np then
     finish fd H (exec (callN X A n) n lk (if fd.trunc then H.length else lim) fd.body (enterFrom 0 args) H)
    else none

end Go.Hm

namespace Go.Hm
open Go

def of1:Value→Option AV
 | .slice none 0 0=>some .e0
 | .bool b=>some (.val (.bool b))
 | .int k n=>some (.val (.int k n))
 | .string s=>some (.val (.string s))
 | .pointer none=>some (.val (.pointer none))
 | .map none=>some (.val (.map none))
 | .nilFunc=>some (.val .nilFunc)
 | _=>none

def of1s:List Value→Option (List AV)
 | []=>some []
 | v::r=>match of1 v with
  | some a=>match of1s r with
   | some l=>some (a::l)
   | none=>none
  | none=>none

def ofVal:Value→AV
 | .agg cs=>match of1s cs.toList with
  | some l=>.agg l
  | none=>.dead
 | v=>(of1 v).getD .dead

def cO:Operand→AO
 | .tmp t=>.tmp t
 | .const v=>.con (ofVal v)
 | .func f=>.con (if f<1000 then .fn f [] else .dead)
 | .global _=>.con .dead

section
variable (P:Program)

def szOf (t:TypeId):Option Nat:=(P.info? t).map (·.size)
def byOf (t:TypeId):Option Nat:=(P.info? t).map (·.bytes)
def zOf (t:TypeId):Option (List AV):=match (P.info? t).bind (·.zero) with
 | some z=>of1s z.cells.toList
 | none=>none
def zVal (t:TypeId):Option AV:=match (P.info? t).bind (·.zero) with
 | some (.agg cs)=>(of1s cs.toList).map .agg
 | some v=>of1 v
 | none=>none
def aggT (t:TypeId):Bool:=match P.underlying t with
 | some (.struct _) | some (.array _ _)=>true
 | _=>false

def flatFs (flat:TypeId→Option (List Nat)):List Field→Nat→Option (List Nat)
 | [],_=>some []
 | f :: r, o => if f.name ≠ "_" ∧ f.offset = o then
   match flat f.type,szOf P f.type with
   | some ks,some n=>if ks.length=n then
     match flatFs flat r (o+n) with
     | some l=>some (ks++l)
     | none=>none
    else none
   | _,_=>none
  else none
def flatT:Nat→TypeId→Option (List Nat)
 | 0,_=>none
 | d+1,t=>match P.underlying t with
  | some .bool=>some [0]
  | some (.int _)=>some [1]
  | some .string=>some [2]
  | some (.struct fs)=>if P.stoodInHeld t then none else flatFs P (flatT d) fs.toList 0
  | some (.array n e)=>match flatT d e,szOf P e with
   | some ks,some k=>if ks.length=k then some (List.replicate n ks).flatten else none
   | _,_=>none
  | _=>none

def partsC (place:Nat→Option (Nat×Nat)):List (Nat×Operand)→Option (List (Nat×Nat×AO))
 | []=>some []
 | (i,x)::r=>match place i with
  | some (off,n)=>match partsC place r with
   | some l=>some ((off,n,cO x)::l)
   | none=>none
  | none=>none

def isZero:Option Operand→Bool
 | some (.const (.int _ 0))=>true
 | _=>false

structure Pm where
 hps:List Nat:=[]
 rt:List (Nat×Nat):=[]
 al:List Nat:=[]
 T:Nat:=0
 rows:List Nat:=[]
 it:FuncId→List AV→Heap→Option (List (List Value)):=fun _ _ _=>none
 inR:Bool:=false
 fz:Option Nat:=none
 pre:Nat→Nat→Nat→Nat→List (AV×AV)→Env→Heap→Bool:=fun _ _ _ _ _ _ _=>false

def locO (pm:Pm):Operand→Option Nat
 | .tmp a=>match pm.rt.find? (·.1==a) with
  | some (_,t)=>if pm.hps.contains t then none else some t
  | none=>none
 | _=>none

def compOp (pm:Pm)(o:Oper):AOp:=
 let hp:Bool:=match o.dst with
  | some d=>pm.hps.contains d
  | none=>false
 match o.op with
 | .move x | .assign x=>.mv (cO x)
 | .pick c a b=>.pick (cO c) (cO a) (cO b)
 | .alloc e=>match zOf P e with
  | some z=>if hp then .allocH z else .allocR z
  | none=>.bad
 | .box e x=>match szOf P e with
  | some n=>if hp then .boxH n (cO x) else .boxR n (cO x)
  | none=>.bad
 | .build t parts=>match P.underlying t,zOf P t with
  | some (.struct fs),some z=>
   if fs.toList.all (fun f=>(szOf P f.type).isSome)=true then match partsC (fun i=>match fs[i]? with
     | some f=>(szOf P f.type).map fun n=>(f.offset,n)
     | none=>none) parts.toList with
   | some l=>.build z l
   | none=>.bad
   else .bad
  | some (.array _ e),some z=>match szOf P e with
   | some k=>match partsC (fun i=>some (i*k,k)) parts.toList with
    | some l=>.build z l
    | none=>.bad
   | none=>.bad
  | _,_=>.bad
 | .buildSlice t n parts=>match P.underlying t with
  | some (.slice e)=>match szOf P e,zOf P e with
   | some k,some z=>if n*k≤65536∧z.length=k∧0<k then
     match partsC (fun i=>some (i*k,k)) parts.toList with
     | some l=>if hp then .buildH n k (repl n z) l else .buildS n (repl n z) l
     | none=>.bad
    else .bad
   | _,_=>.bad
  | _=>.bad
 | .load t a=>if aggT P t then (match szOf P t with
   | some n=>.ldA (locO pm a) n (cO a)
   | none=>.bad) else if (P.underlying t).isSome then .ld1 (locO pm a) (cO a) else .bad
 | .store t a x=>match szOf P t with
  | some n=>.st (locO pm a) n (cO a) (cO x)
  | none=>.bad
 | .nilCheck x=>.nilc (cO x)
 | .binOp op t x y _=>match P.underlying t with
  | some (.int _)=>.bini op (cO x) (cO y)
  | some .string=>.bins op (cO x) (cO y)
  | some .bool=>match op with
   | .eql=>.eqb false (cO x) (cO y)
   | .neq=>.eqb true (cO x) (cO y)
   | _=>.bad
  | some (.pointer _)=>match op with
   | .eql=>.eqp false (cO x) (cO y)
   | .neq=>.eqp true (cO x) (cO y)
   | _=>.bad
  | some (.func ..)=>match op with
   | .eql=>.eqf false (cO x) (cO y)
   | .neq=>.eqf true (cO x) (cO y)
   | _=>.bad
  | some (.struct _) | some (.array _ _)=>match flatT P 8 t with
   | some ks=>if P.eqGuardType P.depth t then .bad else match op with
    | .eql=>.eqa false ks (cO x) (cO y)
    | .neq=>.eqa true ks (cO x) (cO y)
    | _=>.bad
   | none=>.bad
  | _=>.bad
 | .unOp op _ x=>match op with
  | .not=>.not (cO x)
  | .neg=>.negi (cO x)
  | .xor=>.xori (cO x)
  | .plus=>.bad
 | .convert s d x=>match P.underlying s,P.underlying d with
  | some (.int _),some (.int k)=>.cvi k (cO x)
  | some .string,some .string=>.slS (cO x) none none
  | some (.slice e),some .string=>match P.underlying e with
   | some (.int .u8)=>.b2s (cO x)
   | _=>.bad
  | some .string,some (.slice e)=>match P.underlying e with
   | some (.int .u8)=>.s2b (cO x)
   | _=>.bad
  | _,_=>.bad
 | .makeFunc (.func f) first caps=>if first.size=0∧f<1000 then .mkf f (caps.toList.map cO) else .bad
 | .makeSlice t l c=>match P.underlying t,l,c with
  | some (.slice e),.tmp a,.tmp b=>match szOf P e,byOf P e,zOf P e with
   | some k,some by',some z=>if a=b∧hp=true∧0<k∧0<by' then .mks k by' z (cO l) else .bad
   | _,_,_=>.bad
  | some (.slice e),.const (.int .i64 a),.const (.int .i64 b)=>match szOf P e,byOf P e,zOf P e with
   | some k,some by',some z=>if a=b∧hp=true∧0<k∧0<by' then .mks k by' z (cO l) else .bad
   | _,_,_=>.bad
  | _,_,_=>.bad
 | .slice t x lo hi mx=>match P.underlying t with
  | some .string=>(match mx with
   | none=>.slS (cO x) (lo.map cO) (hi.map cO)
   | some _=>.bad)
  | some (.slice e)=>match mx,szOf P e with
   | none,some k=>.slC k (cO x) (lo.map cO) (hi.map cO)
   | some _,some _=>if isZero mx&&isZero hi&&(isZero lo||lo.isNone) then .sl00 (cO x) else .bad
   | _,none=>.bad
  | _=>.bad
 | .fieldAddr s x f=>match P.underlying s with
  | some (.struct fs)=>match fs[f]? with
   | some fd=>match szOf P fd.type with
    | some n=>if n=0 then .bad else .fldA fd.offset (cO x)
    | none=>.bad
   | none=>.bad
  | _=>.bad
 | .field t x f=>match P.underlying t with
  | some (.struct fs)=>match fs[f]? with
   | some fd=>match szOf P fd.type with
    | some n=>if (P.underlying fd.type).isSome then .fld fd.offset n (aggT P fd.type) (cO x) else .bad
    | none=>.bad
   | none=>.bad
  | _=>.bad
 | .indexAddr t x i=>match P.underlying t with
  | some (.slice e)=>match szOf P e with
   | some k=>.ixA k (cO x) (cO i)
   | none=>.bad
  | some (.array n e)=>match szOf P e with
   | some k=>.ixR n k (cO x) (cO i)
   | none=>.bad
  | _=>.bad
 | .index t x i=>match P.underlying t with
  | some .string=>.ixS (cO x) (cO i)
  | some (.array n e)=>match szOf P e with
   | some k=>if (P.underlying e).isSome then .ixG n k (aggT P e) (cO x) (cO i) else .bad
   | none=>.bad
  | _=>.bad
 | .makeMap t none=>match P.underlying t with
  | some (.map _ _)=>if hp=true then .mkm else .bad
  | _=>.bad
 | .lookup t x i ok=>match P.underlying t with
  | some (.map k e)=>match flatT P 8 k,zVal P e with
   | some ks,some z=>.mlk (aggT P k) ks z ok (cO x) (cO i)
   | _,_=>.bad
  | _=>.bad
 | .insert t m k v | .mapUpdate t m k v=>match P.underlying t with
  | some (.map kt _)=>match flatT P 8 kt with
   | some ks=>.mup (aggT P kt) ks (cO m) (cO k) (cO v)
   | none=>.bad
  | _=>.bad
 | .extract x i=>.ext (cO x) i
 | .call c=>match c.callee with
  | .value (.func f)=>if f<1000 then .call (match o.dst with
   | some d=>if pm.al.contains d then f+1000 else f
   | none=>f) (c.args.toList.map cO) else .bad
  | .value x=>.callv (cO x) (c.args.toList.map cO)
  | .builtin .len=>match c.argTypes[0]?,c.args.toList with
   | some t,[x]=>match P.underlying t with
    | some .string=>.len true (cO x)
    | some (.slice _)=>.len false (cO x)
    | some (.map _ _)=>.mlen (cO x)
    | some (.array n _)=>.lenK n
    | some (.pointer a)=>(match P.underlying a with
     | some (.array n _)=>.lenK n
     | _=>.bad)
    | _=>.bad
   | _,_=>.bad
  | .builtin .append=>match c.argTypes.toList,c.args.toList with
   | [t,u],[x,y]=>match P.underlying t,P.underlying u with
    | some (.slice e),some (.slice _)=>match szOf P e,byOf P e with
     | some k,some by'=>if 0<k∧0<by'∧(zOf P e).map (·.length)=some k then .app k by' (cO x) (cO y) else .bad
     | _,_=>.bad
    | some (.slice e),some .string=>match szOf P e,byOf P e,P.underlying e with
     | some 1,some by',some (.int .u8)=>if 0<by'∧(zOf P e).map (·.length)=some 1 then .app 1 by' (cO x) (cO y) else .bad
     | _,_,_=>.bad
    | _,_=>.bad
   | _,_=>.bad
  | .builtin .max=>.mm true (c.args.toList.map cO)
  | .builtin .min=>.mm false (c.args.toList.map cO)
  | _=>.bad
 | _=>.bad

def badI:AI:={ dst:=none,grd:=none,op:=.bad }
def bigDst (T:Nat):Option Nat→Bool
 | some d=>decide (T≤d)
 | none=>false
def grdOf (ops:Array Oper):Option (Nat×Bool)→Option (Option (Nat×Bool))
 | none=>some none
 | some (j,want)=>match (ops[j]?).bind (·.dst) with
  | some t=>some (some (t,want))
  | none=>none

def compI (pm:Pm)(ops:Array Oper)(o:Oper):AI:=
 if bigDst pm.T o.dst=true then badI else
 match grdOf ops o.guard with
 | some g=>{ dst:=o.dst,grd:=g,op:=compOp P pm o }
 | none=>badI

def directs (o:Oper):List Nat:=(o.after.toList.filter (Region.binds .any)).map (·.on)

def befs:List Oper→List (List Nat)→List (List Nat)
 | [],acc=>acc
 | o::r,acc=>befs r (acc++[((directs o)++(directs o).flatMap fun e=>acc.getD e []).eraseDups])

def isMake (i:AI):Bool:=cls i.op==.make
def numb:List AI→Nat→List AI
 | [],_=>[]
 | i::r,k=>if isMake i then { i with at_:=k }::numb r (k+1) else i::numb r k

def touches:Cls→Bool
 | .env | .memL _ | .actL _=>false
 | _=>true
def freeCall (b:List (List Nat))(l:List AI)(j:Nat):Bool:=
 (List.range l.length).all fun i=>i==j||!touches (cls (l.getD i default).op)||(b.getD j []).contains i||(b.getD i []).contains j
def needFl (b:List (List Nat))(l:List AI)(j:Nat):Bool:=
 (cls (l.getD j default).op==.actH&&(List.range l.length).any fun i=>cls (l.getD i default).op==.memH&&!(b.getD j []).contains i&&!(b.getD i []).contains j)||
 (cls (l.getD j default).op==.call&&(List.range l.length).all fun i=>cls (l.getD i default).op != .call||freeCall b l i||(b.getD j []).contains i)
def needFlR (b:List (List Nat))(l:List AI)(j:Nat):Bool:=
 match cls (l.getD j default).op with
 | .call=>true
 | .memH=>(List.range l.length).any fun i=>cls (l.getD i default).op==.call&&!(b.getD j []).contains i&&!(b.getD i []).contains j
 | _=>needFl b l j
def mark (rows:List Nat)(ops:Array Oper)(l:List AI):List AI:=
 let b:=befs ops.toList []
 let rw:=l.any fun i=>match i.dst with | some d=>rows.contains d | none=>false
 (List.range l.length).map fun j=>{ l.getD j default with fl:=if rw=true then needFlR b l j else needFl b l j }

def drawOk (ops:Array Oper)(l:List AI):Bool:=
 let b:=befs ops.toList []
 Region.noSelect ops&&((List.range l.length).all fun j=>!isFree (l.getD j default)||(List.range l.length).all fun i=>!isCall (l.getD i default)||(decide (i<j)&&decide (j<ops.size)&&(b.getD j []).contains i))&&
 (List.range ops.size).all fun j=>((directs (ops.getD j default)).all fun e=>e<j)&&
  (List.range j).all fun i=>(b.getD j []).contains i||indep (l.getD i default) (l.getD j default)

def isDefer:Op→Bool
 | .defer _=>true
 | _=>false

structure RM where
 ops:Array Oper
 x:Operand
 tI:Nat
 tN:Nat
 tM:Nat
 tE:Nat
 id:Nat
 kd:Nat
 eops:Array Oper
def isRng (ops:Array Oper):Option (Operand×Nat):=match ops.toList.getLast? with
 | some ⟨some t,.range T x,_,_,_,none⟩=>match P.underlying T with
  | some (.map _ _)=>some (x,t)
  | _=>none
 | _=>none
def isStep (tI:Nat)(ops:Array Oper):Option (Nat×Nat):=match ops.toList with
 | [⟨some n,.next (.tmp i) false,_,_,_,none⟩,⟨some m,.extract (.tmp j) 0,_,_,_,none⟩]=>if i=tI∧j=n∧n≠tI∧m≠tI then some (n,m) else none
 | _=>none
def isEnt (tI:Nat)(ops:Array Oper):Option Nat:=match ops.toList with
 | ⟨some e,.entry (.tmp i),_,_,_,none⟩::_=>if i=tI then some e else none
 | _=>none
def noDefer (ops:Array Oper):Bool:=ops.toList.all fun o=>!isDefer o.op
def rmOf (pm:Pm)(a b:Code):Option (RM×Code):=match a,b with
 | .region _ ops false,.block id (.loop (.seq (.region _ n2 false) (.seq (.cond (.tmp c) .skip (.exit jd)) (.block kd (.seq (.region _ eops false) rest)))))=>
  match isRng P ops with
  | some (x,tI)=>match isStep tI n2,isEnt tI eops with
   | some (tN,tM),some tE=>if (c=tM∧jd=id)∧(tI<pm.T∧tN<pm.T∧tM<pm.T∧tE<pm.T)∧pm.inR=true∧(noDefer ops=true∧noDefer n2=true∧noDefer eops=true)∧(isRng P eops).isNone=true then some (⟨ops,x,tI,tN,tM,tE,id,kd,eops⟩,rest) else none
   | _,_=>none
  | none=>none
 | _,_=>none
def rmC (pm:Pm)(r:RM)(keepA:List Nat)(y:AC):AC:=match y with
 | .block _ (.loop k1 (.seq _ (.seq _ (.block _ (.seq (.regN k3 _) c)))))=>
  .seq (.regN keepA (r.ops.toList.dropLast.map (compI P pm r.ops))) (.rangeM (k1.filter fun t=>!([r.tI,r.tN,r.tM,r.tE].contains t)) (pm.pre r.tI) (cO r.x) r.tI r.tE (.block r.kd (.seq (.regN (r.tE::k3) (r.eops.toList.tail.map (compI P pm r.eops))) c)))
 | _=>.bad
def seqC (pm:Pm)(a b:Code)(keepA:List Nat)(x y:AC):AC:=match rmOf P pm a b with
 | some (r,_)=>rmC P pm r keepA y
 | none=>match b,y with
  | .seq b1 _,.seq y1 y2=>match rmOf P pm a b1 with
   | some (r,_)=>.seq (rmC P pm r keepA y1) y2
   | none=>.seq x y
  | _,_=>.seq x y

def compC:Pm→Code→List (List Nat)→AC×List (List Nat)
 | _,.skip,ks=>(.skip,ks)
 | _,.label _,ks=>(.skip,ks)
 | pm,.region _ ops draw,ks=>
  let l:=ops.toList.map (compI P pm ops)
  if pm.inR=true∧ops.toList.any (fun o=>isDefer o.op)=true then (.bad,ks.tail)
  else if draw then
   let l':=mark pm.rows ops (numb l 0)
   if drawOk ops l' then (.regD (ks.headD []) ((l.filter isMake).length) l',ks.tail) else (.bad,ks.tail)
  else (.regN (ks.headD []) l,ks.tail)
 | pm,.seq a b,ks=>
  let x:=compC pm a ks
  let y:=compC pm b x.2
  (seqC P pm a b (ks.headD []) x.1 y.1,y.2)
 | pm,.cond c a b,ks=>
  let x:=compC pm a ks
  let y:=compC pm b x.2
  (.cond (cO c) x.1 y.1,y.2)
 | pm,.block id b,ks=>
  let x:=compC pm b ks
  (.block id x.1,x.2)
 | pm,.loop b,ks=>
  let x:=compC pm b ks.tail
  (.loop (ks.headD []) x.1,x.2)
 | pm,.rangeFunc g ps asg body,ks=>
  let x:=compC { pm with inR:=true } asg ks.tail
  let y:=compC { pm with inR:=true } body x.2
  if pm.inR=false∧ps.toList.all (fun p=>decide (p<pm.T))=true then (.rangeF (ks.headD []) pm.it (cO g) ps.toList x.1 y.1,y.2) else (.bad,y.2)
 | pm,.scope b,ks=>
  let x:=compC pm b ks
  if pm.inR=true then (.bad,x.2) else x
 | _,.exit id,ks=>(.exit id,ks)
 | _,.ret,ks=>(.ret,ks)
 | _,_,ks=>(.bad,ks)

def compR:ResultVar→ARes
 | .tmp t=>.tmp t
 | .cell a t=>.cell a ((szOf P t).getD 0) (aggT P t)

def resChk:ResultVar→Bool
 | .tmp _=>true
 | .cell _ t=>(szOf P t).isSome&&(P.underlying t).isSome

def insF:Nat→AC→AC
 | 0,c=>.seq .frz c
 | n+1,.seq a b=>.seq a (insF n b)
 | _+1,c=>c
def bodyF (fz:Option Nat)(trunc:Bool)(c:AC):AC:=
 match fz with
 | some k=>if trunc=true then insF k c else c
 | none=>c
def compF (f:FuncId)(pm:Pm)(ks:List (List Nat))(trunc:Bool):Option AFn:=
 match P.funcs[f]? with
 | some fn=>match fn.body with
  | some c => if fn.name ≠ "runtime.NumGoroutine" ∧ fn.params.size + fn.nfree ≤ fn.ntmps ∧ fn.results.toList.all (resChk P) = true then some { np := fn.params.size + fn.nfree, body := bodyF pm.fz trunc (compC P { pm with T := fn.ntmps } c ks).1, res := fn.results.toList.map (compR P), trunc } else none
  | none=>none
 | none=>none
end
end Go.Hm

namespace Go.Hm
open Go

def scal:Value→Bool
 | .bool _ | .int .. | .string _ | .pointer none | .map none | .nilFunc=>true
 | _=>false

abbrev Phi:=Nat→Nat×Nat

inductive CRel (φ:Phi)(F:Nat→Nat→Prop)(H:Heap)(w:World):AV→Value→Prop
 | val (v:Value) (h:scal v=true):CRel φ F H w (.val v) v
 | e0 (x:Option Addr):CRel φ F H w .e0 (.slice x 0 0)
 | sl (b o n cap:Nat) (cells:List AV) (vs:List Value) (hn:n≤cap) (hl:vs.length=cells.length)
   (hF:∀i,i<cells.length→F b (o+i)) (hc:∀(i:Nat) v,vs[i]?=some v→w.cell? ⟨b,o+i,none⟩=some v)
   (hr:∀(i:Nat) a v,cells[i]?=some a→vs[i]?=some v→CRel φ F H w a v):CRel φ F H w (.sl n cells) (.slice (some ⟨b,o,none⟩) n cap)
 | slnil (x:Option Addr):CRel φ F H w (.sl 0 []) (.slice x 0 0)
 | rop (b o off:Nat) (cells:List AV) (vs:List Value) (hl:vs.length=cells.length)
   (hF:∀i,i<cells.length→F b (o+i)) (hc:∀(i:Nat) v,vs[i]?=some v→w.cell? ⟨b,o+i,none⟩=some v)
   (hr:∀(i:Nat) a v,cells[i]?=some a→vs[i]?=some v→CRel φ F H w a v):CRel φ F H w (.rop cells off) (.pointer (some ⟨b,o+off,none⟩))
 | hp (b g off:Nat) (cs:List AV) (a:Addr) (hb:H[b]?=some (.cells cs)) (hg:g≤cs.length) (h:cs.length=g→(φ b).2≤off∧a=⟨(φ b).1,off-(φ b).2,none⟩):CRel φ F H w (.hp b g off) (.pointer (some a))
 | hs (b g off n es:Nat) (cs:List AV) (x:Option Addr) (cap:Nat) (hb:H[b]?=some (.cells cs)) (hg:g≤cs.length) (hn:n≤cap) (hx:x=none→n=0)
   (h:cs.length=g→(0<g∧(φ b).2≤off∧x=some ⟨(φ b).1,off-(φ b).2,none⟩∧g≤off+cap*es∧∃arr ty,w.heap[(φ b).1]?=some (.cells arr ty (0,0))∧off-(φ b).2+cap*es≤arr.size)∨(n=0∧cap=0∧g≤off)):
   CRel φ F H w (.hs b g off n es) (.slice x n cap)
 | mp (b:Nat) (es:List (AV×AV)) (hb:H[b]?=some (.map es)):CRel φ F H w (.mp b) (.map (some (φ b).1))
 | fn (f:FuncId) (caps:List AV) (vs:List Value) (hl:vs.length=caps.length)
   (hr:∀(i:Nat) a v,caps[i]?=some a→vs[i]?=some v→CRel φ F H w a v):CRel φ F H w (.fn f caps) (.func (.func (f % 1000)) #[] vs.toArray)

def CL (φ:Phi)(F:Nat→Nat→Prop)(H:Heap)(w:World)(as:List AV)(vs:List Value):Prop:=
 vs.length=as.length∧∀(i:Nat) a v,as[i]?=some a→vs[i]?=some v→CRel φ F H w a v

inductive VRel (φ:Phi)(F:Nat→Nat→Prop)(H:Heap)(w:World):AV→Value→Prop
 | one {a:AV} {v:Value} (h:CRel φ F H w a v):VRel φ F H w a v
 | agg (cs:List AV) (vs:List Value) (h:CL φ F H w cs vs):VRel φ F H w (.agg cs) (.agg vs.toArray)
 | tup (as:List AV) (vs:List Value) (hl:vs.length=as.length) (h:∀(i:Nat) a v,as[i]?=some a→vs[i]?=some v→VRel φ F H w a v):VRel φ F H w (.tup as) (.tuple vs.toArray)

def Blk (φ:Phi)(F:Nat→Nat→Prop)(H:Heap)(w:World)(p:Nat×Nat)(cs:List AV):Prop:=
 ∃arr ty,w.heap[p.1]?=some (.cells arr ty (0,0))∧∀(i:Nat) a,cs[i]?=some a→∃v,(p.2≤i→arr[i-p.2]?=some v)∧CRel φ F H w a v

def IK (es:List (AV×AV)):Prop:=(∀p∈es,∃n:Int,p.1= .val (.int .i64 n))∧(es.map (·.1)).Nodup
def Ep (a b:List (AV×AV)):Prop:=a=b∨(a.Perm b∧IK b)
theorem Ep.len {a b:List (AV×AV)}(h:Ep a b):a.length=b.length:=h.elim (fun e=>by rw[e]) fun e=>e.1.length_eq

structure MRel0 (φ:Phi)(F:Nat→Nat→Prop)(H:Heap)(w:World)(es:List (AV×AV))(ces:Array MapEntry)(clk:Nat):Prop where
 size:ces.size=es.length
 ent:∀(i:Nat) k v,es[i]?=some (k,v)→Hm.below 0 k=true∧Hm.below 0 v=true∧∃e,ces[i]?=some e∧VRel φ F H w k e.key∧VRel φ F H w v e.val
 st:MapKept.Stamped ces clk

def MRel (φ:Phi)(F:Nat→Nat→Prop)(H:Heap)(w:World)(es:List (AV×AV))(ces:Array MapEntry)(clk:Nat):Prop:=∃es0,Ep es0 es∧MRel0 φ F H w es0 ces clk
theorem MRel0.up {φ:Phi}{F:Nat→Nat→Prop}{H:Heap}{w:World}{es:List (AV×AV)}{ces:Array MapEntry}{clk:Nat}(h:MRel0 φ F H w es ces clk):MRel φ F H w es ces clk:=⟨es,.inl rfl,h⟩
theorem MRel.size {φ:Phi}{F:Nat→Nat→Prop}{H:Heap}{w:World}{es:List (AV×AV)}{ces:Array MapEntry}{clk:Nat}:MRel φ F H w es ces clk→ces.size=es.length
 | ⟨_,h,h1⟩=>h1.size.trans h.len

def MBlk (φ:Phi)(F:Nat→Nat→Prop)(H:Heap)(w:World)(k:Nat)(es:List (AV×AV)):Prop:=
 ∃ces clk,w.heap[k]?=some (.map ces clk)∧MRel φ F H w es ces clk

def isLive:HB→Prop
 | .cells cs=>cs≠[]
 | .map _=>True
 | .hole=>False
def live (H:Heap)(b:Nat):Prop:=∃x,H[b]?=some x∧isLive x

structure SR (φ:Phi)(F:Nat→Nat→Prop)(H:Heap)(w:World):Prop where
 blk:∀(b:Nat) cs,H[b]?=some (.cells cs)→cs≠[]→Blk φ F H w (φ b) cs
 mblk:∀(b:Nat) es,H[b]?=some (.map es)→MBlk φ F H w (φ b).1 es
 inj:∀b b',live H b→live H b'→(φ b).1=(φ b').1→b=b'
 phiF:∀b o,live H b→¬F (φ b).1 o
 fsz:∀k o,F k o→k<w.heap.size

def Grow (ces:Array MapEntry)(clk:Nat)(ces':Array MapEntry)(clk':Nat):Prop:=ces.size≤ces'.size∧(ces'.size=ces.size→clk'=clk∧ces'.toList.map (fun e=>(e.key,e.born))=ces.toList.map (fun e=>(e.key,e.born)))
theorem Grow.refl (ces:Array MapEntry)(clk:Nat):Grow ces clk ces clk:=⟨Nat.le_refl _,fun _=>⟨rfl,rfl⟩⟩
theorem Grow.trans {a b c:Array MapEntry}{k l m:Nat}(h:Grow a k b l)(g:Grow b l c m):Grow a k c m:=⟨Nat.le_trans h.1 g.1,fun e=>by
 have e1:b.size=a.size:=by have:=h.1;have:=g.1;omega
 have h1:=h.2 e1
 have g1:=g.2 (by omega)
 exact⟨g1.1.trans h1.1,g1.2.trans h1.2⟩⟩

structure Wm (w w':World):Prop where
 size:w.heap.size≤w'.heap.size
 cells:∀(k:Nat) arr ty fr,w.heap[k]?=some (.cells arr ty fr)→∃arr',w'.heap[k]?=some (.cells arr' ty fr)∧arr'.size=arr.size
 map:∀(k:Nat) ces clk,w.heap[k]?=some (.map ces clk)→∃ces' clk',w'.heap[k]?=some (.map ces' clk')∧Grow ces clk ces' clk'

theorem Wm.refl (w:World):Wm w w:=⟨Nat.le_refl _,fun _ _ _ _ h=>⟨_,h,rfl⟩,fun _ _ _ h=>⟨_,_,h,Grow.refl _ _⟩⟩
theorem Wm.trans {a b c:World}(h:Wm a b)(k:Wm b c):Wm a c:=
 ⟨Nat.le_trans h.1 k.1,fun i arr ty fr hi=>by
  obtain⟨arr1,h1,s1⟩:=h.2 i arr ty fr hi
  obtain⟨arr2,h2,s2⟩:=k.2 i arr1 ty fr h1
  exact⟨arr2,h2,s2.trans s1⟩,fun i ces clk hi=>by
  obtain⟨c1,k1,h1,g1⟩:=h.3 i ces clk hi
  obtain⟨c2,k2,h2,g2⟩:=k.3 i c1 k1 h1
  exact⟨c2,k2,h2,g1.trans g2⟩⟩

structure Ext (φ:Phi)(F:Nat→Nat→Prop)(H:Heap)(w:World)(φ':Phi)(F':Nat→Nat→Prop)(H':Heap)(w':World):Prop where
 len:∀(b:Nat) cs,H[b]?=some (.cells cs)→∃cs',H'[b]?=some (.cells cs')∧cs.length≤cs'.length∧(cs'.length=cs.length→φ' b=φ b)
 map:∀(b:Nat) es,H[b]?=some (.map es)→(∃es',H'[b]?=some (.map es'))∧φ' b=φ b
 frz:∀k o,F k o→F' k o∧w'.heap[k]?=w.heap[k]?
 wm:Wm w w'

theorem Ext.refl (φ:Phi)(F:Nat→Nat→Prop)(H:Heap)(w:World):Ext φ F H w φ F H w:=
 ⟨fun _ cs h=>⟨cs,h,Nat.le_refl _,fun _=>rfl⟩,fun _ es h=>⟨⟨es,h⟩,rfl⟩,fun _ _ h=>⟨h,rfl⟩,Wm.refl w⟩
theorem Ext.trans {φ φ' φ'':Phi}{F F' F'':Nat→Nat→Prop}{H H' H'':Heap}{w w' w'':World}
  (h:Ext φ F H w φ' F' H' w') (k:Ext φ' F' H' w' φ'' F'' H'' w''):Ext φ F H w φ'' F'' H'' w'':=
 ⟨fun b cs hb=>by
  obtain⟨cs1,h1,l1,p1⟩:=h.len b cs hb
  obtain⟨cs2,h2,l2,p2⟩:=k.len b cs1 h1
  exact⟨cs2,h2,Nat.le_trans l1 l2,fun e=>(p2 (by omega)).trans (p1 (by omega))⟩,
  fun b es hb=>by
  obtain⟨⟨es1,h1⟩,p1⟩:=h.map b es hb
  obtain⟨⟨es2,h2⟩,p2⟩:=k.map b es1 h1
  exact⟨⟨es2,h2⟩,p2.trans p1⟩,
  fun b o hF=>⟨(k.frz b o (h.frz b o hF).1).1,(k.frz b o (h.frz b o hF).1).2.trans (h.frz b o hF).2⟩,h.wm.trans k.wm⟩

theorem cell_heap {w w':World}{k o:Nat}(h:w'.heap[k]?=w.heap[k]?):w'.cell? ⟨k,o,none⟩=w.cell? ⟨k,o,none⟩:=by
 unfold World.cell?
 dsimp only
 rw[h]

theorem CRel.mono {φ φ':Phi}{F F':Nat→Nat→Prop}{H H':Heap}{w w':World}(e:Ext φ F H w φ' F' H' w'){a:AV}{v:Value}
  (h:CRel φ F H w a v):CRel φ' F' H' w' a v:=by
 induction h with
 | val v h=>exact .val v h
 | e0 x=>exact .e0 x
 | sl b o n cap cells vs hn hl hF hc _ ih=>
  refine .sl b o n cap cells vs hn hl (fun i hi=>(e.frz _ _ (hF i hi)).1) (fun i v hv=>?_) ih
  have hi:i<cells.length:=by
   rw[←hl];exact(List.getElem?_eq_some_iff.1 hv).1
  rw[cell_heap (e.frz _ _ (hF i hi)).2];exact hc i v hv
 | slnil x=>exact .slnil x
 | rop b o off cells vs hl hF hc _ ih=>
  refine .rop b o off cells vs hl (fun i hi=>(e.frz _ _ (hF i hi)).1) (fun i v hv=>?_) ih
  have hi:i<cells.length:=by
   rw[←hl];exact(List.getElem?_eq_some_iff.1 hv).1
  rw[cell_heap (e.frz _ _ (hF i hi)).2];exact hc i v hv
 | hp b g off cs a hb hg h=>
  obtain⟨cs',h1,l1,p1⟩:=e.len b cs hb
  exact .hp b g off cs' a h1 (by omega) (fun eg=>by rw[p1 (by omega)];exact h (by omega))
 | hs b g off n es cs x cap hb hg hn hx h=>
  obtain⟨cs',h1,l1,p1⟩:=e.len b cs hb
  refine .hs b g off n es cs' x cap h1 (by omega) hn hx (fun eg=>?_)
  rcases h (by omega) with⟨h0g,hd,hx',hgc,arr,ty,ha,hs⟩ | hnil
  ·obtain⟨arr',ha',sz⟩:=e.wm.2 _ _ _ _ ha
   rw[p1 (by omega)]
   exact .inl ⟨h0g,hd,hx',hgc,arr',ty,ha',by omega⟩
  ·exact .inr hnil
 | mp b es hb=>
  obtain⟨⟨es',h1⟩,p1⟩:=e.map b es hb
  rw[←p1]
  exact .mp b es' h1
 | fn f caps vs hl _ ih=>exact .fn f caps vs hl ih

theorem CL.mono {φ φ':Phi}{F F':Nat→Nat→Prop}{H H':Heap}{w w':World}(e:Ext φ F H w φ' F' H' w'){as:List AV}{vs:List Value}
  (h:CL φ F H w as vs):CL φ' F' H' w' as vs:=⟨h.1,fun i a v ha hv=>(h.2 i a v ha hv).mono e⟩
theorem VRel.mono {φ φ':Phi}{F F':Nat→Nat→Prop}{H H':Heap}{w w':World}(e:Ext φ F H w φ' F' H' w'){a:AV}{v:Value}
  (h:VRel φ F H w a v):VRel φ' F' H' w' a v:=by
 induction h with
 | one h=>exact .one (h.mono e)
 | agg cs vs h=>exact .agg cs vs (h.mono e)
 | tup as vs hl _ ih=>exact .tup as vs hl ih

theorem MRel0.mono {φ φ':Phi}{F F':Nat→Nat→Prop}{H H':Heap}{w w':World}(e:Ext φ F H w φ' F' H' w'){es:List (AV×AV)}{ces:Array MapEntry}{clk:Nat}
  (h:MRel0 φ F H w es ces clk):MRel0 φ' F' H' w' es ces clk:=⟨h.1,fun i k v hi=>by
  obtain⟨h1,h2,c,h3,h4,h5⟩:=h.2 i k v hi
  exact⟨h1,h2,c,h3,h4.mono e,h5.mono e⟩,h.3⟩
theorem MRel.mono {φ φ':Phi}{F F':Nat→Nat→Prop}{H H':Heap}{w w':World}(e:Ext φ F H w φ' F' H' w'){es:List (AV×AV)}{ces:Array MapEntry}{clk:Nat}
  (h:MRel φ F H w es ces clk):MRel φ' F' H' w' es ces clk:=by
 obtain⟨es0,h1,h2⟩:=h
 exact⟨es0,h1,h2.mono e⟩

theorem belowL_iff {n:Nat}{l:List AV}:belowL n l=true↔∀a∈l,below n a=true:=by
 induction l with
 | nil=>simp[belowL]
 | cons a r ih=>simp[belowL,ih]
theorem belowL_get {n:Nat}{l:List AV}(h:belowL n l=true){i:Nat}{a:AV}(ha:l[i]?=some a):below n a=true:=
 belowL_iff.1 h a (List.mem_of_getElem? ha)
theorem belowL_of_get {n:Nat}{l:List AV}(h:∀(i:Nat) a,l[i]?=some a→below n a=true):belowL n l=true:=
 belowL_iff.2 fun a ha=>by
  obtain⟨i,hi⟩:=List.getElem?_of_mem ha
  exact h i a hi

mutual
theorem below_mono {n m:Nat}(h:n≤m):∀(a:AV),Hm.below n a=true→Hm.below m a=true
 | .hp b _ _=>by simp only[Hm.below,Nat.blt_eq];omega
 | .hs b _ _ _ _=>by simp only[Hm.below,Nat.blt_eq];omega
 | .mp b=>by simp only[Hm.below,Nat.blt_eq];omega
 | .fn _ cap=>by simp only[Hm.below];exact belowL_mono h cap
 | .agg cs=>by simp only[Hm.below];exact belowL_mono h cs
 | .tup vs=>by simp only[Hm.below];exact belowL_mono h vs
 | .sl _ cs=>by simp only[Hm.below];exact belowL_mono h cs
 | .rop cs _=>by simp only[Hm.below];exact belowL_mono h cs
 | .val _ | .e0=>by simp[Hm.below]
 | .rp _ _ | .box _ | .und | .dead=>by simp[Hm.below]
theorem belowL_mono {n m:Nat}(h:n≤m):∀(l:List AV),belowL n l=true→belowL m l=true
 | []=>by simp[belowL]
 | a::r=>by
  simp only[belowL,Bool.and_eq_true]
  exact fun⟨x,y⟩=>⟨below_mono h a x,belowL_mono h r y⟩
end

theorem CRel.refs {φ:Phi}{F:Nat→Nat→Prop}{H:Heap}{w:World}{a:AV}{v:Value}(h:CRel φ F H w a v):Hm.below H.length a=true:=by
 induction h with
 | val v h=>rfl
 | e0 x=>rfl
 | sl b o n cap cells vs hn hl hF hc _ ih=>
  simp only[Hm.below]
  exact belowL_of_get fun i a ha=>by
   have hi:i<vs.length:=by rw[hl];exact(List.getElem?_eq_some_iff.1 ha).1
   exact ih i a vs[i] ha (by simp[hi])
 | slnil=>rfl
 | rop b o off cells vs hl hF hc _ ih=>
  simp only[Hm.below]
  exact belowL_of_get fun i a ha=>by
   have hi:i<vs.length:=by rw[hl];exact(List.getElem?_eq_some_iff.1 ha).1
   exact ih i a vs[i] ha (by simp[hi])
 | hp b g off cs a hb hg h=>
  have:=(List.getElem?_eq_some_iff.1 hb).1
  simpa[Hm.below,Nat.blt_eq] using this
 | hs b g off n es cs x cap hb hg hn hx h=>
  have:=(List.getElem?_eq_some_iff.1 hb).1
  simpa[Hm.below,Nat.blt_eq] using this
 | mp b es hb=>
  have:=(List.getElem?_eq_some_iff.1 hb).1
  simpa[Hm.below,Nat.blt_eq] using this
 | fn f caps vs hl _ ih=>
  simp only[Hm.below]
  exact belowL_of_get fun i a ha=>by
   have hi:i<vs.length:=by rw[hl];exact(List.getElem?_eq_some_iff.1 ha).1
   exact ih i a vs[i] ha (by simp[hi])

theorem CRel.shrink {φ:Phi}{F:Nat→Nat→Prop}{H:Heap}{w:World}{n:Nat}{a:AV}{v:Value}(h:CRel φ F H w a v)(hb:Hm.below n a=true):CRel φ F (H.take n) w a v:=by
 induction h with
 | val v h=>exact .val v h
 | e0 x=>exact .e0 x
 | sl b o n' cap cells vs hn hl hF hc _ ih=>
  exact .sl b o n' cap cells vs hn hl hF hc fun i a v ha hv=>ih i a v ha hv (belowL_get (by simpa[Hm.below] using hb) ha)
 | slnil x=>exact .slnil x
 | rop b o off cells vs hl hF hc _ ih=>
  exact .rop b o off cells vs hl hF hc fun i a v ha hv=>ih i a v ha hv (belowL_get (by simpa[Hm.below] using hb) ha)
 | hp b g off cs a h1 hg h=>
  have hbn:b<n:=by simpa[Hm.below,Nat.blt_eq] using hb
  exact .hp b g off cs a (by rw[List.getElem?_take];simp[hbn,h1]) hg h
 | hs b g off n' es cs x cap h1 hg hn hx h=>
  have hbn:b<n:=by simpa[Hm.below,Nat.blt_eq] using hb
  exact .hs b g off n' es cs x cap (by rw[List.getElem?_take];simp[hbn,h1]) hg hn hx h
 | mp b es h1=>
  have hbn:b<n:=by simpa[Hm.below,Nat.blt_eq] using hb
  exact .mp b es (by rw[List.getElem?_take];simp[hbn,h1])
 | fn f caps vs hl _ ih=>
  exact .fn f caps vs hl fun i a v ha hv=>ih i a v ha hv (belowL_get (by simpa[Hm.below] using hb) ha)
end Go.Hm

namespace Go.Hm
open Go

mutual
def ren (s:Nat→Nat):AV→AV
 | .hp b g o=>.hp (s b) g o
 | .hs b g o n es=>.hs (s b) g o n es
 | .mp b=>.mp (s b)
 | .fn f c=>.fn f (renL s c)
 | .agg c=>.agg (renL s c)
 | .tup c=>.tup (renL s c)
 | .val v=>.val v
 | .e0=>.e0
 | .sl n c=>.sl n (renL s c)
 | .rop c o=>.rop (renL s c) o
 | .rp t o=>.rp t o
 | .box c=>.box c
 | .und=>.und
 | .dead=>.dead
def renL (s:Nat→Nat):List AV→List AV
 | []=>[]
 | v::r=>ren s v::renL s r
end
theorem renL_map (s:Nat→Nat):∀l:List AV,renL s l=l.map (ren s)
 | []=>rfl
 | v::r=>by simp[renL,renL_map s r]

mutual
theorem ren_id {n:Nat}{s:Nat→Nat}(hs:∀b,b<n→s b=b):∀a:AV,Hm.below n a=true→ren s a=a
 | .hp b g o,h=>by simp only[Hm.below,Nat.blt_eq]at h;simp[ren,hs b h]
 | .hs b g o k es,h=>by simp only[Hm.below,Nat.blt_eq]at h;simp[ren,hs b h]
 | .mp b,h=>by simp only[Hm.below,Nat.blt_eq]at h;simp[ren,hs b h]
 | .fn f c,h=>by simp only[Hm.below]at h;simp[ren,renL_id hs c h]
 | .agg c,h=>by simp only[Hm.below]at h;simp[ren,renL_id hs c h]
 | .tup c,h=>by simp only[Hm.below]at h;simp[ren,renL_id hs c h]
 | .val _,_=>rfl
 | .e0,_=>rfl
 | .sl _ c,h=>by simp only[Hm.below]at h;simp[ren,renL_id hs c h]
 | .rop c _,h=>by simp only[Hm.below]at h;simp[ren,renL_id hs c h]
 | .rp _ _,_=>rfl
 | .box _,_=>rfl
 | .und,_=>rfl
 | .dead,_=>rfl
theorem renL_id {n:Nat}{s:Nat→Nat}(hs:∀b,b<n→s b=b):∀l:List AV,belowL n l=true→renL s l=l
 | [],_=>rfl
 | a::r,h=>by
  simp only[belowL,Bool.and_eq_true]at h
  simp[renL,ren_id hs a h.1,renL_id hs r h.2]
end

def renB (s:Nat→Nat):HB→HB→Prop
 | .hole,x=>x= .hole
 | .cells cs,x=>x= .cells (cs.map (ren s))
 | .map es,x=>∃es',x= .map es'∧Ep es es'

structure Iso (n:Nat)(s t:Nat→Nat)(H H':Heap):Prop where
 len:H'.length=H.length
 ts:∀b,b<H.length→s b<H.length∧t (s b)=b
 st:∀b,b<H.length→t b<H.length∧s (t b)=b
 low:∀b,b<n→s b=b
 blk:∀(b:Nat) x,H[b]?=some x→∃y,H'[s b]?=some y∧renB s x y

section
variable {φ:Phi}{F:Nat→Nat→Prop}{H H':Heap}{w:World}{n:Nat}{s t:Nat→Nat}

theorem Iso.lt {b:Nat}{x:HB}(h:H[b]?=some x):b<H.length:=(List.getElem?_eq_some_iff.1 h).1
theorem Iso.cells (h:Iso n s t H H'){b:Nat}{cs:List AV}(hb:H[b]?=some (.cells cs)):H'[s b]?=some (.cells (cs.map (ren s))):=by
 obtain⟨y,h1,h2⟩:=h.blk b _ hb
 rw[h1,show y=_ from h2]
theorem CRel.iso (h:Iso n s t H H'){a:AV}{v:Value}(hr:CRel φ F H w a v):CRel (fun b=>φ (t b)) F H' w (ren s a) v:=by
 induction hr with
 | val v h=>exact .val v h
 | e0 x=>exact .e0 x
 | sl b o n cap cells vs hn hl hF hc _ ih=>
  simp only[ren,renL_map]
  refine .sl b o n cap _ vs hn (by simpa using hl) (fun i hi=>hF i (by simpa using hi)) hc fun i a v ha hv=>?_
  rw[List.getElem?_map]at ha
  cases hc:cells[i]? with
  | none=>rw[hc]at ha;cases ha
  | some a0=>
   rw[hc]at ha
   simp only[Option.map_some,Option.some.injEq]at ha
   subst ha
   exact ih i a0 v hc hv
 | slnil x=>exact .slnil x
 | rop b o off cells vs hl hF hc _ ih=>
  simp only[ren,renL_map]
  refine .rop b o off _ vs (by simpa using hl) (fun i hi=>hF i (by simpa using hi)) hc fun i a v ha hv=>?_
  rw[List.getElem?_map]at ha
  cases hc:cells[i]? with
  | none=>rw[hc]at ha;cases ha
  | some a0=>
   rw[hc]at ha
   simp only[Option.map_some,Option.some.injEq]at ha
   subst ha
   exact ih i a0 v hc hv
 | hp b g off cs a hb hg h1=>
  refine .hp (s b) g off _ a (h.cells hb) (by simpa using hg) fun e=>?_
  rw[(h.ts b (Iso.lt hb)).2]
  exact h1 (by simpa using e)
 | hs b g off n es cs x cap hb hg hn hx h1=>
  refine .hs (s b) g off n es _ x cap (h.cells hb) (by simpa using hg) hn hx fun e=>?_
  rw[(h.ts b (Iso.lt hb)).2]
  exact h1 (by simpa using e)
 | mp b es hb=>
  obtain⟨y,h1,es',h2,_⟩:=h.blk b _ hb
  have:=CRel.mp (φ:=fun b=>φ (t b)) (F:=F) (H:=H') (w:=w) (s b) es' (by rw[h1,h2])
  rwa [(h.ts b (Iso.lt hb)).2]at this
 | fn f caps vs hl _ ih=>
  simp only[ren,renL_map]
  refine .fn f _ vs (by simpa using hl) fun i a v ha hv=>?_
  rw[List.getElem?_map]at ha
  cases hc:caps[i]? with
  | none=>rw[hc]at ha;cases ha
  | some a0=>
   rw[hc]at ha
   simp only[Option.map_some,Option.some.injEq]at ha
   subst ha
   exact ih i a0 v hc hv
theorem CL.iso (h:Iso n s t H H'){as:List AV}{vs:List Value}(hr:CL φ F H w as vs):CL (fun b=>φ (t b)) F H' w (as.map (ren s)) vs:=
 ⟨by simpa using hr.1,fun i a v ha hv=>by
  rw[List.getElem?_map]at ha
  cases hc:as[i]? with
  | none=>rw[hc]at ha;cases ha
  | some a0=>
   rw[hc]at ha
   simp only[Option.map_some,Option.some.injEq]at ha
   subst ha
   exact(hr.2 i a0 v hc hv).iso h⟩
theorem VRel.iso (h:Iso n s t H H'){a:AV}{v:Value}(hr:VRel φ F H w a v):VRel (fun b=>φ (t b)) F H' w (ren s a) v:=by
 induction hr with
 | one hr=>exact .one (hr.iso h)
 | agg cs vs hr=>simp only[ren,renL_map];exact .agg _ vs (hr.iso h)
 | tup as vs hl _ ih=>
  simp only[ren,renL_map]
  refine .tup _ vs (by simpa using hl) fun i a v ha hv=>?_
  rw[List.getElem?_map]at ha
  cases hc:as[i]? with
  | none=>rw[hc]at ha;cases ha
  | some a0=>
   rw[hc]at ha
   simp only[Option.map_some,Option.some.injEq]at ha
   subst ha
   exact ih i a0 v hc hv
theorem Iso.back (h:Iso n s t H H'){b:Nat}{y:HB}(hb:H'[b]?=some y):∃x,H[t b]?=some x∧renB s x y:=by
 have hlt:b<H.length:=by rw[←h.len];exact Iso.lt hb
 obtain⟨h1,h2⟩:=h.st b hlt
 obtain⟨y',h3,h4⟩:=h.blk (t b) _ (List.getElem?_eq_getElem h1)
 rw[h2,hb]at h3
 cases h3
 exact⟨_,List.getElem?_eq_getElem h1,h4⟩
theorem Ep.trans {a b c:List (AV×AV)}(h:Ep a b)(k:Ep b c):Ep a c:=by
 rcases h with rfl | ⟨h1,h2⟩
 ·exact k
 ·rcases k with rfl | ⟨k1,k2⟩
  ·exact .inr ⟨h1,h2⟩
  ·exact .inr ⟨h1.trans k1,k2⟩
theorem MRel0.iso (h:Iso n s t H H'){es:List (AV×AV)}{ces:Array MapEntry}{clk:Nat}(hr:MRel0 φ F H w es ces clk):MRel0 (fun b=>φ (t b)) F H' w es ces clk:=
 ⟨hr.1,fun i k v hi=>by
  obtain⟨h1,h2,e,h3,h4,h5⟩:=hr.2 i k v hi
  have z:∀a,Hm.below 0 a=true→ren s a=a:=fun a=>ren_id (n:=0) (fun b hb=>absurd hb (Nat.not_lt_zero b)) a
  exact⟨h1,h2,e,h3,z k h1▸h4.iso h,z v h2▸h5.iso h⟩,hr.3⟩
theorem SR.iso (h:Iso n s t H H')(sr:SR φ F H w):SR (fun b=>φ (t b)) F H' w:=by
 have lv:∀b,live H' b→live H (t b)∧b<H.length:=fun b ⟨y,h1,h2⟩=>by
  obtain⟨x,h3,h4⟩:=h.back h1
  refine⟨⟨x,h3,?_⟩,by rw[←h.len];exact Iso.lt h1⟩
  cases x with
  | hole=>rw[show y= .hole from h4]at h2;exact h2
  | cells cs=>
   rw[show y=_ from h4]at h2
   intro e;subst e;exact h2 rfl
  | map es=>trivial
 refine⟨fun b cs hb hne=>?_,fun b es hb=>?_,fun b b' h1 h2 he=>?_,fun b o h1=>sr.phiF _ o (lv b h1).1,sr.fsz⟩
 ·obtain⟨x,h3,h4⟩:=h.back hb
  cases x with
  | hole=>cases h4
  | map es=>obtain⟨_,h5,_⟩:=h4;cases h5
  | cells cs0=>
   have h5:cs=cs0.map (ren s):=by injection (show HB.cells cs=_ from h4)
   subst h5
   obtain⟨arr,ty,ha,hr⟩:=sr.blk (t b) cs0 h3 (by intro e;subst e;exact hne rfl)
   refine⟨arr,ty,ha,fun i a hi=>?_⟩
   rw[List.getElem?_map]at hi
   cases hc:cs0[i]? with
   | none=>rw[hc]at hi;cases hi
   | some a0=>
    rw[hc]at hi
    simp only[Option.map_some,Option.some.injEq]at hi
    subst hi
    obtain⟨v,hv,hrel⟩:=hr i a0 hc
    exact⟨v,hv,hrel.iso h⟩
 ·obtain⟨x,h3,h4⟩:=h.back hb
  cases x with
  | hole=>cases h4
  | cells cs=>cases h4
  | map es0=>
   obtain⟨_,h5,h6⟩:=h4
   cases h5
   obtain⟨ces,clk,ha,es1,hep,hm⟩:=sr.mblk (t b) es0 h3
   exact⟨ces,clk,ha,es1,hep.trans h6,hm.iso h⟩
 ·obtain⟨l1,q1⟩:=lv b h1
  obtain⟨l2,q2⟩:=lv b' h2
  have:=sr.inj _ _ l1 l2 he
  rw[←(h.st b q1).2,←(h.st b' q2).2,this]
end
end Go.Hm

