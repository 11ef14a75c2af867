import Derived.Test.YtkllbcjanneppaaGreatHmG12
set_option linter.all false
namespace Go.Proofs.YtkllbcjanneppaaGreat
open Go Go.Hm

def kY:List AV->Option (List Int)
 | []=>some []
 | .val (.int .i64 n)::r=>match kY r with
  | some l=>some (n::l)
  | none=>none
 | _=>none
theorem qC:∀r:List Int,kY (r.map fun n=>I n)=some r
 | []=>rfl
 | x::r=>by
  show kY (I x::(r.map fun n=>I n))=_;simp only[kY,qC r]
def gQ:List AV->Option (List (Int×List Int))
 | []=>some []
 | .val (.int .i64 l):: .sl n cs::r=>match kY cs,gQ r with
  | some x,some q=>if x.length=n then some ((l,x)::q) else none
  | _,_=>none
 | _=>none
def Ej:AV->Option (List (List UInt8))
 | .e0=>some []
 | .sl n cs=>match fO cs with
  | some l=>if l.length=n then some l else none
  | none=>none
 | _=>none
def qD:List AV->Option (List (List (List UInt8)))
 | []=>some []
 | v::r=>match Ej v,qD r with
  | some x,some q=>some (x::q)
  | _,_=>none
def wl:AV->Option (List (List (List UInt8)))
 | .e0=>some []
 | .sl n cs=>match qD cs with
  | some l=>if l.length=n then some l else none
  | none=>none
 | _=>none
def e9:Nat->List (List UInt8)->List (List UInt8)->Option (List UInt8)
 | 0,_,_=>none
 | _+1,[],_=>none
 | _+1,_,[]=>none
 | k+1,a::as,b::bs=>if a=b then some a else if Op.bytesLess a b=true then e9 k as (b::bs) else e9 k (a::as) bs
def bK (a b:List (List UInt8)):Option (List UInt8):=e9 (a.length+b.length) a b
def eP (look:List (List (List UInt8)))(a:Nat):List Nat->Option (Nat×List UInt8)
 | []=>none
 | b::r=>match bK (look.getD a []) (look.getD b []) with
  | some x=>some (b,x)
  | none=>eP look a r
def bM (look:List (List (List UInt8))):List Nat->Option (Nat×Nat×List UInt8)
 | []=>none
 | a::r=>match eP look a r with
  | some (b,x)=>some (a,b,x)
  | none=>bM look r
def cg (ps:List (Int×List Int))(left:Nat):List Nat:=(List.range ps.length).filter fun i=>decide ((ps.getD i (0,[])).1=left)
def en (ps:List (Int×List Int))(look:List (List (List UInt8))):Nat->Nat->Option (Nat×Nat×Nat×List UInt8)
 | 0,_=>none
 | k+1,left=>match bM look (cg ps left) with
  | some (a,b,x)=>some (left,a,b,x)
  | none=>en ps look k (left+1)
def okA (t n k:Int)(ps:List (Int×List Int)):Bool:=
 decide (1<=t/\t<=8/\1<=n/\n<=16/\1<=k/\k<=3/\1<=ps.length/\ps.length<=64)&&ps.all fun p=>decide (0<=p.1/\p.1<n)&&decide (p.2.length<=8)&&p.2.all fun s=>decide (0<=s/\s<t+n)
def oP:Option (Nat×Nat×Nat×List UInt8)->AV
 | none=>.tup [.agg [I 0,I 0,I 0,Sg []],Bo false]
 | some (l,a,b,x)=>.tup [.agg [I l,I a,I b,Sg x],Bo true]
def iL (as:List AV)(_:Heap):Option AV:=
 match as with
 | [.agg [.val (.int .i64 t),.val (.int .i64 n),.val (.int .i64 k),.sl m cs],.agg [lv]]=>match gQ cs,wl lv with
  | some ps,some look=>if ps.length=m/\look.length=ps.length/\okA t n k ps=true/\look.all (fun l=>decide (l.length<=1000000))=true then some (oP (en ps look n.toNat 0)) else none
  | _,_=>none
 | _=>none

def nr0:AV->AV
 | .e0=>.sl 0 []
 | v=>v
def nrA:AV->AV
 | .agg [a,b,c,.sl m cs]=>.agg [a,b,c,.sl m (cs.map nr0)]
 | v=>v
section
variable {P:Program}{φ:Phi}{F:Nat->Nat->Prop}{H:Heap}{w:World}
theorem BV (n:Nat)(a:AV):below n (nr0 a)=below n a:=by
 cases a<;>rfl
theorem qE (n:Nat):∀l:List AV,belowL n (l.map nr0)=belowL n l
 | []=>rfl
 | x::l=>by simp[belowL,BV,qE n l]
theorem IB {a:AV}{v:Value}(h:CRel φ F H w a v):CRel φ F H w (nr0 a) v:=by
 cases a with
 | e0=>cases h with
  | e0 x=>exact .slnil x
 | _=>exact h
theorem Ek {m:Nat}{cs:List AV}{v:Value}(h:CRel φ F H w (.sl m cs) v):CRel φ F H w (.sl m (cs.map nr0)) v:=by
 cases h with
 | sl b o n cap cells vs hn hl hb hF hc hr=>
  refine .sl b o m cap _ vs hn (by rw[List.length_map];exact hl) (by rw[qE];exact hb) (by rw[List.length_map];exact hF) hc fun i a v ha hv=>?_
  rw[List.getElem?_map]at ha;obtain⟨x,hx,rfl⟩:=Option.map_eq_some_iff.1 ha;exact IB (hr i x v hx hv)
 | slnil x=>exact .slnil x
theorem z8 {a:AV}{v:Value}(h:VRel φ F H w a v):VRel φ F H w (nrA a) v:=by
 unfold nrA;split
 ·rename_i a b c m cs;cases h with
  | agg _ vs hcl=>
   refine .agg _ vs ⟨hcl.1,fun i x v hx hv=>?_⟩
   match i with
   | 0 | 1 | 2=>exact hcl.2 _ _ _ (by simpa using hx) hv
   | 3=>
    have hx:AV.sl m (cs.map nr0)=x:=by simpa using hx
    subst hx;exact Ek (hcl.2 3 _ v rfl hv)
   | i+4=>simp at hx
  | one h=>cases h
 ·exact h
theorem El {as:List AV}{vs:List Value}(h:jb φ F H w as vs):jb φ F H w (as.map nrA) vs:=
 ⟨by rw[List.length_map];exact h.1,fun i a v ha hv=>by
  rw[List.getElem?_map]at ha;obtain⟨x,hx,rfl⟩:=Option.map_eq_some_iff.1 ha;exact z8 (h.2 i x v hx hv)⟩
end
def fw (as:List AV)(H:Heap):Option AV:=iL (as.map nrA) H
def exG (l:List AV)(_:Heap):Option AV:=match l with
 | []=>some (.agg [I 1,I 1,I 1,.sl 2 [I 0,.sl 2 [I 0,I 1],I 0,.sl 0 []]])
 | _=>none
end Go.Proofs.YtkllbcjanneppaaGreat
