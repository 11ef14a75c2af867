/- Sets of integers as maps in memory; rows that rise; a set's keys, sorted. -/
import Derived.Test.YtnhennjliinplaaHmG10
import Derived.Test.YtnhennjliinplaaHmG12
set_option linter.all false
namespace Go.Proofs.Ytnhennjliinplaa
open Go Go.Hm

def insI (x:Int):List Int→List Int
 | []=>[x]
 | y::l=>if x<y then x::y::l else if x=y then y::l else y::insI x l
def normI (l:List Int):List Int:=l.foldr insI []
def UpI (l:List Int):Prop:=l.Pairwise (· < ·)

theorem mem_insI {x z:Int}:∀{l:List Int},z∈insI x l↔z=x∨z∈l
 | []=>by simp[insI]
 | y::l=>by
  simp only[insI]
  split
  ·simp
  ·split
   ·rename_i h;subst h;simp
   ·simp only[List.mem_cons,mem_insI (l:=l)]
    constructor
    ·rintro (h | h | h)
     ·exact .inr (.inl h)
     ·exact .inl h
     ·exact .inr (.inr h)
    ·rintro (h | h | h)
     ·exact .inr (.inl h)
     ·exact .inl h
     ·exact .inr (.inr h)
theorem up_insI {x:Int}:∀{l:List Int},UpI l→UpI (insI x l)
 | [],_=>by simp[insI,UpI]
 | y::l,h=>by
  have h':=List.pairwise_cons.1 h
  simp only[insI]
  split
  ·rename_i hx
   refine List.pairwise_cons.2 ⟨fun z hz=>?_,h⟩
   rcases List.mem_cons.1 hz with rfl | hz
   ·exact hx
   ·have:=h'.1 z hz;omega
  ·split
   ·exact h
   ·refine List.pairwise_cons.2 ⟨fun z hz=>?_,up_insI h'.2⟩
    rcases mem_insI.1 hz with rfl | hz
    ·omega
    ·exact h'.1 z hz
theorem mem_normI {z:Int}:∀{l:List Int},z∈normI l↔z∈l
 | []=>by simp[normI]
 | y::l=>by
  show z∈insI y (normI l)↔_
  rw[mem_insI,mem_normI (l:=l),List.mem_cons]
theorem up_normI:∀(l:List Int),UpI (normI l)
 | []=>List.Pairwise.nil
 | y::l=>up_insI (up_normI l)
theorem up_extI:∀{a b:List Int},UpI a→UpI b→(∀x,x∈a↔x∈b)→a=b
 | [],[],_,_,_=>rfl
 | [],y::b,_,_,h=>absurd ((h y).2 List.mem_cons_self) (by simp)
 | x::a,[],_,_,h=>absurd ((h x).1 List.mem_cons_self) (by simp)
 | x::a,y::b,ha,hb,h=>by
  have ha':=List.pairwise_cons.1 ha
  have hb':=List.pairwise_cons.1 hb
  have e:x=y:=by
   rcases List.mem_cons.1 ((h x).1 List.mem_cons_self) with e | h1
   ·exact e
   ·rcases List.mem_cons.1 ((h y).2 List.mem_cons_self) with e | h2
    ·exact e.symm
    ·have:=ha'.1 y h2
     have:=hb'.1 x h1
     omega
  subst e
  rw[up_extI ha'.2 hb'.2 fun z=>?_]
  constructor
  ·intro hz
   rcases List.mem_cons.1 ((h z).1 (List.mem_cons_of_mem _ hz)) with e | h1
   ·subst e;have:=ha'.1 z hz;omega
   ·exact h1
  ·intro hz
   rcases List.mem_cons.1 ((h z).2 (List.mem_cons_of_mem _ hz)) with e | h1
   ·subst e;have:=hb'.1 z hz;omega
   ·exact h1
theorem normI_congr {a b:List Int}(h:∀x,x∈a↔x∈b):normI a=normI b:=up_extI (up_normI a) (up_normI b) fun x=>by rw[mem_normI,mem_normI,h]
theorem merge_normI {l:List Int}(hn:l.Nodup):l.mergeSort (fun x y=>decide (x≤y))=normI l:=by
 refine up_extI ?_ (up_normI l) fun x=>by rw[mem_normI,List.mem_mergeSort]
 have h1:=List.pairwise_mergeSort (le:=fun x y:Int=>decide (x≤y)) (fun a b c h1 h2=>by simp at *;omega) (fun a b=>by simp;omega) l
 have h2:(l.mergeSort fun x y=>decide (x≤y)).Pairwise (·≠·):=(List.mergeSort_perm l _).nodup_iff.2 hn
 exact(h1.and h2).imp fun h=>by have:=h.1;have:=h.2;simp at *;omega

def ent (n:Int):AV×AV:=(I n,.agg [])
def sE (l:List Int):List (AV×AV):=l.map ent
@[simp] theorem sE_nil:sE []=[]:=rfl
@[simp] theorem sE_len (l:List Int):(sE l).length=l.length:=by simp[sE]
theorem sE_get {l:List Int}{i:Nat}{k v:AV}(h:(sE l)[i]?=some (k,v)):∃n,l[i]?=some n∧k=I n∧v= .agg []:=by
 unfold sE at h
 rw[List.getElem?_map]at h
 cases hn:l[i]? with
 | none=>rw[hn]at h;cases h
 | some n=>
  rw[hn]at h
  simp only[Option.map_some,Option.some.injEq]at h
  cases h
  exact⟨n,rfl,rfl,rfl⟩
@[simp] theorem unit_sE (l:List Int):unitVs (sE l)=true:=by simp[unitVs,sE,ent]
theorem ik_sE:∀{l:List Int},l.Nodup→ikOk (sE l)=true
 | [],_=>rfl
 | n::l,h=>by
  have h':=List.nodup_cons.1 h
  have ih:=ik_sE h'.2
  unfold sE at ih ⊢
  simp only[List.map_cons,ikOk,ent,Bool.and_eq_true]
  refine⟨List.all_eq_true.2 fun p hp=>?_,ih⟩
  obtain⟨m,hm,rfl⟩:=List.mem_map.1 hp
  have:n≠m:=fun e=>h'.1 (e▸hm)
  simpa[ent] using this
theorem sE_of:∀{es:List (AV×AV)},ikOk es=true→unitVs es=true→∃l:List Int,es=sE l∧l.Nodup
 | [],_,_=>⟨[],rfl,List.nodup_nil⟩
 | (k,v)::r,h,hu=>by
  simp only[ikOk,Bool.and_eq_true]at h
  obtain⟨h1,h2⟩:=h
  obtain⟨l,rfl,hn⟩:=sE_of h2 (List.all_eq_true.2 fun p hp=>List.all_eq_true.1 hu p (List.mem_cons_of_mem _ hp))
  have hv:=unitVs_get hu (p:=(k,v)) List.mem_cons_self
  split at h1
  ·rename_i n
   dsimp only at hv
   subst hv
   refine⟨n::l,rfl,List.nodup_cons.2 ⟨fun hm=>?_,hn⟩⟩
   have:=List.all_eq_true.1 h1 (ent n) (List.mem_map_of_mem hm)
   simp[ent]at this
  ·cases h1
theorem sE_perm {a b:List Int}(h:(sE a).Perm (sE b)):a.Perm b:=by
 have:=h.map fun p:AV×AV=>match p.1 with | .val (.int .i64 n)=>n | _=>0
 simpa[sE,ent,Function.comp_def] using this

def addI (l:List Int)(n:Int):List Int:=if n∈l then l else l++[n]
def mrgI (a b:List Int):List Int:=b.foldl addI a
theorem mem_addI {l:List Int}{n z:Int}:z∈addI l n↔z∈l∨z=n:=by
 unfold addI
 split
 ·rename_i h
  exact⟨.inl,fun h'=>h'.elim id fun e=>e▸h⟩
 ·simp
theorem nd_addI {l:List Int}{n:Int}(h:l.Nodup):(addI l n).Nodup:=by
 unfold addI
 split
 ·exact h
 ·rename_i hn
  exact List.nodup_append.2 ⟨h,by simp,fun a ha b hb=>by simp at hb;subst hb;exact fun e=>hn (e▸ha)⟩
theorem mem_mrgI {z:Int}:∀{b a:List Int},z∈mrgI a b↔z∈a∨z∈b
 | [],a=>by simp[mrgI]
 | n::b,a=>by
  show z∈mrgI (addI a n) b↔_
  rw[mem_mrgI (b:=b),mem_addI,List.mem_cons,or_assoc]
theorem nd_mrgI:∀{b a:List Int},a.Nodup→(mrgI a b).Nodup
 | [],a,h=>h
 | n::b,a,h=>nd_mrgI (b:=b) (nd_addI h)
theorem mset_sE:∀(l:List Int) (n:Int),mset false [1] (I n) (.agg []) (sE l)=some (sE (addI l n))
 | [],n=>rfl
 | m::l,n=>by
  have ih:=mset_sE l n
  have e:eqKey false [1] (I n) (I m)=some (n==m):=by simp[eqKey,eqScalar]
  simp only[sE,List.map_cons,ent,mset,e]
  by_cases h:n=m
  ·subst h
   simp[addI,ent]
  ·have hb:(n==m)=false:=by simpa using h
   rw[hb]
   dsimp only
   unfold sE at ih
   have:(l.map ent:List (AV×AV))=l.map ent:=rfl
   rw[ih]
   simp only[Option.some.injEq]
   unfold addI
   by_cases hm:n∈l
   ·rw[if_pos hm,if_pos (List.mem_cons_of_mem _ hm)];rfl
   ·rw[if_neg hm,if_neg (by simp[h,hm])];rfl

def intsL:List (AV×AV)→Option (List Int)
 | []=>some []
 | (.val (.int .i64 n),_)::r=>match intsL r with
  | some l=>some (n::l)
  | none=>none
 | _=>none
theorem intsL_sE:∀(l:List Int),intsL (sE l)=some l
 | []=>rfl
 | n::l=>by
  show (match intsL (sE l) with | some l=>some (n::l) | none=>none)=_
  rw[intsL_sE l]
def inR (n:Int):Bool:=decide (-9223372036854775808≤n)&&decide (n≤9223372036854775807)
def keysG (args:List AV)(H:Heap):Option AV:=match args with
 | [.fn 64 [.rop [.mp b] 0]]=>match H[b]? with
  | some (.map es)=>match intsL es with
   | some l=>if l.length≤8000000000000∧l.all inR=true then some (.sl (normI l).length (ints (normI l))) else none
   | none=>none
  | _=>none
 | _=>none
end Go.Proofs.Ytnhennjliinplaa

namespace Go.Proofs.Ytnhennjliinplaa
open Go Go.Hm

def isSet (H:Heap):AV→Bool
 | .mp b=>match H[b]? with
  | some (.map es)=>ikOk es&&unitVs es
  | _=>false
 | _=>false
def keysIn (n:Nat)(es:List (AV×AV)):Bool:=es.all fun p=>match p.1 with
 | .val (.int .i64 k)=>decide (0≤k)&&decide (k<(n:Int))
 | _=>false
def preCopy (lk:Nat)(b:Nat)(env:Env)(H:Heap):Bool:=match find env 0 with
 | .mp d=>(match Nat.decEq d b with | .isTrue _=>false | .isFalse _=>true)&&Nat.ble lk d&&isSet H (.mp d)
 | _=>false
def preJoin (lk lim:Nat)(es:List (AV×AV))(env:Env)(H:Heap):Bool:=match find env 0 with
 | .hp p 4 0=>match H[p]? with
  | some (.cells [_,_,_,.hs nb g 0 n 1])=>(match H[nb]? with
   | some (.cells cs)=>Nat.beq cs.length g&&Nat.beq cs.length n&&cs.all (isSet H)
   | _=>false)&&Nat.ble lk nb&&Nat.ble lim nb&&keysIn n es&&isSet H (find env 2)
  | _=>false
 | _=>false
def preFill (lk:Nat)(es:List (AV×AV))(env:Env)(H:Heap):Bool:=match find env 7 with
 | .hp p 4 0=>match H[p]? with
  | some (.cells [_,_,.hs rb g 0 n 1,_])=>(match H[rb]? with
   | some (.cells cs)=>Nat.beq cs.length g&&Nat.beq cs.length n
   | _=>false)&&Nat.ble lk rb&&keysIn n es&&((match find env 9 with | .val (.int .i64 _)=>true | _=>false)&&(match Nat.decEq p rb with | .isTrue _=>false | .isFalse _=>true))
  | _=>false
 | _=>false
def preN (f _:Nat)(lk lim b:Nat)(es:List (AV×AV))(env:Env)(H:Heap):Bool:=match f with
 | 72=>preCopy lk b env H
 | 39=>preJoin lk lim es env H
 | 13=>preFill lk es env H
 | _=>false
end Go.Proofs.Ytnhennjliinplaa
