/- The machine HM, part 7. -/
import Derived.Test.YtnhennjliinplaaHmG6
import Derived.WalkKit
import Derived.ProofKit
import Derived.OpenShut
import Derived.JoinedCond
set_option linter.all false
namespace Go.Hm
open Go Go.RowKit Go.ChangeShapes Go.WideShapes Go.ChangeAt

section
variable {P:Program}

def consec (P:Program):List Field→Nat→Option Nat
 | [],o=>some o
 | f::r,o=>if f.offset=o then consec P r (o+P.cellsOf f.type) else none

def plainT (P:Program):Nat→TypeId→Bool
 | 0,_=>false
 | d+1,t=>match P.underlying t with
  | some .bool | some (.int _) | some .string=>true
  | some (.slice e)=>decide (0<P.cellsOf e)&&plainT P d e
  | some (.struct fs)=>(consec P fs.toList 0==some (P.cellsOf t))&&fs.toList.all fun f=>plainT P d f.type
  | some (.array n e)=>(n*P.cellsOf e==P.cellsOf t)&&plainT P d e
  | _=>false

def TyC (P:Program):Nat→TypeId→List AV→Prop
 | 0,_,_=>False
 | d+1,t,as=>match P.underlying t with
  | some .bool=>∃b,as=[.val (.bool b)]
  | some (.int k)=>∃n,as=[.val (.int k n)]∧k.min≤n∧n≤k.max
  | some .string=>∃s:ByteArray,as=[.val (.string s)]∧s.size≤maxLen
  | some (.slice e)=>∃rows:List (List AV),as=[.sl rows.length rows.flatten]∧rows.length≤maxLen∧∀r∈rows,TyC P d e r
  | some (.struct fs)=>∃parts:List (List AV),as=parts.flatten∧parts.length=fs.toList.length∧∀(i:Nat) f r,fs.toList[i]?=some f→parts[i]?=some r→TyC P d f.type r
  | some (.array n e)=>∃parts:List (List AV),as=parts.flatten∧parts.length=n∧∀r∈parts,TyC P d e r
  | _=>False

def oldF (W:World)(k _o:Nat):Prop:=k<W.heap.size

section
variable {φ:Phi}{F:Nat→Nat→Prop}{H:Heap}{w:World}
theorem CL.nil:CL φ F H w [] []:=⟨rfl,fun i a v h=>by simp at h⟩
theorem CL.app {as bs:List AV}{vs us:List Value}(h:CL φ F H w as vs)(k:CL φ F H w bs us):CL φ F H w (as++bs) (vs++us):=by
 refine⟨by simp[h.1,k.1],fun i a v ha hv=>?_⟩
 by_cases hi:i<as.length
 ·rw[List.getElem?_append_left hi]at ha
  rw[List.getElem?_append_left (by rw[h.1];exact hi)]at hv
  exact h.2 i a v ha hv
 ·rw[List.getElem?_append_right (by omega)]at ha
  rw[List.getElem?_append_right (by rw[h.1];omega),h.1]at hv
  exact k.2 _ a v ha hv
theorem CL.one {a:AV}{v:Value}(h:CRel φ F H w a v):CL φ F H w [a] [v]:=
 ⟨rfl,fun i a' v' ha hv=>by
  cases i with
  | zero=>simp at ha hv;subst ha;subst hv;exact h
  | succ i=>simp at ha⟩
theorem belowL_app {n:Nat}{l r:List AV}(h:belowL n l=true)(k:belowL n r=true):belowL n (l++r)=true:=by
 rw[belowL_iff]at *
 intro a ha
 rcases List.mem_append.1 ha with h1 | h1
 ·exact h a h1
 ·exact k a h1
end

variable {HH:Type}{enc:TypeId×Value→HH}{W:World}


theorem trod_array {t:TypeId}{n:Nat}{e:TypeId}{fuel:Nat}{cs:List Value}{base:Nat}{sp:Nat→Bool}{held:Bool}{x:DataW HH×List MemPlace}(ht:P.underlying t=some (.array n e))(h:DataW.trod enc P W base sp held fuel t cs=some x):
  cs.length=P.cellsOf t∧∃m,∀i,i<n→∃y,DataW.trod enc P W base sp held m e ((cs.drop (i*P.cellsOf e)).take (P.cellsOf e))=some y:=by
 cases fuel with
 | zero=>simp[DataW.trod]at h
 | succ m=>
  unfold DataW.trod at h
  rw[ht]at h
  simp only at h
  split at h
  ·rename_i hl
   rw[Option.map_eq_some_iff]at h
   obtain⟨xs,hxs,_⟩:=h
   exact⟨hl,m,fun i hi=>mapM_each hxs i (by simpa using hi)⟩
  ·simp at h

theorem parts_build {c:Nat}{Q:List AV→Prop}{φ:Phi}{F:Nat→Nat→Prop}{H:Heap}{cs:List Value}(n:Nat)(hl:n*c≤cs.length)
  (h:∀i,i<n→∃as,CL φ F H W as ((cs.drop (i*c)).take c)∧belowL 0 as=true∧Q as):
  ∃rows:List (List AV),rows.length=n∧CL φ F H W rows.flatten (cs.take (n*c))∧belowL 0 rows.flatten=true∧∀r∈rows,Q r:=by
 induction n with
 | zero=>exact⟨[],rfl,by simpa using CL.nil,rfl,by simp⟩
 | succ n ih=>
  have hmul:(n+1)*c=n*c+c:=Nat.succ_mul n c
  obtain⟨rows,h1,h2,h3,h4⟩:=ih (by omega) (fun i hi=>h i (by omega))
  obtain⟨as,k1,k2,k3⟩:=h n (by omega)
  refine⟨rows++[as],by simp[h1],?_,?_,fun r hr=>?_⟩
  ·rw[hmul,List.take_add]
   simpa using h2.app k1
  ·simpa using belowL_app h3 k2
  ·rcases List.mem_append.1 hr with h | h
   ·exact h4 r h
   ·simp at h;subst h;exact k3

theorem fields_build {φ:Phi}{F:Nat→Nat→Prop}{H:Heap}{cs:List Value}{Q:Field→List AV→Prop}:∀(fs:List Field) (o e:Nat),consec P fs o=some e→e≤cs.length→
  (∀f∈fs,∃as,CL φ F H W as ((cs.drop f.offset).take (P.cellsOf f.type))∧belowL 0 as=true∧Q f as)→
  o≤e∧∃parts:List (List AV),parts.length=fs.length∧CL φ F H W parts.flatten ((cs.drop o).take (e-o))∧belowL 0 parts.flatten=true∧∀(i:Nat) f r,fs[i]?=some f→parts[i]?=some r→Q f r
 | [],o,e,hc,_,_=>by
  simp only[consec,Option.some.injEq]at hc
  subst hc
  exact⟨Nat.le_refl _,[],rfl,by simpa using CL.nil,rfl,by simp⟩
 | f::fs,o,e,hc,he,h=>by
  simp only[consec]at hc
  split at hc
  case isFalse=>simp at hc
  rename_i ho
  obtain⟨hle,parts,p1,p2,p3,p4⟩:=fields_build fs _ e hc he (fun g hg=>h g (List.mem_cons_of_mem _ hg))
  obtain⟨as,a1,a2,a3⟩:=h f (List.mem_cons_self ..)
  refine⟨by omega,as::parts,by simp[p1],?_,?_,fun i g r hg hr=>?_⟩
  ·have e1:e-o=P.cellsOf f.type+(e-(o+P.cellsOf f.type)):=by omega
   rw[e1,List.take_add,List.flatten_cons,List.drop_drop]
   rw[ho]at a1
   exact a1.app p2
  ·rw[List.flatten_cons];exact belowL_app a2 p3
  ·cases i with
   | zero=>simp at hg hr;subst hg;subst hr;exact a3
   | succ i=>exact p4 i g r (by simpa using hg) (by simpa using hr)

theorem rel_of_trod {φ:Phi}:∀(d fuel:Nat) (t:TypeId) (cs:List Value) (x:DataW HH×List MemPlace),plainT P d t=true→DataW.trod enc P W 0 (fun _=>true) true fuel t cs=some x→
  ∃as,CL φ (oldF W) [] W as cs∧belowL 0 as=true∧TyC P d t as
 | 0,_,_,_,_,hp,_=>by simp[plainT]at hp
 | d+1,fuel,t,cs,x,hp,h=>by
  simp only[plainT]at hp
  split at hp
  ·rename_i hu
   obtain⟨b,rfl,_⟩:=DataW.trod_bool hu h
   exact⟨[.val (.bool b)],CL.one (.val _ rfl),rfl,by simp only[TyC,hu];exact⟨b,rfl⟩⟩
  ·rename_i k hu
   obtain⟨n,rfl,_,hw⟩:=DataW.trod_int hu h
   refine⟨[.val (.int k n)],CL.one (.val _ rfl),rfl,?_⟩
   simp only[TyC,hu]
   simp only[Lit.wf,Bool.and_eq_true,decide_eq_true_eq]at hw
   exact⟨n,rfl,hw⟩
  ·rename_i hu
   obtain⟨s,rfl,_,hw⟩:=DataW.trod_string hu h
   exact⟨[.val (.string s)],CL.one (.val _ rfl),rfl,by simp only[TyC,hu];exact⟨s,rfl,hw⟩⟩
  ·rename_i e hu
   simp only[Bool.and_eq_true,decide_eq_true_eq]at hp
   obtain⟨hc0,hpe⟩:=hp
   have nilC:∀z,∃as,CL φ (oldF W) [] W as [.slice z 0 0]∧belowL 0 as=true∧TyC P (d+1) t as:=fun z=>
    ⟨[.sl 0 []],CL.one (.slnil z),rfl,by simp only[TyC,hu];exact⟨[],rfl,Nat.zero_le _,by simp⟩⟩
   rcases DataW.trod_slice hu h with⟨rfl,_⟩ | ⟨a,len,cap,elems,rest,n,_,rfl,_,_,hlc,hm,hel,he1,he2,_⟩
   ·exact nilC none
   ·by_cases hcap:cap=0
    ·subst hcap
     obtain rfl:len=0:=by omega
     exact nilC _
    ·obtain⟨hrl,hr⟩:=he2 rfl
     have each:∀i,i<cap→∃vs y,W.cells? 0 (a.add (i*P.cellsOf e)) (P.cellsOf e)=some vs∧DataW.trod enc P W 0 (fun _=>true) true n e vs=some y:=by
      intro i hi
      by_cases hil:i<len
      ·have hq:=he1 i hil
       rw[List.getElem?_eq_getElem (by omega),Option.bind_eq_some_iff]at hq
       obtain⟨vs,h1,h2⟩:=hq
       exact⟨vs,_,h1,h2⟩
      ·have hq:=hr (i-len) (by omega)
       rw[show len+(i-len)=i by omega,List.getElem?_eq_getElem (by omega),Option.bind_eq_some_iff]at hq
       obtain⟨vs,h1,h2⟩:=hq
       exact⟨vs,_,h1,h2⟩
     obtain⟨vs0,_,hv0,_⟩:=each 0 (by omega)
     obtain⟨_,hl0,hg0⟩:=World.cells?_some hv0
     have hb:a.block<W.heap.size:=by
      have:=World.cells?_block hv0 hc0
      simpa[Addr.add] using this
     obtain⟨b,o,spot⟩:=a
     have hspot:spot=none:=by
      have g0:=hg0 0 hc0
      rw[List.getElem?_eq_getElem (by omega)]at g0
      simpa[Addr.add] using World.cell?_spot g0
     subst hspot
     have build:∀m,m≤cap→∃(rows:List (List AV)) (vs:List Value),rows.length=m∧vs.length=m*P.cellsOf e∧CL φ (oldF W) [] W rows.flatten vs∧belowL 0 rows.flatten=true∧(∀r∈rows,TyC P d e r)∧
       ∀(i:Nat) v,vs[i]?=some v→W.cell? ⟨b,o+i,none⟩=some v:=by
      intro m
      induction m with
      | zero=>intro _;exact⟨[],[],rfl,by simp,CL.nil,rfl,by simp,by simp⟩
      | succ m ih=>
       intro hmc
       obtain⟨rows,vs,r1,r2,r3,r4,r5,r6⟩:=ih (by omega)
       obtain⟨us,y,hus,hy⟩:=each m (by omega)
       obtain⟨as,a1,a2,a3⟩:=rel_of_trod (φ:=φ) d n e us y hpe hy
       obtain⟨_,hul,hug⟩:=World.cells?_some hus
       refine⟨rows++[as],vs++us,by simp[r1],by rw[List.length_append,r2,hul,Nat.succ_mul],by simpa using r3.app a1,by simpa using belowL_app r4 a2,fun r hr=>?_,fun i v hv=>?_⟩
       ·rcases List.mem_append.1 hr with h | h
        ·exact r5 r h
        ·simp at h;subst h;exact a3
       ·by_cases hi:i<vs.length
        ·rw[List.getElem?_append_left hi]at hv
         exact r6 i v hv
        ·rw[List.getElem?_append_right (by omega),r2]at hv
         have hlt:i-m*P.cellsOf e<P.cellsOf e:=by
          have:=(List.getElem?_eq_some_iff.1 hv).1
          omega
         have hq:=hug (i-m*P.cellsOf e) hlt
         rw[hv]at hq
         rw[←hq]
         congr 1
         rw[r2]at hi
         have e1:∀k:Nat,Addr.add ⟨b,o,none⟩ k=⟨b,o+k,none⟩:=fun k=>by
          unfold Addr.add;split
          ·rename_i hk;subst hk;rfl
          ·rfl
         have e2:∀k:Nat,Addr.add ⟨b,o+m*P.cellsOf e,none⟩ k=⟨b,o+m*P.cellsOf e+k,none⟩:=fun k=>by
          unfold Addr.add;split
          ·rename_i hk;subst hk;rfl
          ·rfl
         rw[e1,e2]
         congr 1
         omega
     obtain⟨rows,vs,r1,r2,r3,r4,r5,r6⟩:=build len hlc
     refine⟨[.sl rows.length rows.flatten],CL.one ?_,?_,?_⟩
     ·rw[r1]
      exact .sl b o len cap _ vs hlc r3.1 (fun _ _=>hb) r6 r3.2
     ·simpa[belowL,Hm.below] using r4
     ·simp only[TyC,hu]
      exact⟨rows,rfl,by omega,r5⟩
  ·rename_i fs hu
   simp only[Bool.and_eq_true,beq_iff_eq,List.all_eq_true]at hp
   obtain⟨hc,hall⟩:=hp
   obtain⟨xs,n,_,_,hl,hxl,hf⟩:=DataW.trod_struct hu h
   have each:∀f∈fs.toList,∃as,CL φ (oldF W) [] W as ((cs.drop f.offset).take (P.cellsOf f.type))∧belowL 0 as=true∧TyC P d f.type as:=by
    intro f hfm
    obtain⟨i,hi⟩:=List.getElem?_of_mem hfm
    rw[Array.getElem?_toList]at hi
    have hq:=hf i f hi
    have hilt:=(Array.getElem?_eq_some_iff.1 hi).1
    rw[List.getElem?_eq_getElem (by omega)]at hq
    exact rel_of_trod (φ:=φ) d n f.type _ _ (hall f hfm) hq
   obtain⟨_,parts,p1,p2,p3,p4⟩:=fields_build (Q:=fun f as=>TyC P d f.type as) fs.toList 0 _ hc (by omega) each
   refine⟨parts.flatten,?_,p3,?_⟩
   ·rw[←hl]at p2
    simpa using p2
   ·simp only[TyC,hu]
    exact⟨parts,rfl,p1,p4⟩
  ·rename_i n e hu
   simp only[Bool.and_eq_true,beq_iff_eq]at hp
   obtain⟨hc,hpe⟩:=hp
   obtain⟨hl,m,hm⟩:=trod_array hu h
   obtain⟨rows,r1,r2,r3,r4⟩:=parts_build (φ:=φ) (F:=oldF W) (H:=[]) (W:=W) (cs:=cs) (c:=P.cellsOf e) (Q:=TyC P d e) n (by omega) (fun i hi=>by
    obtain⟨y,hy⟩:=hm i hi
    exact rel_of_trod (φ:=φ) d m e _ _ hpe hy)
   refine⟨rows.flatten,?_,r3,?_⟩
   ·rw[hc,←hl]at r2
    simpa using r2
   ·simp only[TyC,hu]
    exact⟨rows,rfl,r1,r4⟩
  ·simp at hp

theorem TyC.single {d:Nat}{t:TypeId}{as:List AV}(h:TyC P d t as)(hu:∀fs,P.underlying t≠some (.struct fs))(hu2:∀n e,P.underlying t≠some (.array n e)):∃a,as=[a]:=by
 cases d with
 | zero=>simp[TyC]at h
 | succ d=>
  simp only[TyC]at h
  split at h
  ·obtain⟨b,rfl⟩:=h;exact⟨_,rfl⟩
  ·obtain⟨n,rfl,_⟩:=h;exact⟨_,rfl⟩
  ·obtain⟨s,rfl,_⟩:=h;exact⟨_,rfl⟩
  ·obtain⟨rows,rfl,_⟩:=h;exact⟨_,rfl⟩
  ·rename_i fs hh;exact(hu _ hh).elim
  ·rename_i n e hh;exact(hu2 _ _ hh).elim
  ·exact h.elim

theorem sr_start (φ:Phi)(W:World):SR φ (oldF W) [] W:=
 ⟨fun b cs h=>by simp at h,fun b es h=>by simp at h,fun b b' ⟨cs,h,_⟩=>by simp at h,fun b o ⟨cs,h,_⟩=>by simp at h,fun k o h=>h⟩

abbrev id0:Phi:=fun b=>(b,0)
theorem law_calls {C:Orc}(hC:OrcOk P C){f:FuncId}(hf:f<1000){lk lim:Nat}{as:List AV}{H':Heap}{args:Array Value}(hr:ARel id0 (oldF W) [] W as args.toList)(h:C lk lim f as []=some (.val (.bool true),H')):
  Calls P f args W fun e W'=>e= .returned (.bool true)∧Below W.heap.size W W':=by
 obtain⟨_,hc⟩:=hC _ _ _ _ _ _ _ h
 have:=hc id0 (oldF W) W args.toList (sr_start id0 W) hr
 rw[Nat.mod_eq_of_lt hf]at this
 simp only[Array.toArray_toList]at this
 refine this.mono fun e W' ⟨v,he,φ',F',hv,_,_,hch,_⟩=>?_
 refine⟨?_,hch.os,hch.tape,hch.output,hch.size,fun k hk=>hch.block k hk ?_⟩
 ·rw[he]
  congr 1
  cases hv with
  | one h=>cases h with
   | val v h=>rfl
 ·rintro⟨b,⟨cs,h,_⟩,_⟩
  simp at h

theorem post_of_below {f:Func}{s:ChangeSpec}{apart fresh handsOn again:Bool}{W':World}{args:Array Value}{v:Value}{ds gs:List (DataW HH)}{before pa pv:List MemPlace}
  (hW:DataW.Whole enc P f.params.toList s.vars apart W args.toList ds gs before)
  (hres:∀(b:Nat) (sp:Nat→Bool) (hd:Bool),DataW.TrodAll enc P W' b sp hd f.resultTypes.toList (v.resultList f.resultTypes.size) (s.fn HH (ds++gs)).results [])
  (hargs:∀sp:Nat→Bool,(∀p∈before,sp p.block=true)→DataW.TrodAll enc P W' 0 sp true f.params.toList args.toList (s.fn HH (ds++gs)).args pa)
  (hvars:∀sp:Nat→Bool,(∀p∈before,sp p.block=true)→DataW.TrodVars enc P W' sp s.vars (s.fn HH (ds++gs)).vars pv)
  (hps:before=pa++pv) (hb:Below W.heap.size W W')
  (hok:∀(j:Nat) (t:TypeId) (r:Value),f.resultTypes[j]?=some t→(v.resultList f.resultTypes.size)[j]?=some r→Value.okWide P W' .any 0 t r):
  s.post enc P f apart fresh handsOn again W args v W':=by
 have hlt:∀p∈before,p.block<W.heap.size:=fun p hp=>hW.lt p hp
 have hold:∀p∈before,(fun b=>decide (b<W.heap.size)) p.block=true:=fun p hp=>by simpa using hlt p hp
 refine⟨ds,gs,before,[],pa,pv,hW,hres _ _ _,hargs _ hold,hvars _ hold,World.keptBut_mono (fun p hp=>⟨hp,?_⟩) (hb.frame (·∈before)),fun _=>?_⟩
 ·rw[hps,List.mem_append]at hp
  exact Or.inr hp
 ·obtain⟨_,_,_,_,_,hz,hn⟩:=hW
  refine⟨hok,_,_,([]++pa)++pv,⟨[]++pa,pv,trodAll_append (hargs _ (fun _ _=>rfl)) (hres _ _ _),hvars _ (fun _ _=>rfl),rfl,?_,?_⟩,?_⟩
  ·intro b off hp
   have hin:MemPlace.cell b off∈before:=by rw[hps];simpa using hp
   rw[hb.frozen (hlt _ hin)]
   exact hz b off hin
  ·intro ha
   have:=hn ha
   rw[hps]at this
   simpa using this
  ·intro p hp _
   rw[hps]
   simpa using hp

theorem args_stay {W':World}(hl:laidOutB P=true)(hb:Below W.heap.size W W'){sp:Nat→Bool}:∀(ts:List TypeId) (vs:List Value) (ds:List (DataW HH)) (ps:List MemPlace),(∀t∈ts,P.readableRec t=true∧t<P.types.size)→
  (∀p∈ps,p.block<W.heap.size)→(∀p∈ps,sp p.block=true)→DataW.TrodAll enc P W 0 (fun _=>true) true ts vs ds ps→DataW.TrodAll enc P W' 0 sp true ts vs ds ps
 | [],vs,ds,ps,_,_,_,h=>by
  obtain⟨rfl,rfl,rfl⟩:=trodAll_nil h
  exact rfl
 | t::ts,vs,ds,ps,hr,hlt,hs,h=>by
  obtain⟨v,vs1,d1,ds1,p,q,rfl,rfl,rfl,h1,h2⟩:=trodAll_cons h
  obtain⟨r1,r2⟩:=hr t (List.mem_cons_self ..)
  exact⟨p,q,WideElems.Trod_stays hl r1 r2 h1 (fun x hx=>hb.same (hlt x (by simp[hx]))) (fun x hx=>hs x (by simp[hx])),
   args_stay hl hb ts vs1 ds1 q (fun t ht=>hr t (List.mem_cons_of_mem _ ht)) (fun x hx=>hlt x (by simp[hx])) (fun x hx=>hs x (by simp[hx])) h2,rfl⟩

end
end Go.Hm

namespace Go.Hm
open Go Go.RowKit

end Go.Hm

namespace Go.Hm
open Go Go.RowKit

section
variable {P:Program}{φ:Phi}{F:Nat→Nat→Prop}{H:Heap}{w:World}

end
end Go.Hm

namespace Go.Hm
open Go

def WP (C:Orc)(lk lim:Nat)(c:AC)(env:Env)(H:Heap)(Q:Ex→Env→Heap→Prop):Prop:=∃x e h,execW C lk lim c env H=some (x,e,h)∧Q x e h

def Blk1 (id:Nat)(Q:Ex→Env→Heap→Prop):Ex→Env→Heap→Prop
 | .exit id',e,h=>if id'=id then Q .nrm e h else Q (.exit id') e h
 | .nrm,e,h=>Q .nrm e h
 | .ret,e,h=>Q .ret e h

section
variable {C:Orc}{lk lim:Nat}{env:Env}{H:Heap}{Q:Ex→Env→Heap→Prop}

theorem WP.mono {c:AC}{Q':Ex→Env→Heap→Prop}(h:WP C lk lim c env H Q)(k:∀x e h,Q x e h→Q' x e h):WP C lk lim c env H Q':=by
 obtain⟨x,e,h1,h2,h3⟩:=h
 exact⟨x,e,h1,h2,k _ _ _ h3⟩

variable {X:Orc}{A:FuncId→Option AFn}
end

theorem wrap64 {x:Int}(h1: -9223372036854775808≤x)(h2:x≤9223372036854775807):IntKind.i64.wrap x=x:=by
 rw[IntKind.wrap_i64];omega

attribute [simp] runOps stepI guardI actOp cls rdOp put noRp find ev restrict enterFrom cellsV ptrCells one abin slCells slN resOf resList resOne argOk Blk1 clArgs fillP mkOp setAt
section
variable {lk lim base n es bytes:Nat}{a x y m k v:AO}{env:Env}{H:Heap}{dst:Option Nat}{ag:Bool}{ks:List Nat}
theorem exOp_stL {t:Nat}:exOp lk lim base none (.st (some t) n a x) env H=(match cellsV (ev env x) with
  | some new=>if new.length=n then (match ev env a with
    | .rp t' off=>if t'=t then (match find env t with
     | .box cs=>if off+n≤cs.length then some (setAt env t (.box (replaceAt cs off new)),H) else none
     | _=>none) else none
    | _=>none) else none
  | none=>none):=by
 simp only[exOp,and_true]
 cases cellsV (ev env x) with
 | none=>rfl
 | some new=>
  dsimp only
  split
  ·cases ev env a<;>rfl
  ·rfl
theorem exOp_stH:exOp lk lim base none (.st none n a x) env H=(match cellsV (ev env x) with
  | some new=>if new.length=n then (match ev env a with
    | .hp b g off=>(match H[b]? with
     | some (.cells cs)=>if cs.length=g∧off+n≤g∧0<n then
       (match setH lk lim base H b (replaceAt cs off new) new with
       | some H'=>some (env,H')
       | none=>none) else none
     | _=>none)
    | _=>none) else none
  | none=>none):=by
 simp only[exOp,and_true]
 cases cellsV (ev env x) with
 | none=>rfl
 | some new=>
  dsimp only
  split
  ·cases ev env a<;>rfl
  ·rfl
theorem exOp_appS:exOp lk lim base dst (.app es bytes x y) env H=(match srcCells H (ev env y) with
  | some (m,new)=>if new.length=m*es then
    (match ev env x with
    | .e0=>
     if m=0 then (match put dst .e0 env with
      | some env'=>some (env',H)
      | none=>none)
     else if m*bytes≤room then
      (match put dst (.hs H.length (m*es) 0 m es) env with
      | some env'=>some (env',H++[.cells new])
      | none=>none)
     else none
    | .hs b g off n es'=>(match H[b]? with
     | some (.cells cs)=>
      if cs.length=g∧es'=es∧(off+n*es=g∨off+n*es+m*es≤g)∧(n+m)*bytes≤room then
       (match setH lk lim base H b (appC (off+n*es) g cs new) new with
       | some H'=>(match put dst (.hs b (appG (off+n*es) g (m*es)) off (n+m) es) env with
        | some env'=>some (env',H')
        | none=>none)
       | none=>none)
      else none
     | _=>none)
    | _=>none)
   else none
  | none=>none):=rfl
theorem exOp_mupS:exOp lk lim base none (.mup ag ks m k v) env H=(match ev env m with
  | .mp b=>(match H[b]? with
   | some (.map es)=>
    if lk≤b∧keyOk ag ks (ev env k)=true∧argOk (ev env v)=true∧Hm.below 0 (ev env v)=true then
     (match mset ag ks (ev env k) (ev env v) es with
     | some es'=>some (env,H.set b (.map es'))
     | none=>none)
    else none
   | _=>none)
  | _=>none):=by
 simp only[exOp,true_and]
 rfl
end
attribute [simp] exOp_stL exOp_stH exOp_appS exOp_mupS
attribute [simp] runD stepD actD isCall isRp rpOp
end Go.Hm

