import Derived.Test.YtnhennjliinplaaHmG7
import Derived.SizedLaws
set_option linter.all false
namespace Go.Hm
open Go Go.RowKit Go.ChangeShapes Go.WideShapes Go.ChangeAt

section
variable {P:Program}
def TyS (P:Program):Nat→TypeId→List AV→Prop
 | 0,_,_=>False
 | d+1,t,as=>match P.underlying t with
  | some .bool=>∃b,as=[.val (.bool b)]
  | some (.int k)=>∃n,as=[.val (.int k n)]∧k.min≤n∧n≤k.max
  | some .string=>∃s:ByteArray,as=[.val (.string s)]∧s.size≤maxLen
  | some (.slice e)=>∃rows:List (List AV),as=[.sl rows.length rows.flatten]∧rows.length≤maxLen∧rows.length*P.bytesOf e≤reachBytes∧∀r∈rows,TyS P d e r
  | some (.struct fs)=>∃parts:List (List AV),as=parts.flatten∧parts.length=fs.toList.length∧∀(i:Nat) f r,fs.toList[i]?=some f→parts[i]?=some r→TyS P d f.type r
  | some (.array n e)=>∃parts:List (List AV),as=parts.flatten∧parts.length=n∧∀r∈parts,TyC P d e r
  | _=>False

theorem TyS.tyC:∀{d:Nat} {t:TypeId} {as:List AV},TyS P d t as→TyC P d t as
 | 0,_,_,h=>h.elim
 | d+1,t,as,h=>by
  simp only[TyS]at h
  simp only[TyC]
  split at h
  ·rename_i hu;rw[hu];exact h
  ·rename_i hu;rw[hu];exact h
  ·rename_i hu;rw[hu];exact h
  ·rename_i hu;rw[hu]
   obtain⟨rows,h1,h2,_,h3⟩:=h
   exact⟨rows,h1,h2,fun r hr=>(h3 r hr).tyC⟩
  ·rename_i hu;rw[hu]
   obtain⟨parts,h1,h2,h3⟩:=h
   exact⟨parts,h1,h2,fun i f r hf hr=>(h3 i f r hf hr).tyC⟩
  ·rename_i hu;rw[hu];exact h
  ·exact h.elim
variable {HH:Type}{enc:TypeId×Value→HH}{W:World}
theorem mem_weightsAll {e:TypeId}{n:Nat}:∀{l:List (DataW HH)} {d:DataW HH},d∈l→n∈d.weights P e→n∈DataW.weightsAll P e l
 | x::l,d,hd,hn=>by
  unfold DataW.weightsAll
  rcases List.mem_cons.1 hd with rfl | hd
  ·exact List.mem_append_left _ hn
  ·exact List.mem_append_right _ (mem_weightsAll hd hn)
theorem mem_weightsEach {n:Nat}:∀{ts:List TypeId} {l:List (DataW HH)} {i:Nat} {t:TypeId} {d:DataW HH},ts[i]?=some t→l[i]?=some d→n∈d.weights P t→n∈DataW.weightsEach P ts l
 | [],_,_,_,_,h,_,_=>by simp at h
 | _::_,[],_,_,_,_,h,_=>by simp at h
 | t0::ts,x::l,0,t,d,ht,hd,hn=>by
  simp only[List.getElem?_cons_zero,Option.some.injEq]at ht hd
  subst ht;subst hd
  unfold DataW.weightsEach
  exact List.mem_append_left _ hn
 | t0::ts,x::l,i+1,t,d,ht,hd,hn=>by
  unfold DataW.weightsEach
  exact List.mem_append_right _ (mem_weightsEach (by simpa using ht) (by simpa using hd) hn)
theorem rel_of_trodS {φ:Phi}:∀(d fuel:Nat) (t:TypeId) (cs:List Value) (x:DataW HH×List MemPlace),plainT P d t=true→DataW.trod enc P W 0 (fun _=>true) true fuel t cs=some x→(∀n∈x.1.weights P t,n≤reachBytes)→
  ∃as,CL φ (oldF W) [] W as cs∧belowL 0 as=true∧TyS P d t as
 | 0,_,_,_,_,hp,_,_=>by simp[plainT]at hp
 | d+1,fuel,t,cs,x,hp,h,hw=>by
  simp only[plainT]at hp
  split at hp
  ·rename_i hu
   obtain⟨b,rfl,_⟩:=DataW.trod_bool hu h
   exact⟨[.val (.bool b)],CL.one (.val _ rfl),rfl,by simp only[TyS,hu];exact⟨b,rfl⟩⟩
  ·rename_i k hu
   obtain⟨n,rfl,_,hw2⟩:=DataW.trod_int hu h
   refine⟨[.val (.int k n)],CL.one (.val _ rfl),rfl,?_⟩
   simp only[TyS,hu]
   simp only[Lit.wf,Bool.and_eq_true,decide_eq_true_eq]at hw2
   exact⟨n,rfl,hw2⟩
  ·rename_i hu
   obtain⟨s,rfl,_,hw2⟩:=DataW.trod_string hu h
   exact⟨[.val (.string s)],CL.one (.val _ rfl),rfl,by simp only[TyS,hu];exact⟨s,rfl,hw2⟩⟩
  ·rename_i e hu
   simp only[Bool.and_eq_true,decide_eq_true_eq]at hp
   obtain⟨hc0,hpe⟩:=hp
   have nilC:∀z,∃as,CL φ (oldF W) [] W as [.slice z 0 0]∧belowL 0 as=true∧TyS P (d+1) t as:=fun z=>
    ⟨[.sl 0 []],CL.one (.slnil z),rfl,by simp only[TyS,hu];exact⟨[],rfl,Nat.zero_le _,by simp,by simp⟩⟩
   rcases DataW.trod_slice hu h with⟨rfl,_⟩ | ⟨a,len,cap,elems,rest,n,_,rfl,rfl,_,hlc,hm,hel,he1,he2,_⟩
   ·exact nilC none
   ·by_cases hcap:cap=0
    ·subst hcap
     obtain rfl:len=0:=by omega
     exact nilC _
    ·obtain⟨hrl,hr⟩:=he2 rfl
     have hw0:=hw
     simp only[DataW.weights,hu]at hw0
     have hwe:∀d∈elems.map (·.1),∀q∈d.weights P e,q≤reachBytes:=fun d hd q hq=>hw0 q (List.mem_cons_of_mem _ (List.mem_append_left _ (mem_weightsAll hd hq)))
     have hwr:∀d∈rest.map (·.1),∀q∈d.weights P e,q≤reachBytes:=fun d hd q hq=>hw0 q (List.mem_cons_of_mem _ (List.mem_append_right _ (mem_weightsAll hd hq)))
     have hwl:len*P.bytesOf e≤reachBytes:=by
      have h1:=hw0 _ (List.mem_cons_self ..)
      rw[List.length_map,List.length_map,hel]at h1
      exact Nat.le_trans (Nat.mul_le_mul_right _ (by omega)) h1
     have each:∀i,i<cap→∃vs y,W.cells? 0 (a.add (i*P.cellsOf e)) (P.cellsOf e)=some vs∧DataW.trod enc P W 0 (fun _=>true) true n e vs=some y∧∀n∈y.1.weights P e,n≤reachBytes:=by
      intro i hi
      by_cases hil:i<len
      ·have hq:=he1 i hil
       rw[List.getElem?_eq_getElem (by omega),Option.bind_eq_some_iff]at hq
       obtain⟨vs,h1,h2⟩:=hq
       exact⟨vs,_,h1,h2,fun q hq=>hwe _ (List.mem_map_of_mem (List.getElem_mem _)) q hq⟩
      ·have hq:=hr (i-len) (by omega)
       rw[show len+(i-len)=i by omega,List.getElem?_eq_getElem (by omega),Option.bind_eq_some_iff]at hq
       obtain⟨vs,h1,h2⟩:=hq
       exact⟨vs,_,h1,h2,fun q hq=>hwr _ (List.mem_map_of_mem (List.getElem_mem _)) q hq⟩
     obtain⟨vs0,_,hv0,_,_⟩:=each 0 (by omega)
     obtain⟨_,hl0,hg0⟩:=World.cells?_some hv0
     have hb:a.block<W.heap.size:=by
      have:=World.cells?_block hv0 hc0
      simpa[Addr.add] using this
     obtain⟨b,o,spot⟩:=a
     have hspot:spot=none:=by
      have g0:=hg0 0 hc0
      rw[List.getElem?_eq_getElem (by omega)]at g0
      simpa[Addr.add] using World.cell?_spot g0
     subst hspot
     have build:∀m,m≤cap→∃(rows:List (List AV)) (vs:List Value),rows.length=m∧vs.length=m*P.cellsOf e∧CL φ (oldF W) [] W rows.flatten vs∧belowL 0 rows.flatten=true∧(∀r∈rows,TyS P d e r)∧
       ∀(i:Nat) v,vs[i]?=some v→W.cell? ⟨b,o+i,none⟩=some v:=by
      intro m
      induction m with
      | zero=>intro _;exact⟨[],[],rfl,by simp,CL.nil,rfl,by simp,by simp⟩
      | succ m ih=>
       intro hmc
       obtain⟨rows,vs,r1,r2,r3,r4,r5,r6⟩:=ih (by omega)
       obtain⟨us,y,hus,hy,hyw⟩:=each m (by omega)
       obtain⟨as,a1,a2,a3⟩:=rel_of_trodS (φ:=φ) d n e us y hpe hy hyw
       obtain⟨_,hul,hug⟩:=World.cells?_some hus
       refine⟨rows++[as],vs++us,by simp[r1],by rw[List.length_append,r2,hul,Nat.succ_mul],by simpa using r3.app a1,by simpa using belowL_app r4 a2,fun r hr=>?_,fun i v hv=>?_⟩
       ·rcases List.mem_append.1 hr with h | h
        ·exact r5 r h
        ·simp at h;subst h;exact a3
       ·by_cases hi:i<vs.length
        ·rw[List.getElem?_append_left hi]at hv
         exact r6 i v hv
        ·rw[List.getElem?_append_right (by omega),r2]at hv
         have hlt:i-m*P.cellsOf e<P.cellsOf e:=by
          have:=(List.getElem?_eq_some_iff.1 hv).1
          omega
         have hq:=hug (i-m*P.cellsOf e) hlt
         rw[hv]at hq
         rw[←hq]
         congr 1
         rw[r2]at hi
         have e1:∀k:Nat,Addr.add ⟨b,o,none⟩ k=⟨b,o+k,none⟩:=fun k=>by
          unfold Addr.add;split
          ·rename_i hk;subst hk;rfl
          ·rfl
         have e2:∀k:Nat,Addr.add ⟨b,o+m*P.cellsOf e,none⟩ k=⟨b,o+m*P.cellsOf e+k,none⟩:=fun k=>by
          unfold Addr.add;split
          ·rename_i hk;subst hk;rfl
          ·rfl
         rw[e1,e2]
         congr 1
         omega
     obtain⟨rows,vs,r1,r2,r3,r4,r5,r6⟩:=build len hlc
     refine⟨[.sl rows.length rows.flatten],CL.one ?_,?_,?_⟩
     ·rw[r1]
      exact .sl b o len cap _ vs hlc r3.1 (fun _ _=>hb) r6 r3.2
     ·simp[belowL,Hm.below,r4]
     ·simp only[TyS,hu]
      exact⟨rows,rfl,by omega,by rw[r1];exact hwl,r5⟩
  ·rename_i fs hu
   simp only[Bool.and_eq_true,beq_iff_eq,List.all_eq_true]at hp
   obtain⟨hc,hall⟩:=hp
   obtain⟨xs,n,_,rfl,hl,hxl,hf⟩:=DataW.trod_struct hu h
   have each:∀f∈fs.toList,∃as,CL φ (oldF W) [] W as ((cs.drop f.offset).take (P.cellsOf f.type))∧belowL 0 as=true∧TyS P d f.type as:=by
    intro f hfm
    obtain⟨i,hi⟩:=List.getElem?_of_mem hfm
    rw[Array.getElem?_toList]at hi
    have hq:=hf i f hi
    have hilt:=(Array.getElem?_eq_some_iff.1 hi).1
    rw[List.getElem?_eq_getElem (by omega)]at hq
    refine rel_of_trodS (φ:=φ) d n f.type _ _ (hall f hfm) hq fun q hq=>hw q ?_
    simp only[DataW.weights,hu]
    refine mem_weightsEach (i:=i) (t:=f.type) ?_ ?_ hq
    ·rw[List.getElem?_map,Array.getElem?_toList,hi];rfl
    ·rw[List.getElem?_map,List.getElem?_eq_getElem (by omega)];rfl
   obtain⟨_,parts,p1,p2,p3,p4⟩:=fields_build (Q:=fun f as=>TyS P d f.type as) fs.toList 0 _ hc (by omega) each
   refine⟨parts.flatten,?_,p3,?_⟩
   ·rw[←hl]at p2
    simpa using p2
   ·simp only[TyS,hu]
    exact⟨parts,rfl,p1,p4⟩
  ·rename_i n e hu
   simp only[Bool.and_eq_true,beq_iff_eq]at hp
   obtain⟨hc,hpe⟩:=hp
   obtain⟨hl,m,hm⟩:=trod_array hu h
   obtain⟨rows,r1,r2,r3,r4⟩:=parts_build (φ:=φ) (F:=oldF W) (H:=[]) (W:=W) (cs:=cs) (c:=P.cellsOf e) (Q:=TyC P d e) n (by omega) (fun i hi=>by
    obtain⟨y,hy⟩:=hm i hi
    exact rel_of_trod (φ:=φ) d m e _ _ hpe hy)
   refine⟨rows.flatten,?_,r3,?_⟩
   ·rw[hc,←hl]at r2
    simpa using r2
   ·simp only[TyS,hu]
    exact⟨rows,rfl,r1,r4⟩
  ·simp at hp

def ArgS (P:Program)(d:Nat)(t:TypeId)(a:AV):Prop:=
 match P.underlying t with
 | some (.struct _) | some (.array _ _)=>∃as,a= .agg as∧TyS P d t as
 | _=>TyS P d t [a]

def ArgsS (P:Program)(d:Nat):List TypeId→List AV→Prop
 | [],[]=>True
 | t::ts,a::as=>ArgS P d t a∧ArgsS P d ts as
 | _,_=>False

theorem arg_of_trodS {φ:Phi}{d b0:Nat}{r:Reach}{t:TypeId}{v:Value}{x:DataW HH}{ps:List MemPlace}(hp:plainT P d t=true)(hval:Value.okWide P W r b0 t v)(h:DataW.Trod enc P W 0 (fun _=>true) true t v x ps)(hw:∀n∈x.weights P t,n≤reachBytes):
  ∃a,VRel φ (oldF W) [] W a v∧ArgS P d t a:=by
 obtain⟨fuel,h⟩:=h
 obtain⟨as,h1,h2,h3⟩:=rel_of_trodS (φ:=φ) d fuel t _ _ hp h hw
 unfold ArgS
 have agg:∀cs:Array Value,v= .agg cs→∃a,VRel φ (oldF W) [] W a v∧∃as,a= .agg as∧TyS P d t as:=by
  rintro cs rfl
  refine⟨.agg as,?_,as,rfl,h3⟩
  have:=VRel.agg as cs.toList (by simpa[Value.cells] using h1)
  simpa using this
 split
 ·rename_i fs hu
  simp only[Value.okWide,hu]at hval
  obtain⟨cs,hv,_⟩:=hval
  exact agg cs hv
 ·rename_i n e hu
  simp only[Value.okWide,hu]at hval
  obtain⟨cs,hv,_⟩:=hval
  exact agg cs hv
 ·rename_i hs ha
  obtain⟨a,rfl⟩:=h3.tyC.single hs ha
  refine⟨a,?_,h3⟩
  have hv:v.cells.toList=[v]:=by
   cases v with
   | agg cs=>
    exfalso
    unfold Value.okWide at hval
    split at hval
    ·exact hs _ ‹_›
    ·exact ha _ _ ‹_›
    ·unfold Cell.okWide at hval
     split at hval
     all_goals first | (rename_i heq;cases heq;done) | skip
     all_goals first | (unfold Cell.ok at hval;split at hval<;>first | (rename_i heq;cases heq;done) | exact hval.elim) | skip
     all_goals simp_all
   | _=>rfl
  rw[hv]at h1
  exact .one (h1.2 0 a v rfl rfl)

theorem args_of_trodS {φ:Phi}{d b0:Nat}{r:Reach}:∀(ts:List TypeId) (vs:List Value) (ds:List (DataW HH)) (ps:List MemPlace),ts.all (plainT P d)=true→
  (∀(j:Nat) t v,ts[j]?=some t→vs[j]?=some v→Value.okWide P W r b0 t v)→DataW.TrodAll enc P W 0 (fun _=>true) true ts vs ds ps→(∀n∈DataW.weightsEach P ts ds,n≤reachBytes)→
  ∃as,ARel φ (oldF W) [] W as vs∧ArgsS P d ts as
 | [],vs,ds,ps,_,_,h,_=>by
  obtain⟨rfl,_,_⟩:=trodAll_nil h
  exact⟨[],⟨rfl,by simp⟩,trivial⟩
 | t::ts,vs,ds,ps,hp,hval,h,hw=>by
  obtain⟨v,vs1,d1,ds1,p,q,rfl,rfl,rfl,h1,h2⟩:=trodAll_cons h
  simp only[List.all_cons,Bool.and_eq_true]at hp
  obtain⟨a,ha1,ha2⟩:=arg_of_trodS (φ:=φ) hp.1 (hval 0 t v rfl rfl) h1 (fun q hq=>hw q (by unfold DataW.weightsEach;exact List.mem_append_left _ hq))
  obtain⟨as,hb1,hb2⟩:=args_of_trodS (φ:=φ) ts vs1 ds1 q hp.2 (fun j t v ht hv=>hval (j+1) t v (by simpa using ht) (by simpa using hv)) h2 (fun q hq=>hw q (by unfold DataW.weightsEach;exact List.mem_append_right _ hq))
  refine⟨a::as,⟨congrArg (·+1) hb1.1,fun i x u hx hu=>?_⟩,ha2,hb2⟩
  cases i with
  | zero=>simp at hx hu;subst hx;subst hu;exact ha1
  | succ i=>exact hb1.2 i x u (by simpa using hx) (by simpa using hu)

theorem weights_front {n:Nat}:∀{ts us:List TypeId} {ds gs:List (DataW HH)},ds.length=ts.length→n∈DataW.weightsEach P ts ds→n∈DataW.weightsEach P (ts++us) (ds++gs)
 | [],_,[],_,_,h=>by simp[DataW.weightsEach]at h
 | t::ts,us,d::ds,gs,hl,h=>by
  unfold DataW.weightsEach at h
  simp only[List.cons_append]
  unfold DataW.weightsEach
  rcases List.mem_append.1 h with h | h
  ·exact List.mem_append_left _ h
  ·exact List.mem_append_right _ (weights_front (by simpa using hl) h)
 | [],_,_::_,_,hl,_=>by simp at hl
 | _::_,_,[],_,hl,_=>by simp at hl
theorem law_contractS {C:Orc}(hC:OrcOk P C){f:FuncId}(hf:f<1000){fn:Func}{s:ChangeSpec}{d tb base:Nat}(hl:laidOutB P=true)(hrd:fn.params.toList.all (fun t=>P.readableRec t&&decide (t<P.types.size))=true)
  (hres:fn.resultTypes=#[tb]) (htb:P.underlying tb=some .bool) (hvars:s.vars=[]) (hpl:fn.params.toList.all (plainT P d)=true)
  (hs:∀ds:List (DataW HH),ds.length=fn.params.toList.length→s.fn HH ds={ results:=[.lit (.bool true)],args:=ds })
  (hlaw:∀as,ArgsS P d fn.params.toList as→∃lk lim H',C lk lim f as []=some (.val (.bool true),H'))
  {args:Array Value} {ds gs:List (DataW HH)} {before:List MemPlace}
  (hval:∀(j:Nat) t v,fn.params[j]?=some t→args[j]?=some v→Value.okWide P W .any base t v)
  (hW:DataW.Whole enc P fn.params.toList s.vars false W args.toList ds gs before)
  (hz:(DataW.weightsEach P (fn.params.toList++s.plain.varTypes P) (ds++gs)).all (·≤reachBytes)=true):
  Calls P f args W fun e W'=>∃v,e= .returned v∧s.post enc P fn false true false false W args v W':=by
 have hW':=hW
 obtain⟨p,q,hA,hV,rfl,hfz,hnd⟩:=hW
 rw[hvars]at hV
 obtain⟨rfl,rfl⟩:=trodVars_none hV
 have hlen:∀(ts:List TypeId) (vs:List Value) (ds:List (DataW HH)) (ps:List MemPlace),DataW.TrodAll enc P W 0 (fun _=>true) true ts vs ds ps→ds.length=ts.length:=by
  intro ts
  induction ts with
  | nil=>intro vs ds ps h;obtain⟨_,rfl,_⟩:=trodAll_nil h;rfl
  | cons t ts ih=>
   intro vs ds ps h
   obtain⟨v,vs1,d1,ds1,p,q,rfl,rfl,rfl,h1,h2⟩:=trodAll_cons h
   simp[ih _ _ _ h2]
 obtain⟨as,ha1,ha2⟩:=args_of_trodS (φ:=id0) (d:=d) _ _ _ _ hpl (fun j t v ht hv=>hval j t v (by simpa using ht) (by simpa using hv)) hA (fun q hq=>by simpa using List.all_eq_true.1 hz q (weights_front (hlen _ _ _ _ hA) hq))
 obtain⟨lk,lim,H',h⟩:=hlaw as ha2
 have hfn:=hs ds (hlen _ _ _ _ hA)
 refine(law_calls hC hf ha1 h).mono fun e W' ⟨he,hb⟩=>⟨_,he,post_of_below (pa:=p) (pv:=[]) hW' ?_ ?_ ?_ rfl hb ?_⟩
 ·intro b sp hd
  rw[List.append_nil,hfn,hres]
  exact trodAll_cons_mk (shut_bool htb _) trodAll_mk0
 ·intro sp hsp
  rw[List.append_nil,hfn]
  simp only[List.all_eq_true,Bool.and_eq_true,decide_eq_true_eq]at hrd
  exact args_stay hl hb _ _ _ _ hrd (fun x hx=>hW'.lt x (by simp[hx])) (fun x hx=>hsp x (by simp[hx])) hA
 ·intro sp hsp
  rw[List.append_nil,hfn,hvars]
  exact rfl
 ·exact ok_one hres rfl (okWide_bool_mk htb _)
end
end Go.Hm
