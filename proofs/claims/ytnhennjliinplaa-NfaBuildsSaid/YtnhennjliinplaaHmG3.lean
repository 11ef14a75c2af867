/- The machine HM, part 3. -/
import Derived.Test.YtnhennjliinplaaHmG2
import Derived.Laws.MakeOwn
set_option linter.all false
namespace Go.Hm
open Go Go.RowKit

structure Chg (w w':World)(S:Nat→Prop):Prop where
 os:w'.os=w.os
 tape:w'.tape=w.tape
 output:w'.output=w.output
 size:w.heap.size≤w'.heap.size
 block:∀k,k<w.heap.size→¬S k→w'.heap[k]?=w.heap[k]?

theorem Chg.of_below {w w':World}(h:Below w.heap.size w w')(S:Nat→Prop):Chg w w' S:=⟨h.os,h.tape,h.output,h.size,fun k hk _=>h.block k hk⟩
theorem Chg.refl (w:World)(S:Nat→Prop):Chg w w S:=⟨rfl,rfl,rfl,Nat.le_refl _,fun _ _ _=>rfl⟩

def Marks (w0 w:World)(F:Nat→Nat→Prop)(ds:List Deferred):Prop:=
 ds.Nodup∧∀d∈ds,∃r,d={ target:=.collected r,args:=#[] }∧(∃o,F r o)∧w0.heap.size≤r∧w.heap[r]?=some (.deferred (some []))

structure TT where
 n:Nat
 rd:Option (List Deferred):=none
instance:Coe TT Nat:=⟨TT.n⟩
def Dfr (T:TT)(w0 w:World)(F:Nat→Nat→Prop)(ds:List Deferred):Prop:=match T.rd with
 | none=>Marks w0 w F ds
 | some l=>ds=l

structure Full (φ0:Phi)(F0:Nat→Nat→Prop)(H0:Heap)(w0:World)(φ:Phi)(F:Nat→Nat→Prop)(H:Heap)(w:World)(β:Nat→Nat)(env:Env)(act:Act)(T:TT):Prop where
 st:St φ F H w β env act T
 ext:Ext φ0 F0 H0 w0 φ F H w
 chg:Chg w0 w (fun k=>∃b,live H0 b∧(φ0 b).1=k)
 phi:∀b,live H b→(live H0 b∧φ0 b=φ b)∨w0.heap.size≤(φ b).1
 beta:∀t cs,find env t= .box cs→w0.heap.size≤β t
 dfr:Dfr T w0 w F act.defers
 frn:∀k o,F k o→F0 k o∨w0.heap.size≤k

theorem Marks.ext {w0 w w':World}{φ φ':Phi}{F F':Nat→Nat→Prop}{H H':Heap}{ds:List Deferred}(h:Marks w0 w F ds)(e:Ext φ F H w φ' F' H' w'):Marks w0 w' F' ds:=
 ⟨h.1,fun d hd=>by
  obtain⟨r,h1,⟨o,h2⟩,h3,h4⟩:=h.2 d hd
  exact⟨r,h1,⟨o,(e.frz r o h2).1⟩,h3,(e.frz r o h2).2.trans h4⟩⟩
theorem Dfr.ext {T:TT}{w0 w w':World}{φ φ':Phi}{F F':Nat→Nat→Prop}{H H':Heap}{ds:List Deferred}(h:Dfr T w0 w F ds)(e:Ext φ F H w φ' F' H' w'):Dfr T w0 w' F' ds:=by
 unfold Dfr at *
 split
 ·rename_i hr
  rw[hr]at h
  exact h.ext e
 ·rename_i l hr
  rw[hr]at h
  exact h
theorem Marks.nil {w0 w:World}{F:Nat→Nat→Prop}:Marks w0 w F []:=⟨List.nodup_nil,fun d h=>by cases h⟩

section
variable {P:Program}{φ0:Phi}{F0:Nat→Nat→Prop}{H0:Heap}{w0:World}{φ:Phi}{F:Nat→Nat→Prop}{H:Heap}{w:World}{β:Nat→Nat}{env:Env}{act:Act}{T:TT}

theorem Full.next (f:Full φ0 F0 H0 w0 φ F H w β env act T){φ':Phi}{F':Nat→Nat→Prop}{H':Heap}{w':World}{β':Nat→Nat}{env':Env}{act':Act}{S:Nat→Prop}
  (hc:Chg w w' S) (hS:∀k,S k→(∃b,live H b∧(φ b).1=k)∨(∃t cs,find env t= .box cs∧β t=k)) (st:St φ' F' H' w' β' env' act' T) (e:Ext φ F H w φ' F' H' w')
  (hp:∀b,live H' b→(live H b∧φ b=φ' b)∨w.heap.size≤(φ' b).1)
  (hb:∀t cs,find env' t= .box cs→(∃cs',find env t= .box cs'∧β' t=β t)∨w.heap.size≤β' t) (hd:act'.defers=act.defers) (hf:∀k o,F' k o→F k o∨w.heap.size≤k):
  Full φ0 F0 H0 w0 φ' F' H' w' β' env' act' T:=by
 refine⟨st,f.ext.trans e,⟨hc.os.trans f.chg.os,hc.tape.trans f.chg.tape,hc.output.trans f.chg.output,Nat.le_trans f.chg.size hc.size,fun k hk hn=>?_⟩,fun b hl=>?_,fun t cs ht=>?_,by rw[hd];exact f.dfr.ext e,fun k o h=>?_⟩
 ·have hk':k<w.heap.size:=Nat.lt_of_lt_of_le hk f.chg.size
  rw[hc.block k hk' (fun hs=>?_),f.chg.block k hk hn]
  rcases hS k hs with⟨b,hl,rfl⟩ | ⟨t,cs,ht,rfl⟩
  ·rcases f.phi b hl with⟨h1,h2⟩ | h
   ·exact hn ⟨b,h1,by rw[h2]⟩
   ·omega
  ·have:=f.beta t cs ht;omega
 ·rcases hp b hl with⟨hl0,he⟩ | h
  ·rcases f.phi b hl0 with⟨h1,h2⟩ | h
   ·exact .inl ⟨h1,h2.trans he⟩
   ·exact .inr (by rw[←he];exact h)
  ·exact .inr (Nat.le_trans f.chg.size h)
 ·rcases hb t cs ht with⟨cs',ht',he⟩ | h
  ·rw[he];exact f.beta t cs' ht'
  ·exact Nat.le_trans f.chg.size h
 ·rcases hf k o h with h | h
  ·exact f.frn k o h
  ·exact .inr (Nat.le_trans f.chg.size h)

def Post (φ0:Phi)(F0:Nat→Nat→Prop)(H0:Heap)(w0:World)(H':Heap)(env':Env)(T:TT)(act':Act)(w':World):Prop:=
 ∃φ' F' β',Full φ0 F0 H0 w0 φ' F' H' w' β' env' act' T

theorem find_put {dst:Option Nat}{v:AV}{env env':Env}(h:put dst v env=some env')(hv:∀cs,v≠.box cs){t:Nat}{cs:List AV}(hf:find env' t= .box cs):find env t= .box cs:=by
 cases dst with
 | none=>simp[put]at h;subst h;exact hf
 | some d=>
  simp only[put]at h
  split at h
  ·simp at h;subst h
   simp only[find]at hf
   split at hf
   ·exact absurd hf (hv cs)
   ·exact hf
  ·simp at h

theorem ORel.notBox {a:AV}{v:Value}(h:ORel φ F H w β a v):∀cs,a≠.box cs:=fun cs e=>by subst e;exact h

theorem f_pure (f:Full φ0 F0 H0 w0 φ F H w β env act T){dst:Option Nat}{v:AV}{cv:Value}{env':Env}(hd:∀d,dst=some d→d<T)(hp:put dst v env=some env')(hv:ORel φ F H w β v cv):
  Post φ0 F0 H0 w0 H env' T (act.put dst cv) w:=
 ⟨φ,F,β,f.next (Chg.refl w fun _=>False) (fun _ h=>h.elim) (f.st.put1 hd hp hv) (Ext.refl _ _ _ _) (fun b hl=>.inl ⟨hl,rfl⟩) (fun t cs ht=>.inl ⟨cs,find_put hp hv.notBox ht,rfl⟩) (by cases dst<;>rfl) (fun _ _ h=>.inl h)⟩

theorem f_grow (f:Full φ0 F0 H0 w0 φ F H w β env act T){dst:Option Nat}{v:AV}{cv:Value}{env':Env}{w':World}{F':Nat→Nat→Prop}(hd:∀d,dst=some d→d<T)(hp:put dst v env=some env')
  (hb:Below w.heap.size w w') (hF:∀k o,F k o→F' k o) (hN:∀k o,F' k o→F k o∨(w.heap.size≤k∧k<w'.heap.size)) (hv:ORel φ F' H w' β v cv):
  Post φ0 F0 H0 w0 H env' T (act.put dst cv) w':=by
 obtain⟨e,sr⟩:=grow f.st.sr hb hF hN
 have bl:∀t cs,find env t= .box cs→β t<w.heap.size:=fun t cs ht=>by
  have h:=f.st.slot t
  rw[ht]at h
  obtain⟨arr,ty,ha,_⟩:=h.2
  exact(Array.getElem?_eq_some_iff.1 ha).1
 have st':St φ F' H w' β env act T:=f.st.mono e sr (fun t cs ht=>⟨hb.block _ (bl t cs ht),fun b hl=>f.st.bphi t cs b ht hl,fun o hf=>by
  rcases hN _ o hf with hf | ⟨h,_⟩
  ·exact f.st.bF t cs o ht hf
  ·have:=bl t cs ht;omega⟩)
 exact⟨φ,F',β,f.next (Chg.of_below hb fun _=>False) (fun _ h=>h.elim) (st'.put1 hd hp hv) e (fun b hl=>.inl ⟨hl,rfl⟩) (fun t cs ht=>.inl ⟨cs,find_put hp hv.notBox ht,rfl⟩) (by cases dst<;>rfl) (fun k o h=>(hN k o h).imp id And.left)⟩

theorem box_lt (s:St φ F H w β env act T){t:Nat}{cs:List AV}(ht:find env t= .box cs):β t<w.heap.size:=by
 have h:=s.slot t
 rw[ht]at h
 obtain⟨arr,ty,ha,_⟩:=h.2
 exact(Array.getElem?_eq_some_iff.1 ha).1
theorem live_lt (s:SR φ F H w){b:Nat}(hl:live H b):(φ b).1<w.heap.size:=by
 exact s.live_lt hl

theorem f_box (f:Full φ0 F0 H0 w0 φ F H w β env act T){d:Nat}{cs:List AV}{vs:Array Value}{env':Env}{ty:TypeId}(hd:d<T)(hp:put (some d) (.box cs) env=some env')(hc:CL φ F H w cs vs.toList):
  Post φ0 F0 H0 w0 H env' T (act.put (some d) (.pointer (some ⟨w.heap.size,0,none⟩))) (w.alloc (.cells vs ty)):=by
 have hb:Below w.heap.size w (w.alloc (.cells vs ty)):=(Below.refl _ _).alloc (Nat.le_refl _) _
 obtain⟨e,sr⟩:=grow (F':=F) f.st.sr hb (fun _ _ h=>h) (fun _ _ h=>.inl h)
 have st':St φ F H (w.alloc (.cells vs ty)) β env act T:=f.st.mono e sr (fun t cs ht=>⟨hb.block _ (box_lt f.st ht),fun b hl=>f.st.bphi t cs b ht hl,fun o hf=>f.st.bF t cs o ht hf⟩)
 simp only[put]at hp
 split at hp
 ·rename_i hn
  simp only[Option.some.injEq]at hp;subst hp
  let β':Nat→Nat:=fun t=>if t=d then w.heap.size else β t
  have hnew:(w.alloc (.cells vs ty)).heap[w.heap.size]?=some (.cells vs ty (0,0)):=heap_alloc_new w _
  refine⟨φ,F,β',f.next (Chg.of_below hb fun _=>False) (fun _ h=>h.elim) (st'.put hd hn (fun t ht=>if_neg ht) ⟨by simp[β'],vs,ty,by rw[show β' d=w.heap.size from if_pos rfl];exact hnew,fun i a ha=>?_⟩ (fun cs' hcs=>⟨fun b hl=>?_,fun t cs'' ht hf=>?_,fun o hf=>?_⟩)) e (fun b hl=>.inl ⟨hl,rfl⟩) (fun t cs' ht=>?_) rfl (fun _ _ h=>.inl h)⟩
  ·obtain⟨v,hv,hr⟩:=hc.get ha
   exact⟨v,fun _=>by simpa using hv,hr.mono e⟩
  ·have:=live_lt f.st.sr hl
   simp only[β',if_true];omega
  ·have:=box_lt f.st hf
   simp only[β',if_true];omega
  ·have:=f.st.sr.fsz _ _ hf
   simp only[β',if_true]at this;omega
  ·simp only[find]at ht
   by_cases h:d=t
   ·subst h;exact .inr (by simp[β'])
   ·rw[if_neg h]at ht
    exact .inl ⟨cs',ht,if_neg (fun e=>h e.symm)⟩
 ·simp at hp

theorem f_make (f:Full φ0 F0 H0 w0 φ F H w β env act T){dst:Option Nat}{v:AV}{cv:Value}{x:HB}{o:Obj}{env':Env}{H':Heap}{b:Nat}{w':World}(hd:∀d,dst=some d→d<T)(hp:put dst v env=some env')
  (hbw:Below w.heap.size w w') {k:Nat} (hk:w.heap.size≤k) (hbl:w'.heap[k]?=some o) (hb:noBlk H b) (hb':H'[b]?=some x) (ho:∀b',b'≠b→H'[b']?=H[b']?)
  (hc:BRel φ F H w x o)
  (hv:∀φ',(∀x,x≠b→φ' x=φ x)→φ' b=(k,0)→ORel φ' F H' w' β v cv):
  Post φ0 F0 H0 w0 H' env' T (act.put dst cv) w':=by
 obtain⟨e,sr,lv⟩:=made f.st.sr hbw hk hb hb' ho hbl hc
 have hv':=hv (fun x=>if x=b then (k,0) else φ x) (fun x hx=>if_neg hx) (if_pos rfl)
 generalize (fun x=>if x=b then (k,0) else φ x)=φ' at *
 have st':=f.st.mono e sr (fun t cs ht=>⟨hbw.block _ (box_lt f.st ht),fun b' hl=>by
  rcases lv b' hl with⟨_,l,p⟩ | ⟨_,p⟩
  ·rw[p];exact f.st.bphi t cs b' ht l
  ·rw[p];have:=box_lt f.st ht;omega,fun o hf=>f.st.bF t cs o ht hf⟩)
 refine⟨_,F,β,f.next (Chg.of_below hbw fun _=>False) (fun _ h=>h.elim) (st'.put1 hd hp hv') e (fun b' hl=>?_) (fun t cs ht=>.inl ⟨cs,find_put hp hv'.notBox ht,rfl⟩) (by cases dst<;>rfl) (fun _ _ h=>.inl h)⟩
 rcases lv b' hl with⟨_,l,p⟩ | ⟨_,p⟩
 ·exact .inl ⟨l,p.symm⟩
 ·exact .inr (by rw[p];exact hk)
end
end Go.Hm

namespace Go.Hm
open Go Go.RowKit

theorem find_setAt:∀{env:Env} {t:Nat} {v:AV},find env t≠.dead→∀u,find (setAt env t v) u=if u=t then v else find env u
 | [],t,v,h,u=>by simp[find]at h
 | (t',v')::r,t,v,h,u=>by
  simp only[setAt]
  by_cases e:t'=t
  ·subst e
   simp only[if_true,find]
   by_cases e2:t'=u
   ·subst e2;simp
   ·rw[if_neg e2,if_neg e2,if_neg (fun e=>e2 e.symm)]
  ·simp only[find,if_neg e]at h
   rw[if_neg e]
   simp only[find]
   by_cases e2:t'=u
   ·subst e2;simp[e]
   ·rw[if_neg e2,if_neg e2,find_setAt h u]

theorem wm_wr {w w':World}{k:Nat}{arr arr':Array Value}{ty:TypeId}{fr:Nat×Nat}(h:Wr w w' k)(hk:w.heap[k]?=some (.cells arr ty fr))(hk':w'.heap[k]?=some (.cells arr' ty fr))(hs:arr'.size=arr.size):Wm w w':=
 ⟨Nat.le_of_eq h.size.symm,fun j a t f hj=>by
  by_cases e:j=k
  ·subst e;rw[hk]at hj;cases hj;exact⟨arr',hk',hs⟩
  ·exact⟨a,by rw[h.block j e];exact hj,rfl⟩,fun j ces clk hj=>by
  have e:j≠k:=fun e=>by subst e;rw[hk]at hj;cases hj
  exact⟨ces,clk,by rw[h.block j e];exact hj,Grow.refl _ _⟩⟩
section
variable {P:Program}{φ0:Phi}{F0:Nat→Nat→Prop}{H0:Heap}{w0:World}{φ:Phi}{F:Nat→Nat→Prop}{H:Heap}{w:World}{β:Nat→Nat}{env:Env}{act:Act}{T:TT}

theorem row_replace {cs new:List AV}{arr nv:List Value}{off:Nat}(hc:∀(i:Nat) a,cs[i]?=some a→∃v,arr[i]?=some v∧CRel φ F H w a v)(hn:CL φ F H w new nv)(hl:off+new.length≤cs.length)(hle:cs.length≤arr.length):
  ∀(i:Nat) a,(replaceAt cs off new)[i]?=some a→∃v,(arr.take off++nv++arr.drop (off+nv.length))[i]?=some v∧CRel φ F H w a v:=by
 intro i a ha
 unfold replaceAt at ha
 have e:=hn.1
 rw[List.append_assoc,List.getElem?_append]at ha ⊢
 rw[List.length_take]at ha ⊢
 by_cases h1:i<off
 ·rw[if_pos (by omega)]at ha
  rw[if_pos (by omega)]
  rw[List.getElem?_take,if_pos h1]at ha ⊢
  exact hc i a ha
 ·rw[if_neg (by omega)]at ha
  rw[if_neg (by omega)]
  rw[List.getElem?_append]at ha ⊢
  have m1:min off cs.length=off:=by omega
  have m2:min off arr.length=off:=by omega
  rw[m1]at ha
  rw[m2]
  by_cases h2:i-off<new.length
  ·rw[if_pos h2]at ha
   rw[if_pos (by omega)]
   exact hn.get ha
  ·rw[if_neg h2]at ha
   rw[if_neg (by omega)]
   rw[List.getElem?_drop]at ha ⊢
   have e3:off+nv.length+(i-off-nv.length)=i:=by omega
   have e4:off+new.length+(i-off-new.length)=i:=by omega
   rw[e4]at ha
   rw[e3]
   exact hc i a ha

theorem replaceAt_length {cs new:List AV}{off:Nat}(hl:off+new.length≤cs.length):(replaceAt cs off new).length=cs.length:=by
 unfold replaceAt
 simp only[List.length_append,List.length_take,List.length_drop]
 omega

theorem replaceAt_drop {cs new:List AV}{off d:Nat}(hd:d≤off)(hl:off≤cs.length):replaceAt (cs.drop d) (off-d) new=(replaceAt cs off new).drop d:=by
 unfold replaceAt
 rw[List.append_assoc,List.append_assoc,List.drop_append_of_le_length (by rw[List.length_take];omega),List.drop_drop,List.drop_take,show d+(off-d+new.length)=off+new.length from by omega]
theorem row_replaceD {cs new:List AV}{arr nv:List Value}{off d:Nat}(hd:d≤off)(hc:∀(i:Nat) a,cs[i]?=some a→∃v,(d≤i→arr[i-d]?=some v)∧CRel φ F H w a v)(hn:CL φ F H w new nv)(hl:off+new.length≤cs.length)(hle:cs.length-d≤arr.length):
  ∀(i:Nat) a,(replaceAt cs off new)[i]?=some a→∃v,(d≤i→(arr.take (off-d)++nv++arr.drop (off-d+nv.length))[i-d]?=some v)∧CRel φ F H w a v:=by
 intro i a ha
 by_cases hi:d≤i
 ·have hcd:∀(j:Nat) b,(cs.drop d)[j]?=some b→∃v,arr[j]?=some v∧CRel φ F H w b v:=fun j b hb=>by
   rw[List.getElem?_drop]at hb
   obtain⟨v,h1,h2⟩:=hc _ b hb
   have h1:=h1 (Nat.le_add_right ..)
   rw[Nat.add_sub_cancel_left]at h1
   exact⟨v,h1,h2⟩
  obtain⟨v,h1,h2⟩:=row_replace (cs:=cs.drop d) (off:=off-d) hcd hn (by rw[List.length_drop];omega) (by rw[List.length_drop];exact hle) (i-d) a (by
   rw[replaceAt_drop hd (by omega),List.getElem?_drop,show d+(i-d)=i from by omega]
   exact ha)
  exact⟨v,fun _=>h1,h2⟩
 ·have:cs[i]?=some a:=by
   unfold replaceAt at ha
   rw[List.append_assoc,List.getElem?_append_left (by rw[List.length_take];omega),List.getElem?_take,if_pos (by omega)]at ha
   exact ha
  obtain⟨v,_,h2⟩:=hc i a this
  exact⟨v,fun h=>absurd h hi,h2⟩

theorem write_ext {w':World}{k:Nat}{arr arr':Array Value}{ty:TypeId}(h:Wr w w' k)(hk:w.heap[k]?=some (.cells arr ty (0,0)))(hk':w'.heap[k]?=some (.cells arr' ty (0,0)))(hs:arr'.size=arr.size)
  (hF:∀o,¬F k o) {H':Heap} (hH:∀(b:Nat) cs,H[b]?=some (.cells cs)→∃cs',H'[b]?=some (.cells cs')∧cs'.length=cs.length) (hM:∀(b:Nat) es,H[b]?=some (.map es)→∃es',H'[b]?=some (.map es')):Ext φ F H w φ F H' w':=
 ⟨fun b cs hb=>by
  obtain⟨cs',h1,h2⟩:=hH b cs hb
  exact⟨cs',h1,by omega,fun _=>rfl⟩,fun b es hb=>⟨hM b es hb,rfl⟩,fun j o hf=>⟨hf,h.block j (fun e=>by subst e;exact hF o hf)⟩,wm_wr h hk hk' hs⟩

theorem f_stL (f:Full φ0 F0 H0 w0 φ F H w β env act T){t off:Nat}{cs new:List AV}{nv:List Value}(ht:find env t= .box cs)(hn:CL φ F H w new nv)(h1:∀v∈nv,v.oneCell'=true)(hl:off+new.length≤cs.length):
  ∃w',(storeCells ⟨β t,off,none⟩ nv).run P w= .ok () w'∧Post φ0 F0 H0 w0 H (setAt env t (.box (replaceAt cs off new))) T act w':=by
 have hslot:=f.st.slot t
 rw[ht]at hslot
 obtain⟨arr,ty,ha,hc⟩:=hslot.2
 simp only at ha
 have hc:∀(i:Nat) a,cs[i]?=some a→∃v,arr[i]?=some v∧CRel φ F H w a v:=fun i a hi=>by
  obtain⟨v,h1,h2⟩:=hc i a hi
  exact⟨v,by simpa using h1 (Nat.zero_le _),h2⟩
 have hcs:cs.length≤arr.toList.length:=by
  by_cases h0:cs.length=0
  ·omega
  ·obtain⟨v,hv,_⟩:=hc (cs.length-1) cs[cs.length-1] (by simp)
   have:=(Array.getElem?_eq_some_iff.1 hv).1
   simp;omega
 have hnl:=hn.1
 have hrun:=run_store_mid P w (β t) off arr ty nv ha (by simpa using (by omega:off+nv.length≤arr.toList.length)) h1
 refine⟨_,hrun,?_⟩
 generalize harr':(arr.toList.take off++nv++arr.toList.drop (off+nv.length)).toArray=arr' at hrun ⊢
 have hsz:arr'.size=arr.size:=by
  rw[←harr'];simp only[List.size_toArray,List.length_append,List.length_take,List.length_drop,Array.length_toList]at hcs ⊢;omega
 have hwr:=setRow_wr w (β t) arr'
 have hk':=setRow_heap w (β t) arr arr' ty (0,0) ha
 have e:Ext φ F H w φ F H (w.setRow (β t) arr'):=write_ext hwr ha hk' hsz (fun o=>f.st.bF t cs o ht) (fun b cs hb=>⟨cs,hb,rfl⟩) (fun b es hb=>⟨es,hb⟩)
 have hrow:=row_replace (by simpa using hc) hn hl hcs
 have sr':SR φ F H (w.setRow (β t) arr'):=by
  refine⟨fun b cs' hb hne=>?_,fun b es hb=>?_,f.st.sr.inj,f.st.sr.phiF,fun k o hf=>by rw[hwr.size];exact f.st.sr.fsz k o hf⟩
  ·obtain⟨a2,ty2,h2,hc2⟩:=f.st.sr.blk b cs' hb hne
   have hne2:(φ b).1≠β t:=fun e=>f.st.bphi t cs b ht ⟨_,hb,hne⟩ e.symm
   refine⟨a2,ty2,by rw[hwr.block _ hne2];exact h2,fun i a hi=>?_⟩
   obtain⟨v,hv,hr⟩:=hc2 i a hi
   exact⟨v,hv,hr.mono e⟩
  ·obtain⟨ces,clk,h2,hm⟩:=f.st.sr.mblk b es hb
   have hne2:(φ b).1≠β t:=fun e=>f.st.bphi t cs b ht ⟨_,hb,trivial⟩ e.symm
   exact⟨ces,clk,by rw[hwr.block _ hne2];exact h2,hm.mono e⟩
 have nd:find env t≠.dead:=by rw[ht];exact fun h=>by cases h
 have fs:=find_setAt (v:=.box (replaceAt cs off new)) nd
 have boxOf:∀u cs',find (setAt env t (.box (replaceAt cs off new))) u= .box cs'→∃cs'',find env u= .box cs'':=fun u cs' hu=>by
  rw[fs u]at hu
  by_cases e:u=t
  ·subst e;exact⟨cs,ht⟩
  ·rw[if_neg e]at hu;exact⟨cs',hu⟩
 have st':St φ F H (w.setRow (β t) arr') β (setAt env t (.box (replaceAt cs off new))) act T:=by
  refine⟨sr',f.st.size,fun u=>?_,fun u cs' b hu hl=>?_,fun u u' c1 c2 h1 h2 he=>?_,fun u cs' o hu=>?_⟩
  ·rw[fs u]
   by_cases eu:u=t
   ·subst eu
    rw[if_pos rfl]
    refine⟨hslot.1,arr',ty,hk',fun i a hi=>?_⟩
    obtain⟨v,hv,hr⟩:=hrow i a hi
    exact⟨v,fun _=>by rw[←harr'];simpa using hv,hr.mono e⟩
   ·rw[if_neg eu]
    have hu:=f.st.slot u
    generalize hfu:find env u=a at hu
    cases a
    case box cs'=>
     refine⟨hu.1,?_⟩
     obtain⟨a2,ty2,h2,hc2⟩:=hu.2
     have hne2:β u≠β t:=fun e=>eu (f.st.binj u t cs' cs hfu ht e)
     refine⟨a2,ty2,(hwr.block _ hne2).trans h2,fun i a hi=>?_⟩
     obtain⟨v,hv,hr⟩:=hc2 i a hi
     exact⟨v,hv,hr.mono e⟩
    case rp=>exact hu
    case und=>exact hu
    case dead=>trivial
    all_goals exact VRel.mono e hu
  ·obtain⟨cs'',h⟩:=boxOf u cs' hu;exact f.st.bphi u cs'' b h hl
  ·obtain⟨c3,h3⟩:=boxOf u c1 h1
   obtain⟨c4,h4⟩:=boxOf u' c2 h2
   exact f.st.binj u u' c3 c4 h3 h4 he
  ·obtain⟨cs'',h⟩:=boxOf u cs' hu;exact f.st.bF u cs'' o h
 refine⟨φ,F,β,f.next (S:=fun k=>k=β t) ⟨hwr.os,hwr.tape,hwr.output,Nat.le_of_eq hwr.size.symm,fun k _ hk=>hwr.block k hk⟩ (fun k hk=>.inr ⟨t,cs,ht,hk.symm⟩) st' e (fun b hl=>.inl ⟨hl,rfl⟩) (fun u cs' hu=>?_) rfl (fun _ _ h=>.inl h)⟩
 obtain⟨cs'',h⟩:=boxOf u cs' hu
 exact .inl ⟨cs'',h,rfl⟩

theorem f_wrH (f:Full φ0 F0 H0 w0 φ F H w β env act T){b:Nat}{cs cs':List AV}{arr arr':Array Value}{ty:TypeId}(hb:H[b]?=some (.cells cs))(hne:cs≠[])(hl:cs.length≤cs'.length)
  (ha:w.heap[(φ b).1]?=some (.cells arr ty (0,0))) (hs:arr'.size=arr.size) (hc:∀(i:Nat) a,cs'[i]?=some a→∃v,((φ b).2≤i→arr'[i-(φ b).2]?=some v)∧CRel φ F H w a v):
  Ext φ F H w φ F (H.set b (.cells cs')) (w.setRow (φ b).1 arr')∧∀{dst:Option Nat} {v:AV} {cv:Value} {env':Env},(∀d,dst=some d→d<T)→put dst v env=some env'→ORel φ F (H.set b (.cells cs')) (w.setRow (φ b).1 arr') β v cv→
   Post φ0 F0 H0 w0 (H.set b (.cells cs')) env' T (act.put dst cv) (w.setRow (φ b).1 arr'):=by
 have hlb:live H b:=⟨.cells cs,hb,hne⟩
 have hblt:b<H.length:=(List.getElem?_eq_some_iff.1 hb).1
 have hwr:=setRow_wr w (φ b).1 arr'
 have hk':=setRow_heap w (φ b).1 arr arr' ty (0,0) ha
 have hself:(H.set b (.cells cs'))[b]?=some (.cells cs'):=by simp[hblt]
 have hoth:∀b',b'≠b→(H.set b (.cells cs'))[b']?=H[b']?:=fun b' h=>by rw[List.getElem?_set_ne (fun e=>h e.symm)]
 have e:Ext φ F H w φ F (H.set b (.cells cs')) (w.setRow (φ b).1 arr'):=
  ⟨fun b' c2 h2=>by
   by_cases hbb:b'=b
   ·subst hbb;rw[hb]at h2;cases h2;exact⟨cs',hself,hl,fun _=>rfl⟩
   ·exact⟨c2,by rw[hoth b' hbb];exact h2,Nat.le_refl _,fun _=>rfl⟩,
   fun b' es h2=>by
   have hbb:b'≠b:=fun e=>by subst e;rw[hb]at h2;cases h2
   exact⟨⟨es,by rw[hoth b' hbb];exact h2⟩,rfl⟩,
   fun j o hf=>⟨hf,hwr.block j (fun e=>by subst e;exact f.st.sr.phiF b o hlb hf)⟩,wm_wr hwr ha hk' hs⟩
 have lv:∀b',live (H.set b (.cells cs')) b'→live H b':=fun b' ⟨c2,h2,n2⟩=>by
  by_cases hbb:b'=b
  ·subst hbb;exact hlb
  ·exact⟨c2,by rw[←hoth b' hbb];exact h2,n2⟩
 have sr':SR φ F (H.set b (.cells cs')) (w.setRow (φ b).1 arr'):=by
  refine⟨fun b' c2 h2 n2=>?_,fun b' es h2=>?_,fun b1 b2 h1 h2 he=>f.st.sr.inj b1 b2 (lv b1 h1) (lv b2 h2) he,fun b' o hl2=>f.st.sr.phiF b' o (lv b' hl2),fun k o hf=>by rw[hwr.size];exact f.st.sr.fsz k o hf⟩
  by_cases hbb:b'=b
  ·subst hbb
   rw[hself]at h2;cases h2
   refine⟨arr',ty,hk',fun i a hi=>?_⟩
   obtain⟨v,hv,hr⟩:=hc i a hi
   exact⟨v,hv,hr.mono e⟩
  ·rw[hoth b' hbb]at h2
   obtain⟨a2,ty2,h3,hc2⟩:=f.st.sr.blk b' c2 h2 n2
   have hne2:(φ b').1≠(φ b).1:=fun e=>hbb (f.st.sr.inj b' b ⟨_,h2,n2⟩ hlb e)
   refine⟨a2,ty2,by rw[hwr.block _ hne2];exact h3,fun i a hi=>?_⟩
   obtain⟨v,hv,hr⟩:=hc2 i a hi
   exact⟨v,hv,hr.mono e⟩
  ·have hbb:b'≠b:=fun e=>by subst e;rw[hself]at h2;cases h2
   rw[hoth b' hbb]at h2
   obtain⟨ces,clk,h3,hm⟩:=f.st.sr.mblk b' es h2
   have hne2:(φ b').1≠(φ b).1:=fun e=>hbb (f.st.sr.inj b' b ⟨_,h2,trivial⟩ hlb e)
   exact⟨ces,clk,by rw[hwr.block _ hne2];exact h3,hm.mono e⟩
 refine⟨e,fun {dst v cv env'} hd hp hv=>?_⟩
 have st':=f.st.mono e sr' (fun t c2 ht=>⟨hwr.block _ (f.st.bphi t c2 b ht hlb),fun b' hl2=>f.st.bphi t c2 b' ht (lv b' hl2),fun o=>f.st.bF t c2 o ht⟩)
 exact⟨φ,F,β,f.next (S:=fun k=>k=(φ b).1) ⟨hwr.os,hwr.tape,hwr.output,Nat.le_of_eq hwr.size.symm,fun k _ hk=>hwr.block k hk⟩ (fun k hk=>.inl ⟨b,hlb,hk.symm⟩) (st'.put1 hd hp hv) e (fun b' hl2=>.inl ⟨lv b' hl2,rfl⟩) (fun t c2 ht=>.inl ⟨c2,find_put hp hv.notBox ht,rfl⟩) (by cases dst<;>rfl) (fun _ _ h=>.inl h)⟩

theorem f_move (f:Full φ0 F0 H0 w0 φ F H w β env act T){b k d0:Nat}{cs cs':List AV}{arr:Array Value}{ty:TypeId}{w':World}(hb:H[b]?=some (.cells cs))(hl:cs.length<cs'.length)(hbw:Below w.heap.size w w')(hk:w.heap.size≤k)
  (hbl:w'.heap[k]?=some (.cells arr ty (0,0))) (hc:∀(i:Nat) a,cs'[i]?=some a→∃v,(d0≤i→arr[i-d0]?=some v)∧CRel φ F H w a v)
  {dst:Option Nat} {v:AV} {cv:Value} {env':Env} (hd:∀d,dst=some d→d<T) (hp:put dst v env=some env')
  (hv:∀φ':Phi,φ' b=(k,d0)→ORel φ' F (H.set b (.cells cs')) w' β v cv):
  Post φ0 F0 H0 w0 (H.set b (.cells cs')) env' T (act.put dst cv) w':=by
 have hblt:b<H.length:=(List.getElem?_eq_some_iff.1 hb).1
 have hself:(H.set b (.cells cs'))[b]?=some (.cells cs'):=by simp[hblt]
 have hoth:∀b',b'≠b→(H.set b (.cells cs'))[b']?=H[b']?:=fun b' h=>by rw[List.getElem?_set_ne (fun e=>h e.symm)]
 obtain⟨φ',hφ1,hφ2⟩:∃φ':Phi,φ' b=(k,d0)∧∀x,x≠b→φ' x=φ x:=⟨fun x=>if x=b then (k,d0) else φ x,if_pos rfl,fun x hx=>if_neg hx⟩
 have hv':=hv φ' hφ1
 have e:Ext φ F H w φ' F (H.set b (.cells cs')) w':=
  ⟨fun b' c2 h2=>by
   by_cases hbb:b'=b
   ·subst hbb;rw[hb]at h2;cases h2;exact⟨cs',hself,by omega,fun h=>by omega⟩
   ·exact⟨c2,by rw[hoth b' hbb];exact h2,Nat.le_refl _,fun _=>hφ2 b' hbb⟩,
   fun b' es h2=>by
   have hbb:b'≠b:=fun e=>by subst e;rw[hb]at h2;cases h2
   exact⟨⟨es,by rw[hoth b' hbb];exact h2⟩,hφ2 b' hbb⟩,
   fun j o hf=>⟨hf,hbw.block _ (f.st.sr.fsz j o hf)⟩,wm_below hbw⟩
 have lv:∀b',live (H.set b (.cells cs')) b'→(b'≠b∧live H b'∧φ' b'=φ b')∨(b'=b∧φ' b'=(k,d0)):=fun b' ⟨c2,h2,n2⟩=>by
  by_cases hbb:b'=b
  ·subst hbb;exact .inr ⟨rfl,hφ1⟩
  ·exact .inl ⟨hbb,⟨c2,by rw[←hoth b' hbb];exact h2,n2⟩,hφ2 b' hbb⟩
 have sr':SR φ' F (H.set b (.cells cs')) w':=by
  refine⟨fun b' c2 h2 n2=>?_,fun b' es h2=>?_,fun b1 b2 h1 h2 he=>?_,fun b' o hl2 hf=>?_,fun j o hf=>?_⟩
  ·by_cases hbb:b'=b
   ·subst hbb
    rw[hself]at h2;cases h2
    refine⟨arr,ty,by rw[hφ1];exact hbl,fun i a hi=>?_⟩
    rw[hφ1]
    obtain⟨v,hv,hr⟩:=hc i a hi
    exact⟨v,hv,hr.mono e⟩
   ·rw[hoth b' hbb]at h2
    obtain⟨a2,ty2,h3,hc2⟩:=f.st.sr.blk b' c2 h2 n2
    refine⟨a2,ty2,by rw[hφ2 b' hbb,hbw.block _ (Array.getElem?_eq_some_iff.1 h3).1];exact h3,fun i a hi=>?_⟩
    rw[hφ2 b' hbb]
    obtain⟨v,hv,hr⟩:=hc2 i a hi
    exact⟨v,hv,hr.mono e⟩
  ·have hbb:b'≠b:=fun e=>by subst e;rw[hself]at h2;cases h2
   rw[hoth b' hbb]at h2
   obtain⟨ces,clk,h3,hm⟩:=f.st.sr.mblk b' es h2
   exact⟨ces,clk,by rw[hφ2 b' hbb,hbw.block _ (Array.getElem?_eq_some_iff.1 h3).1];exact h3,hm.mono e⟩
  ·rcases lv b1 h1 with⟨n1,l1,p1⟩ | ⟨n1,p1⟩<;>rcases lv b2 h2 with⟨n2,l2,p2⟩ | ⟨n2,p2⟩
   ·rw[p1,p2]at he;exact f.st.sr.inj b1 b2 l1 l2 he
   ·rw[p1,p2]at he;have:=live_lt f.st.sr l1;simp only at he;omega
   ·rw[p1,p2]at he;have:=live_lt f.st.sr l2;simp only at he;omega
   ·omega
  ·rcases lv b' hl2 with⟨_,l,p⟩ | ⟨_,p⟩
   ·rw[p]at hf;exact f.st.sr.phiF b' o l hf
   ·rw[p]at hf;have:=f.st.sr.fsz k o hf;omega
  ·have:=f.st.sr.fsz j o hf;have:=hbw.size;omega
 have st':=f.st.mono e sr' (fun t c2 ht=>⟨hbw.block _ (box_lt f.st ht),fun b' hl2=>by
  rcases lv b' hl2 with⟨_,l,p⟩ | ⟨_,p⟩
  ·rw[p];exact f.st.bphi t c2 b' ht l
  ·rw[p];have:=box_lt f.st ht;omega,fun o=>f.st.bF t c2 o ht⟩)
 refine⟨φ',F,β,f.next (Chg.of_below hbw fun _=>False) (fun _ h=>h.elim) (st'.put1 hd hp hv') e (fun b' hl2=>?_) (fun t c2 ht=>.inl ⟨c2,find_put hp hv'.notBox ht,rfl⟩) (by cases dst<;>rfl) (fun _ _ h=>.inl h)⟩
 rcases lv b' hl2 with⟨_,l,p⟩ | ⟨_,p⟩
 ·exact .inl ⟨l,p.symm⟩
 ·exact .inr (by rw[p];exact hk)
end
end Go.Hm

namespace Go.Hm
open Go Go.RowKit

def Sound (P:Program)(φ0:Phi)(F0:Nat→Nat→Prop)(H0:Heap)(w0:World)(T:TT)(act:Act)(w:World)(dst:Option Nat)(op:Op)(H':Heap)(env':Env):Prop:=
 ∀(type:TypeId) (pos:String) (after:Array Edge) (guard:Option (Nat×Bool)) (next:Act→World→Prop) (Q:Exit→Act→World→Prop),
  (∀act' w',Post φ0 F0 H0 w0 H' env' T act' w'→next act' w')→Oper.wp P { dst,op,type,pos,after,guard } act w next Q

def MakesC (P:Program)(φ:Phi)(F:Nat→Nat→Prop)(H:Heap)(w:World)(β:Nat→Nat)(m:Sem Value)(b:Nat)(v:AV)(cs:List AV):Prop:=
 ∃cv arr ty,m.run P w= .ok cv (w.alloc (.cells arr ty))∧(∀(i:Nat) a,cs[i]?=some a→∃u,arr[i]?=some u∧CRel φ F H w a u)∧
  ∀(φ':Phi) (F':Nat→Nat→Prop) (H':Heap) (w':World),φ' b=(w.heap.size,0)→H'[b]?=some (.cells cs)→w'.heap[w.heap.size]?=some (.cells arr ty (0,0))→ORel φ' F' H' w' β v cv
def Makes (P:Program)(φ:Phi)(F:Nat→Nat→Prop)(H:Heap)(w:World)(β:Nat→Nat)(m:Sem Value)(b:Nat)(v:AV)(x:HB):Prop:=
 ∃cv o,m.run P w= .ok cv (w.alloc o)∧BRel φ F H w x o∧
  ∀(φ':Phi) (F':Nat→Nat→Prop) (H':Heap) (w':World),φ' b=(w.heap.size,0)→H'[b]?=some x→w'.heap[w.heap.size]?=some o→ORel φ' F' H' w' β v cv
theorem MakesC.mk {P:Program}{φ:Phi}{F:Nat→Nat→Prop}{H:Heap}{w:World}{β:Nat→Nat}{m:Sem Value}{b:Nat}{v:AV}{cs:List AV}(h:MakesC P φ F H w β m b v cs):Makes P φ F H w β m b v (.cells cs):=by
 obtain⟨cv,arr,ty,hr,hc,hv⟩:=h
 exact⟨cv,.cells arr ty,hr,⟨arr,ty,rfl,hc⟩,hv⟩

section
variable {P:Program}{φ0:Phi}{F0:Nat→Nat→Prop}{H0:Heap}{w0:World}{φ:Phi}{F:Nat→Nat→Prop}{H:Heap}{w:World}{β:Nat→Nat}{env:Env}{act:Act}{T:TT}

theorem s_pure (f:Full φ0 F0 H0 w0 φ F H w β env act T){dst:Option Nat}{op:Op}{v:AV}{env':Env}(hd:∀d,dst=some d→d<T)(hp:put dst v env=some env')(h:Pure P φ F H w β act op v):
  Sound P φ0 F0 H0 w0 T act w dst op H env':=by
 intro type pos after guard next Q hk
 obtain⟨cv,hr,hv⟩:=h dst type pos after guard
 unfold Oper.wp
 rw[hr]
 exact hk _ _ (f_pure f hd hp hv)

theorem s_make (f:Full φ0 F0 H0 w0 φ F H w β env act T){dst:Option Nat}{op:Op}{m:Sem Value}{v:AV}{x:HB}{b:Nat}{env':Env}{H':Heap}(hd:∀d,dst=some d→d<T)(hp:put dst v env=some env')
  (hop:∀type pos after guard,execOp act.eval { dst,op,type,pos,after,guard }=(do pure (.value (←m)))) (h:Makes P φ F H w β m b v x)
  (hb:noBlk H b) (hb':H'[b]?=some x) (ho:∀b',b'≠b→H'[b']?=H[b']?):Sound P φ0 F0 H0 w0 T act w dst op H' env':=by
 intro type pos after guard next Q hk
 obtain⟨cv,o,hr,hc,hv⟩:=h
 have hrun:(execOp act.eval { dst,op,type,pos,after,guard }).run P w= .ok (.value cv) (w.alloc o):=by
  rw[hop,Sem.run_bind,hr];rfl
 unfold Oper.wp
 rw[hrun]
 have hbw:Below w.heap.size w (w.alloc o):=(Below.refl _ _).alloc (Nat.le_refl _) _
 have hnew:(w.alloc o).heap[w.heap.size]?=some o:=by
  show (w.heap.push o)[w.heap.size]?=some o
  simp
 exact hk _ _ (f_make f hd hp hbw (Nat.le_refl _) hnew hb hb' ho hc (fun φ' _ hφ=>hv φ' F H' _ hφ hb' hnew))

theorem run_allocI {e:TypeId}{z:List AV}(h:zOf P e=some z)(w:World):∃zv:Value,of1s zv.cells.toList=some z∧(Instr.alloc e true (.tuple #[])).run P w= .ok (.pointer (some ⟨w.heap.size,0,none⟩)) (w.alloc (.cells zv.cells e)):=by
 obtain⟨i,zv,hi,hzv,hof⟩:=zOf_run h
 exact⟨zv,hof,by simp[Instr.alloc,zeroValue_run hi hzv,newVar,newRow]⟩
theorem run_boxI (e:TypeId)(v:Value)(w:World):(Instr.box e v).run P w= .ok (.pointer (some ⟨w.heap.size,0,none⟩)) (w.alloc (.cells v.cells e)):=by
 simp[Instr.box,newVar,newRow]

theorem CL.arr {cs:List AV}{vs:Array Value}(h:CL φ F H w cs vs.toList):∀(i:Nat) a,cs[i]?=some a→∃u,vs[i]?=some u∧CRel φ F H w a u:=fun i a ha=>by
 obtain⟨v,hv,hr⟩:=h.get ha
 exact⟨v,by simpa using hv,hr⟩

theorem hp_new {n b:Nat}{cs:List AV}(hn:cs.length=n)(k:Nat):∀(φ':Phi) (F':Nat→Nat→Prop) (H':Heap) (w':World),φ' b=(k,0)→H'[b]?=some (.cells cs)→ORel φ' F' H' w' β (.hp b n 0) (.pointer (some ⟨k,0,none⟩)):=
 fun φ' F' H' w' hφ hb=>VRel.one (.hp b n 0 cs _ hb (by omega) (fun _=>by rw[hφ];exact⟨Nat.zero_le _,rfl⟩))
theorem hs_new {n es b cap:Nat}{cs:List AV}{arr:Array Value}{ty:TypeId}(hn:cs.length=n*es)(hes:0<es)(k:Nat)(hcap:n≤cap)(harr:cap*es≤arr.size)(hz:n=0→cap=0):
  ∀(φ':Phi) (F':Nat→Nat→Prop) (H':Heap) (w':World),φ' b=(k,0)→H'[b]?=some (.cells cs)→w'.heap[k]?=some (.cells arr ty (0,0))→ORel φ' F' H' w' β (.hs b (n*es) 0 n es) (.slice (some ⟨k,0,none⟩) n cap):=
 fun φ' F' H' w' hφ hb hk=>VRel.one (.hs b (n*es) 0 n es cs _ cap hb (by omega) hcap (fun h=>by cases h) (fun _=>by
  by_cases h0:n=0
  ·exact .inr ⟨h0,hz h0,by rw[h0];simp⟩
  ·exact .inl ⟨Nat.mul_pos (by omega) hes,by rw[hφ];exact Nat.zero_le _,by rw[hφ];rfl,by rw[Nat.zero_add];exact Nat.mul_le_mul_right es hcap,arr,ty,by rw[hφ];exact hk,by omega⟩))

theorem m_alloc {e:TypeId}{z:List AV}(h:zOf P e=some z)(b:Nat):MakesC P φ F H w β (Instr.alloc e true (.tuple #[])) b (.hp b z.length 0) z:=by
 obtain⟨zv,hof,hr⟩:=run_allocI h w
 exact⟨_,_,_,hr,(of1s_rel hof).arr,fun φ' F' H' w' h1 h2 _=>hp_new rfl _ φ' F' H' w' h1 h2⟩

theorem m_box (s:St φ F H w β env act T)(e:TypeId)(x:Operand){n:Nat}{cs:List AV}(hc:cellsV (ev env (cO x))=some cs)(hn:cs.length=n)(b:Nat):MakesC P φ F H w β (Instr.box e (act.eval x)) b (.hp b n 0) cs:=by
 obtain⟨hcl,_⟩:=cellsV_rel (ev_rel s x) hc
 exact⟨_,_,_,run_boxI e _ w,hcl.arr,fun φ' F' H' w' h1 h2 _=>hp_new hn _ φ' F' H' w' h1 h2⟩

theorem CL.size {cs:List AV}{vs:List Value}(h:CL φ F H w cs vs):vs.length=cs.length:=h.1

theorem run_buildSliceI (s:St φ F H w β env act T){t e:TypeId}{n k:Nat}{parts:Array (Nat×Operand)}{z cs:List AV}{l:List (Nat×Nat×AO)}(hu:P.underlying t=some (.slice e))(hk:szOf P e=some k)(hz:zOf P e=some z)(hn:n*k≤65536)(hzl:z.length=k)
  (hl:partsC (fun i=>some (i*k,k)) parts.toList=some l) (hf:fillP env l (repl n z)=some cs):
  ∃vs:Array Value,(Instr.buildSlice t n (parts.map fun (i,x)=>(i,act.eval x))).run P w= .ok (.slice (some ⟨w.heap.size,0,none⟩) n n) (w.alloc (.cells vs e))∧CL φ F H w cs vs.toList:=by
 obtain⟨i,zv,hi,hzv,hof⟩:=zOf_run hz
 have hrel:CL φ F H w z zv.cells.toList:=of1s_rel hof
 have hzs:zv.cells.size=k:=by rw[←hzl,←hrel.1,Array.length_toList]
 have hmap:(parts.map fun (i,x)=>(i,act.eval x)).toList=parts.toList.map fun (i,x)=>(i,act.eval x):=by simp
 have hlim:¬(n*k > 2 ^ 24):=by omega
 by_cases h0:n*k=0
 ·have hrow:CL φ F H w (repl n z) ((Array.range (n*k)).map ((#[]:Array Value)[· % (#[]:Array Value).size]!)).toList:=by
   have hr0:repl n z=[]:=by
    apply List.eq_nil_of_length_eq_zero
    have:=(CL.repl hrel n).1
    simp only[List.length_flatten,List.map_replicate,List.sum_replicate_nat,Array.length_toList,hzs]at this
    omega
   rw[hr0,h0]
   exact⟨by simp,fun i a v ha=>by simp at ha⟩
  obtain⟨out,ho,hcl⟩:=fill_rel s _ parts.toList l (repl n z) cs _ hl hf hrow
  refine⟨out,?_,hcl⟩
  simp only[Instr.buildSlice,Sem.run_bind,run_underlying hu,Result.andThen_ok,szOf_run hk,if_neg hlim,Sem.run_pure,if_pos h0,hmap,ho,newRow,run_newObj]
  rfl
 ·have hrow:CL φ F H w (repl n z) ((Array.range (n*k)).map (zv.cells[· % zv.cells.size]!)).toList:=by
   have:=zero_row zv.cells n
   rw[hzs]at this ⊢
   rw[this]
   exact CL.repl hrel n
  obtain⟨out,ho,hcl⟩:=fill_rel s _ parts.toList l (repl n z) cs _ hl hf hrow
  refine⟨out,?_,hcl⟩
  simp only[Instr.buildSlice,Sem.run_bind,run_underlying hu,Result.andThen_ok,szOf_run hk,if_neg hlim,Sem.run_pure,if_neg h0,zeroValue_run hi hzv,hmap,ho,newRow,run_newObj]
  rfl

theorem m_build (s:St φ F H w β env act T){t e:TypeId}{n k:Nat}{parts:Array (Nat×Operand)}{z cs:List AV}{l:List (Nat×Nat×AO)}(hu:P.underlying t=some (.slice e))(hk:szOf P e=some k)(hz:zOf P e=some z)(hn:n*k≤65536)(hzl:z.length=k)(hk0:0<k)
  (hl:partsC (fun i=>some (i*k,k)) parts.toList=some l) (hf:fillP env l (repl n z)=some cs) (hlen:cs.length=n*k) (b:Nat):
  MakesC P φ F H w β (Instr.buildSlice t n (parts.map fun (i,x)=>(i,act.eval x))) b (.hs b (n*k) 0 n k) cs:=by
 obtain⟨vs,hr,hcl⟩:=run_buildSliceI s hu hk hz hn hzl hl hf
 have hs:=hcl.1
 rw[Array.length_toList]at hs
 exact⟨_,_,_,hr,hcl.arr,fun φ' F' H' w' h1 h2 h3=>hs_new hlen hk0 _ (Nat.le_refl _) (by omega) (fun h=>h) φ' F' H' w' h1 h2 h3⟩

theorem m_mks {t e:TypeId}{k bytes:Nat}{z:List AV}{l c:Value}{n:Int}{kl kc:IntKind}(hu:P.underlying t=some (.slice e))(hk:szOf P e=some k)(hby:byOf P e=some bytes)(hz:zOf P e=some z)(hl:l= .int kl n)(hc:c= .int kc n)(h0:0≤n)
  (hroom:n*bytes≤(room:Int)) (hzl:z.length=k) (hk0:0<k) (hb0:0<bytes) (b:Nat):MakesC P φ F H w β (Instr.makeSlice t l c) b (.hs b (n.toNat*k) 0 n.toNat k) (repl n.toNat z):=by
 obtain⟨i,zv,hi,hzv,hof⟩:=zOf_run hz
 have hrel:CL φ F H w z zv.cells.toList:=of1s_rel hof
 have hzs:zv.cells.size=k:=by rw[←hzl,←hrel.1,Array.length_toList]
 have hik:i.size=k:=by simpa[szOf,hi] using hk
 have hib:i.bytes=bytes:=by simpa[byOf,hi] using hby
 have hbig:n≤n*bytes:=by
  have:=Int.mul_le_mul_of_nonneg_left (a:=1) (b:=(bytes:Int)) (c:=n) (by omega) h0
  omega
 unfold room at hroom
 have hr:=run_make (P:=P) (w:=w) t e i zv hu hi hzv kl kc n n h0 (Int.le_refl _) (by rw[hib,Int.mul_comm];omega) (by omega)
 have hrow:CL φ F H w (repl n.toNat z) (madeCells zv.cells (n.toNat*i.size)).toList:=by
  have:=zero_row zv.cells n.toNat
  unfold madeCells
  rw[hik]
  rw[hzs]at this ⊢
  rw[this]
  exact CL.repl hrel _
 have hlen:(repl n.toNat z).length=n.toNat*k:=by
  rw[←hrow.1,Array.length_toList,size_madeCells,hik]
 subst hl;subst hc
 exact⟨_,_,_,hr,hrow.arr,fun φ' F' H' w' h1 h2 h3=>hs_new hlen hk0 _ (Nat.le_refl _) (by rw[size_madeCells,hik];omega) (fun h=>h) φ' F' H' w' h1 h2 h3⟩
end
end Go.Hm

namespace Go.Hm
open Go Go.RowKit

section
variable {P:Program}{φ0:Phi}{F0:Nat→Nat→Prop}{H0:Heap}{w0:World}{φ:Phi}{F:Nat→Nat→Prop}{H:Heap}{w:World}{β:Nat→Nat}{env:Env}{act:Act}{T:TT}

theorem s_row (f:Full φ0 F0 H0 w0 φ F H w β env act T){dst:Option Nat}{op:Op}{m:Sem Value}{cs:List AV}{vs:List Value}{n cap:Nat}{env':Env}{w':World}{arr:Array Value}{ty:TypeId}{fr:Nat×Nat}(hd:∀d,dst=some d→d<T)
  (hop:∀type pos after guard,execOp act.eval { dst,op,type,pos,after,guard }=(do pure (.value (←m)))) (hr:m.run P w= .ok (.slice (some ⟨w.heap.size,0,none⟩) n cap) w') (hbw:Below w.heap.size w w') (hbl:w'.heap[w.heap.size]?=some (.cells arr ty fr))
  (hc:CL φ F H w cs vs) (hv:∀(i:Nat) v,vs[i]?=some v→arr[i]?=some v) (hn:n≤cap) (hp:put dst (.sl n cs) env=some env'):
  Sound P φ0 F0 H0 w0 T act w dst op H env':=by
 intro type pos after guard next Q hk
 have hrun:(execOp act.eval { dst,op,type,pos,after,guard }).run P w= .ok (.value (.slice (some ⟨w.heap.size,0,none⟩) n cap)) w':=by
  rw[hop,Sem.run_bind,hr];rfl
 unfold Oper.wp
 rw[hrun]
 have hlt:w.heap.size<w'.heap.size:=(Array.getElem?_eq_some_iff.1 hbl).1
 have hF:∀k o,F k o→F k o∨k=w.heap.size:=fun k o h=>.inl h
 have hN:∀k o,(F k o∨k=w.heap.size)→F k o∨(w.heap.size≤k∧k<w'.heap.size):=fun k o h=>by
  rcases h with h | h
  ·exact .inl h
  ·exact .inr (by omega)
 obtain⟨e,_⟩:=grow (F':=fun k o=>F k o∨k=w.heap.size) f.st.sr hbw hF hN
 refine hk _ _ (f_grow f hd hp hbw hF hN ?_)
 refine VRel.one (.sl _ 0 n cap cs vs hn hc.1 (fun i _=>.inr rfl) (fun i v hi=>?_) (fun i a v ha hi=>(hc.2 i a v ha hi).mono e))
 have:=hv i v hi
 simp only[World.cell?,hbl,Nat.zero_add]
 simpa using this

theorem s_buildS (f:Full φ0 F0 H0 w0 φ F H w β env act T){dst:Option Nat}{t e:TypeId}{n k:Nat}{parts:Array (Nat×Operand)}{z:List AV}{v:AV}{l:List (Nat×Nat×AO)}{env':Env}(hd:∀d,dst=some d→d<T)(hu:P.underlying t=some (.slice e))(hk:szOf P e=some k)(hz:zOf P e=some z)(hn:n*k≤65536)(hzl:z.length=k)
  (hl:partsC (fun i=>some (i*k,k)) parts.toList=some l) (h:rdOp (.buildS n (repl n z) l) env H=some v) (hp:put dst v env=some env'):
  Sound P φ0 F0 H0 w0 T act w dst (.buildSlice t n parts) H env':=by
 simp only[rdOp]at h
 split at h
 case h_2=>simp at h
 rename_i cs hcs
 obtain⟨vs,hr,hcl⟩:=run_buildSliceI f.st hu hk hz hn hzl hl hcs
 have hbw:Below w.heap.size w (w.alloc (.cells vs e)):=(Below.refl _ _).alloc (Nat.le_refl _) _
 have hnew:(w.alloc (.cells vs e)).heap[w.heap.size]?=some (.cells vs e (0,0)):=heap_alloc_new w _
 split at h
 ·rename_i h0
  simp only[Option.some.injEq]at h
  subst h0;subst h
  intro type pos after guard next Q hkk
  unfold Oper.wp
  have hrun:(execOp act.eval { dst,op:=.buildSlice t 0 parts,type,pos,after,guard }).run P w= .ok (.value (.slice (some ⟨w.heap.size,0,none⟩) 0 0)) (w.alloc (.cells vs e)):=by
   simp only[execOp,Sem.run_bind,hr];rfl
  rw[hrun]
  exact hkk _ _ (f_grow f hd hp hbw (fun _ _ h=>h) (fun _ _ h=>.inl h) (VRel.one (.e0 _)))
 ·simp only[Option.some.injEq]at h
  subst h
  exact s_row f hd (fun type pos after guard=>rfl) hr hbw hnew hcl (fun i v hi=>by simpa using hi) (Nat.le_refl _) hp

theorem freeze_below {w w':World}{k:Nat}(hk:w.heap.size≤k)(h:Below w.heap.size w w')(o n:Nat):Below w.heap.size w (w'.freeze ⟨k,o,none⟩ n):=by
 unfold World.freeze
 split
 ·exact h
 ·refine⟨h.os,h.tape,h.output,by simpa using h.size,fun i hi=>?_⟩
  simp only[Array.getElem?_modify]
  rw[if_neg (by omega)]
  exact h.block i hi

theorem bytes_CL (s:ByteArray):CL φ F H w (s.data.toList.map fun b=>AV.val (.int .u8 b.toNat)) (byteCells s):=
 ⟨by simp[byteCells],fun i a v ha hv=>by
  simp only[byteCells,List.getElem?_map]at ha hv
  cases hb:s.data.toList[i]? with
  | none=>rw[hb]at ha;simp at ha
  | some b=>
   rw[hb]at ha hv
   simp at ha hv
   subst ha;subst hv
   exact .val _ rfl⟩

theorem run_s2b (e:TypeId)(s:ByteArray)(w:World):∃w' cap arr fr,(Conv.stringToBytes e s).run P w= .ok (.slice (some ⟨w.heap.size,0,none⟩) s.size cap) w'∧Below w.heap.size w w'∧w'.heap[w.heap.size]?=some (.cells arr e fr)∧(∀(i:Nat) v,(byteCells s)[i]?=some v→arr[i]?=some v)∧s.size≤cap:=by
 let arr:Array Value:=(s.data.map fun b=>Value.int .u8 b.toNat)++Array.replicate (grownCap w s.size 0 e-s.size) (.int .u8 0)
 have hnew:((w.drew).alloc (.cells arr e)).heap[w.heap.size]?=some (.cells arr e (0,0)):=heap_alloc_new w.drew _
 have hsh:((w.drew).alloc (.cells arr e)).shape? w.heap.size=some (e,arr.size):=by simp only[World.shape?,hnew]
 have hbw:Below w.heap.size w ((w.drew).alloc (.cells arr e)):=(Below.refl w.heap.size w).drew.alloc (Nat.le_refl _) _
 refine⟨((w.drew).alloc (.cells arr e)).freeze ⟨w.heap.size,arr.size,none⟩ 1,grownCap w s.size 0 e,arr,(arr.size,arr.size+1),?_,freeze_below (Nat.le_refl _) hbw _ _,?_,fun i v hi=>?_,grownCap_ge w _ _ e⟩
 ·have hpush:∀o,(⟨w.heap.push o,w.tape,w.drawn+1,w.os,w.output⟩:World)=(w.drew).alloc o:=fun o=>rfl
  simp only[Conv.stringToBytes,Sem.run_bind,run_choose,Question.forced,Bool.false_eq_true,if_false,Result.andThen_ok,newRow,run_newObj,Sem.run_pure,markStringish,run_shape]
  rw[show (Question.appendCap s.size 0 e).cut (w.tape w.drawn (Question.appendCap s.size 0 e))=grownCap w s.size 0 e from rfl]
  change (Sem.run P (match (w.drew.alloc (.cells arr e)).shape? w.heap.size with
   | some (_,n)=>freeze { block:=w.heap.size,off:=n } 1
   | _=>pure ()) (w.drew.alloc (.cells arr e))).andThen _=_
  rw[hsh]
  rfl
 ·unfold World.freeze
  simp only[Nat.one_ne_zero,if_false,Array.getElem?_modify,if_true,hnew,Option.map_some]
  simp
 ·have hl:i<(byteCells s).length:=(List.getElem?_eq_some_iff.1 hi).1
  have:i<(s.data.map fun b=>Value.int .u8 b.toNat).size:=by simpa[byteCells] using hl
  rw[Array.getElem?_append_left this]
  simpa[byteCells] using hi

theorem s_s2b (f:Full φ0 F0 H0 w0 φ F H w β env act T){dst:Option Nat}{src dt e:TypeId}{x:Operand}{v:AV}{env':Env}(hd:∀d,dst=some d→d<T)(hs:P.underlying src=some .string)(hu:P.underlying dt=some (.slice e))(he:P.underlying e=some (.int .u8))
  (h:rdOp (.s2b (cO x)) env H=some v) (hp:put dst v env=some env'):Sound P φ0 F0 H0 w0 T act w dst (.convert src dt x) H env':=by
 simp only[rdOp]at h
 split at h
 case h_2=>simp at h
 rename_i s hx
 simp only[Option.some.injEq]at h
 subst h
 obtain⟨w',cap,arr,fr,hr,hbw,hbl,hv,hcap⟩:=run_s2b (P:=P) e s w
 refine s_row f hd (fun type pos after guard=>rfl) (m:=convert src dt (act.eval x)) ?_ hbw hbl (bytes_CL s) hv hcap hp
 rw[ev_val f.st hx]
 simp only[convert,Sem.run_bind,run_underlying hs,Result.andThen_ok,run_underlying hu,run_underlying he,hr]

theorem run_storeAt {t:TypeId}{n:Nat}{a:Addr}{v:Value}{w':World}(hn:szOf P t=some n)(hs:v.cells.size=n)(h:(storeCells a v.cells.toList).run P w= .ok () w'):(Instr.storeAt t (.pointer (some a)) v).run P w= .ok () w':=by
 simp only[Instr.storeAt,Instr.sureAddr,Sem.run_bind,Sem.run_pure,Result.andThen_ok,storeVar,szOf_run hn]
 rw[if_neg (by omega)]
 exact h

theorem s_st (f:Full φ0 F0 H0 w0 φ F H w β env act T){dst:Option Nat}{t:TypeId}{a x:Operand}{l:Option Nat}{n lk lim base:Nat}{env':Env}{H':Heap}(hn:szOf P t=some n)
  (h:exOp lk lim base dst (.st l n (cO a) (cO x)) env H=some (env',H')):Sound P φ0 F0 H0 w0 T act w dst (.store t a x) H' env':=by
 simp only[exOp]at h
 split at h
 case h_2=>simp at h
 rename_i new hnew
 split at h
 case isFalse=>simp at h
 rename_i hlen
 obtain⟨hcl,hone⟩:=cellsV_rel (ev_rel f.st x) hnew
 have h1:∀v∈(act.eval x).cells.toList,v.oneCell'=true:=by
  intro v hv
  rw[Array.all_eq_true_iff_forall_mem]at hone
  exact hone v (Array.mem_toList_iff.1 hv)
 have hsz:(act.eval x).cells.size=n:=by rw[←hlen,←hcl.1,Array.length_toList]
 split at h
 ·rename_i t1 t' off ha
  split at h
  case isFalse=>simp at h
  rename_i ht;subst ht
  split at h
  case h_2=>simp at h
  rename_i cs hcs
  split at h
  case isFalse=>simp at h
  rename_i hc
  obtain⟨hc,hdst⟩:=hc
  simp only[Option.some.injEq,Prod.mk.injEq]at h
  obtain⟨rfl,rfl⟩:=h
  subst hdst
  have hptr:act.eval a= .pointer (some ⟨β t',off,none⟩):=ev_of f.st ha
  obtain⟨w',hr,hpost⟩:=f_stL (P:=P) (off:=off) f hcs hcl h1 (by omega)
  intro type pos after guard next Q hk
  unfold Oper.wp
  have hrun:(execOp act.eval { dst:=none,op:=.store t a x,type,pos,after,guard }).run P w= .ok .skip w':=by
   simp only[execOp,hptr,Sem.run_bind,run_storeAt hn hsz hr];rfl
  rw[hrun]
  exact hk _ _ hpost
 ·rename_i b g off ha
  split at h
  case h_2=>simp at h
  rename_i cs hb
  split at h
  case isFalse=>simp at h
  rename_i hc
  obtain⟨hg,hoff,h0,hdst⟩:=hc
  split at h
  case h_2=>simp at h
  rename_i H2 hset
  simp only[Option.some.injEq,Prod.mk.injEq]at h
  obtain⟨rfl,rfl⟩:=h
  subst hdst
  unfold setH at hset
  split at hset
  case isFalse=>simp at hset
  simp only[Option.some.injEq]at hset
  subst hset
  have hptr:(φ b).2≤off∧act.eval a= .pointer (some ⟨(φ b).1,off-(φ b).2,none⟩):=by
   have h':VRel φ F H w (.hp b g off) (act.eval a):=ev_of f.st ha
   generalize act.eval a=v at h'
   cases h' with
   | one h'=>
    cases h' with
    | hp b g off cs2 ad hb2 hg2 h2=>rw[hb]at hb2;cases hb2;obtain⟨q1,q2⟩:=h2 hg;exact⟨q1,by rw[q2]⟩
  obtain⟨hdo,hptr⟩:=hptr
  have hne:cs≠[]:=by intro e;subst e;simp at hg;omega
  obtain⟨arr,ty,ha2,hc2⟩:=f.st.sr.blk b cs hb hne
  have hle:cs.length-(φ b).2≤arr.size:=by
   by_cases hz:cs.length-(φ b).2=0
   ·omega
   obtain⟨v,hv,_⟩:=hc2 (cs.length-1) cs[cs.length-1] (by simp)
   have hv:=hv (by omega)
   have:=(Array.getElem?_eq_some_iff.1 hv).1
   omega
  have hnl:=hcl.1
  have hr:=run_store_mid P w (φ b).1 (off-(φ b).2) arr ty (act.eval x).cells.toList ha2 (by omega) h1
  generalize harr':(arr.toList.take (off-(φ b).2)++(act.eval x).cells.toList++arr.toList.drop (off-(φ b).2+(act.eval x).cells.toList.length)).toArray=arr' at hr
  have hsz':arr'.size=arr.size:=by
   rw[←harr'];simp only[List.size_toArray,List.length_append,List.length_take,List.length_drop,Array.length_toList]at hnl ⊢;omega
  have hrow:=row_replaceD (arr:=arr.toList) (off:=off) hdo (by simpa using hc2) hcl (by omega) (by simpa using hle)
  obtain⟨e,post⟩:=f_wrH f hb hne (Nat.le_of_eq (replaceAt_length (off:=off) (new:=new) (by omega)).symm) ha2 hsz' (fun i a hi=>by
   obtain⟨v,hv,hr⟩:=hrow i a hi
   exact⟨v,fun hd=>by rw[←harr'];simpa using hv hd,hr⟩)
  intro type pos after guard next Q hk
  unfold Oper.wp
  have hrun:(execOp act.eval { dst:=none,op:=.store t a x,type,pos,after,guard }).run P w= .ok .skip (w.setRow (φ b).1 arr'):=by
   simp only[execOp,hptr,Sem.run_bind,run_storeAt hn hsz hr];rfl
  rw[hrun]
  exact hk _ _ (post (dst:=none) (v:=.und) (cv:=undef) (fun d h=>by cases h) rfl rfl)
 ·simp at h
end
end Go.Hm

namespace Go.Hm
open Go Go.RowKit

section
variable {P:Program}{φ0:Phi}{F0:Nat→Nat→Prop}{H0:Heap}{w0:World}{φ:Phi}{F:Nat→Nat→Prop}{H:Heap}{w:World}{β:Nat→Nat}{env:Env}{act:Act}{T:TT}

theorem src_rel (s:SR φ F H w){tx:TypeId}{es m:Nat}{a:AV}{v:Value}{new:List AV}(h:ORel φ F H w β a v)(hc:srcCells H a=some (m,new))(hm:new.length=m*es)
  (hk:(∃e',P.underlying tx=some (.slice e'))∨P.underlying tx=some .string):∃news,Src P es tx v m news w∧CL φ F H w new news:=by
 have sl:slCells H a=some new→slN a=m→∃news,Src P es tx v m news w∧CL φ F H w new news:=by
  intro hsl hn
  obtain⟨x,n,cap,rfl,hn',hrow,hx⟩:=slCells_rel s h hsl
  have hnm:n=m:=by omega
  subst hnm
  cases x with
  | none=>
   have h0:=hx rfl
   subst h0
   have hnil:new=[]:=List.eq_nil_of_length_eq_zero (by omega)
   subst hnil
   exact⟨[],⟨hk,fun _=>rfl,run_firstCells_none w es 0 0 cap,run_firstCells_none w.drew es 0 0 cap,by simp,fun _ h=>by cases h⟩,rfl,fun i a v ha=>by simp at ha⟩
  | some ad=>
   have hall:∃news:List Value,news.length=new.length∧(∀(j:Nat) u,news[j]?=some u→w.cell? (ad.add j)=some u)∧CL φ F H w new news:=by
    rcases hrow with hrow | ⟨k,o,hx2,hrow⟩
    ·subst hrow;exact⟨[],rfl,fun j u hu=>by simp at hu,rfl,fun i a v ha=>by simp at ha⟩
    ·cases hx2
     have:=hrow.range (off:=0) (n:=new.length) (by omega)
     obtain⟨news,h3,h2,h1⟩:=this
     refine⟨news,h1,fun j u hu=>?_,?_⟩
     ·rw[add_none];simpa using h2 j u hu
     ·simpa using h3
   obtain⟨news,h1,h2,h3⟩:=hall
   refine⟨news,⟨hk,fun _=>rfl,run_firstCells_some w es n ad n cap news (by omega) h2,run_firstCells_some w.drew es n ad n cap news (by omega) (by simpa using h2),by omega,fun u hu=>?_⟩,h3⟩
   obtain⟨i,hi⟩:=List.getElem?_of_mem hu
   have hlt:i<new.length:=by rw[←h1];exact(List.getElem?_eq_some_iff.1 hi).1
   exact(h3.2 i new[i] u (by simp[hlt]) hi).oneCell
 unfold srcCells at hc
 split at hc
 ·rename_i str
  simp only[Option.some.injEq,Prod.mk.injEq]at hc
  obtain⟨rfl,rfl⟩:=hc
  have hv:v= .string str:=(VRel.inv_val h).1
  subst hv
  have hf:∀w':World,(Builtin.firstCells es str.size (.string str)).run P w'= .ok (byteCells str).toArray w':=fun w'=>by
   rw[←firstCells_string (P:=P) str w'];rfl
  refine⟨byteCells str,⟨hk,fun _=>rfl,hf w,hf w.drew,?_,fun u hu=>?_⟩,bytes_CL str⟩
  ·rw[byteCells_length];simpa using hm
  ·obtain⟨_,_,rfl⟩:=List.mem_map.1 hu
   rfl
 ·split at hc
  ·rename_i cs hcs
   simp only[Option.some.injEq,Prod.mk.injEq]at hc
   obtain⟨h1,rfl⟩:=hc
   exact sl hcs h1
  ·simp at hc

theorem run_append_room_row (t tx ty e:TypeId){sz:Nat}(ht:P.underlying t=some (.slice e))(hi:szOf P e=some sz)(b o sLen sCap:Nat)(x:Value)(n:Nat)(news:List Value)(hs:Src P sz tx x n news w)
  (hroom:sLen+n≤sCap) {arr:Array Value} {tb:TypeId} (hb:w.heap[b]?=some (.cells arr tb (0,0))) (hl:o+sLen*sz+news.length≤arr.size):
  (Builtin.append_ #[t,tx] ty #[.slice (some ⟨b,o,none⟩) sLen sCap,x]).run P w= .ok (.slice (some ⟨b,o,none⟩) (sLen+n) sCap) (w.setRow b (arr.toList.take (o+sLen*sz)++news++arr.toList.drop (o+sLen*sz+news.length)).toArray):=by
 have hst:=run_store_mid P w b (o+sLen*sz) arr tb news hb hl hs.one
 have hsz:(sizeOf e).run P w= .ok sz w:=szOf_run hi w
 rcases hs.kind with⟨e',hk⟩ | hk<;>simp[Builtin.append_,run_underlying ht,run_underlying hk,hsz,hs.len,hroom,hs.cells,Addr.add_lit,hst]

theorem run_append_same (t tx ty e:TypeId){sz:Nat}(ht:P.underlying t=some (.slice e))(hi:szOf P e=some sz)(base:Option Addr)(sCap:Nat)(x:Value)(hs:Src P sz tx x 0 [] w):
  (Builtin.append_ #[t,tx] ty #[.slice base 0 sCap,x]).run P w= .ok (.slice base 0 sCap) w:=by
 have hsz:(sizeOf e).run P w= .ok sz w:=szOf_run hi w
 rcases hs.kind with⟨e',hk⟩ | hk<;>cases base<;>simp[Builtin.append_,run_underlying ht,run_underlying hk,hsz,hs.len,hs.cells,storeCells]

theorem zeroCells_size (z:Array Value)(n:Nat):(Builtin.zeroCells z n).size=n*z.size:=by simp[Builtin.zeroCells]

theorem oper_append {c:Call}{x y:Operand}{t tx:TypeId}(hc:c.callee= .builtin .append)(hat:c.argTypes.toList=[t,tx])(har:c.args.toList=[x,y]){dst:Option Nat}{type:TypeId}{pos:String}{after:Array Edge}{guard:Option (Nat×Bool)}{v:Value}{w':World}
  (h:(Builtin.append_ #[t,tx] type #[act.eval x,act.eval y]).run P w= .ok v w'):(execOp act.eval { dst,op:=.call c,type,pos,after,guard }).run P w= .ok (.value v) w':=by
 have h1:c.argTypes=#[t,tx]:=by apply Array.ext';simpa using hat
 have h2:c.args=#[x,y]:=by apply Array.ext';simpa using har
 simp[execOp,resolve,hc,h1,h2,invoke,builtin,h]

theorem fits_len {m bytes:Nat}(hb:0<bytes)(h:m*bytes≤room):((m:Nat):Int)≤9223372036854775807:=by
 have:m*1≤m*bytes:=Nat.mul_le_mul_left m hb
 unfold room at h
 omega

theorem s_app (f:Full φ0 F0 H0 w0 φ F H w β env act T){dst:Option Nat}{c:Call}{x y:Operand}{t tx e:TypeId}{es bytes lk lim base:Nat}{env':Env}{H':Heap}(hd:∀d,dst=some d→d<T)(hc:c.callee= .builtin .append)(hat:c.argTypes.toList=[t,tx])(har:c.args.toList=[x,y])
  (ht:P.underlying t=some (.slice e)) (hk:(∃e',P.underlying tx=some (.slice e'))∨P.underlying tx=some .string) (hsz:szOf P e=some es) (hby:byOf P e=some bytes) (hes:0<es) (hb0:0<bytes) (hz:(zOf P e).isSome=true) (hzl:∀z,zOf P e=some z→z.length=es)
  (h:exOp lk lim base dst (.app es bytes (cO x) (cO y)) env H=some (env',H')):Sound P φ0 F0 H0 w0 T act w dst (.call c) H' env':=by
 obtain⟨z,hz⟩:=Option.isSome_iff_exists.1 hz
 obtain⟨i,zv,hi,hzv,hof⟩:=zOf_run hz
 have hzrel:CL φ F H w z zv.cells.toList:=of1s_rel hof
 have hzs:zv.cells.size=es:=by rw[←hzl z hz,←hzrel.1,Array.length_toList]
 have hik:i.size=es:=by simpa[szOf,hi] using hsz
 have hib:i.bytes=bytes:=by simpa[byOf,hi] using hby
 simp only[exOp]at h
 split at h
 case h_2=>simp at h
 rename_i m new hsrc
 split at h
 case isFalse=>simp at h
 rename_i hlen
 obtain⟨news,src,hnew⟩:=src_rel (P:=P) f.st.sr (ev_rel f.st y) hsrc hlen hk
 have hnl:=hnew.1
 have src':Src P i.size tx (act.eval y) m news w:=by rw[hik];exact src
 split at h
 ·rename_i hx
  obtain⟨x0,hxv⟩:=VRel.inv_e0 (show VRel φ F H w .e0 (act.eval x) from ev_of f.st hx)
  split at h
  ·rename_i hm
   subst hm
   split at h
   case h_2=>simp at h
   rename_i env2 hp
   simp only[Option.some.injEq,Prod.mk.injEq]at h
   obtain⟨rfl,rfl⟩:=h
   have hnil:news=[]:=List.eq_nil_of_length_eq_zero (by omega)
   subst hnil
   intro type pos after guard next Q hkk
   unfold Oper.wp
   rw[oper_append hc hat har (by rw[hxv];exact run_append_same t tx type e ht hsz x0 0 _ src)]
   exact hkk _ _ (f_pure f hd hp (VRel.one (.e0 _)))
  ·rename_i hm
   split at h
   case isFalse=>simp at h
   rename_i hroom
   split at h
   case h_2=>simp at h
   rename_i env2 hp
   simp only[Option.some.injEq,Prod.mk.injEq]at h
   obtain⟨rfl,rfl⟩:=h
   intro type pos after guard next Q hkk
   unfold Oper.wp
   have hold:(Builtin.firstCells i.size 0 (.slice x0 0 0)).run P w.drew= .ok ([]:List Value).toArray w.drew:=by
    cases x0 with
    | none=>exact run_firstCells_none w.drew _ _ _ _
    | some a=>exact run_firstCells_some w.drew _ 0 a 0 0 [] (by simp) (fun j v hv=>by simp at hv)
   have hr:=run_append_grow_src w t tx type e i zv ht hi hzv x0 0 0 [] hold (act.eval y) m news src' (by omega) (by rw[Nat.zero_add];exact fits_len hb0 hroom)
    (growslice_fits (by omega) (by rw[hib,Nat.zero_add];unfold room at hroom;exact hroom))
   rw[oper_append hc hat har (by rw[hxv];exact hr)]
   have hcap:=grownCap_ge w (0+m) 0 e
   generalize hcapv:grownCap w (0+m) 0 e=cap at hcap hr
   generalize harr:((([]:List Value)++news).toArray++Builtin.zeroCells zv.cells (cap-(0+m)))=arr
   have hbw:Below w.heap.size w (w.drew.alloc (.cells arr e)):=(Below.refl w.heap.size w).drew.alloc (Nat.le_refl _) _
   have hnw:(w.drew.alloc (.cells arr e)).heap[w.heap.size]?=some (.cells arr e (0,0)):=heap_alloc_new w.drew _
   have hasz:arr.size=cap*es:=by
    rw[←harr,Array.size_append,zeroCells_size,hzs]
    simp only[List.nil_append,List.size_toArray,Nat.zero_add]at hcap ⊢
    rw[hnl,hlen,←Nat.add_mul]
    congr 1;omega
   have hHn:noBlk H H.length:=⟨fun cs=>by simp,fun es=>by simp⟩
   have hHb:(H++[HB.cells new])[H.length]?=some (.cells new):=by simp
   refine hkk _ _ (f_make f hd hp hbw (Nat.le_refl _) hnw hHn hHb (fun b' hb'=>?_) ⟨arr,e,rfl,fun j a ha=>?_⟩ (fun φ' _ hφ=>?_))
   ·by_cases hlt:b'<H.length
    ·rw[List.getElem?_append_left hlt]
    ·rw[List.getElem?_eq_none (by simp;omega),List.getElem?_eq_none (by omega)]
   ·obtain⟨u,hu,hr⟩:=hnew.get ha
    refine⟨u,?_,hr⟩
    have hlt:j<news.length:=(List.getElem?_eq_some_iff.1 hu).1
    rw[←harr,Array.getElem?_append_left (by simpa using hlt)]
    simpa using hu
   ·have:=hs_new (β:=β) (n:=m) (cap:=cap) hlen hes w.heap.size (by omega) (Nat.le_of_eq hasz.symm) (fun h=>by omega) φ' F _ _ hφ hHb hnw
    rw[Nat.zero_add]
    exact this
 ·rename_i b g off n es' hx
  split at h
  case h_2=>simp at h
  rename_i cs hb
  split at h
  case isFalse=>simp at h
  rename_i hcond
  obtain⟨hg,hese,hplace,hroom⟩:=hcond
  subst hese
  split at h
  case h_2=>simp at h
  rename_i H2 hset
  unfold setH at hset
  split at hset
  case isFalse=>simp at hset
  simp only[Option.some.injEq]at hset
  subst hset
  split at h
  case h_2=>simp at h
  rename_i env2 hp
  simp only[Option.some.injEq,Prod.mk.injEq]at h
  obtain⟨rfl,rfl⟩:=h
  have hblt:b<H.length:=(List.getElem?_eq_some_iff.1 hb).1
  have hxr:VRel φ F H w (.hs b g off n es') (act.eval x):=ev_of f.st hx
  generalize hxv:act.eval x=xv at hxr
  cases hxr with
  | one hxr=>
  cases hxr with
  | hs b g off n es cs2 xa cap hb2 hg2 hn2 hx0 hcase=>
  rw[hb]at hb2
  cases hb2
  intro type pos after guard next Q hkk
  unfold Oper.wp
  have hgpos:∀k,k≤cap→off+k*es'≤off+cap*es':=fun k hk=>Nat.add_le_add_left (Nat.mul_le_mul_right es' hk) off
  -- in place
  have inPlace:∀(h0g:0<g) (hd0:(φ b).2≤off) (hxa:xa=some ⟨(φ b).1,off-(φ b).2,none⟩) (arr:Array Value) (ty:TypeId) (harr:w.heap[(φ b).1]?=some (.cells arr ty (0,0))) (hcap:off-(φ b).2+cap*es'≤arr.size) (hfit:n+m≤cap)
    (cs':List AV) (g':Nat) (hcl:cs.length≤cs'.length) (hg':cs'.length=g') (hgc':g'≤off+cap*es')
    (hrow:∀(i:Nat) a,cs'[i]?=some a→∃v,((φ b).2≤i→(arr.toList.take (off-(φ b).2+n*es')++news++arr.toList.drop (off-(φ b).2+n*es'+news.length))[i-(φ b).2]?=some v)∧CRel φ F H w a v)
    (hp:put dst (.hs b g' off (n+m) es') env=some env2),
    ∃w',(Builtin.append_ #[t,tx] type #[.slice xa n cap,act.eval y]).run P w= .ok (.slice xa (n+m) cap) w'∧Post φ0 F0 H0 w0 (H.set b (.cells cs')) env2 T (act.put dst (.slice xa (n+m) cap)) w':=by
   intro h0g hd0 hxa arr ty harr hcap hfit cs' g' hcl hg' hgc' hrow hp
   subst hxa
   have hself:(H.set b (.cells cs'))[b]?=some (.cells cs'):=by simp[hblt]
   have hl2:off-(φ b).2+n*es'+news.length≤arr.size:=by
    have:=Nat.mul_le_mul_right es' hfit
    rw[Nat.add_mul]at this
    omega
   have hr:=run_append_room_row (P:=P) t tx type e ht hsz (φ b).1 (off-(φ b).2) n cap (act.eval y) m news src hfit harr hl2
   generalize harr':(arr.toList.take (off-(φ b).2+n*es')++news++arr.toList.drop (off-(φ b).2+n*es'+news.length)).toArray=arr' at hr
   have hsz':arr'.size=arr.size:=by
    rw[←harr'];simp only[List.size_toArray,List.length_append,List.length_take,List.length_drop,Array.length_toList];omega
   have hcne:cs≠[]:=by intro e;subst e;simp at hg;omega
   obtain⟨_,post⟩:=f_wrH f hb hcne (cs':=cs') hcl harr hsz' (fun j a hj=>by
    obtain⟨v,hv,hr⟩:=hrow j a hj
    exact⟨v,fun hdj=>by rw[←harr'];simpa using hv hdj,hr⟩)
   have hkw:=setRow_heap w (φ b).1 arr arr' ty (0,0) harr
   exact⟨_,hr,post hd hp (VRel.one (.hs b g' off (n+m) es' cs' _ cap hself (by omega) hfit (fun h=>by cases h) (fun _=>.inl ⟨by omega,hd0,rfl,hgc',arr',ty,hkw,by omega⟩)))⟩
  by_cases htail:off+n*es'=g
  ·have e1:appC (off+n*es') g cs new=cs++new:=if_pos htail
   have e2:appG (off+n*es') g (m*es')=g+m*es':=if_pos htail
   rw[e2]at hp
   rw[e1]at hkk
   have hself:(H.set b (.cells (cs++new)))[b]?=some (.cells (cs++new)):=by simp[hblt]
   have hlen2:(cs++new).length=g+m*es':=by simp[hg,hlen]
   by_cases hfit:n+m≤cap
   ·rcases hcase hg with⟨h0g,hd0,hxa,hgc,arr,ty,harr,hcap⟩ | ⟨hn0,hc0,hgo⟩
    ·have hcne:cs≠[]:=by intro e;subst e;simp at hg;omega
     obtain⟨arr2,ty2,harr2,hrow⟩:=f.st.sr.blk b cs hb hcne
     rw[harr]at harr2
     cases harr2
     have hgm:g+m*es'≤off+cap*es':=by
      have:=hgpos _ hfit
      rw[Nat.add_mul]at this
      omega
     obtain⟨w',hr,hpost⟩:=inPlace h0g hd0 hxa arr ty harr hcap hfit (cs++new) (g+m*es') (by simp) hlen2 hgm (fun j a hj=>by
      have hnc:=hgpos _ hn2
      have ht:(arr.toList.take (off-(φ b).2+n*es')).length=off-(φ b).2+n*es':=by simp;omega
      rw[List.getElem?_append]at hj
      split at hj
      ·rename_i hjl
       obtain⟨v,hv,hr⟩:=hrow j a hj
       refine⟨v,fun hdj=>?_,hr⟩
       have hv:=hv hdj
       rw[List.append_assoc,List.getElem?_append_left (by omega),List.getElem?_take,if_pos (by omega)]
       simpa using hv
      ·rename_i hjl
       obtain⟨v,hv,hr⟩:=hnew.get hj
       have hvl:j-cs.length<news.length:=(List.getElem?_eq_some_iff.1 hv).1
       refine⟨v,fun hdj=>?_,hr⟩
       rw[List.append_assoc,List.getElem?_append_right (by omega),ht,List.getElem?_append_left (by omega),show j-(φ b).2-(off-(φ b).2+n*es')=j-cs.length from by omega]
       exact hv) hp
     rw[oper_append hc hat har (by rw[hxv];exact hr)]
     exact hkk _ _ hpost
    ·subst hn0;subst hc0
     have hm0:m=0:=by omega
     subst hm0
     have hnil:new=[]:=List.eq_nil_of_length_eq_zero (by omega)
     subst hnil
     have hnil2:news=[]:=List.eq_nil_of_length_eq_zero (by omega)
     subst hnil2
     rw[oper_append hc hat har (by rw[hxv];exact run_append_same t tx type e ht hsz xa 0 _ src)]
     have hsame:H.set b (.cells (cs++[]))=H:=by
      rw[List.append_nil]
      apply List.ext_getElem?
      intro j
      rw[List.getElem?_set]
      split
      ·rename_i hj
       subst hj
       exact hb.symm
      ·rfl
     rw[hsame]at hkk
     refine hkk _ _ (f_pure f hd hp (VRel.one (.hs b (g+0*es') off (0+0) es' cs xa 0 hb (by omega) (Nat.le_refl _) (fun _=>rfl) (fun _=>.inr ⟨rfl,rfl,by omega⟩))))
   ·have hm0:0<m:=by omega
    have hmpos:0<m*es':=Nat.mul_pos hm0 hes
    have holds:∃olds:List Value,(Builtin.firstCells i.size n (.slice xa n cap)).run P w.drew= .ok olds.toArray w.drew∧CL φ F H w (cs.drop off) olds:=by
     rcases hcase hg with⟨h0g,hd0,hxa,hgc,arr,ty,harr,hcap⟩ | ⟨hn0,hc0,hgo⟩
     ·subst hxa
      have hcne:cs≠[]:=by intro e;subst e;simp at hg;omega
      have hrow:=(f.st.sr.blk b cs hb hcne).row
      obtain⟨olds,h3,h2,h1⟩:=hrow.range (off:=off-(φ b).2) (n:=n*es') (by rw[List.length_drop];omega)
      rw[List.drop_drop,Nat.add_sub_of_le hd0,List.take_of_length_le (by rw[List.length_drop];omega)]at h3
      refine⟨olds,run_firstCells_some w.drew _ n _ n cap olds (by rw[hik];omega) (fun j v hv=>?_),h3⟩
      have:=h2 j v hv
      rw[add_none]
      simpa using this
     ·subst hn0
      have hcn:cs.drop off=[]:=List.drop_of_length_le (by omega)
      rw[hcn]
      refine⟨[],?_,rfl,fun i a v ha=>by simp at ha⟩
      cases xa with
      | none=>exact run_firstCells_none w.drew _ _ _ _
      | some a=>exact run_firstCells_some w.drew _ 0 a 0 cap [] (by simp) (fun j v hv=>by simp at hv)
    obtain⟨olds,hold,holdc⟩:=holds
    have hol:=holdc.1
    have hol2:olds.length=n*es':=by rw[hol,List.length_drop];omega
    have hr:=run_append_grow_src w t tx type e i zv ht hi hzv xa n cap olds hold (act.eval y) m news src' (by omega) (fits_len hb0 hroom) (growslice_fits (by omega) (by rw[hib];unfold room at hroom;exact hroom))
    rw[oper_append hc hat har (by rw[hxv];exact hr)]
    have hcap:=grownCap_ge w (n+m) cap e
    generalize hcapv:grownCap w (n+m) cap e=cap2 at hcap
    generalize harr:((olds++news).toArray++Builtin.zeroCells zv.cells (cap2-(n+m)))=arr
    have hbw:Below w.heap.size w (w.drew.alloc (.cells arr e)):=(Below.refl w.heap.size w).drew.alloc (Nat.le_refl _) _
    have hnw:(w.drew.alloc (.cells arr e)).heap[w.heap.size]?=some (.cells arr e (0,0)):=heap_alloc_new w.drew _
    have hasz:arr.size=cap2*es':=by
     rw[←harr,Array.size_append,zeroCells_size,hzs]
     simp only[List.size_toArray,List.length_append]
     rw[hnl,hlen,hol2,←Nat.add_mul,←Nat.add_mul]
     congr 1;omega
    have hall:CL φ F H w (cs.drop off++new) (olds++news):=holdc.append hnew
    have hgm:g+m*es'≤off+cap2*es':=by
     have:=Nat.add_le_add_left (Nat.mul_le_mul_right es' hcap) off
     rw[Nat.add_mul]at this
     omega
    refine hkk _ _ (f_move f (d0:=off) hb (cs':=cs++new) (by simp;omega) hbw (Nat.le_refl _) hnw (fun j a hj=>?_) hd hp (fun φ' hφ=>?_))
    ·by_cases hdj:off≤j
     case neg=>
      rw[List.getElem?_append_left (by omega)]at hj
      rcases hcase hg with⟨h0g,_⟩ | ⟨_,_,hgo⟩
      ·obtain⟨_,_,_,hrow⟩:=f.st.sr.blk b cs hb (by intro e;subst e;simp at hg;omega)
       obtain⟨u,_,hr⟩:=hrow j a hj
       exact⟨u,fun h=>absurd h hdj,hr⟩
      ·obtain⟨_,_,_,hrow⟩:=f.st.sr.blk b cs hb (by intro e;subst e;simp at hj)
       obtain⟨u,_,hr⟩:=hrow j a hj
       exact⟨u,fun h=>absurd h hdj,hr⟩
     have hj2:(cs.drop off++new)[j-off]?=some a:=by
      rw[←List.drop_append_of_le_length (by omega),List.getElem?_drop,show off+(j-off)=j from by omega]
      exact hj
     obtain⟨u,hu,hr⟩:=hall.get hj2
     refine⟨u,fun _=>?_,hr⟩
     have hlt:j-off<(olds++news).length:=(List.getElem?_eq_some_iff.1 hu).1
     rw[←harr,Array.getElem?_append_left (by simpa using hlt)]
     simpa using hu
    ·exact VRel.one (.hs b (g+m*es') off (n+m) es' (cs++new) _ cap2 hself (by omega) hcap (fun h=>by cases h) (fun _=>.inl ⟨by omega,by rw[hφ];exact Nat.le_refl _,by rw[hφ];simp,hgm,arr,e,by rw[hφ];exact hnw,by rw[hφ];simp only;omega⟩))
  ·have hin:off+n*es'+m*es'≤g:=hplace.resolve_left htail
   have e1:appC (off+n*es') g cs new=replaceAt cs (off+n*es') new:=if_neg htail
   have e2:appG (off+n*es') g (m*es')=g:=if_neg htail
   rw[e2]at hp
   rw[e1]at hkk
   rcases hcase hg with⟨h0g,hd0,hxa,hgc,arr,ty,harr,hcap⟩ | ⟨hn0,hc0,hgo⟩
   ·have hcne:cs≠[]:=by intro e;subst e;simp at hg;omega
    obtain⟨arr2,ty2,harr2,hrow⟩:=f.st.sr.blk b cs hb hcne
    rw[harr]at harr2
    cases harr2
    have hfit:n+m≤cap:=by
     refine Nat.le_of_mul_le_mul_right ?_ hes
     rw[Nat.add_mul]
     omega
    have hrl:=replaceAt_length (cs:=cs) (off:=off+n*es') (new:=new) (by omega)
    obtain⟨w',hr,hpost⟩:=inPlace h0g hd0 hxa arr ty harr hcap hfit (replaceAt cs (off+n*es') new) g (by omega) (by omega) hgc (fun j a hj=>by
     have:=row_replaceD (arr:=arr.toList) (off:=off+n*es') (d:=(φ b).2) (by omega) (by simpa using hrow) hnew (by omega) (by simp;omega) j a hj
     rw[show off+n*es'-(φ b).2=off-(φ b).2+n*es' from by omega]at this
     exact this) hp
    rw[oper_append hc hat har (by rw[hxv];exact hr)]
    exact hkk _ _ hpost
   ·subst hn0
    omega
 ·simp at h
end
end Go.Hm

