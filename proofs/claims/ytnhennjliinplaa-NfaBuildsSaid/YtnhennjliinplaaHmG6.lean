/- The machine HM, part 6. -/
import Derived.Test.YtnhennjliinplaaHmG5
import Derived.LoopNIn
set_option linter.all false
namespace Go.Hm
open Go Go.RowKit

section
variable {P:Program}{φ0:Phi}{F0:Nat→Nat→Prop}{H0:Heap}{w0:World}{T:TT}{C:Orc}{lk lim:Nat}{ws:WS}{pm:Pm}

theorem Full.heap {φ:Phi}{F:Nat→Nat→Prop}{H H':Heap}{w:World}{β:Nat→Nat}{env:Env}{act:Act}(f:Full φ0 F0 H0 w0 φ F H w β env act T)(h:∀(b:Nat) cs,H'[b]?=some (.cells cs)↔H[b]?=some (.cells cs))(hm:∀(b:Nat) es,H'[b]?=some (.map es)↔H[b]?=some (.map es)):
  Full φ0 F0 H0 w0 φ F H' w β env act T:=by
 have e:Ext φ F H w φ F H' w:=⟨fun b cs hb=>⟨cs,(h b cs).2 hb,Nat.le_refl _,fun _=>rfl⟩,fun b es hb=>⟨⟨es,(hm b es).2 hb⟩,rfl⟩,fun k o hk=>⟨hk,rfl⟩,Wm.refl w⟩
 have lv:∀b,live H' b→live H b:=fun b ⟨x,h1,h2⟩=>by
  cases x with
  | hole=>exact h2.elim
  | cells cs=>exact⟨_,(h b cs).1 h1,h2⟩
  | map es=>exact⟨_,(hm b es).1 h1,h2⟩
 have sr:SR φ F H' w:=⟨fun b cs hb hne=>by
  obtain⟨arr,ty,ha,hc⟩:=f.st.sr.blk b cs ((h b cs).1 hb) hne
  exact⟨arr,ty,ha,fun i a hi=>by
   obtain⟨v,hv,hr⟩:=hc i a hi
   exact⟨v,hv,hr.mono e⟩⟩,fun b es hb=>by
  obtain⟨ces,clk,ha,hr⟩:=f.st.sr.mblk b es ((hm b es).1 hb)
  exact⟨ces,clk,ha,hr.mono e⟩,fun b b' h1 h2=>f.st.sr.inj b b' (lv b h1) (lv b' h2),fun b o hl=>f.st.sr.phiF b o (lv b hl),f.st.sr.fsz⟩
 exact⟨f.st.mono e sr (fun t cs ht=>⟨rfl,fun b hl=>f.st.bphi t cs b ht (lv b hl),fun o=>f.st.bF t cs o ht⟩),f.ext.trans e,f.chg,fun b hl=>f.phi b (lv b hl),f.beta,f.dfr,f.frn⟩

theorem cls2_make {i:AI}(h:cls2 i= .make):cls i.op= .make:=by
 unfold cls2 at h
 split at h
 ·cases h
 ·split at h
  ·cases h
  ·exact h

theorem mark_length (rw:List Nat)(ops:Array Oper)(l:List AI):(mark rw ops l).length=l.length:=by simp[mark]
theorem mark_getD (rw:List Nat)(ops:Array Oper)(l:List AI)(j:Nat):SameBut ((mark rw ops l).getD j default) (l.getD j default):=by
 unfold mark
 dsimp only
 rw[List.getD_eq_getElem?_getD,List.getElem?_map]
 by_cases h:j<l.length
 ·rw[List.getElem?_range h]
  exact⟨rfl,rfl,rfl⟩
 ·rw[List.getElem?_eq_none (by simpa using h)]
  have:l.getD j default=default:=by
   rw[List.getD_eq_getElem?_getD,List.getElem?_eq_none (by omega)];rfl
  rw[this]
  exact⟨rfl,rfl,rfl⟩
theorem SameBut.trans {a b c:AI}(h:SameBut a b)(k:SameBut b c):SameBut a c:=⟨h.1.trans k.1,h.2.1.trans k.2.1,h.2.2.trans k.2.2⟩

theorem numb_getD:∀(l:List AI) (k j:Nat),SameBut ((numb l k).getD j default) (l.getD j default)
 | [],k,j=>⟨rfl,rfl,rfl⟩
 | i::r,k,0=>by
  simp only[numb]
  split<;>exact⟨rfl,rfl,rfl⟩
 | i::r,k,j+1=>by
  simp only[numb]
  split
  ·simpa using numb_getD r (k+1) j
  ·simpa using numb_getD r k j
theorem numb_length:∀(l:List AI) (k:Nat),(numb l k).length=l.length
 | [],k=>rfl
 | i::r,k=>by
  simp only[numb]
  split<;>simp[numb_length r]
theorem numb_make:∀(l:List AI) (k:Nat),((numb l k).filter isMake).length=(l.filter isMake).length
 | [],k=>rfl
 | i::r,k=>by
  simp only[numb]
  split
  ·rename_i h
   have h':isMake { i with at_:=k }=true:=h
   simp[h,h',numb_make r]
  ·rename_i h
   simp[h,numb_make r]

theorem map_getD_range (l:List AI):(List.range l.length).map (l.getD · default)=l:=by
 apply List.ext_getElem?
 intro j
 rw[List.getElem?_map]
 by_cases h:j<l.length
 ·rw[List.getElem?_range h]
  simp[h]
 ·rw[List.getElem?_eq_none (by simp;omega),List.getElem?_eq_none (by omega)]
  rfl

theorem mark_make (rw:List Nat)(ops:Array Oper)(l:List AI):((mark rw ops l).filter isMake).length=(l.filter isMake).length:=by
 have h:(l.filter isMake).length=(((List.range l.length).map (l.getD · default)).filter isMake).length:=by rw[map_getD_range]
 rw[h]
 unfold mark
 dsimp only
 rw[List.filter_map,List.filter_map,List.length_map,List.length_map]
 rfl

theorem regD_any (hC:OrcOk P C)(hF:OrcFr C)(hT:pm.T=T){φ:Phi}{F:Nat→Nat→Prop}{H:Heap}{w:World}{β:Nat→Nat}{env:Env}{act:Act}{ops:Array Oper}{keep:List Nat}{env':Env}{H':Heap}{Q:Exit→Act→World→Prop}
  (f:Full φ0 F0 H0 w0 φ F H w β env act T) (hd:drawOk ops (mark pm.rows ops (numb (ops.toList.map (compI P pm ops)) 0))=true)
  (h:runD C lk lim ws H.length (mark pm.rows ops (numb (ops.toList.map (compI P pm ops)) 0)) (restrict keep env) (H++List.replicate ((ops.toList.map (compI P pm ops)).filter isMake).length .hole)=some (env',H'))
  (hQ:∀act' w',Post φ0 F0 H0 w0 H' env' T act' w'→Q .normal act' w'):wpAny P .any ops Q ops.size (Array.replicate ops.size false) act w.drew:=by
 obtain⟨φ1,F1,β1,f1⟩:Post φ0 F0 H0 w0 H env T act w.drew:=f_grow f (dst:=none) (v:=.und) (cv:=undef) (F':=F) (fun d h=>by cases h) rfl (Below.refl w.heap.size w).drew (fun _ _ h=>h) (fun _ _ h=>.inl h) rfl
 generalize hl:mark pm.rows ops (numb (ops.toList.map (compI P pm ops)) 0)=l at hd h
 have hlen:l.length=ops.size:=by rw[←hl,mark_length,numb_length,List.length_map,Array.length_toList]
 have hmk:((ops.toList.map (compI P pm ops)).filter isMake).length=(l.filter isMake).length:=by rw[←hl,mark_make,numb_make]
 rw[hmk]at h
 have f2:Full φ0 F0 H0 w0 φ1 F1 (H++List.replicate (l.filter isMake).length .hole) w.drew β1 (restrict keep env) act T:=by
  refine(f1.sub (find_restrict keep env)).heap (fun b cs=>?_) (fun b es=>?_)
  all_goals
   by_cases hb:b<H.length
   ·rw[List.getElem?_append_left hb]
   ·rw[List.getElem?_append_right (by omega),List.getElem?_eq_none (l:=H) (by omega),List.getElem?_replicate]
    split<;>simp
 have hrest:rest ops.size (Array.replicate ops.size false)=List.range ops.size:=by
  unfold rest
  rw[List.filter_eq_self]
  intro i hi
  rw[List.mem_range]at hi
  simp[Array.getD_eq_getD_getElem?,hi]
 have hmap:(rest ops.size (Array.replicate ops.size false)).map (l.getD · default)=l:=by rw[hrest,←hlen];exact map_getD_range l
 refine any_sound (w:=w.drew) hC hF hT (DrawOk.of hd) (fun j o ho=>?_) hQ ops.size (Array.replicate ops.size false) (by simp) (by rw[hrest];simp) (fun i o ho hi=>?_) f2 (fun _=>?_) ?_ (by rw[hmap];exact h) (EqE.refl _)
 ·have:=(mark_getD pm.rows ops (numb (ops.toList.map (compI P pm ops)) 0) j).trans (numb_getD (ops.toList.map (compI P pm ops)) 0 j)
  rw[hl]at this
  have e:(ops.toList.map (compI P pm ops)).getD j default=compI P pm ops o:=by
   rw[List.getD_eq_getElem?_getD,List.getElem?_map]
   simp[ho]
  rw[e]at this
  exact this
 ·have hlt:=(Array.getElem?_eq_some_iff.1 ho).1
  simp[Array.getD_eq_getD_getElem?,hlt]at hi
 ·have:Cl H.length H:=f1.st.sr.cl
  exact this.append (Nat.le_refl _)
 ·rw[hmap]
  refine⟨by simp,fun i hi hmi=>?_⟩
  have:0<(l.filter isMake).length:=List.length_pos_of_mem (List.mem_filter.2 ⟨hi,by unfold isMake;rw[cls2_make hmi];rfl⟩)
  rw[List.length_append,List.length_replicate]
  omega

def Begun (φ:Phi)(F:Nat→Nat→Prop)(H:Heap)(w:World)(B:World)(Z:Nat→Prop):Prop:=
 ∃φ' F',SR φ' F' H B∧Ext φ F H w φ' F' H B∧Chg w B (fun k=>∃b,live H b∧(φ b).1=k)∧(∀b,live H b→(live H b∧φ b=φ' b)∨w.heap.size≤(φ' b).1)∧(∀k o,F' k o→F k o∨w.heap.size≤k)∧
  ∀k,Z k→(∃o,F' k o)∧∃arr ty fr,B.heap[k]?=some (.cells arr ty fr)
theorem Begun.refl {φ:Phi}{F:Nat→Nat→Prop}{H:Heap}{w:World}(sr:SR φ F H w):Begun φ F H w w (fun _=>False):=
 ⟨φ,F,sr,Ext.refl _ _ _ _,Chg.refl _ _,fun b hl=>.inl ⟨hl,rfl⟩,fun _ _ h=>.inl h,fun _ h=>h.elim⟩
def SqOk (P:Program)(it:FuncId→List AV→Heap→Option (List (List Value))):Prop:=∀f cap H items,it f cap H=some items→Enters P (f % 1000)∧(∀x∈items,∀v∈x,scal v=true)∧
 ∀φ F w vs,SR φ F H w→CL φ F H w cap vs→ItOk P (Begun φ F H w) (f % 1000) vs.toArray (items.map List.toArray) w
end
section
variable {P:Program}{C:Orc}{lk lim:Nat}

theorem range_cons {f g:Env→Heap→Out}{ps:List Nat}{env:Env}{x:List Value}{r:List (List Value)}{H:Heap}{q:Ex×Env×Heap}(h:rangeN f g ps env (x::r) H=some q):
  ∃e,putP ps x env=some e∧∃e1 H1,f e H=some (.nrm,e1,H1)∧noBx e1=true∧∃x2 e2 H2,g e1 H1=some (x2,e2,H2)∧((x2= .nrm∧rangeN f g ps env r H2=some q)∨(x2≠.nrm∧q=(x2,env,H2))):=by
 simp only[rangeN]at h
 unfold round1 at h
 cases hp:putP ps x env with
 | none=>simp[hp]at h
 | some e=>
  simp only[hp]at h
  refine⟨e,rfl,?_⟩
  cases hf:f e H with
  | none=>simp[hf]at h
  | some p=>
   obtain⟨x1,e1,H1⟩:=p
   cases x1 with
   | exit id=>simp[hf]at h
   | ret=>simp[hf]at h
   | nrm=>
    simp only[hf]at h
    cases hb:noBx e1 with
    | false=>simp[hb]at h
    | true=>
     simp only[hb,if_true]at h
     refine⟨e1,H1,rfl,hb,?_⟩
     cases hg:g e1 H1 with
     | none=>simp[hg]at h
     | some p=>
      obtain⟨x2,e2,H2⟩:=p
      refine⟨x2,e2,H2,rfl,?_⟩
      cases x2 with
      | nrm=>simp only[hg]at h;exact .inl ⟨rfl,h⟩
      | exit id=>simp only[hg,Option.some.injEq]at h;exact .inr ⟨by simp,h.symm⟩
      | ret=>simp only[hg,Option.some.injEq]at h;exact .inr ⟨by simp,h.symm⟩

theorem newMark {φ0:Phi}{F0:Nat→Nat→Prop}{H0:Heap}{w0:World}{φ:Phi}{F:Nat→Nat→Prop}{H:Heap}{w:World}{β:Nat→Nat}{env:Env}{act:Act}{T:TT}{D:Nat}(hrd:T.rd=none)(f:Full φ0 F0 H0 w0 φ F H w β env act T)(hD:w.heap.size≤D):
  ({ target:=.collected D,args:=#[] }:Deferred)∉act.defers:=fun h=>by
 have hd:=f.dfr
 unfold Dfr at hd
 rw[hrd]at hd
 obtain⟨r,h1,_,_,h2⟩:=hd.2 _ h
 simp only[Deferred.mk.injEq,Target.collected.injEq,and_true]at h1
 subst h1
 have:=(Array.getElem?_eq_some_iff.1 h2).1
 omega
def codeOf:Ex→Code
 | .nrm=>.skip
 | .exit id=>.exit id
 | .ret=>.ret

theorem codeInd {M:Code→Prop}(h:∀c,(∀c',SizeOf.sizeOf c'<SizeOf.sizeOf c→M c')→M c)(c:Code):M c:=by
 have key:∀(n:Nat) (c:Code),SizeOf.sizeOf c<n→M c:=by
  intro n
  induction n with
  | zero=>intro c h;omega
  | succ n ih=>intro c hc;exact h c fun c' hc'=>ih c' (by omega)
 exact key _ c (Nat.lt_succ_self _)

theorem rmOf_inv {pm:Pm}{a b:Code}{r:RM}{rest:Code}(h:rmOf P pm a b=some (r,rest)):∃i j kk n2,a= .region i r.ops false∧b= .block r.id (.loop (.seq (.region j n2 false) (.seq (.cond (.tmp r.tM) .skip (.exit r.id)) (.block r.kd (.seq (.region kk r.eops false) rest)))))∧
  isRng P r.ops=some (r.x,r.tI)∧isStep r.tI n2=some (r.tN,r.tM)∧isEnt r.tI r.eops=some r.tE∧(r.tI<pm.T∧r.tN<pm.T∧r.tM<pm.T∧r.tE<pm.T)∧pm.inR=true∧(noDefer r.ops=true∧noDefer n2=true∧noDefer r.eops=true)∧isRng P r.eops=none:=by
 unfold rmOf at h
 split at h
 case h_2=>cases h
 rename_i i ops id j n2 c jd kd kk eops rest'
 split at h
 case h_2=>cases h
 rename_i x tI hr
 split at h
 case h_2=>cases h
 rename_i tN tM tE hs he
 split at h
 case isFalse=>cases h
 rename_i hc
 simp only[Option.some.injEq,Prod.mk.injEq]at h
 obtain⟨rfl,rfl⟩:=h
 obtain⟨⟨rfl,rfl⟩,hlt,hin,hnd,hz⟩:=hc
 exact⟨i,j,kk,n2,rfl,rfl,hr,hs,he,hlt,hin,hnd,by simpa using hz⟩
theorem seqC_nb {pm:Pm}{a b:Code}{keep:List Nat}{x y:AC}(h:∀b',rmOf P pm a b'=none):seqC P pm a b keep x y= .seq x y:=by
 unfold seqC
 rw[h b]
 dsimp only
 split
 ·rw[h]
 ·rfl
theorem rmOf_nr {pm:Pm}{a b:Code}(h:∀i ops,a≠.region i ops false):rmOf P pm a b=none:=by
 cases hr:rmOf P pm a b with
 | none=>rfl
 | some p=>
  obtain⟨i,j,kk,n2,e,_⟩:=rmOf_inv (r:=p.1) (rest:=p.2) hr
  exact absurd e (h i p.1.ops)
theorem rmOf_ng {pm:Pm}{i:Nat}{ops:Array Oper}{d:Bool}{b:Code}(h:isRng P ops=none):rmOf P pm (.region i ops d) b=none:=by
 cases hr:rmOf P pm (.region i ops d) b with
 | none=>rfl
 | some p=>
  obtain⟨i,j,kk,n2,e,_,h2,_⟩:=rmOf_inv (r:=p.1) (rest:=p.2) hr
  injection e with e1 e2
  rw[←e2,h]at h2;cases h2
theorem rmOf_sz {pm:Pm}{a b:Code}{r:RM}{rest:Code}(h:rmOf P pm a b=some (r,rest)):SizeOf.sizeOf rest<SizeOf.sizeOf b:=by
 obtain⟨i,j,kk,n2,_,rfl,_⟩:=rmOf_inv h
 simp only[Code.block.sizeOf_spec,Code.loop.sizeOf_spec,Code.seq.sizeOf_spec]
 omega
theorem rmC_eq {pm:Pm}{a b:Code}{r:RM}{rest:Code}(h:rmOf P pm a b=some (r,rest))(keepA:List Nat)(ks:List (List Nat)):∃(k1 k3:List Nat) (kz:List (List Nat)),rmC P pm r keepA (compC P pm b ks).1=
  .seq (.regN keepA (r.ops.toList.dropLast.map (compI P pm r.ops))) (.rangeM (k1.filter fun t=>!([r.tI,r.tN,r.tM,r.tE].contains t)) (pm.pre r.tI) (cO r.x) r.tI r.tE (.block r.kd (.seq (.regN (r.tE::k3) (r.eops.toList.tail.map (compI P pm r.eops))) (compC P pm rest kz).1))):=by
 obtain⟨i,j,kk,n2,rfl,rfl,h1,h2,h3,h4,h5,⟨h6,h7,h8⟩,h9⟩:=rmOf_inv h
 have nde:r.eops.toList.any (fun o=>isDefer o.op)=false:=by
  cases h:r.eops.toList.any (fun o=>isDefer o.op) with
  | false=>rfl
  | true=>
   obtain⟨o,ho,hd⟩:=List.any_eq_true.1 h
   have:=List.all_eq_true.1 h8 o ho
   rw[hd]at this;cases this
 have s1:∀b' keep x y,seqC P pm (.region kk r.eops false) b' keep x y= .seq x y:=fun b' keep x y=>seqC_nb fun b=>rmOf_ng h9
 have s2:∀c d b' keep x y,seqC P pm (.cond c d (.exit r.id)) b' keep x y= .seq x y:=fun c d b' keep x y=>seqC_nb fun b=>rmOf_nr fun _ _ e=>by cases e
 have s3:∀c d e' keep x y1 y2,seqC P pm (.region j n2 false) (.seq (.cond c d (.exit r.id)) e') keep x (.seq y1 y2)= .seq x (.seq y1 y2):=fun c d e' keep x y1 y2=>by
  unfold seqC rmOf
  rfl
 simp only[compC,s1,s2,s3,nde,Bool.false_eq_true,and_false,if_false]
 exact⟨_,_,_,rfl⟩

theorem exec_sound (hm:P.follows .mixedOrders=true)(hC:OrcOk P C)(hF:OrcFr C){n:Nat}:∀(c:Code) (ks:List (List Nat)) {pm:Pm} {ro:Option Nat} {T:TT} {φ0:Phi} {F0:Nat→Nat→Prop} {H0:Heap} {w0:World} {φ:Phi} {F:Nat→Nat→Prop} {H:Heap} {w:World} {β:Nat→Nat} {env:Env} {act:Act} {ex:Ex} {env':Env} {H':Heap} {Q:Exit→Act→World→Prop},
  pm.T=T→SqOk P pm.it→((ro=none∧T.rd=none∧pm.inR=false)∨(pm.inR=true∧∃l,T.rd=some l))→(∀k o,F0 k o→k<w0.heap.size)→RmOks C n lk lim (compC P pm c ks).1→
  Full φ0 F0 H0 w0 φ F H w β env act T→exec C n lk lim (compC P pm c ks).1 env H=some (ex,env',H')→(∀act' w',Post φ0 F0 H0 w0 H' env' T act' w'→Q (exOf ex) act' w')→c.wpIn (FR ro) 0 P Q act w:=by
 intro c
 induction c using codeInd with | h c IH=>?_
 cases c with
 | skip=>
  intro ks pm ro T φ0 F0 H0 w0 φ F H w β env act ex env' H' Q hT hS hro hF0 hR f h hQ
  simp only[compC,exec,Option.some.injEq,Prod.mk.injEq]at h
  obtain⟨rfl,rfl,rfl⟩:=h
  exact wpIn_skip (hQ _ _ ⟨_,_,_,f⟩)
 | label l=>
  intro ks pm ro T φ0 F0 H0 w0 φ F H w β env act ex env' H' Q hT hS hro hF0 hR f h hQ
  simp only[compC,exec,Option.some.injEq,Prod.mk.injEq]at h
  obtain⟨rfl,rfl,rfl⟩:=h
  exact wpIn_label (hQ _ _ ⟨_,_,_,f⟩)
 | exit id=>
  intro ks pm ro T φ0 F0 H0 w0 φ F H w β env act ex env' H' Q hT hS hro hF0 hR f h hQ
  simp only[compC,exec,Option.some.injEq,Prod.mk.injEq]at h
  obtain⟨rfl,rfl,rfl⟩:=h
  exact wpIn_exit (hQ _ _ ⟨_,_,_,f⟩)
 | ret=>
  intro ks pm ro T φ0 F0 H0 w0 φ F H w β env act ex env' H' Q hT hS hro hF0 hR f h hQ
  simp only[compC,exec,Option.some.injEq,Prod.mk.injEq]at h
  obtain⟨rfl,rfl,rfl⟩:=h
  exact wpIn_ret (hQ _ _ ⟨_,_,_,f⟩)
 | region id ops draw=>
  intro ks pm ro T φ0 F0 H0 w0 φ F H w β env act ex env' H' Q hT hS hro hF0 hR f h hQ
  simp only[compC]at h
  split at h
  ·simp[exec]at h
  rename_i hnd
  have lets:¬LetsOut (fun e a w=>e=exOf ex∧Post φ0 F0 H0 w0 H' env' T a w):=fun⟨a,w,h,_⟩=>by cases ex<;>cases h
  cases draw with
  | true=>
   simp only[if_true]at h
   split at h
   ·rename_i hd
    simp only[exec]at h
    split at h
    case h_2=>simp at h
    rename_i e1 h1 hr
    simp only[Option.some.injEq,Prod.mk.injEq]at h
    obtain⟨rfl,rfl,rfl⟩:=h
    have key:=regD_any (P:=P) (pm:=pm) (Q:=fun e a w=>e=exOf .nrm∧Post φ0 F0 H0 w0 h1 e1 T a w) hC hF hT f hd hr (fun _ _ hp=>⟨rfl,hp⟩)
    refine wpIn_mono (Q:=fun e a w=>e=exOf .nrm∧Post φ0 F0 H0 w0 h1 e1 T a w) ?_ (fun e a w h=>h.1▸hQ a w h.2)
    cases hdf:ops.toList.any (fun o=>isDefer o.op) with
    | true=>
     obtain⟨rfl,_⟩:=hro.resolve_right (fun e=>hnd ⟨e.1,hdf⟩)
     exact wpIn_wide.2 (wp_region_any hm key)
    | false=>
     refine wpIn_region_draw fun t=>opsIn_of hdf lets _ _ _ ?_
     simp only[Region.schedule,hm,Bool.true_or,if_true]
     exact wpAny_sound ops.size t _ act _ key
   ·simp[exec]at h
  | false=>
   simp only[Bool.false_eq_true,if_false,exec]at h
   split at h
   case h_2=>simp at h
   rename_i e1 h1 hr
   simp only[Option.some.injEq,Prod.mk.injEq]at h
   obtain⟨rfl,rfl,rfl⟩:=h
   have key:=runOps_sound (ops:=ops) (Q:=fun e a w=>e=exOf .nrm∧Post φ0 F0 H0 w0 h1 e1 T a w) hC hT ops.toList 0 rfl (f.sub (find_restrict (ks.headD []) env)) hr (fun _ _ hp=>⟨rfl,hp⟩)
   have key:wpOps P ops (fun e a w=>e=exOf .nrm∧Post φ0 F0 H0 w0 h1 e1 T a w) (List.range ops.size) act w:=by simpa[List.range_eq_range'] using key
   refine wpIn_mono (Q:=fun e a w=>e=exOf .nrm∧Post φ0 F0 H0 w0 h1 e1 T a w) ?_ (fun e a w h=>h.1▸hQ a w h.2)
   cases hdf:ops.toList.any (fun o=>isDefer o.op) with
   | true=>
    obtain⟨rfl,_⟩:=hro.resolve_right (fun e=>hnd ⟨e.1,hdf⟩)
    exact wpIn_wide.2 (wp_region key)
   | false=>exact wpIn_region (opsIn_of hdf lets _ _ _ key)
 | seq a b=>
  have iha:=IH a (by simp only[Code.seq.sizeOf_spec];omega)
  have ihb:=IH b (by simp only[Code.seq.sizeOf_spec];omega)
  intro ks pm ro T φ0 F0 H0 w0 φ F H w β env act ex env' H' Q hT hS hro hF0 hR f h hQ
  simp only[compC]at h hR
  unfold seqC at h hR
  cases hrm:rmOf P pm a b with
  | some p=>
   obtain⟨r,rest⟩:=p
   rw[hrm]at h hR
   dsimp only at h hR
   obtain⟨k1,k3,kz,hC1⟩:=rmC_eq hrm (ks.headD []) (compC P pm a ks).2
   rw[hC1]at h hR
   have hsz:=rmOf_sz hrm
   have ihr:=IH rest (by simp only[Code.seq.sizeOf_spec];omega)
   obtain⟨i,j,kk,n2,rfl,rfl,h1,h2,h3,h4,h5,⟨h6,h7,h8⟩,_⟩:=rmOf_inv hrm
   obtain⟨_,l,hl⟩:=hro.resolve_left (by rw[h5];simp)
   refine wpIn_seq (rm_sound (keep:=k1.filter fun t=>!([r.tI,r.tN,r.tM,r.tE].contains t)) (pre:=pm.pre r.tI) hC hT hl hF0 h1 h2 h3 (by rw[←hT];exact h4) h6 h7 h8 (by simp) (by simp) (by simp) hR.2.1 (fun hF0 f h hQ=>ihr kz hT hS hro hF0 hR.2.2.2 f h hQ) f h hQ)
  | none=>
  rw[hrm]at h hR
  dsimp only at h hR
  split at h
  ·rename_i b1 b2 y1 y2 hy
   cases hrm2:rmOf P pm a b1 with
   | some p=>
    obtain⟨r,rest⟩:=p
    simp only[hy,hrm2]at h hR
    have hsz:=rmOf_sz hrm2
    have ihr:=IH rest (by simp only[Code.seq.sizeOf_spec];omega)
    have ihb2:=IH b2 (by simp only[Code.seq.sizeOf_spec];omega)
    have hbl:∃id c,b1= .block id c:=by
     obtain⟨i,j,kk,n2,_,e,_⟩:=rmOf_inv hrm2
     exact⟨_,_,e⟩
    have hy2:y1=(compC P pm b1 (compC P pm a ks).2).1∧y2=(compC P pm b2 (compC P pm b1 (compC P pm a ks).2).2).1:=by
     obtain⟨id,c,rfl⟩:=hbl
     rw[show (compC P pm (.seq (.block id c) b2) (compC P pm a ks).2).1= .seq (compC P pm (.block id c) (compC P pm a ks).2).1 (compC P pm b2 (compC P pm (.block id c) (compC P pm a ks).2).2).1 from by
      simp only[compC]
      exact seqC_nb fun b=>rmOf_nr fun _ _ e=>by cases e]at hy
     injection hy with e1 e2
     exact⟨e1.symm,e2.symm⟩
    obtain⟨e1,e2⟩:=hy2
    subst e1;subst e2
    obtain⟨k1,k3,kz,hC1⟩:=rmC_eq hrm2 (ks.headD []) (compC P pm a ks).2
    rw[hC1]at h hR
    obtain⟨i,j,kk,n2,rfl,rfl,h1,h2,h3,h4,h5,⟨h6,h7,h8⟩,_⟩:=rmOf_inv hrm2
    obtain⟨_,l,hl⟩:=hro.resolve_left (by rw[h5];simp)
    have hQ1:∀{ex1 e1 H1},exec C n lk lim (.seq (.regN (ks.headD []) (r.ops.toList.dropLast.map (compI P pm r.ops))) (.rangeM (k1.filter fun t=>!([r.tI,r.tN,r.tM,r.tE].contains t)) (pm.pre r.tI) (cO r.x) r.tI r.tE (.block r.kd (.seq (.regN (r.tE::k3) (r.eops.toList.tail.map (compI P pm r.eops))) (compC P pm rest kz).1)))) env H=some (ex1,e1,H1)→
      (∀act' w',Post φ0 F0 H0 w0 H1 e1 T act' w'→Exit.then (b2.wpIn (FR ro) 0 P Q) Q (exOf ex1) act' w')→(Code.seq (.region i r.ops false) (.seq (.block r.id (.loop (.seq (.region j n2 false) (.seq (.cond (.tmp r.tM) .skip (.exit r.id)) (.block r.kd (.seq (.region kk r.eops false) rest)))))) b2)).wpIn (FR ro) 0 P Q act w:=fun hx hq=>by
     refine wpIn_seq (wpIn_mono (rm_sound (i:=i) (j:=j) (kk:=kk) (id:=r.id) (Q:=Exit.then (b2.wpIn (FR ro) 0 P Q) Q) (keep:=k1.filter fun t=>!([r.tI,r.tN,r.tM,r.tE].contains t)) (pre:=pm.pre r.tI) hC hT hl hF0 h1 h2 h3 (by rw[←hT];exact h4) h6 h7 h8 (by simp) (by simp) (by simp) hR.1.2.1 (fun hF0 f h hQ=>ihr kz hT hS hro hF0 hR.1.2.2.2 f h hQ) f hx hq) ?_)
     intro e a w hh
     cases e with
     | normal=>exact wpIn_seq hh
     | ret=>exact hh
     | exit id=>exact hh
     | goto t=>exact hh
     | panic c=>exact hh
     | outgrown=>exact hh
    rw[exec]at h
    split at h
    ·rename_i e1 h1 ha
     exact hQ1 ha fun act' w' ⟨φ1,F1,β1,f1⟩=>ihb2 _ hT hS hro hF0 hR.2 f1 h hQ
    ·rename_i hne
     refine hQ1 h fun act' w' hp=>?_
     cases ex with
     | nrm=>exact absurd h (hne _ _)
     | exit id=>exact hQ _ _ hp
     | ret=>exact hQ _ _ hp
   | none=>
    simp only[hy,hrm2]at h hR
    rw[←hy]at h hR
    rw[exec]at h
    split at h
    ·rename_i e1 h1 ha
     refine wpIn_seq (iha ks hT hS hro hF0 hR.1 f ha (fun act' w' ⟨φ1,F1,β1,f1⟩=>?_))
     exact ihb _ hT hS hro hF0 hR.2 f1 h hQ
    ·rename_i hne
     refine wpIn_seq (iha ks hT hS hro hF0 hR.1 f h (fun act' w' hp=>?_))
     cases ex with
     | nrm=>exact absurd h (hne _ _)
     | exit id=>exact hQ _ _ hp
     | ret=>exact hQ _ _ hp
  ·rename_i hns
   split at hR
   ·rename_i b1 b2 y1 y2 hy
    exact absurd hy (fun e=>hns _ _ _ _ rfl e)
   rw[exec]at h
   split at h
   ·rename_i e1 h1 ha
    refine wpIn_seq (iha ks hT hS hro hF0 hR.1 f ha (fun act' w' ⟨φ1,F1,β1,f1⟩=>?_))
    exact ihb _ hT hS hro hF0 hR.2 f1 h hQ
   ·rename_i hne
    refine wpIn_seq (iha ks hT hS hro hF0 hR.1 f h (fun act' w' hp=>?_))
    cases ex with
    | nrm=>exact absurd h (hne _ _)
    | exit id=>exact hQ _ _ hp
    | ret=>exact hQ _ _ hp
 | cond cnd a b=>
  have iha:=IH a (by simp only[Code.cond.sizeOf_spec];omega)
  have ihb:=IH b (by simp only[Code.cond.sizeOf_spec];omega)
  intro ks pm ro T φ0 F0 H0 w0 φ F H w β env act ex env' H' Q hT hS hro hF0 hR f h hQ
  simp only[compC]at hR
  simp only[compC,exec]at h
  split at h
  case h_2=>simp at h
  rename_i t hc
  have hv:=ev_val f.st hc
  refine wpIn_cond hv ?_
  cases t with
  | true=>rw[if_pos rfl]at h ⊢;exact iha _ hT hS hro hF0 hR.1 f h hQ
  | false=>rw[if_neg (by simp)]at h ⊢;exact ihb _ hT hS hro hF0 hR.2 f h hQ
 | block id b=>
  have ih:=IH b (by simp only[Code.block.sizeOf_spec];omega)
  intro ks pm ro T φ0 F0 H0 w0 φ F H w β env act ex env' H' Q hT hS hro hF0 hR f h hQ
  simp only[compC,exec]at h
  split at h
  ·rename_i id' e1 h1 hb
   refine wpIn_block (ih ks hT hS hro hF0 hR f hb (fun act' w' hp=>?_))
   show (if id'=id then Q .normal act' w' else Q (.exit id') act' w')
   split at h
   ·rename_i he
    simp only[Option.some.injEq,Prod.mk.injEq]at h
    obtain⟨rfl,rfl,rfl⟩:=h
    rw[if_pos he];exact hQ _ _ hp
   ·rename_i he
    simp only[Option.some.injEq,Prod.mk.injEq]at h
    obtain⟨rfl,rfl,rfl⟩:=h
    rw[if_neg he];exact hQ _ _ hp
  ·rename_i hne
   refine wpIn_block (ih ks hT hS hro hF0 hR f h (fun act' w' hp=>?_))
   cases ex with
   | nrm=>exact hQ _ _ hp
   | exit id'=>exact absurd h (hne _ _ _)
   | ret=>exact hQ _ _ hp
 | loop b=>
  have ih:=IH b (by simp only[Code.loop.sizeOf_spec];omega)
  intro ks pm ro T φ0 F0 H0 w0 φ F H w β env act ex env' H' Q hT hS hro hF0 hR f h hQ
  simp only[compC,exec]at h
  refine wpIn_loop_rounds n ?_
  have key:∀(k:Nat) {φ:Phi} {F:Nat→Nat→Prop} {H:Heap} {w:World} {β:Nat→Nat} {env:Env} {act:Act},Full φ0 F0 H0 w0 φ F H w β env act T→
    iter (fun env H=>exec C n lk lim (compC P pm b ks.tail).1 (restrict (ks.headD []) env) H) k env H=some (ex,env',H')→Code.roundsIn (FR ro) 0 P b Q k act w:=by
   intro k
   induction k with
   | zero=>intro φ F H w β env act f h;simp[iter]at h
   | succ k ihk=>
    intro φ F H w β env act f h
    simp only[iter]at h
    rw[roundsIn_succ]
    split at h
    ·rename_i e1 h1 hb
     exact ih ks.tail hT hS hro hF0 hR (f.sub (find_restrict _ env)) hb (fun act' w' ⟨φ1,F1,β1,f1⟩=>ihk f1 h)
    ·rename_i hne
     refine ih ks.tail hT hS hro hF0 hR (f.sub (find_restrict _ env)) h (fun act' w' hp=>?_)
     cases ex with
     | nrm=>exact absurd h (hne _ _)
     | exit id=>exact hQ _ _ hp
     | ret=>exact hQ _ _ hp
  exact key n f h
 | scope b=>
  have ih:=IH b (by simp only[Code.scope.sizeOf_spec];omega)
  intro ks pm ro T φ0 F0 H0 w0 φ F H w β env act ex env' H' Q hT hS hro hF0 hR f h hQ
  simp only[compC]at h
  split at h
  ·simp[exec]at h
  rename_i hr
  simp only[compC,if_neg hr]at hR
  obtain⟨rfl,_⟩:=hro.resolve_right fun e=>hr e.1
  refine wpIn_wide.2 (wp_scope_straight ((wpIn_wide (n:=0)).1 (ih ks hT hS hro hF0 hR f h (fun act' w' hp=>?_))))
  cases ex<;>exact hQ _ _ hp
 | rangeFunc g ps asg body=>
  have iha:=IH asg (by simp only[Code.rangeFunc.sizeOf_spec];omega)
  have ihb:=IH body (by simp only[Code.rangeFunc.sizeOf_spec];omega)
  intro ks pm ro T φ0 F0 H0 w0 φ F H w β env act ex env' H' Q hT hS hro hF0 hR f h hQ
  simp only[compC]at h
  split at h
  case isFalse=>simp[exec]at h
  rename_i hc
  obtain⟨hr,hpsT⟩:=hc
  simp only[compC]at hR
  rw[if_pos ⟨hr,hpsT⟩]at hR
  obtain⟨rfl,hrd,_⟩:=hro.resolve_right (by rw[hr];simp)
  simp only[exec]at h
  split at h
  case h_2=>simp at h
  rename_i items hit
  generalize hE:restrict (ks.headD []) env=env0 at h hit
  have f0:Full φ0 F0 H0 w0 φ F H w β env0 act T:=hE▸f.sub (find_restrict _ env)
  unfold itemsOf at hit
  split at hit
  case isFalse=>simp at hit
  rename_i hnb
  split at hit
  case h_2=>simp at hit
  rename_i gf cap hgf
  split at hit
  case h_2=>simp at hit
  rename_i l0 hl0
  split at hit
  case isFalse=>simp at hit
  rename_i hlen
  simp only[Option.some.injEq]at hit
  subst hit
  have hgv:VRel φ F H w (.fn gf cap) (act.eval g):=ev_of f0.st hgf
  generalize hfv:act.eval g=fv at hgv
  cases hgv with
  | one hgv=>
  cases hgv with
  | fn _ _ vs hvl hvr=>
  obtain⟨hent,hsc,hitok⟩:=hS gf cap H l0 hl0
  have hsz:∀v∈l0.map List.toArray,v.size=ps.size:=fun v hv=>by
   obtain⟨x,hx,rfl⟩:=List.mem_map.1 hv
   have:=List.all_eq_true.1 hlen x hx
   simpa using this
  have at_:∀(i:Nat) (v:Array Value),(l0.map List.toArray)[i]?=some v→∃x,l0[i]?=some x∧v=x.toArray∧l0.drop i=x::l0.drop (i+1):=fun i v hv=>by
   rw[List.getElem?_map]at hv
   cases hx:l0[i]? with
   | none=>rw[hx]at hv;cases hv
   | some x=>
    rw[hx]at hv
    simp only[Option.map_some,Option.some.injEq]at hv
    obtain⟨hlt,he⟩:=List.getElem?_eq_some_iff.1 hx
    exact⟨x,rfl,hv.symm,by rw[List.drop_eq_getElem_cons hlt,he]⟩
  refine wpIn_rangeZ (vals:=l0.map List.toArray) hfv (run_callFunc hent) hsz
   (fun i A Z=>∃φ' F' H1,Full φ0 F0 H0 w0 φ' F' H1 A β env0 act T∧rangeN (fun e H=>exec C n lk lim (compC P { pm with inR:=true } asg ks.tail).1 e H) (fun e H=>exec C n lk lim (compC P { pm with inR:=true } body (compC P { pm with inR:=true } asg ks.tail).2).1 e H) ps.toList env0 (l0.drop i) H1=some (ex,env',H')∧∀k,Z k→∃o,F' k o)
   (fun p A Z=>∃φ' F' H1 β1 e1 x2 e2 H2,Full φ0 F0 H0 w0 φ' F' H1 A β env0 act T∧St φ' F' H1 A β1 e1 p.2 T.n∧p.2.defers=[]∧noBx e1=true∧
    exec C n lk lim (compC P { pm with inR:=true } body (compC P { pm with inR:=true } asg ks.tail).2).1 e1 H1=some (x2,e2,H2)∧
    ((x2= .nrm∧rangeN (fun e H=>exec C n lk lim (compC P { pm with inR:=true } asg ks.tail).1 e H) (fun e H=>exec C n lk lim (compC P { pm with inR:=true } body (compC P { pm with inR:=true } asg ks.tail).2).1 e H) ps.toList env0 (l0.drop (p.1+1)) H2=some (ex,env',H'))∨(x2≠.nrm∧(ex,env',H')=(x2,env0,H2)))∧∀k,Z k→∃o,F' k o)
   (fun c A Z=>c=codeOf ex∧ex≠.nrm∧env'=env0∧∃φ' F',Full φ0 F0 H0 w0 φ' F' H' A β env0 act T∧∀k,Z k→∃o,F' k o)
   ?_ ?_ ?_ ?_ ?_ (fun W1 d r hb hs1 hd1 hl1=>⟨Begun φ (fun k o=>F k o∨(w.heap.size≤k∧k<W1.heap.size)) H W1,?_,?_⟩) ?_ ?_ ?_ ?_
  ·rintro i A B Z ⟨φ',F',H1,h1,h2,h3⟩ hb
   exact⟨φ',_,H1,h1.grown hnb hb,h2,fun k hk=>by
    rcases hk with hk | ⟨hk1,hk2⟩
    ·exact(h3 k hk).imp fun _=>.inl
    ·exact⟨0,.inr ⟨hk1,hk2⟩⟩⟩
  ·rintro c A B Z ⟨h0,h1,h2,φ',F',h3,h4⟩ hb
   exact⟨h0,h1,h2,φ',_,h3.grown hnb hb,fun k hk=>by
    rcases hk with hk | ⟨hk1,hk2⟩
    ·exact(h4 k hk).imp fun _=>.inl
    ·exact⟨0,.inr ⟨hk1,hk2⟩⟩⟩
  ·rintro i A Z l r r' ⟨φ',F',H1,h1,h2,h3⟩ hz hl
   exact⟨φ',F',H1,h1.turn hF0 hl (Nat.le_trans f0.chg.size hz),h2,h3⟩
  ·rintro p A Z l r r' ⟨φ',F',H1,β1,e1,x2,e2,H2,h1,h2,h3,h4,h5,h6,h7⟩ hz hl
   exact⟨φ',F',H1,β1,e1,x2,e2,H2,h1.turn hF0 hl (Nat.le_trans f0.chg.size hz),h2.turn (.loop hl r'),h3,h4,h5,h6,h7⟩
  ·rintro c A Z l r r' ⟨h0,h1,h2,φ',F',h3,h4⟩ hz hl
   exact⟨h0,h1,h2,φ',F',h3.turn hF0 hl (Nat.le_trans f0.chg.size hz),h4⟩
  ·-- the iterator
   obtain⟨e1,sr1⟩:=grow f0.st.sr (F':=fun k o=>F k o∨(w.heap.size≤k∧k<W1.heap.size)) hb (fun _ _ h=>.inl h) (fun _ _ h=>h)
   exact hitok φ _ W1 vs sr1 (CL.mono e1 ⟨hvl,hvr⟩)
  ·rintro B Z ⟨φ',F',sr',e',c',p',r',z'⟩
   have g1:=f0.grown hnb hb
   have g2:Full φ0 F0 H0 w0 φ' F' H B β env0 act T:=g1.next c' (fun k h=>.inl h) (g1.st.over hnb e' sr') e' p' (fun t cs ht=>absurd ht ((noBx_find hnb t).1 cs)) rfl r'
   have fD:=e'.frz w.heap.size 0 (.inr ⟨Nat.le_refl _,by omega⟩)
   have fl:=e'.frz (w.heap.size+1) 0 (.inr ⟨Nat.le_succ _,by omega⟩)
   refine⟨⟨φ',F',H,g2,by simpa using h,fun k hk=>?_⟩,fD.2,fl.2,fun k hk he=>?_⟩
   ·rcases hk with hk | rfl | rfl
    ·exact(z' k hk).1
    ·exact⟨0,fD.1⟩
    ·exact⟨0,fl.1⟩
   ·subst he
    obtain⟨_,arr,ty,fr,hc⟩:=z' _ hk
    rw[fl.2,hl1]at hc
    cases hc
  ·-- the assignments
   rintro l i v A Z hv ⟨φ',F',H1,h1,h2,h3⟩
   obtain⟨x,hx,rfl,hd⟩:=at_ i v hv
   rw[hd]at h2
   obtain⟨e,hp,e1,H2,hf1,hnb1,x2,e2,H3,hg1,hnx⟩:=range_cons h2
   have hbase:=h1.round hnb hpsT hT (hsc x (List.mem_of_getElem? hx)) hp
   refine iha ks.tail (pm:={ pm with inR:=true }) (T:=⟨T.n,some []⟩) hT hS (.inr ⟨rfl,_,rfl⟩) h1.st.sr.fsz hR.1 hbase hf1 (fun a1 B ⟨φ2,F2,β2,f2⟩=>?_)
   refine⟨f2.chg.size,fun k hk=>(h3 k hk).elim fun o ho=>(f2.ext.frz k o ho).2,φ2,F2,H2,β2,e1,x2,e2,H3,h1.over hnb f2,f2.st,?_,hnb1,hg1,hnx,fun k hk=>(h3 k hk).imp fun o ho=>(f2.ext.frz k o ho).1⟩
   exact f2.dfr
  ·-- the body
   rintro l i v a1 A Z hv ⟨φ',F',H1,β1,e1,x2,e2,H2,h1,h2,h3,h4,h5,h6,h7⟩
   refine ihb _ (pm:={ pm with inR:=true }) (T:=⟨T.n,some []⟩) hT hS (.inr ⟨rfl,_,rfl⟩) h1.st.sr.fsz hR.2 (Full.base h2 h4 h3) h5 (fun act' B ⟨φ2,F2,β2,f2⟩=>?_)
   refine⟨⟨f2.chg.size,fun k hk=>(h7 k hk).elim fun o ho=>(f2.ext.frz k o ho).2⟩,?_⟩
   have hz:∀k,Z k→∃o,F2 k o:=fun k hk=>(h7 k hk).imp fun o ho=>(f2.ext.frz k o ho).1
   rcases h6 with⟨rfl,h6⟩ | ⟨hne,h6⟩
   ·exact⟨φ2,F2,H2,h1.over hnb f2,h6,hz⟩
   ·simp only[Prod.mk.injEq]at h6
    obtain⟨rfl,rfl,rfl⟩:=h6
    cases ex with
    | nrm=>exact absurd rfl hne
    | exit id=>exact⟨rfl,hne,rfl,φ2,F2,h1.over hnb f2,hz⟩
    | ret=>exact⟨rfl,hne,rfl,φ2,F2,h1.over hnb f2,hz⟩
  ·-- all have come
   rintro D B Z ⟨φ',F',H1,h1,h2,h3⟩ hz hD hB
   rw[List.length_map,List.drop_length]at h2
   simp only[rangeN,Option.some.injEq,Prod.mk.injEq]at h2
   obtain⟨rfl,rfl,rfl⟩:=h2
   exact hQ _ _ ⟨φ',F',β,h1.mark hrd (h3 D hz) (Nat.le_trans f0.chg.size hD) hB (newMark hrd f0 hD)⟩
  ·-- a round has left
   rintro D c B Z ⟨rfl,hne,rfl,φ',F',h1,h3⟩ hz hD hB
   have hp:Post φ0 F0 H0 w0 H' env' T { act with defers:={ target:=.collected D,args:=#[] }::act.defers } B:=⟨φ',F',β,h1.mark hrd (h3 D hz) (Nat.le_trans f0.chg.size hD) hB (newMark hrd f0 hD)⟩
   cases ex with
   | nrm=>exact absurd rfl hne
   | exit id=>exact wpIn_exit (hQ _ _ hp)
   | ret=>exact wpIn_ret (hQ _ _ hp)
 | _=>
  intros
  rename_i h _
  simp[compC,exec]at h
end
end Go.Hm

namespace Go.Hm
open Go

section
variable {C:Orc}{lk lim base:Nat}{ws:WS}{env env':Env}{H H':Heap}

theorem edRun_some {x:Option (Ed×Heap)}(h:edRun env x=some (env',H')):∃e,x=some (e,H'):=by
 unfold edRun at h
 split at h
 ·split at h
  ·simp only[Option.some.injEq,Prod.mk.injEq]at h
   obtain⟨_,rfl⟩:=h
   exact⟨_,rfl⟩
  ·simp at h
 ·simp at h

theorem stepI_fr (hF:OrcFr C){i:AI}(h:stepI C lk lim i env H=some (env',H')):Fr lk lim H H':=by
 unfold stepI at h
 split at h
 ·unfold actOp at h
  split at h
  ·rw[exOp_eq]at h
   obtain⟨e,he⟩:=edRun_some h
   exact exE_fr he
  ·rw[exOp_eq]at h
   obtain⟨e,he⟩:=edRun_some h
   exact exE_fr he
  ·split at h
   case h_2=>simp at h
   split at h
   case h_2=>simp at h
   simp only[Option.some.injEq,Prod.mk.injEq]at h
   obtain⟨_,rfl⟩:=h
   exact⟨by simp,fun hl b hb=>List.getElem?_append_left (by omega),fun m _ h2 hc=>hc.append h2⟩
  ·split at h
   case h_2=>simp at h
   split at h
   case isFalse=>simp at h
   split at h
   case h_2=>simp at h
   rename_i hc
   split at h
   case h_2=>simp at h
   simp only[Option.some.injEq,Prod.mk.injEq]at h
   obtain⟨_,rfl⟩:=h
   exact⟨hF.len _ _ _ _ _ _ _ hc,hF.lock _ _ _ _ _ _ _ hc,hF.cl _ _ _ _ _ _ _ hc⟩
  ·split at h
   case h_2=>simp at h
   split at h
   case h_2=>simp at h
   simp only[Option.some.injEq,Prod.mk.injEq]at h
   obtain⟨_,rfl⟩:=h
   exact Fr.refl _ _ _
 ·split at h
  case h_2=>simp at h
  simp only[Option.some.injEq,Prod.mk.injEq]at h
  obtain⟨_,rfl⟩:=h
  exact Fr.refl _ _ _
 ·simp at h

theorem runOps_fr (hF:OrcFr C):∀{l:List AI} {env:Env} {H:Heap},runOps C lk lim l env H=some (env',H')→Fr lk lim H H'
 | [],env,H,h=>by
  simp only[runOps,Option.some.injEq,Prod.mk.injEq]at h
  obtain⟨_,rfl⟩:=h
  exact Fr.refl _ _ _
 | i::r,env,H,h=>by
  simp only[runOps]at h
  split at h
  ·rename_i e1 h1 hs
   exact(stepI_fr hF hs).trans (runOps_fr hF h)
  ·simp at h

structure FrB (base lk lim:Nat)(H H':Heap):Prop where
 len:H.length≤H'.length
 lock:lk≤base→∀b,b<lk→H'[b]?=H[b]?
 cl:∀m,m≤lim→m≤base→Cl m H→Cl m H'

theorem steps_frb {cb:Nat}{i:AI}(hF:OrcFr C)(hb:base≤H.length)(h:Steps1 C lk lim ws base cb i env H env' H'):FrB base lk lim H H':=by
 obtain⟨e,d,h1,_,h3⟩:=h
 have hlen:=hd_len hF.len h1 h3
 cases d with
 | same=>
  simp[Hd.run]at h3;subst h3
  exact⟨hlen,fun _ _ _=>rfl,fun _ _ _ h=>h⟩
 | app X=>
  simp only[Hd.run]at h3
  split at h3
  case isFalse=>simp at h3
  simp only[Option.some.injEq]at h3;subst h3
  exact⟨hlen,fun hl b hlt=>List.getElem?_append_left (by omega),fun m _ h2 hc=>hc.append (by omega)⟩
 | fill k cs=>
  rcases eff_heap h1 with h | ⟨_,_,h⟩ | ⟨_,_,_,h⟩ | h | h
  ·cases h
  ·cases h
   simp only[Hd.run]at h3
   split at h3
   case h_2=>simp at h3
   simp only[Option.some.injEq]at h3;subst h3
   exact⟨hlen,fun hl b hlt=>by rw[List.getElem?_set_ne (by omega)],fun m _ h2 hc=>hc.set (by omega)⟩
  ·cases h
  case inr.inr.inr.inr=>
   exfalso
   unfold eff effF at h1
   split at h1
   ·split at h1
    case isFalse=>simp at h1
    split at h1
    ·split at h1
     case h_2=>simp at h1
     split at h1
     case isFalse=>simp at h1
     split at h1
     case h_2=>simp at h1
     split at h1<;>simp at h1
    ·rename_i hfr
     exact cls_ne_callF (cls2_inv hfr h (fun e=>by cases e))
   ·simp at h1
   ·simp at h1
  ·exfalso
   unfold eff effA at h1
   split at h1
   ·split at h1
    case isFalse=>simp at h1
    split at h1
    ·rename_i hfr
     rw[cls2_free hfr]at h;cases h
    rename_i hfr
    have h:=cls2_inv hfr h (fun e=>by cases e)
    rw[h]at h1
    dsimp only at h1
    split at h1<;>simp at h1
   ·simp at h1
   ·simp at h1
 | to H2=>
  simp[Hd.run]at h3;subst h3
  have key:Fr lk lim H H2:=by
   unfold eff at h1
   split at h1
   ·split at h1
    case isFalse=>simp at h1
    split at h1
    ·unfold effF at h1
     split at h1
     case h_2=>simp at h1
     split at h1
     case isFalse=>simp at h1
     split at h1
     case h_2=>simp at h1
     rename_i hcc
     split at h1
     case isFalse=>simp at h1
     simp only[Option.some.injEq,Prod.mk.injEq,Hd.to.injEq]at h1
     obtain⟨_,rfl⟩:=h1
     exact⟨hF.len _ _ _ _ _ _ _ hcc,hF.lock _ _ _ _ _ _ _ hcc,hF.cl _ _ _ _ _ _ _ hcc⟩
    unfold effA at h1
    split at h1
    ·split at h1<;>simp at h1
    ·split at h1
     case h_2=>simp at h1
     rename_i hx
     simp only[Option.some.injEq,Prod.mk.injEq,Hd.to.injEq]at h1
     rw[←h1.2];exact exE_fr hx
    ·split at h1<;>simp at h1
    ·split at h1
     case h_2=>simp at h1
     split at h1
     case isFalse=>simp at h1
     split at h1
     case h_2=>simp at h1
     split at h1
     case isFalse=>simp at h1
     simp only[Option.some.injEq,Prod.mk.injEq]at h1
     split at h1<;>simp at h1
    ·split at h1
     case h_2=>simp at h1
     split at h1<;>simp at h1
   ·simp at h1
   ·simp at h1
  exact⟨hlen,fun hl=>key.lock (by omega),fun m h1 h2=>key.cl m h1 (by omega)⟩

theorem runD_frb (hF:OrcFr C):∀{l:List AI} {env:Env} {H:Heap},base≤H.length→runD C lk lim ws base l env H=some (env',H')→FrB base lk lim H H'
 | [],env,H,hb,h=>by
  simp only[runD,Option.some.injEq,Prod.mk.injEq]at h
  obtain⟨_,rfl⟩:=h
  exact⟨Nat.le_refl _,fun _ _ _=>rfl,fun _ _ _ h=>h⟩
 | i::r,env,H,hb,h=>by
  obtain⟨e1,h1,hs,hr⟩:=runD_cons.1 h
  have a:=steps_frb hF hb hs
  have b:=runD_frb hF (Nat.le_trans hb a.len) hr
  exact⟨Nat.le_trans a.len b.len,fun hl k hk=>by rw[b.lock hl k hk,a.lock hl k hk],fun m h1 h2 hc=>b.cl m h1 h2 (a.cl m h1 h2 hc)⟩

theorem frzC_fr {env:Env}{H:Heap}{e:Env}{h:Heap}(hf:frzC lk lim env H=some (e,h)):Fr lk lim H h:=by
 unfold frzC at hf
 split at hf
 case isFalse=>simp at hf
 rename_i hc
 simp only[Option.some.injEq,Prod.mk.injEq]at hf
 rw[←hf.2]
 unfold cutH
 refine⟨by simp;omega,fun _ b hb=>?_,fun m h1 h2 hm=>?_⟩
 ·rw[List.getElem?_append_left (by rw[List.length_take];omega),List.getElem?_take,if_pos (by omega)]
 ·intro b cs hb hg
  rw[List.getElem?_append_left (by rw[List.length_take];omega),List.getElem?_take,if_pos (by omega)]at hg
  exact hm b cs hb hg

theorem exec_fr (hF:OrcFr C){n:Nat}:∀(c:AC) {env:Env} {H:Heap} {ex:Ex} {env':Env} {H':Heap},exec C n lk lim c env H=some (ex,env',H')→Fr lk lim H H':=by
 intro c
 induction c with
 | skip=>intro env H ex env' H' h;simp only[exec,Option.some.injEq,Prod.mk.injEq]at h;rw[←h.2.2];exact Fr.refl _ _ _
 | exit id=>intro env H ex env' H' h;simp only[exec,Option.some.injEq,Prod.mk.injEq]at h;rw[←h.2.2];exact Fr.refl _ _ _
 | ret=>intro env H ex env' H' h;simp only[exec,Option.some.injEq,Prod.mk.injEq]at h;rw[←h.2.2];exact Fr.refl _ _ _
 | bad=>intro env H ex env' H' h;simp[exec]at h
 | frz=>
  intro env H ex env' H' h
  simp only[exec]at h
  split at h
  case h_2=>simp at h
  rename_i hf
  simp only[Option.some.injEq,Prod.mk.injEq]at h
  rw[←h.2.2];exact frzC_fr hf
 | regN keep ops=>
  intro env H ex env' H' h
  simp only[exec]at h
  split at h
  case h_2=>simp at h
  rename_i hr
  simp only[Option.some.injEq,Prod.mk.injEq]at h
  rw[←h.2.2];exact runOps_fr hF hr
 | regD keep m ops=>
  intro env H ex env' H' h
  simp only[exec]at h
  split at h
  case h_2=>simp at h
  rename_i hr
  simp only[Option.some.injEq,Prod.mk.injEq]at h
  rw[←h.2.2]
  have a:=runD_frb hF (by simp) hr
  have hlen:=a.len
  rw[List.length_append]at hlen
  refine⟨by omega,fun hl b hb=>?_,fun k h1 h2 hc=>a.cl k h1 h2 (hc.append h2)⟩
  rw[a.lock hl b hb,List.getElem?_append_left (by omega)]
 | seq a b iha ihb=>
  intro env H ex env' H' h
  simp only[exec]at h
  split at h
  ·rename_i ha
   exact(iha ha).trans (ihb h)
  ·exact iha h
 | cond c a b iha ihb=>
  intro env H ex env' H' h
  simp only[exec]at h
  split at h
  case h_2=>simp at h
  split at h
  ·exact iha h
  ·exact ihb h
 | block id b ih=>
  intro env H ex env' H' h
  simp only[exec]at h
  split at h
  ·rename_i hb
   have:=ih hb
   split at h<;>(simp only[Option.some.injEq,Prod.mk.injEq]at h;rw[←h.2.2];exact this)
  ·exact ih h
 | loop keep b ih=>
  intro env H ex env' H' h
  simp only[exec]at h
  have key:∀(k:Nat) {env:Env} {H:Heap},iter (fun env H=>exec C n lk lim b (restrict keep env) H) k env H=some (ex,env',H')→Fr lk lim H H':=by
   intro k
   induction k with
   | zero=>intro env H h;simp[iter]at h
   | succ k ihk=>
    intro env H h
    simp only[iter]at h
    split at h
    ·rename_i hb
     exact(ih hb).trans (ihk h)
    ·exact ih h
  exact key n h
 | rangeM keep pre x tI tE body ih=>
  intro env H ex env' H' h
  simp only[exec]at h
  split at h
  case h_2=>simp at h
  split at h
  case h_2=>simp at h
  rename_i b es hx _ H1 hr
  simp only[Option.some.injEq,Prod.mk.injEq]at h
  rw[←h.2.2]
  have key:∀(l:List (AV×AV)) {e0:Env} {L:Nat} {H H':Heap},roundsM (fun e H=>exec C n lk lim body e H) (tI::keep) tE e0 b es.length L l H=some H'→Fr lk lim H H':=by
   intro l
   induction l with
   | nil=>
    intro e0 L H H' h
    simp only[roundsM,Option.some.injEq]at h
    subst h;exact Fr.refl _ _ _
   | cons p l ihl=>
    intro e0 L H H' h
    obtain⟨k,v⟩:=p
    simp only[roundsM]at h
    split at h
    ·rename_i hs
     split at h
     ·exact(ih hs).trans (ihl h)
     ·simp at h
    ·simp at h
  refine Fr.trans ?_ (key es hr)
  exact⟨by simp,fun hl b hb=>List.getElem?_append_left (by omega),fun m _ h2 hc=>hc.append h2⟩
 | rangeF keep it g ps asg body iha ihb=>
  intro env H ex env' H' h
  simp only[exec]at h
  split at h
  case h_2=>simp at h
  rename_i items hit
  have one:∀{x:List Value} {H:Heap} {r:Ex×Env×Heap},round1 (fun e H=>exec C n lk lim asg e H) (fun e H=>exec C n lk lim body e H) ps (restrict keep env) x H=some r→Fr lk lim H r.2.2:=by
   intro x H r h
   unfold round1 at h
   split at h
   ·split at h
    ·rename_i hs
     split at h
     case isFalse=>simp at h
     obtain⟨x1,x2,x3⟩:=r
     exact(iha hs).trans (ihb h)
    ·simp at h
   ·simp at h
  have key:∀(l:List (List Value)) {H:Heap},rangeN (fun e H=>exec C n lk lim asg e H) (fun e H=>exec C n lk lim body e H) ps (restrict keep env) l H=some (ex,env',H')→Fr lk lim H H':=by
   intro l
   induction l with
   | nil=>
    intro H h
    simp only[rangeN,Option.some.injEq,Prod.mk.injEq]at h
    rw[←h.2.2];exact Fr.refl _ _ _
   | cons x l ihl=>
    intro H h
    simp only[rangeN]at h
    split at h
    ·rename_i hs
     exact(one hs).trans (ihl h)
    ·rename_i hs
     simp only[Option.some.injEq,Prod.mk.injEq]at h
     rw[←h.2.2];exact one hs
    ·simp at h
  exact key items h
end

theorem callN_fr {X:Orc}{A:FuncId→Option AFn}(hX:OrcFr X):∀n,OrcFr (callN X A n)
 | 0=>hX
 | n+1=>by
  have ih:=callN_fr (A:=A) hX n
  have key:∀lk lim f as H r H',callN X A (n+1) lk lim f as H=some (r,H')→Fr lk lim H H':=by
   intro lk lim f as H r H' h
   simp only[callN]at h
   split at h
   ·rename_i r' hx
    simp only[Option.some.injEq]at h
    subst h
    exact⟨hX.len _ _ _ _ _ _ _ hx,hX.lock _ _ _ _ _ _ _ hx,hX.cl _ _ _ _ _ _ _ hx⟩
   ·split at h
    case h_1=>simp at h
    rename_i fd hA
    split at h
    case isFalse=>simp at h
    unfold finish at h
    split at h
    ·simp at h
    ·rename_i ex env1 H1 _ hex
     have hfr:=exec_fr ih fd.body hex
     split at h
     case h_2=>simp at h
     split at h
     ·rename_i ht
      rw[if_pos ht]at hfr
      split at h
      case h_2=>simp at h
      split at h
      case isFalse=>simp at h
      simp only[Option.some.injEq,Prod.mk.injEq]at h
      rw[←h.2]
      have hlen:=hfr.len
      refine⟨by rw[List.length_take];omega,fun hl b hb=>?_,fun m _ h2 hc=>?_⟩
      ·rw[List.getElem?_take,if_pos (by omega)];exact hfr.lock hl b hb
      ·have:=hfr.cl m h2 h2 hc
       intro b cs hb hbb
       exact this b cs hb (take_get hbb).2
     ·rename_i ht
      rw[if_neg ht]at hfr
      simp only[Option.some.injEq,Prod.mk.injEq]at h
      rw[←h.2];exact hfr
    ·simp at h
  exact⟨fun _ _ _ _ _ _ _ h=>(key _ _ _ _ _ _ _ h).len,fun _ _ _ _ _ _ _ h=>(key _ _ _ _ _ _ _ h).lock,fun _ _ _ _ _ _ _ h=>(key _ _ _ _ _ _ _ h).cl⟩
end Go.Hm

namespace Go.Hm
open Go Go.RowKit

section
variable {P:Program}{φ:Phi}{F:Nat→Nat→Prop}{H:Heap}{w:World}{β:Nat→Nat}{env:Env}{act:Act}{T:Nat}

def resSem (tmps:Array Value):ResultVar→Sem Value
 | .tmp t=>pure (tmps.getD t undef)
 | .cell a t=>do loadVar t (←asAddr (tmps.getD a undef))

theorem row_read {k o:Nat}{cs:List AV}(h:RowAt φ F H w k o cs){t:TypeId}{n:Nat}(hn:szOf P t=some n){d:TypeDesc}(hu:P.underlying t=some d){off:Nat}{v:AV}
  (hv:(if aggT P t=true then (if off+n≤cs.length then some (.agg ((cs.drop off).take n)) else none) else cs[off]?)=some v):∃cv,(loadVar t ⟨k,o+off,none⟩).run P w= .ok cv w∧VRel φ F H w v cv:=by
 have hre:=aggT_eq (P:=P) hu
 unfold loadVar
 rw[Sem.run_bind,isAgg_run hu]
 simp only[Result.andThen_ok]
 cases hr:d.isRow with
 | true=>
  rw[hre,hr,if_pos rfl]at hv
  split at hv
  case isFalse=>simp at hv
  rename_i hl
  simp only[Option.some.injEq]at hv;subst hv
  obtain⟨vs,h1,h2,h3⟩:=h.range hl
  refine⟨.agg vs.toArray,?_,.agg _ _ h1⟩
  have:=run_loadCells_list (P:=P) w ⟨k,o+off,none⟩ vs (fun j v hv=>by rw[add_none];exact h2 j v hv)
  rw[if_pos rfl]
  simp only[Sem.run_bind,szOf_run hn,Result.andThen_ok,←h3,this,Sem.run_pure]
 | false=>
  rw[hre,hr]at hv
  simp only[Bool.false_eq_true,if_false]at hv
  obtain⟨cv,hcv,hrel⟩:=h off v hv
  refine⟨cv,?_,.one hrel⟩
  rw[if_neg (by simp)]
  rw[run_load,hcv]

theorem res_one (s:St φ F H w β env act T){r:ResultVar}(hc:resChk P r=true){v:AV}(h:resOne env H (compR P r)=some v):∃cv,(resSem act.tmps r).run P w= .ok cv w∧VRel φ F H w v cv:=by
 cases r with
 | tmp t=>
  simp only[compR,resOne]at h
  split at h
  case isFalse=>simp at h
  rename_i ha
  simp only[Option.some.injEq]at h
  have hs:=s.slot t
  rw[h]at hs ha
  refine⟨_,rfl,?_⟩
  have:ORel φ F H w β v (act.tmps.getD t undef):=by
   cases v<;>first | exact hs | (simp[argOk,one]at ha;done)
  exact this.arg ha
 | cell a t=>
  simp only[resChk,Bool.and_eq_true]at hc
  obtain⟨n,hn⟩:=Option.isSome_iff_exists.1 hc.1
  obtain⟨d,hu⟩:=Option.isSome_iff_exists.1 hc.2
  simp only[compR,resOne,hn,Option.getD_some]at h
  split at h
  case h_2=>simp at h
  rename_i cs off hp
  have hrow:∃k o d,d≤off∧act.tmps.getD a undef= .pointer (some ⟨k,o+(off-d),none⟩)∧RowAt φ F H w k o (cs.drop d):=by
   have hs:=s.slot a
   split at hp
   ·rename_i cs' hf
    rw[hf]at hs
    simp only[Option.some.injEq,Prod.mk.injEq]at hp
    obtain⟨rfl,rfl⟩:=hp
    exact⟨β a,0,0,Nat.zero_le _,hs.1,hs.2.row⟩
   ·rename_i hnb
    have ho:ORel φ F H w β (find env a) (act.tmps.getD a undef):=by
     generalize hfa:find env a=fa at hs hnb
     cases fa<;>first | exact hs | exact absurd rfl (hnb _)
    exact ptr_rel s ho hp
  obtain⟨k,o,d0,hd0,hv,hrow⟩:=hrow
  obtain⟨cv,h1,h2⟩:=row_read (off:=off-d0) (v:=v) hrow hn hu (by
   split at h
   ·rename_i ha
    rw[if_pos ha]
    split at h
    case isFalse=>simp at h
    rw[if_pos (by rw[List.length_drop];omega),List.drop_drop,Nat.add_sub_of_le hd0]
    exact h
   ·rename_i ha
    rw[if_neg ha,List.getElem?_drop,Nat.add_sub_of_le hd0]
    exact h)
  refine⟨cv,?_,h2⟩
  simp only[resSem,hv,asAddr,Sem.run_bind,Sem.run_pure,Result.andThen_ok]
  exact h1

theorem res_list (s:St φ F H w β env act T):∀{rs:List ResultVar} {vs:List AV},rs.all (resChk P)=true→resList env H (rs.map (compR P))=some vs→∃cvs,(rs.mapM (resSem act.tmps)).run P w= .ok cvs w∧ARel φ F H w vs cvs
 | [],vs,_,h=>by
  simp only[List.map_nil,resList,Option.some.injEq]at h
  subst h
  exact⟨[],rfl,rfl,fun i a v ha=>by simp at ha⟩
 | r::rs,vs,hc,h=>by
  simp only[List.all_cons,Bool.and_eq_true]at hc
  simp only[List.map_cons,resList]at h
  split at h
  case h_2=>simp at h
  rename_i v hv
  split at h
  case h_2=>simp at h
  rename_i vs' hvs
  simp only[Option.some.injEq]at h
  subst h
  obtain⟨cv,h1,h2⟩:=res_one s hc.1 hv
  obtain⟨cvs,h3,h4⟩:=res_list s hc.2 hvs
  refine⟨cv::cvs,?_,by simp[h4.1],fun i a v ha hv=>?_⟩
  ·simp only[List.mapM_cons,Sem.run_bind,h1,Result.andThen_ok,h3,Sem.run_pure]
  ·cases i with
   | zero=>simp at ha hv;subst ha;subst hv;exact h2
   | succ i=>simp at ha hv;exact h4.2 i a v ha hv

theorem results_run (s:St φ F H w β env act T){fn:Func}{v:AV}(hc:fn.results.toList.all (resChk P)=true)(h:resOf env H (fn.results.toList.map (compR P))=some v):∃cv,(results fn act.tmps).run P w= .ok cv w∧VRel φ F H w v cv:=by
 unfold resOf at h
 have main:∀vs,resList env H (fn.results.toList.map (compR P))=some vs→∃cvs:List Value,(fn.results.mapM (resSem act.tmps)).run P w= .ok cvs.toArray w∧ARel φ F H w vs cvs:=by
  intro vs hvs
  obtain⟨cvs,h1,h2⟩:=res_list s hc hvs
  refine⟨cvs,?_,h2⟩
  generalize fn.results=rs at h1 ⊢
  obtain⟨rl⟩:=rs
  simp only[List.mapM_toArray,Sem.run_map,h1,Result.andThen_ok]
 have hdef:results fn act.tmps=(do
   let vs ←fn.results.mapM (resSem act.tmps)
   pure (if h:vs.size=1 then vs[0] else .tuple vs)):=by
  unfold results
  congr 1
 split at h
 ·rename_i v' hvs
  simp only[Option.some.injEq]at h
  subst h
  obtain⟨cvs,h1,h2⟩:=main _ hvs
  obtain⟨cv,rfl⟩:∃cv,cvs=[cv]:=by
   have:=h2.1
   match cvs,this with
   | [cv],_=>exact⟨cv,rfl⟩
  refine⟨cv,?_,h2.2 0 _ _ rfl rfl⟩
  rw[hdef,Sem.run_bind,h1]
  rfl
 ·rename_i vs hne hvs
  simp only[Option.some.injEq]at h
  subst h
  obtain⟨cvs,h1,h2⟩:=main _ hvs
  refine⟨.tuple cvs.toArray,?_,.tup _ _ h2.1 h2.2⟩
  rw[hdef,Sem.run_bind,h1]
  have hl:cvs.toArray.size≠1:=by
   intro hs
   rw[List.size_toArray,h2.1]at hs
   match vs,hs,hne with
   | [x],_,hne=>exact hne x rfl
  simp only[Result.andThen_ok,dif_neg hl]
  rfl
 ·simp at h
end
end Go.Hm

namespace Go.Hm
open Go Go.RowKit

theorem mapO_get {f:AV→Option AV}:∀{l l':List AV},mapO f l=some l'→l'.length=l.length∧∀(i:Nat) a',l'[i]?=some a'→∃a,l[i]?=some a∧f a=some a'
 | [],l',h=>by simp only[mapO,Option.some.injEq]at h;subst h;exact⟨rfl,fun i a ha=>by simp at ha⟩
 | v::r,l',h=>by
  simp only[mapO]at h
  split at h
  case h_2=>simp at h
  rename_i v' hv
  split at h
  case h_2=>simp at h
  rename_i r' hr
  simp only[Option.some.injEq]at h;subst h
  obtain⟨h1,h2⟩:=mapO_get hr
  refine⟨by simp[h1],fun i a' ha=>?_⟩
  cases i with
  | zero=>simp at ha;subst ha;exact⟨v,rfl,hv⟩
  | succ i=>simp at ha ⊢;exact h2 i a' ha

section
variable {φ:Phi}{F:Nat→Nat→Prop}{H:Heap}{w:World}{lim:Nat}

def F2 (φ:Phi)(F:Nat→Nat→Prop)(H:Heap)(lim:Nat)(k o:Nat):Prop:=F k o∨∃b,lim≤b∧live H b∧(φ b).1=k

theorem F2.ext:Ext φ F H w φ (F2 φ F H lim) H w:=⟨fun _ cs h=>⟨cs,h,Nat.le_refl _,fun _=>rfl⟩,fun _ es h=>⟨⟨es,h⟩,rfl⟩,fun _ _ h=>⟨.inl h,rfl⟩,Wm.refl w⟩

theorem frz_c (sr:SR φ F H w):∀(d:Nat) {v v':AV} {cv:Value},frz lim H d v=some v'→CRel φ F H w v cv→CRel φ (F2 φ F H lim) H w v' cv
 | 0,v,v',cv,h,hc=>by simp only[frz,Option.some.injEq]at h;subst h;exact hc.mono F2.ext
 | d+1,v,v',cv,h,hc=>by
  cases v
  case hs b g off n es=>
   simp only[frz]at h
   split at h
   ·simp only[Option.some.injEq]at h;subst h;exact hc.mono F2.ext
   ·rename_i hlt
    split at h
    case h_2=>simp at h
    rename_i cs hcs
    split at h
    case h_2=>simp at h
    rename_i cs' hm
    split at h
    case isFalse=>simp at h
    rename_i hb
    simp only[Option.some.injEq]at h;subst h
    obtain⟨hml,hmg⟩:=mapO_get hm
    simp only[slCells]at hcs
    split at hcs
    case h_2=>simp at hcs
    rename_i csb hbb
    split at hcs
    case isFalse=>simp at hcs
    rename_i hg
    simp only[Option.some.injEq]at hcs
    cases hc with
    | hs _ _ _ _ _ cs2 x cap hb2 hg2 hn hx hcase=>
    rw[hbb]at hb2;cases hb2
    have hlen:cs.length=n*es:=by rw[←hcs];simp;omega
    rcases hcase hg.1 with⟨h0g,hd0,hx',_⟩ | ⟨hn0,hc0,_⟩
    ·subst hx'
     have hne:csb≠[]:=by intro e;subst e;simp at hg;omega
     obtain⟨vs,hcl,hrange,hvl⟩:=(sr.blk b csb hbb hne).row.range (off:=off-(φ b).2) (n:=n*es) (by rw[List.length_drop];omega)
     rw[List.drop_drop,Nat.add_sub_of_le hd0,hcs]at hcl
     rw[Nat.zero_add]at hrange
     refine .sl (φ b).1 (off-(φ b).2) n cap cs' vs hn (by rw[hml,←hcl.1]) (fun i _=>.inr ⟨b,by omega,⟨.cells csb,hbb,hne⟩,rfl⟩) (fun i v hv=>hrange i v hv) (fun i a v ha hv=>?_)
     obtain⟨a0,ha0,hf⟩:=hmg i a ha
     exact frz_c sr d hf (hcl.2 i a0 v ha0 hv)
    ·subst hn0;subst hc0
     have h0:cs'=[]:=List.eq_nil_of_length_eq_zero (by rw[hml,hlen];omega)
     subst h0
     exact .slnil x
  case agg=>cases hc
  case tup=>cases hc
  case hp b g off=>
   simp only[frz]at h
   split at h
   ·simp only[Option.some.injEq]at h;subst h;exact hc.mono F2.ext
   ·rename_i hlt
    split at h
    case h_2=>simp at h
    rename_i csb hbb
    split at h
    case isFalse=>simp at h
    rename_i hg
    split at h
    case h_2=>simp at h
    rename_i cs' hm
    split at h
    case isFalse=>simp at h
    rename_i hb
    simp only[Option.some.injEq]at h;subst h
    obtain⟨hml,hmg⟩:=mapO_get hm
    cases hc with
    | hp _ _ _ cs2 a hb2 hg2 hcase=>
    rw[hbb]at hb2;cases hb2
    obtain⟨hd0,rfl⟩:=hcase hg.1
    have hne:csb≠[]:=by intro e;subst e;simp at hg;omega
    obtain⟨vs,hcl,hrange,hvl⟩:=(sr.blk b csb hbb hne).row.range (off:=off-(φ b).2) (n:=g-off) (by rw[List.length_drop];omega)
    rw[List.drop_drop,Nat.add_sub_of_le hd0,List.take_of_length_le (by rw[List.length_drop];omega)]at hcl
    rw[Nat.zero_add]at hrange
    have:=CRel.rop (φ:=φ) (F:=F2 φ F H lim) (H:=H) (w:=w) (φ b).1 (off-(φ b).2) 0 cs' vs (by rw[hml,←hcl.1]) (fun i _=>.inr ⟨b,by omega,⟨.cells csb,hbb,hne⟩,rfl⟩) (fun i v hv=>hrange i v hv) (fun i a v ha hv=>by
     obtain⟨a0,ha0,hf⟩:=hmg i a ha
     exact frz_c sr d hf (hcl.2 i a0 v ha0 hv))
    exact this
  case fn f caps=>
   simp only[frz]at h
   split at h
   case h_2=>simp at h
   rename_i cs' hm
   simp only[Option.some.injEq]at h;subst h
   obtain⟨hml,hmg⟩:=mapO_get hm
   cases hc with
   | fn _ _ vs hl hr=>
    exact .fn f cs' vs (by rw[hml];exact hl) fun i a v ha hv=>by
     obtain⟨a0,ha0,hf⟩:=hmg i a ha
     exact frz_c sr d hf (hr i a0 v ha0 hv)
  all_goals (simp only[frz,Option.some.injEq]at h;subst h;exact hc.mono F2.ext)

theorem frz_v (sr:SR φ F H w):∀(d:Nat) {v v':AV} {cv:Value},frz lim H d v=some v'→VRel φ F H w v cv→VRel φ (F2 φ F H lim) H w v' cv
 | 0,v,v',cv,h,hc=>by simp only[frz,Option.some.injEq]at h;subst h;exact hc.mono F2.ext
 | d+1,v,v',cv,h,hc=>by
  cases hc with
  | one hc=>exact .one (frz_c sr (d+1) h hc)
  | agg cs vs hcl=>
   simp only[frz]at h
   split at h
   case h_2=>simp at h
   rename_i cs' hm
   simp only[Option.some.injEq]at h;subst h
   obtain⟨hml,hmg⟩:=mapO_get hm
   refine .agg cs' vs ⟨by rw[hml,hcl.1],fun i a v ha hv=>?_⟩
   obtain⟨a0,ha0,hf⟩:=hmg i a ha
   exact frz_c sr d hf (hcl.2 i a0 v ha0 hv)
  | tup as vs hl hrel=>
   simp only[frz]at h
   split at h
   case h_2=>simp at h
   rename_i as' hm
   simp only[Option.some.injEq]at h;subst h
   obtain⟨hml,hmg⟩:=mapO_get hm
   refine .tup as' vs (by rw[hml,hl]) fun i a v ha hv=>?_
   obtain⟨a0,ha0,hf⟩:=hmg i a ha
   exact frz_v sr d hf (hrel i a0 v ha0 hv)
end
end Go.Hm

namespace Go.Hm
open Go Go.RowKit

theorem find_frzE (lim:Nat)(H:Heap)(t:Nat):∀env:Env,find (frzE lim H env) t=frzV lim H (find env t)
 | []=>by
  simp only[frzE,find]
  rfl
 | (t',v)::r=>by
  simp only[frzE,find]
  split
  ·rfl
  ·exact find_frzE lim H t r
theorem zro_bel {n:Nat}:∀(d:Nat) {a:AV},Hm.below n a=true→Hm.below n (zro d a)=true
 | 0,_,h=>h
 | d+1,a,h=>by
  cases a<;>first | exact h | rfl | skip
  all_goals
   rename_i cs
   simp only[zro,Hm.below]at h ⊢
   refine belowL_iff.2 fun x hx=>?_
   obtain⟨y,hy,rfl⟩:=List.mem_map.1 hx
   exact zro_bel d (belowL_iff.1 h y hy)
theorem zroT_bel {n:Nat}{a:AV}(h:Hm.below n a=true):Hm.below n (zroT a)=true:=by
 unfold zroT
 split
 ·rfl
 ·exact zro_bel 4 h
theorem zro_c {φ:Phi}{F:Nat→Nat→Prop}{H:Heap}{w:World}:∀(d:Nat) {a:AV} {v:Value},CRel φ F H w a v→CRel φ F H w (zro d a) v
 | 0,_,_,h=>h
 | d+1,a,v,h=>by
  cases h with
  | e0 x=>exact .slnil x
  | sl b o n cap cells vs hn hl hF hc hr=>
   refine .sl b o n cap (cells.map (zro d)) vs hn (by simpa using hl) (fun i hi=>hF i (by simpa using hi)) hc fun i a v ha hv=>?_
   rw[List.getElem?_map]at ha
   obtain⟨a0,ha0,rfl⟩:=Option.map_eq_some_iff.1 ha
   exact zro_c d (hr i a0 v ha0 hv)
  | slnil x=>exact .slnil x
  | val v h=>exact .val v h
  | rop b o off cells vs hl hF hc hr=>exact .rop b o off cells vs hl hF hc hr
  | hp b g off cs a hb hg h=>exact .hp b g off cs a hb hg h
  | hs b g off n es cs x cap hb hg hn hx h=>exact .hs b g off n es cs x cap hb hg hn hx h
  | mp b es hb=>exact .mp b es hb
  | fn f caps vs hl hr=>exact .fn f caps vs hl hr
theorem zro_v {φ:Phi}{F:Nat→Nat→Prop}{H:Heap}{w:World}(d:Nat){a:AV}{v:Value}(h:VRel φ F H w a v):VRel φ F H w (zro d a) v:=by
 cases h with
 | one h=>exact .one (zro_c d h)
 | agg cs vs h=>
  cases d with
  | zero=>exact .agg cs vs h
  | succ d=>
   refine .agg (cs.map (zro d)) vs ⟨by simpa using h.1,fun i a v ha hv=>?_⟩
   rw[List.getElem?_map]at ha
   obtain⟨a0,ha0,rfl⟩:=Option.map_eq_some_iff.1 ha
   exact zro_c d (h.2 i a0 v ha0 hv)
 | tup as vs hl h=>
  cases d with
  | zero=>exact .tup as vs hl h
  | succ d=>exact .tup as vs hl h
theorem zroT_v {φ:Phi}{F:Nat→Nat→Prop}{H:Heap}{w:World}{a:AV}{v:Value}(h:VRel φ F H w a v):VRel φ F H w (zroT a) v:=by
 unfold zroT
 split
 ·exact h
 ·exact zro_v 4 h
theorem frzV_ne {lim:Nat}{H:Heap}{v:AV}(h:∀cs,v≠.box cs):frzV lim H v=match frz lim H 8 v with
  | some v'=>if Hm.below lim v'=true then zroT v' else .dead
  | none=>.dead:=by
 cases v<;>first | rfl | exact absurd rfl (h _)
theorem frzV_box {lim:Nat}{H:Heap}{v:AV}{cs:List AV}(h:frzV lim H v= .box cs):∃cs0,v= .box cs0∧True:=by
 have key:∀v:AV,(match frz lim H 8 v with
  | some v'=>if Hm.below lim v'=true then zroT v' else .dead
  | none=>.dead)≠AV.box cs:=fun v=>by
  split
  ·split
   ·rename_i v' _ hb
    intro e;have:=zroT_bel hb;rw[e]at this;simp[Hm.below]at this
   ·intro e;cases e
  ·intro e;cases e
 by_cases hb:∃cs0,v= .box cs0
 ·obtain⟨cs0,rfl⟩:=hb
  unfold frzV at h
  dsimp only at h
  split at h
  ·rename_i cs' hm
   split at h
   ·rename_i hb
    cases h
    exact⟨cs0,rfl,trivial⟩
   ·cases h
  ·cases h
 ·rw[frzV_ne (fun cs h=>hb ⟨cs,h⟩)]at h
  exact absurd h (key v)

theorem cut_get {lim:Nat}{H:Heap}(hl:lim≤H.length){b:Nat}{x:HB}(h:(cutH lim H)[b]?=some x)(hx:x≠.hole):b<lim∧H[b]?=some x:=by
 unfold cutH at h
 by_cases hb:b<lim
 ·rw[List.getElem?_append_left (by rw[List.length_take];omega),List.getElem?_take,if_pos hb]at h
  exact⟨hb,h⟩
 ·rw[List.getElem?_append_right (by rw[List.length_take];omega),List.getElem?_replicate]at h
  split at h
  ·cases h;exact absurd rfl hx
  ·cases h
theorem cut_of {lim:Nat}{H:Heap}(hl:lim≤H.length){b:Nat}(hb:b<lim):(cutH lim H)[b]?=H[b]?:=by
 unfold cutH
 rw[List.getElem?_append_left (by rw[List.length_take];omega),List.getElem?_take,if_pos hb]

section
variable {φ0:Phi}{F0:Nat→Nat→Prop}{H0:Heap}{w0:World}{φ:Phi}{F:Nat→Nat→Prop}{H:Heap}{w:World}{β:Nat→Nat}{env:Env}{act:Act}{T:TT}{lim:Nat}

theorem CRel.cut {a:AV}{v:Value}(hl:lim≤H.length)(h:CRel φ F H w a v)(hb:Hm.below lim a=true):CRel φ F (cutH lim H) w a v:=by
 have e:Ext φ F (H.take lim) w φ F (cutH lim H) w:=⟨fun b cs h=>by
  obtain⟨h1,h2⟩:=take_get h
  exact⟨cs,by rw[cut_of hl h1];exact h2,Nat.le_refl _,fun _=>rfl⟩,fun b es h=>by
  obtain⟨h1,h2⟩:=take_get h
  exact⟨⟨es,by rw[cut_of hl h1];exact h2⟩,rfl⟩,fun _ _ h=>⟨h,rfl⟩,Wm.refl w⟩
 exact(h.shrink hb).mono e
theorem VRel.cut {a:AV}{v:Value}(hl:lim≤H.length)(h:VRel φ F H w a v)(hb:Hm.below lim a=true):VRel φ F (cutH lim H) w a v:=by
 have e:Ext φ F (H.take lim) w φ F (cutH lim H) w:=⟨fun b cs h=>by
  obtain⟨h1,h2⟩:=take_get h
  exact⟨cs,by rw[cut_of hl h1];exact h2,Nat.le_refl _,fun _=>rfl⟩,fun b es h=>by
  obtain⟨h1,h2⟩:=take_get h
  exact⟨⟨es,by rw[cut_of hl h1];exact h2⟩,rfl⟩,fun _ _ h=>⟨h,rfl⟩,Wm.refl w⟩
 exact(h.shrink hb).mono e

theorem sr_cut (sr:SR φ F H w)(hl:lim≤H.length)(hcl:Cl lim H):SR φ (F2 φ F H lim) (cutH lim H) w:=by
 have e2:Ext φ F (cutH lim H) w φ (F2 φ F H lim) (cutH lim H) w:=⟨fun _ cs h=>⟨cs,h,Nat.le_refl _,fun _=>rfl⟩,fun _ es h=>⟨⟨es,h⟩,rfl⟩,fun _ _ h=>⟨.inl h,rfl⟩,Wm.refl w⟩
 have lv:∀b,live (cutH lim H) b→live H b∧b<lim:=fun b ⟨x,h1,h2⟩=>by
  obtain⟨h3,h4⟩:=cut_get hl h1 (fun e=>by subst e;exact h2)
  exact⟨⟨x,h4,h2⟩,h3⟩
 refine⟨fun b cs h hne=>?_,fun b es h=>?_,fun b b' h h'=>sr.inj b b' (lv b h).1 (lv b' h').1,fun b o h hF=>?_,fun k o h=>?_⟩
 ·obtain⟨h1,h2⟩:=cut_get hl h (fun e=>by cases e)
  obtain⟨arr,ty,ha,hr⟩:=sr.blk b cs h2 hne
  refine⟨arr,ty,ha,fun i a hi=>?_⟩
  obtain⟨u,hu,hrel⟩:=hr i a hi
  exact⟨u,hu,(hrel.cut hl (belowL_get (hcl b cs h1 h2) hi)).mono e2⟩
 ·obtain⟨h1,h2⟩:=cut_get hl h (fun e=>by cases e)
  obtain⟨ces,clk,ha,es0,hep,hm1,hm2,hm3⟩:=sr.mblk b es h2
  refine⟨ces,clk,ha,es0,hep,hm1,fun i k v hi=>?_,hm3⟩
  obtain⟨a1,a2,c,a3,a4,a5⟩:=hm2 i k v hi
  exact⟨a1,a2,c,a3,(a4.cut hl (below_mono (Nat.zero_le _) _ a1)).mono e2,(a5.cut hl (below_mono (Nat.zero_le _) _ a2)).mono e2⟩
 ·rcases hF with hF | ⟨b',hb',hl',he⟩
  ·exact sr.phiF b o (lv b h).1 hF
  ·have:=sr.inj b' b hl' (lv b h).1 he
   have:=(lv b h).2
   omega
 ·rcases h with h | ⟨b',_,hl',he⟩
  ·exact sr.fsz k o h
  ·rw[←he];exact live_lt sr hl'

theorem full_frz (f:Full φ0 F0 H0 w0 φ F H w β env act T)(h0:lim=H0.length)(hl:lim≤H.length)(hcl:Cl lim H):Full φ0 F0 H0 w0 φ (F2 φ F H lim) (cutH lim H) w β (frzE lim H env) act T:=by
 have sr':=sr_cut f.st.sr hl hcl
 have sr:=f.st.sr
 have lv:∀b,live (cutH lim H) b→live H b:=fun b ⟨x,h1,h2⟩=>by
  obtain⟨h3,h4⟩:=cut_get hl h1 (fun e=>by subst e;exact h2)
  exact⟨x,h4,h2⟩
 have bx:∀t cs,find (frzE lim H env) t= .box cs→∃cs0,find env t= .box cs0∧True:=fun t cs h=>by
  rw[find_frzE]at h
  exact frzV_box h
 refine⟨⟨sr',f.st.size,fun t=>?_,fun t cs b h hlv=>?_,fun t t' c1 c2 h1 h2 he=>?_,fun t cs o h hF=>?_⟩,⟨fun b cs h=>?_,fun b es h=>?_,fun k o h=>⟨.inl (f.ext.frz k o h).1,(f.ext.frz k o h).2⟩,f.ext.wm⟩,f.chg,fun b h=>f.phi b (lv b h),fun t cs h=>?_,?_,fun k o h=>?_⟩
 ·rw[find_frzE]
  have hs:=f.st.slot t
  generalize hv:find env t=v at hs
  by_cases hbx:∃cs0,v= .box cs0
  ·obtain⟨cs,rfl⟩:=hbx
   unfold frzV
   dsimp only
   split
   ·rename_i cs' hm
    split
    ·rename_i hb
     refine⟨hs.1,?_⟩
     obtain⟨arr,ty,ha,hr⟩:=hs.2
     obtain⟨hml,hmg⟩:=mapO_get hm
     refine⟨arr,ty,ha,fun i a hi=>?_⟩
     rw[List.getElem?_map]at hi
     obtain⟨a1,hi1,rfl⟩:=Option.map_eq_some_iff.1 hi
     obtain⟨a0,ha0,hf⟩:=hmg i a1 hi1
     obtain⟨u,hu,hrel⟩:=hr i a0 ha0
     exact⟨u,hu,zro_c 4 ((frz_c sr 8 hf hrel).cut hl (belowL_get hb hi1))⟩
    ·trivial
   ·trivial
  ·rw[frzV_ne (fun cs h=>hbx ⟨cs,h⟩)]
   split
   ·rename_i v' hf
    split
    ·rename_i hb
     have hr:VRel φ F H w v (act.tmps.getD t undef):=by
      cases v<;>first | exact hs | (simp only[frz,Option.some.injEq]at hf;subst hf;simp[Hm.below]at hb;done) | exact absurd ⟨_,rfl⟩ hbx
     have h2:=zroT_v ((frz_v sr 8 hf hr).cut hl hb)
     have h3:=zroT_bel hb
     generalize zroT v'=u at h2 h3
     cases u<;>first | exact h2 | (simp[Hm.below]at h3;done)
    ·trivial
   ·trivial
 ·obtain⟨cs0,h1,_⟩:=bx t cs h
  exact f.st.bphi t cs0 b h1 (lv b hlv)
 ·obtain⟨c3,h3,_⟩:=bx t c1 h1
  obtain⟨c4,h4,_⟩:=bx t' c2 h2
  exact f.st.binj t t' c3 c4 h3 h4 he
 ·obtain⟨cs0,h1,_⟩:=bx t cs h
  rcases hF with hF | ⟨b',_,hl',he⟩
  ·exact f.st.bF t cs0 o h1 hF
  ·exact f.st.bphi t cs0 b' h1 hl' he.symm
 ·obtain⟨cs',h1,h2,h3⟩:=f.ext.len b cs h
  have hlt:b<lim:=by rw[h0];exact(List.getElem?_eq_some_iff.1 h).1
  exact⟨cs',by rw[cut_of hl hlt];exact h1,h2,h3⟩
 ·obtain⟨⟨es',h1⟩,h2⟩:=f.ext.map b es h
  have hlt:b<lim:=by rw[h0];exact(List.getElem?_eq_some_iff.1 h).1
  exact⟨⟨es',by rw[cut_of hl hlt];exact h1⟩,h2⟩
 ·obtain⟨cs0,h1,_⟩:=bx t cs h
  exact f.beta t cs0 h1
 ·have hd:=f.dfr
  unfold Dfr at *
  split
  ·rename_i hr
   rw[hr]at hd
   exact⟨hd.1,fun d hm=>by
    obtain⟨r,h1,⟨o,h2⟩,h3,h4⟩:=hd.2 d hm
    exact⟨r,h1,⟨o,.inl h2⟩,h3,h4⟩⟩
  ·rename_i l hr
   rw[hr]at hd
   exact hd
 ·rcases h with h | ⟨b',hb',hl',he⟩
  ·exact f.frn k o h
  ·rcases f.phi b' hl' with⟨⟨x,h1,_⟩,_⟩ | h
   ·have:=(List.getElem?_eq_some_iff.1 h1).1
    omega
   ·exact .inr (by rw[←he];exact h)
end

theorem seqC_nr {P:Program}{pm:Pm}{a b:Code}{keep:List Nat}{x:AC}{ks:List (List Nat)}(h:noRm (seqC P pm a b keep x (compC P pm b ks).1)=true):seqC P pm a b keep x (compC P pm b ks).1= .seq x (compC P pm b ks).1:=by
 unfold seqC at h ⊢
 cases hr:rmOf P pm a b with
 | some p=>
  rw[hr]at h
  obtain⟨k1,k3,kz,e⟩:=rmC_eq (rest:=p.2) hr keep ks
  dsimp only at h
  rw[e]at h
  simp[noRm]at h
 | none=>
  rw[hr]at h
  dsimp only at h ⊢
  split
  ·rename_i b1 b2 y1 y2 hy
   cases hr2:rmOf P pm a b1 with
   | none=>rfl
   | some p=>
    simp only[hy,hr2]at h
    obtain⟨i,j,kk,n2,_,e,_⟩:=rmOf_inv (r:=p.1) (rest:=p.2) hr2
    have hb:∃id c,b1= .block id c:=⟨_,_,e⟩
    clear e
    have hy2:y1=(compC P pm b1 ks).1:=by
     obtain⟨id,c,rfl⟩:=hb
     rw[show (compC P pm (.seq (.block id c) b2) ks).1= .seq (compC P pm (.block id c) ks).1 (compC P pm b2 (compC P pm (.block id c) ks).2).1 from by
      simp only[compC]
      exact seqC_nb fun b=>rmOf_nr fun _ _ e=>by cases e]at hy
     injection hy with e1 e2
     exact e1.symm
    obtain⟨k1,k3,kz,e3⟩:=rmC_eq (rest:=p.2) hr2 keep ks
    rw[hy2,e3]at h
    simp[noRm]at h
  ·rfl
theorem noRm_insF:∀(k:Nat) (c:AC),noRm (insF k c)=noRm c
 | 0,c=>by simp[insF,noRm]
 | k+1,c=>by
  cases c<;>first | rfl | skip
  rename_i a b
  simp only[insF,noRm,noRm_insF k b]
theorem insF_ne {k:Nat}{x:AC}(h:∀a b,x≠.seq a b):insF (k+1) x=x:=by
 cases x<;>first | rfl | exact absurd rfl (h _ _)
section
variable {P:Program}{C:Orc}{lk lim:Nat}
theorem exec_frz0 (hm:P.follows .mixedOrders=true)(hC:OrcOk P C)(hF:OrcFr C){n:Nat}:∀(c:Code) (ks:List (List Nat)) {pm:Pm} {ro:Option Nat} {T:TT} {φ0:Phi} {F0:Nat→Nat→Prop} {H0:Heap} {w0:World} {φ:Phi} {F:Nat→Nat→Prop} {H:Heap} {w:World} {β:Nat→Nat} {env:Env} {act:Act} {ex:Ex} {env':Env} {H':Heap} {Q:Exit→Act→World→Prop},
  pm.T=T→SqOk P pm.it→((ro=none∧T.rd=none∧pm.inR=false)∨(pm.inR=true∧∃l,T.rd=some l))→(∀k o,F0 k o→k<w0.heap.size)→noRm (compC P pm c ks).1=true→lim=H0.length→lim≤H.length→Cl lim H→
  Full φ0 F0 H0 w0 φ F H w β env act T→exec C n lk lim (AC.seq .frz (compC P pm c ks).1) env H=some (ex,env',H')→(∀act' w',Post φ0 F0 H0 w0 H' env' T act' w'→Q (exOf ex) act' w')→c.wpIn (FR ro) 0 P Q act w:=by
 intro c ks pm ro T φ0 F0 H0 w0 φ F H w β env act ex env' H' Q hT hS hro hF0 hN h0 hl hcl f h hQ
 simp only[exec]at h
 split at h
 ·rename_i e1 h1 hfz
  split at hfz
  case h_2=>cases hfz
  rename_i e2 h2 hfc
  unfold frzC at hfc
  split at hfc
  case isFalse=>cases hfc
  simp only[Option.some.injEq,Prod.mk.injEq]at hfc hfz
  obtain⟨rfl,rfl⟩:=hfc
  obtain⟨_,rfl,rfl⟩:=hfz
  exact exec_sound hm hC hF _ ks hT hS hro hF0 (RmOks.of hN) (full_frz f h0 hl hcl) h hQ
 ·rename_i hne
  split at h
  ·rename_i hfc
   exact absurd (by rw[hfc]) (hne _ _)
  ·cases h
theorem exec_soundF (hm:P.follows .mixedOrders=true)(hC:OrcOk P C)(hF:OrcFr C){n:Nat}:∀(c:Code) (k:Nat) (ks:List (List Nat)) {pm:Pm} {ro:Option Nat} {T:TT} {φ0:Phi} {F0:Nat→Nat→Prop} {H0:Heap} {w0:World} {φ:Phi} {F:Nat→Nat→Prop} {H:Heap} {w:World} {β:Nat→Nat} {env:Env} {act:Act} {ex:Ex} {env':Env} {H':Heap} {Q:Exit→Act→World→Prop},
  pm.T=T→SqOk P pm.it→((ro=none∧T.rd=none∧pm.inR=false)∨(pm.inR=true∧∃l,T.rd=some l))→(∀k o,F0 k o→k<w0.heap.size)→noRm (compC P pm c ks).1=true→lim=H0.length→lim≤H.length→Cl lim H→
  Full φ0 F0 H0 w0 φ F H w β env act T→exec C n lk lim (insF k (compC P pm c ks).1) env H=some (ex,env',H')→(∀act' w',Post φ0 F0 H0 w0 H' env' T act' w'→Q (exOf ex) act' w')→c.wpIn (FR ro) 0 P Q act w:=by
 intro c
 have other:∀(c:Code),(∀(pm:Pm) ks a b,(compC P pm c ks).1≠.seq a b)→∀(k:Nat) (ks:List (List Nat)) {pm:Pm} {ro:Option Nat} {T:TT} {φ0:Phi} {F0:Nat→Nat→Prop} {H0:Heap} {w0:World} {φ:Phi} {F:Nat→Nat→Prop} {H:Heap} {w:World} {β:Nat→Nat} {env:Env} {act:Act} {ex:Ex} {env':Env} {H':Heap} {Q:Exit→Act→World→Prop},
  pm.T=T→SqOk P pm.it→((ro=none∧T.rd=none∧pm.inR=false)∨(pm.inR=true∧∃l,T.rd=some l))→(∀k o,F0 k o→k<w0.heap.size)→noRm (compC P pm c ks).1=true→lim=H0.length→lim≤H.length→Cl lim H→
  Full φ0 F0 H0 w0 φ F H w β env act T→exec C n lk lim (insF k (compC P pm c ks).1) env H=some (ex,env',H')→(∀act' w',Post φ0 F0 H0 w0 H' env' T act' w'→Q (exOf ex) act' w')→c.wpIn (FR ro) 0 P Q act w:=by
  intro c hne k ks pm ro T φ0 F0 H0 w0 φ F H w β env act ex env' H' Q hT hS hro hF0 hN h0 hl hcl f h hQ
  cases k with
  | zero=>exact exec_frz0 hm hC hF c ks hT hS hro hF0 hN h0 hl hcl f h hQ
  | succ k=>
   rw[insF_ne (hne pm ks)]at h
   exact exec_sound hm hC hF c ks hT hS hro hF0 (RmOks.of hN) f h hQ
 induction c with
 | seq a b iha ihb=>
  intro k ks pm ro T φ0 F0 H0 w0 φ F H w β env act ex env' H' Q hT hS hro hF0 hN h0 hl hcl f h hQ
  cases k with
  | zero=>exact exec_frz0 hm hC hF (.seq a b) ks hT hS hro hF0 hN h0 hl hcl f h hQ
  | succ k=>
   simp only[compC]at h hN
   obtain⟨hsq,hNa,hNb⟩:seqC P pm a b (ks.headD []) (compC P pm a ks).1 (compC P pm b (compC P pm a ks).2).1= .seq (compC P pm a ks).1 (compC P pm b (compC P pm a ks).2).1∧noRm (compC P pm a ks).1=true∧noRm (compC P pm b (compC P pm a ks).2).1=true:=by
    have key:seqC P pm a b (ks.headD []) (compC P pm a ks).1 (compC P pm b (compC P pm a ks).2).1= .seq (compC P pm a ks).1 (compC P pm b (compC P pm a ks).2).1:=seqC_nr hN
    rw[key]at hN
    simp only[noRm,Bool.and_eq_true]at hN
    exact⟨key,hN⟩
   rw[hsq]at h
   simp only[insF,exec]at h
   split at h
   ·rename_i e1 h1 ha
    have fr:=exec_fr hF _ ha
    refine wpIn_seq (exec_sound hm hC hF a ks hT hS hro hF0 (RmOks.of hNa) f ha (fun act' w' ⟨φ1,F1,β1,f1⟩=>?_))
    exact ihb k _ hT hS hro hF0 hNb h0 (Nat.le_trans hl fr.len) (fr.cl _ (Nat.le_refl _) hl hcl) f1 h hQ
   ·rename_i hne
    refine wpIn_seq (exec_sound hm hC hF a ks hT hS hro hF0 (RmOks.of hNa) f h (fun act' w' hp=>?_))
    cases ex with
    | nrm=>exact absurd h (hne _ _)
    | exit id=>exact hQ _ _ hp
    | ret=>exact hQ _ _ hp
 | scope b ih=>
  intro k ks pm ro T φ0 F0 H0 w0 φ F H w β env act ex env' H' Q hT hS hro hF0 hN h0 hl hcl f h hQ
  cases k with
  | zero=>exact exec_frz0 hm hC hF (.scope b) ks hT hS hro hF0 hN h0 hl hcl f h hQ
  | succ k=>
   simp only[compC]at h
   split at h
   ·simp[insF,exec]at h
   rename_i hr
   obtain⟨rfl,_⟩:=hro.resolve_right fun e=>hr e.1
   refine wpIn_wide.2 (wp_scope_straight ((wpIn_wide (n:=0)).1 (ih (k+1) ks hT hS hro hF0 (by simpa only[compC,if_neg hr] using hN) h0 hl hcl f h (fun act' w' hp=>?_))))
   cases ex<;>exact hQ _ _ hp
 | region id ops draw=>exact other _ (fun pm ks a b e=>by
   simp only[compC]at e
   split at e
   ·cases e
   ·split at e
    ·split at e<;>cases e
    ·cases e)
 | rangeFunc g ps asg body _ _=>exact other _ (fun pm ks a b e=>by
   simp only[compC]at e
   split at e<;>cases e)
 | _=>exact other _ (fun pm ks a b e=>by simp only[compC]at e;cases e)
end
end Go.Hm

namespace Go.Hm
open Go Go.RowKit

theorem find_enter:∀(k:Nat) (as:List AV) (t:Nat),find (enterFrom k as) t=if k≤t then (as[t-k]?).getD .dead else .dead
 | k,[],t=>by simp[enterFrom,find]
 | k,a::r,t=>by
  simp only[enterFrom,find,find_enter (k+1) r t]
  by_cases h:k=t
  ·subst h;simp
  ·rw[if_neg h]
   by_cases h2:k≤t
   ·rw[if_pos h2,if_pos (by omega)]
    obtain⟨m,hm⟩:∃m,t-k=m+1:=⟨t-k-1,by omega⟩
    rw[hm,show t-(k+1)=m from by omega];simp
   ·rw[if_neg h2,if_neg (by omega)]

section
variable {P:Program}{X:Orc}{A:FuncId→Option AFn}

theorem VRel.notBox {φ:Phi}{F:Nat→Nat→Prop}{H:Heap}{w:World}{cs:List AV}{v:Value}(h:VRel φ F H w (.box cs) v):False:=by
 cases h with
 | one h=>cases h

theorem full_enter {φ:Phi}{F:Nat→Nat→Prop}{H:Heap}{w:World}{as:List AV}{vs:List Value}{T:Nat}{rd:Option (List Deferred)}(hrd:rd=none∨rd=some [])(sr:SR φ F H w)(ha:ARel φ F H w as vs)(hT:as.length≤T):
  Full φ F H w φ F H w (fun _=>w.heap.size) (enterFrom 0 as) { tmps:=vs.toArray++Array.replicate (T-vs.toArray.size) undef,defers:=[] } ⟨T,rd⟩:=by
 have nb:∀t cs,find (enterFrom 0 as) t≠.box cs:=fun t cs h=>by
  rw[find_enter,if_pos (Nat.zero_le _),Nat.sub_zero]at h
  cases hx:as[t]? with
  | none=>rw[hx]at h;cases h
  | some a=>
   rw[hx]at h
   simp only[Option.getD_some]at h
   subst h
   have hlt:t<vs.length:=by rw[ha.1];exact(List.getElem?_eq_some_iff.1 hx).1
   exact(ha.2 t _ vs[t] hx (by simp[hlt])).notBox
 have hl:=ha.1
 refine⟨⟨sr,by simp;omega,fun t=>?_,fun t cs b h=>absurd h (nb t cs),fun t t' cs cs' h=>absurd h (nb t cs),fun t cs o h=>absurd h (nb t cs)⟩,Ext.refl _ _ _ _,Chg.refl _ _,fun b hb=>.inl ⟨hb,rfl⟩,fun t cs h=>absurd h (nb t cs),by rcases hrd with rfl | rfl<;>first | exact Marks.nil | rfl,fun k o h=>.inl h⟩
 rw[find_enter,if_pos (Nat.zero_le _),Nat.sub_zero]
 cases hx:as[t]? with
 | none=>trivial
 | some a=>
  have hlt:t<vs.length:=by rw[hl];exact(List.getElem?_eq_some_iff.1 hx).1
  have hv:(vs.toArray++Array.replicate (T-vs.toArray.size) undef).getD t undef=vs[t]:=by
   rw[Array.getD_eq_getD_getElem?,Array.getElem?_append_left (by simpa using hlt)]
   simp[hlt]
  have hr:=ha.2 t a vs[t] hx (by simp[hlt])
  simp only[Option.getD_some]
  rw[hv]
  have ho:ORel φ F H w (fun _=>w.heap.size) a vs[t]:=ORel.of hr
  cases a<;>first | exact ho | exact ho.elim

theorem callR_cut {φ φ':Phi}{F F':Nat→Nat→Prop}{H H1:Heap}{w w':World}{β:Nat→Nat}{env:Env}{act:Act}{T:TT}{d:Nat}{v v':AV}{cv:Value}(f:Full φ F H w φ' F' H1 w' β env act T)(hcl:Cl H.length H1)(hv:VRel φ' F' H1 w' v cv)
  (hf:frz H.length H1 d v=some v') (hb:Hm.below H.length v'=true):CallR φ F H w v' (H1.take H.length) cv w':=by
 have sr1:=f.st.sr.take hcl
 have lv:∀b,live (H1.take H.length) b→live H1 b∧b<H.length:=fun b ⟨cs,h1,h2⟩=>⟨⟨cs,(take_get h1).2,h2⟩,(take_get h1).1⟩
 have e2:Ext φ' F' (H1.take H.length) w' φ' (F2 φ' F' H1 H.length) (H1.take H.length) w':=⟨fun _ cs h=>⟨cs,h,Nat.le_refl _,fun _=>rfl⟩,fun _ es h=>⟨⟨es,h⟩,rfl⟩,fun _ _ h=>⟨.inl h,rfl⟩,Wm.refl w'⟩
 refine⟨φ',F2 φ' F' H1 H.length,(frz_v f.st.sr d hf hv).shrink hb,⟨fun b cs h hne=>?_,fun b es h=>?_,sr1.inj,fun b o hl h=>?_,fun k o h=>?_⟩,⟨fun b cs h=>?_,fun b es h=>?_,fun k o h=>⟨.inl (f.ext.frz k o h).1,(f.ext.frz k o h).2⟩,f.ext.wm⟩,f.chg,fun b hl=>f.phi b (lv b hl).1,fun k o h=>?_⟩
 ·obtain⟨arr,ty,ha,hr⟩:=sr1.blk b cs h hne
  exact⟨arr,ty,ha,fun i a hi=>by
   obtain⟨u,hu,hrel⟩:=hr i a hi
   exact⟨u,hu,hrel.mono e2⟩⟩
 ·obtain⟨ces,clk,ha,hr⟩:=sr1.mblk b es h
  exact⟨ces,clk,ha,hr.mono e2⟩
 ·rcases h with h | ⟨b',hb',hl',he⟩
  ·exact sr1.phiF b o hl h
  ·have:=f.st.sr.inj b' b hl' (lv b hl).1 he
   have:=(lv b hl).2
   omega
 ·rcases h with h | ⟨b',_,hl',he⟩
  ·exact sr1.fsz k o h
  ·rw[←he];exact live_lt f.st.sr hl'
 ·obtain⟨cs',h1,h2,h3⟩:=f.ext.len b cs h
  have hlt:b<H.length:=(List.getElem?_eq_some_iff.1 h).1
  exact⟨cs',by rw[List.getElem?_take,if_pos hlt];exact h1,h2,h3⟩
 ·obtain⟨⟨es',h1⟩,h2⟩:=f.ext.map b es h
  have hlt:b<H.length:=(List.getElem?_eq_some_iff.1 h).1
  exact⟨⟨es',by rw[List.getElem?_take,if_pos hlt];exact h1⟩,h2⟩
 ·rcases h with h | ⟨b',hb',hl',he⟩
  ·exact f.frn k o h
  ·rcases f.phi b' hl' with⟨⟨cs,h1,_⟩,_⟩ | h
   ·have:=(List.getElem?_eq_some_iff.1 h1).1
    omega
   ·exact .inr (by omega)

def FnsOk (P:Program)(A:FuncId→Option AFn):Prop:=∀f fd,A f=some fd→∃pm ks,compF P (f % 1000) pm ks fd.trunc=some fd∧SqOk P pm.it∧(pm.fz=none∨noRm fd.body=true)
def RmA (X:Orc)(A:FuncId→Option AFn):Prop:=∀f fd,A f=some fd→∀n lk lim,RmOks (callN X A n) n lk lim fd.body
def noIt:FuncId→List AV→Heap→Option (List (List Value)):=fun _ _ _=>none
theorem noIt_ok:SqOk P noIt:=fun _ _ _ _ h=>by cases h

theorem bodyF_or (fz:Option Nat)(t:Bool)(c:AC):bodyF fz t c=c∨∃k,fz=some k∧t=true∧bodyF fz t c=insF k c:=by
 unfold bodyF
 cases fz with
 | none=>exact .inl rfl
 | some k=>cases t with
  | true=>exact .inr ⟨k,rfl,rfl,rfl⟩
  | false=>exact .inl rfl

theorem callN_ok (hm:P.follows .mixedOrders=true)(hX:OrcOk P X)(hXF:OrcFr X)(hA:FnsOk P A)(hR:RmA X A):∀n,OrcOk P (callN X A n)
 | 0=>hX
 | n+1=>by
  have ih:=callN_ok hm hX hXF hA hR n
  have ihF:=callN_fr (A:=A) hXF n
  intro lk lim f as H r H' h
  simp only[callN]at h
  split at h
  ·rename_i r' hx
   simp only[Option.some.injEq]at h
   subst h
   exact hX _ _ _ _ _ _ _ hx
  ·split at h
   case h_1=>simp at h
   rename_i fd hfd
   split at h
   case isFalse=>simp at h
   rename_i hnp
   obtain⟨pm,ks,hcomp,hsq,hfz⟩:=hA f fd hfd
   have hRm:=hR f fd hfd n
   unfold compF at hcomp
   split at hcomp
   case h_2=>simp at hcomp
   rename_i fn hfn
   split at hcomp
   case h_2=>simp at hcomp
   rename_i c hbody
   split at hcomp
   case isFalse=>simp at hcomp
   rename_i hchk
   simp only[Option.some.injEq]at hcomp
   obtain⟨hname,hsz,hres⟩:=hchk
   refine⟨⟨fn,hfn,hname,by rw[hbody];rfl⟩,fun φ F w vs sr ha=>?_⟩
   rw[←hcomp]at h hnp hRm hfz
   dsimp only at h hnp hRm hfz
   obtain⟨rd,hrd0,hrd⟩:∃rd:Option (List Deferred),(rd=none∨rd=some [])∧((rd=none∧pm.inR=false)∨(pm.inR=true∧∃l,rd=some l)):=by
    cases hin:pm.inR with
    | false=>exact⟨none,.inl rfl,.inl ⟨rfl,rfl⟩⟩
    | true=>exact⟨some [],.inr rfl,.inr ⟨rfl,_,rfl⟩⟩
   have f0:=full_enter (T:=fn.ntmps) (rd:=rd) hrd0 sr ha (by omega)
   unfold finish at h
   split at h
   ·simp at h
   ·rename_i ex env1 H1 hnx hex
    split at h
    case h_2=>simp at h
    rename_i v hv
    have snd:∀{Q:Exit→Act→World→Prop},(∀act' w',Post φ F H w H1 env1 (⟨fn.ntmps,rd⟩:TT) act' w'→Q (exOf ex) act' w')→c.wpIn (FR none) 0 P Q { tmps:=vs.toArray++Array.replicate (fn.ntmps-vs.toArray.size) undef,defers:=[] } w:=fun hQ=>by
     have hex:=hex
     have hro:((none:Option Nat)=none∧rd=none∧pm.inR=false)∨(pm.inR=true∧∃l,rd=some l):=hrd.elim (fun h=>.inl ⟨rfl,h.1,h.2⟩) .inr
     rcases bodyF_or pm.fz fd.trunc (compC P { pm with T:=fn.ntmps } c ks).1 with hb | ⟨k,hk,ht,hb⟩
     ·rw[hb]at hex hRm
      exact exec_sound hm ih ihF c ks (pm:={ pm with T:=fn.ntmps }) (ro:=none) (T:=⟨fn.ntmps,rd⟩) rfl hsq hro sr.fsz (hRm _ _) f0 hex hQ
     ·rw[hb]at hfz
      rw[hb,if_pos ht]at hex
      have hn:noRm (compC P { pm with T:=fn.ntmps } c ks).1=true:=by
       rcases hfz with hfz | hfz
       ·rw[hk]at hfz;cases hfz
       ·rw[noRm_insF]at hfz;exact hfz
      exact exec_soundF hm ih ihF c k ks (pm:={ pm with T:=fn.ntmps }) (ro:=none) (T:=⟨fn.ntmps,rd⟩) rfl hsq hro sr.fsz hn rfl (Nat.le_refl _) sr.cl f0 hex hQ
    refine(callsIn_wide (n:=0)).1 (callsIn_of_wp_marks hfn hbody trivial (snd (fun act' w1 ⟨φ1,F1,β1,f1⟩=>?_)) rfl)
    have leave:∀w',(∃φ' F' β',Full φ F H w φ' F' H1 w' β' env1 { tmps:=act'.tmps,defers:=[] } ⟨fn.ntmps,rd⟩)→∃v,(results fn act'.tmps).run P w'= .ok v w'∧∃v',Ending.returned v= .returned v'∧CallR φ F H w r H' v' w':=by
     rintro w' ⟨φ',F',β',f'⟩
     obtain⟨cv,hrun,hrel⟩:=results_run f'.st hres hv
     have hfr:=exec_fr ihF _ hex
     refine⟨cv,hrun,cv,rfl,?_⟩
     split at h
     ·rename_i ht
      rw[if_pos ht]at hfr
      split at h
      case h_2=>simp at h
      rename_i v' hfz
      split at h
      case isFalse=>simp at h
      rename_i hbel
      simp only[Option.some.injEq,Prod.mk.injEq]at h
      obtain⟨rfl,rfl⟩:=h
      exact callR_cut f' (hfr.cl _ (Nat.le_refl _) (Nat.le_refl _) sr.cl) hrel hfz hbel
     ·simp only[Option.some.injEq,Prod.mk.injEq]at h
      obtain⟨rfl,rfl⟩:=h
      exact⟨φ',F',hrel,f'.st.sr,f'.ext,f'.chg,f'.phi,f'.frn⟩
    have all:∀(ds:List Deferred) (w':World),(∃φ' F' β',Full φ F H w φ' F' H1 w' β' env1 { tmps:=act'.tmps,defers:=ds } ⟨fn.ntmps,rd⟩)→LeavesInM Fence.wide 0 P fn act'.tmps (fun e w'=>∃v,e= .returned v∧CallR φ F H w r H' v w') ds .returning w':=by
     intro ds
     induction ds with
     | nil=>intro w' h;exact leave w' h
     | cons d ds ihd=>
      rintro w' ⟨φ',F',β',f'⟩
      rcases hrd0 with rfl | rfl
      case inr=>exact absurd (show (d::ds)=[] from f'.dfr) (by simp)
      obtain⟨q,rfl,hq,f2⟩:=f'.close sr.fsz rfl
      exact⟨by simp,.inl ⟨q,_,rfl,run_takeDeferred hq,ihd _ ⟨φ',F',β',f2⟩⟩⟩
    have h0:=all act'.defers w1 ⟨φ1,F1,β1,f1⟩
    cases ex with
    | nrm=>exact h0
    | ret=>exact h0
    | exit id=>exact(hnx id rfl).elim
   ·simp at h
end
end Go.Hm

namespace Go.Hm
open Go

def OLe (C C':Orc):Prop:=∀lk lim f as H r,C lk lim f as H=some r→C' lk lim f as H=some r

theorem OLe.refl (C:Orc):OLe C C:=fun _ _ _ _ _ _ h=>h
theorem OLe.trans {A B C:Orc}(h:OLe A B)(k:OLe B C):OLe A C:=fun _ _ _ _ _ _ e=>k _ _ _ _ _ _ (h _ _ _ _ _ _ e)

section
variable {C C':Orc}

theorem actOp_mono (hC:OLe C C'){lk lim:Nat}{dst:Option Nat}{op:AOp}{env:Env}{H:Heap}{r:Env×Heap}(h:actOp C lk lim dst op env H=some r):actOp C' lk lim dst op env H=some r:=by
 unfold actOp at h ⊢
 split at h
 ·exact h
 ·exact h
 ·exact h
 ·split at h
  case h_2=>simp at h
  rename_i g as hg
  split at h
  case isFalse=>simp at h
  rename_i ha
  split at h
  case h_2=>simp at h
  rename_i v H' hc
  simp only[ha,if_true,hC _ _ _ _ _ _ hc]
  exact h
 ·exact h

theorem actD_mono (hC:OLe C C'){lk lim base cb:Nat}{dst:Option Nat}{op:AOp}{k:Nat}{env:Env}{H:Heap}{r:Env×Heap}(h:actD C lk lim base cb dst op k env H=some r):actD C' lk lim base cb dst op k env H=some r:=by
 unfold actD at h ⊢
 split at h
 ·exact h
 ·exact h
 ·exact h
 ·split at h
  case h_2=>simp at h
  rename_i g as hg
  split at h
  case isFalse=>simp at h
  rename_i ha
  split at h
  case h_2=>simp at h
  rename_i v H' hc
  rw[if_pos ha]
  simp only[hC _ _ _ _ _ _ hc]
  exact h
 ·exact h

theorem actF_mono (hC:OLe C C'){lk lim:Nat}{dst:Option Nat}{op:AOp}{env:Env}{H:Heap}{r:Env×Heap}(h:actF C lk lim dst op env H=some r):actF C' lk lim dst op env H=some r:=by
 unfold actF at h ⊢
 split at h
 case h_2=>simp at h
 split at h
 case isFalse=>simp at h
 rename_i ha
 split at h
 case h_2=>simp at h
 rename_i v H' hc
 rw[if_pos ha]
 simp only[hC _ _ _ _ _ _ hc]
 exact h

theorem stepI_mono (hC:OLe C C'){lk lim:Nat}{i:AI}{env:Env}{H:Heap}{r:Env×Heap}(h:stepI C lk lim i env H=some r):stepI C' lk lim i env H=some r:=by
 unfold stepI at h ⊢
 split at h
 ·exact actOp_mono hC h
 ·exact h
 ·exact h

theorem stepD_mono (hC:OLe C C'){ws:WS}{lk lim base cb:Nat}{i:AI}{env:Env}{H:Heap}{r:Env×Heap}(h:stepD C lk lim ws base cb i env H=some r):stepD C' lk lim ws base cb i env H=some r:=by
 unfold stepD at h ⊢
 split at h
 ·split at h
  ·rename_i hok
   rw[if_pos hok]
   split at h
   ·rename_i hfr
    rw[if_pos hfr];exact actF_mono hC h
   ·rename_i hfr
    rw[if_neg hfr];exact actD_mono hC h
  ·simp at h
 ·exact h
 ·exact h

theorem runOps_mono (hC:OLe C C'){lk lim:Nat}:∀{l:List AI} {env:Env} {H:Heap} {r:Env×Heap},runOps C lk lim l env H=some r→runOps C' lk lim l env H=some r
 | [],_,_,_,h=>h
 | i::l,env,H,r,h=>by
  simp only[runOps]at h ⊢
  split at h
  ·rename_i e1 h1 hs
   rw[stepI_mono hC hs]
   exact runOps_mono hC h
  ·simp at h

theorem runD_mono (hC:OLe C C'){ws:WS}{lk lim base:Nat}:∀{l:List AI} {env:Env} {H:Heap} {r:Env×Heap},runD C lk lim ws base l env H=some r→runD C' lk lim ws base l env H=some r
 | [],_,_,_,h=>h
 | i::l,env,H,r,h=>by
  simp only[runD]at h ⊢
  split at h
  ·rename_i e1 h1 hs
   rw[stepD_mono hC hs]
   exact runD_mono hC h
  ·simp at h

theorem iter_mono {f g:Env→Heap→Out}(hfg:∀env H r,f env H=some r→g env H=some r):∀{n m:Nat} (_:n≤m) {env:Env} {H:Heap} {r:Ex×Env×Heap},iter f n env H=some r→iter g m env H=some r
 | 0,_,_,_,_,_,h=>by simp[iter]at h
 | n+1,m,hm,env,H,r,h=>by
  obtain⟨m,rfl⟩:∃k,m=k+1:=⟨m-1,by omega⟩
  simp only[iter]at h ⊢
  split at h
  ·rename_i e1 h1 hs
   rw[hfg _ _ _ hs]
   exact iter_mono hfg (by omega) h
  ·rename_i hx
   rw[hfg _ _ _ h]
   split
   ·rename_i e1 h1 hs
    simp only[Option.some.injEq]at hs
    subst hs
    exact(hx _ _ h).elim
   ·rfl

theorem round1_mono {f f' g g':Env→Heap→Out}(hf:∀env H r,f env H=some r→f' env H=some r)(hg:∀env H r,g env H=some r→g' env H=some r){ps:List Nat}{env:Env}{x:List Value}{H:Heap}{r:Ex×Env×Heap}(h:round1 f g ps env x H=some r):round1 f' g' ps env x H=some r:=by
 unfold round1 at h ⊢
 split at h
 ·split at h
  ·rename_i hs
   rw[hf _ _ _ hs]
   dsimp only
   split at h
   ·rename_i hb
    rw[if_pos hb]
    exact hg _ _ _ h
   ·simp at h
  ·simp at h
 ·simp at h
theorem rangeN_mono {f f' g g':Env→Heap→Out}(hf:∀env H r,f env H=some r→f' env H=some r)(hg:∀env H r,g env H=some r→g' env H=some r){ps:List Nat}{env:Env}:∀{l:List (List Value)} {H:Heap} {r:Ex×Env×Heap},rangeN f g ps env l H=some r→rangeN f' g' ps env l H=some r
 | [],_,_,h=>h
 | x::l,H,r,h=>by
  simp only[rangeN]at h ⊢
  split at h
  ·rename_i hs
   rw[round1_mono hf hg hs]
   exact rangeN_mono hf hg h
  ·rename_i ex e1 H1 hx hs
   rw[round1_mono hf hg hs]
   cases ex with
   | nrm=>exact(hx rfl).elim
   | exit id=>exact h
   | ret=>exact h
  ·simp at h

theorem roundsM_mono {f f':Env→Heap→Out}(hf:∀env H r,f env H=some r→f' env H=some r){keep:List Nat}{tE:Nat}{env:Env}{b n L:Nat}:∀{l:List (AV×AV)} {H r:Heap},roundsM f keep tE env b n L l H=some r→roundsM f' keep tE env b n L l H=some r
 | [],_,_,h=>h
 | (k,v)::l,H,r,h=>by
  simp only[roundsM]at h ⊢
  split at h
  ·rename_i hs
   rw[hf _ _ _ hs]
   dsimp only
   split at h
   ·rename_i hc
    rw[if_pos hc]
    exact roundsM_mono hf h
   ·simp at h
  ·simp at h

theorem exec_mono (hC:OLe C C'){n m:Nat}(hn:n≤m){lk lim:Nat}:∀{c:AC} {env:Env} {H:Heap} {r:Ex×Env×Heap},exec C n lk lim c env H=some r→exec C' m lk lim c env H=some r
 | .skip,_,_,_,h=>h
 | .frz,_,_,_,h=>h
 | .regN keep ops,env,H,r,h=>by
  simp only[exec]at h ⊢
  split at h
  ·rename_i hs
   rw[runOps_mono hC hs];exact h
  ·simp at h
 | .regD keep k ops,env,H,r,h=>by
  simp only[exec]at h ⊢
  split at h
  ·rename_i hs
   rw[runD_mono hC hs];exact h
  ·simp at h
 | .seq a b,env,H,r,h=>by
  simp only[exec]at h ⊢
  split at h
  ·rename_i hs
   rw[exec_mono hC hn hs]
   exact exec_mono hC hn h
  ·rename_i hx
   rw[exec_mono hC hn h]
   split
   ·rename_i hs
    simp only[Option.some.injEq]at hs
    subst hs
    exact(hx _ _ h).elim
   ·rfl
 | .cond c a b,env,H,r,h=>by
  simp only[exec]at h ⊢
  split at h
  ·split at h
   ·rename_i ht
    rw[if_pos ht]
    exact exec_mono hC hn h
   ·rename_i ht
    rw[if_neg ht]
    exact exec_mono hC hn h
  ·simp at h
 | .block id b,env,H,r,h=>by
  simp only[exec]at h ⊢
  split at h
  ·rename_i hs
   rw[exec_mono hC hn hs]
   exact h
  ·rename_i hx
   rw[exec_mono hC hn h]
   split
   ·rename_i hs
    simp only[Option.some.injEq]at hs
    subst hs
    exact(hx _ _ _ h).elim
   ·rfl
 | .loop keep b,env,H,r,h=>by
  simp only[exec]at h ⊢
  exact iter_mono (fun _ _ _ hr=>exec_mono hC hn hr) hn h
 | .rangeM keep pre x tI tE body,env,H,r,h=>by
  simp only[exec]at h ⊢
  split at h
  ·split at h
   ·rename_i hs
    rw[roundsM_mono (fun _ _ _ hr=>exec_mono hC hn hr) hs];exact h
   ·simp at h
  ·simp at h
 | .rangeF keep it g ps asg body,env,H,r,h=>by
  simp only[exec]at h ⊢
  split at h
  ·exact rangeN_mono (fun _ _ _ hr=>exec_mono hC hn hr) (fun _ _ _ hr=>exec_mono hC hn hr) h
  ·simp at h
 | .exit _,_,_,_,h=>h
 | .ret,_,_,_,h=>h
 | .bad,_,_,_,h=>by simp[exec]at h
end

theorem callN_mono (X:Orc)(A:FuncId→Option AFn):∀{n m:Nat},n≤m→OLe (callN X A n) (callN X A m)
 | 0,m,_=>fun _ _ _ _ _ _ h=>by
  cases m with
  | zero=>exact h
  | succ m=>
   simp only[callN]at h ⊢
   rw[h]
 | n+1,m,hm=>fun lk lim f as H r h=>by
  obtain⟨m,rfl⟩:∃k,m=k+1:=⟨m-1,by omega⟩
  have ih:=callN_mono X A (n:=n) (m:=m) (by omega)
  simp only[callN]at h ⊢
  split at h
  ·exact h
  ·split at h
   ·simp at h
   ·split at h
    ·unfold finish at h
     split at h
     ·simp at h
     ·rename_i hx hs
      rw[if_pos ‹_›,exec_mono ih (by omega) hs]
      unfold finish
      split
      ·rename_i heq
       simp only[Option.some.injEq,Prod.mk.injEq]at heq
       exact(hx _ heq.1).elim
      ·rename_i heq
       simp only[Option.some.injEq,Prod.mk.injEq]at heq
       obtain⟨_,rfl,rfl⟩:=heq
       exact h
      ·rename_i heq;simp at heq
     ·simp at h
    ·simp at h

open Classical in
noncomputable def iterW (f:Env→Heap→Out)(env:Env)(H:Heap):Out:=if h:∃r n,iter f n env H=some r then some (Classical.choose h) else none

theorem iterW_of {f:Env→Heap→Out}{n:Nat}{env:Env}{H:Heap}{r:Ex×Env×Heap}(h:iter f n env H=some r):iterW f env H=some r:=by
 have hx:∃r n,iter f n env H=some r:=⟨r,n,h⟩
 unfold iterW
 rw[dif_pos hx]
 obtain⟨m,hm⟩:=Classical.choose_spec hx
 have h1:=iter_mono (g:=f) (fun _ _ _ h=>h) (Nat.le_max_left n m) h
 have h2:=iter_mono (g:=f) (fun _ _ _ h=>h) (Nat.le_max_right n m) hm
 rw[h1]at h2
 exact h2.symm
theorem iterW_some {f:Env→Heap→Out}{env:Env}{H:Heap}{r:Ex×Env×Heap}(h:iterW f env H=some r):∃n,iter f n env H=some r:=by
 unfold iterW at h
 split at h
 ·rename_i hx
  simp only[Option.some.injEq]at h
  obtain⟨n,hn⟩:=Classical.choose_spec hx
  exact⟨n,by rw[hn,h]⟩
 ·simp at h

theorem iterW_eq (f:Env→Heap→Out)(env:Env)(H:Heap):iterW f env H=match f env H with
  | some (.nrm,env',H')=>iterW f env' H'
  | r=>r:=by
 have one:∀r,(match f env H with
  | some (.nrm,env',H')=>iterW f env' H'
  | r=>r)=some r→iterW f env H=some r:=fun r h=>by
  split at h
  ·rename_i hs
   obtain⟨n,hn⟩:=iterW_some h
   exact iterW_of (n:=n+1) (by simp only[iter,hs];exact hn)
  ·rename_i hx
   refine iterW_of (n:=1) ?_
   simp only[iter,h]
   cases r with
   | mk x r=>
    cases x with
    | nrm=>exact(hx _ _ h).elim
    | exit id=>rfl
    | ret=>rfl
 have two:∀r,iterW f env H=some r→(match f env H with
  | some (.nrm,env',H')=>iterW f env' H'
  | r=>r)=some r:=fun r h=>by
  obtain⟨n,hn⟩:=iterW_some h
  cases n with
  | zero=>simp[iter]at hn
  | succ n=>
   simp only[iter]at hn
   split at hn
   ·rename_i hs
    rw[hs]
    exact iterW_of hn
   ·rename_i hx
    rw[hn]
    cases r with
    | mk x r=>
     cases x with
     | nrm=>exact(hx _ _ hn).elim
     | exit id=>rfl
     | ret=>rfl
 cases h:iterW f env H with
 | some r=>rw[two r h]
 | none=>
  symm
  cases h2:(match f env H with
   | some (.nrm,env',H')=>iterW f env' H'
   | r=>r) with
  | none=>rfl
  | some r=>rw[one r h2]at h;simp at h

noncomputable def execW (C:Orc)(lk lim:Nat):AC→Env→Heap→Out
 | .skip,env,H=>some (.nrm,env,H)
 | .regN keep ops,env,H=>match runOps C lk lim ops (restrict keep env) H with
  | some (env',H')=>some (.nrm,env',H')
  | none=>none
 | .regD keep m ops,env,H=>match runD C lk lim (wsSel lk lim H.length ops (restrict keep env) (H++List.replicate m .hole)) H.length ops (restrict keep env) (H++List.replicate m .hole) with
  | some (env',H')=>some (.nrm,env',H')
  | none=>none
 | .seq a b,env,H=>match execW C lk lim a env H with
  | some (.nrm,env',H')=>execW C lk lim b env' H'
  | r=>r
 | .cond c a b,env,H=>match ev env c with
  | .val (.bool t)=>if t=true then execW C lk lim a env H else execW C lk lim b env H
  | _=>none
 | .block id b,env,H=>match execW C lk lim b env H with
  | some (.exit id',env',H')=>if id'=id then some (.nrm,env',H') else some (.exit id',env',H')
  | r=>r
 | .loop keep b,env,H=>iterW (fun env H=>execW C lk lim b (restrict keep env) H) env H
 | .rangeM keep pre x tI tE body,env,H=>match rangeOf (pre lk lim) (ev env x) (restrict keep env) H with
  | some (b,es)=>match roundsM (fun e H=>execW C lk lim body e H) (tI::keep) tE ((tI,.hp H.length 0 0)::restrict keep env) b es.length H.length es (H++[.cells []]) with
   | some H'=>some (.nrm,restrict keep env,H')
   | none=>none
  | none=>none
 | .rangeF keep it g ps asg body,env,H=>match itemsOf it g ps (restrict keep env) H with
  | some items=>rangeN (fun e H=>execW C lk lim asg e H) (fun e H=>execW C lk lim body e H) ps (restrict keep env) items H
  | none=>none
 | .exit id,env,H=>some (.exit id,env,H)
 | .ret,env,H=>some (.ret,env,H)
 | .frz,env,H=>match frzC lk lim env H with
  | some (e,h)=>some (.nrm,e,h)
  | none=>none
 | .bad,_,_=>none

theorem exec_le {C C':Orc}(hC:OLe C C'){n:Nat}{lk lim:Nat}:∀{c:AC} {env:Env} {H:Heap} {r:Ex×Env×Heap},exec C n lk lim c env H=some r→execW C' lk lim c env H=some r
 | .skip,_,_,_,h=>h
 | .frz,_,_,_,h=>h
 | .regN keep ops,env,H,r,h=>by
  simp only[exec,execW]at h ⊢
  split at h
  ·rename_i hs
   rw[runOps_mono hC hs];exact h
  ·simp at h
 | .regD keep k ops,env,H,r,h=>by
  simp only[exec,execW]at h ⊢
  split at h
  ·rename_i hs
   rw[runD_mono hC hs];exact h
  ·simp at h
 | .seq a b,env,H,r,h=>by
  simp only[exec,execW]at h ⊢
  split at h
  ·rename_i hs
   rw[exec_le hC hs]
   exact exec_le hC h
  ·rename_i hx
   rw[exec_le hC h]
   split
   ·rename_i hs
    simp only[Option.some.injEq]at hs
    subst hs
    exact(hx _ _ h).elim
   ·rfl
 | .cond c a b,env,H,r,h=>by
  simp only[exec,execW]at h ⊢
  split at h
  ·rename_i hc
   rw[hc]
   dsimp only
   split at h
   ·rename_i ht
    rw[if_pos ht]
    exact exec_le hC h
   ·rename_i ht
    rw[if_neg ht]
    exact exec_le hC h
  ·simp at h
 | .block id b,env,H,r,h=>by
  simp only[exec,execW]at h ⊢
  split at h
  ·rename_i hs
   rw[exec_le hC hs]
   exact h
  ·rename_i hx
   rw[exec_le hC h]
   split
   ·rename_i hs
    simp only[Option.some.injEq]at hs
    subst hs
    exact(hx _ _ _ h).elim
   ·rfl
 | .loop keep b,env,H,r,h=>by
  simp only[exec,execW]at h ⊢
  exact iterW_of (iter_mono (fun _ _ _ hr=>exec_le hC hr) (Nat.le_refl n) h)
 | .rangeM keep pre x tI tE body,env,H,r,h=>by
  simp only[exec,execW]at h ⊢
  split at h
  ·rename_i hx
   rw[hx]
   dsimp only
   split at h
   ·rename_i hs
    rw[roundsM_mono (fun _ _ _ hr=>exec_le hC hr) hs];exact h
   ·simp at h
  ·simp at h
 | .rangeF keep it g ps asg body,env,H,r,h=>by
  simp only[exec,execW]at h ⊢
  split at h
  ·rename_i hit
   rw[hit]
   exact rangeN_mono (fun _ _ _ hr=>exec_le hC hr) (fun _ _ _ hr=>exec_le hC hr) h
  ·simp at h
 | .exit _,_,_,_,h=>h
 | .ret,_,_,_,h=>h
 | .bad,_,_,_,h=>by simp[exec]at h

section
variable (X:Orc)(A:FuncId→Option AFn)

open Classical in
noncomputable def callW:Orc:=fun lk lim f as H=>if h:∃r n,callN X A n lk lim f as H=some r then some (Classical.choose h) else none

variable {X A}
theorem callW_of {n:Nat}{lk lim:Nat}{f:FuncId}{as:List AV}{H:Heap}{r:AV×Heap}(h:callN X A n lk lim f as H=some r):callW X A lk lim f as H=some r:=by
 have hx:∃r n,callN X A n lk lim f as H=some r:=⟨r,n,h⟩
 unfold callW
 rw[dif_pos hx]
 obtain⟨m,hm⟩:=Classical.choose_spec hx
 have h1:=callN_mono X A (Nat.le_max_left n m) _ _ _ _ _ _ h
 have h2:=callN_mono X A (Nat.le_max_right n m) _ _ _ _ _ _ hm
 rw[h1]at h2
 exact h2.symm
theorem callW_some {lk lim:Nat}{f:FuncId}{as:List AV}{H:Heap}{r:AV×Heap}(h:callW X A lk lim f as H=some r):∃n,callN X A n lk lim f as H=some r:=by
 unfold callW at h
 split at h
 ·rename_i hx
  simp only[Option.some.injEq]at h
  obtain⟨n,hn⟩:=Classical.choose_spec hx
  exact⟨n,by rw[hn,h]⟩
 ·simp at h
theorem callN_le (n:Nat):OLe (callN X A n) (callW X A):=fun _ _ _ _ _ _ h=>callW_of h


theorem actOp_fin {lk lim:Nat}{dst:Option Nat}{op:AOp}{env:Env}{H:Heap}{r:Env×Heap}(h:actOp (callW X A) lk lim dst op env H=some r):∃n,actOp (callN X A n) lk lim dst op env H=some r:=by
 unfold actOp at h ⊢
 split at h
 ·exact⟨0,h⟩
 ·exact⟨0,h⟩
 ·exact⟨0,h⟩
 ·split at h
  case h_2=>simp at h
  rename_i g as hg
  split at h
  case isFalse=>simp at h
  rename_i ha
  split at h
  case h_2=>simp at h
  rename_i v H' hc
  obtain⟨n,hn⟩:=callW_some hc
  refine⟨n,?_⟩
  simp only[ha,if_true,hn]
  exact h
 ·exact⟨0,h⟩

theorem actD_fin {lk lim base cb:Nat}{dst:Option Nat}{op:AOp}{k:Nat}{env:Env}{H:Heap}{r:Env×Heap}(h:actD (callW X A) lk lim base cb dst op k env H=some r):∃n,actD (callN X A n) lk lim base cb dst op k env H=some r:=by
 unfold actD at h ⊢
 split at h
 ·exact⟨0,h⟩
 ·exact⟨0,h⟩
 ·exact⟨0,h⟩
 ·split at h
  case h_2=>simp at h
  rename_i g as hg
  split at h
  case isFalse=>simp at h
  rename_i ha
  split at h
  case h_2=>simp at h
  rename_i v H' hc
  obtain⟨n,hn⟩:=callW_some hc
  refine⟨n,?_⟩
  rw[if_pos ha]
  simp only[hn]
  exact h
 ·exact⟨0,h⟩

theorem actF_fin {lk lim:Nat}{dst:Option Nat}{op:AOp}{env:Env}{H:Heap}{r:Env×Heap}(h:actF (callW X A) lk lim dst op env H=some r):∃n,actF (callN X A n) lk lim dst op env H=some r:=by
 unfold actF at h ⊢
 split at h
 case h_2=>simp at h
 split at h
 case isFalse=>simp at h
 rename_i ha
 split at h
 case h_2=>simp at h
 rename_i v H' hc
 obtain⟨n,hn⟩:=callW_some hc
 refine⟨n,?_⟩
 rw[if_pos ha]
 simp only[hn]
 exact h

theorem stepI_fin {lk lim:Nat}{i:AI}{env:Env}{H:Heap}{r:Env×Heap}(h:stepI (callW X A) lk lim i env H=some r):∃n,stepI (callN X A n) lk lim i env H=some r:=by
 unfold stepI at h ⊢
 split at h
 ·exact actOp_fin h
 ·exact⟨0,h⟩
 ·exact⟨0,h⟩
theorem stepD_fin {ws:WS}{lk lim base cb:Nat}{i:AI}{env:Env}{H:Heap}{r:Env×Heap}(h:stepD (callW X A) lk lim ws base cb i env H=some r):∃n,stepD (callN X A n) lk lim ws base cb i env H=some r:=by
 unfold stepD at h ⊢
 split at h
 ·split at h
  ·rename_i hok
   split at h
   ·rename_i hfr
    obtain⟨n,hn⟩:=actF_fin h
    exact⟨n,by rw[if_pos hok,if_pos hfr];exact hn⟩
   ·rename_i hfr
    obtain⟨n,hn⟩:=actD_fin h
    exact⟨n,by rw[if_pos hok,if_neg hfr];exact hn⟩
  ·simp at h
 ·exact⟨0,h⟩
 ·exact⟨0,h⟩

theorem runOps_fin {lk lim:Nat}:∀{l:List AI} {env:Env} {H:Heap} {r:Env×Heap},runOps (callW X A) lk lim l env H=some r→∃n,runOps (callN X A n) lk lim l env H=some r
 | [],_,_,_,h=>⟨0,h⟩
 | i::l,env,H,r,h=>by
  simp only[runOps]at h ⊢
  split at h
  ·rename_i e1 h1 hs
   obtain⟨n,hn⟩:=stepI_fin hs
   obtain⟨m,hm⟩:=runOps_fin h
   refine⟨max n m,?_⟩
   rw[stepI_mono (callN_mono X A (Nat.le_max_left n m)) hn]
   exact runOps_mono (callN_mono X A (Nat.le_max_right n m)) hm
  ·simp at h
theorem runD_fin {ws:WS}{lk lim base:Nat}:∀{l:List AI} {env:Env} {H:Heap} {r:Env×Heap},runD (callW X A) lk lim ws base l env H=some r→∃n,runD (callN X A n) lk lim ws base l env H=some r
 | [],_,_,_,h=>⟨0,h⟩
 | i::l,env,H,r,h=>by
  simp only[runD]at h ⊢
  split at h
  ·rename_i e1 h1 hs
   obtain⟨n,hn⟩:=stepD_fin hs
   obtain⟨m,hm⟩:=runD_fin h
   refine⟨max n m,?_⟩
   rw[stepD_mono (callN_mono X A (Nat.le_max_left n m)) hn]
   exact runD_mono (callN_mono X A (Nat.le_max_right n m)) hm
  ·simp at h

theorem exec_up {n m:Nat}(h:n≤m){lk lim:Nat}{c:AC}{env:Env}{H:Heap}{r:Ex×Env×Heap}(he:exec (callN X A n) n lk lim c env H=some r):exec (callN X A m) m lk lim c env H=some r:=
 exec_mono (callN_mono X A h) h he

theorem execW_fin {lk lim:Nat}:∀{c:AC} {env:Env} {H:Heap} {r:Ex×Env×Heap},execW (callW X A) lk lim c env H=some r→∃n,exec (callN X A n) n lk lim c env H=some r
 | .skip,_,_,_,h=>⟨0,h⟩
 | .frz,_,_,_,h=>⟨0,h⟩
 | .regN keep ops,env,H,r,h=>by
  simp only[exec,execW]at h ⊢
  split at h
  ·rename_i hs
   obtain⟨n,hn⟩:=runOps_fin hs
   exact⟨n,by rw[hn];exact h⟩
  ·simp at h
 | .regD keep k ops,env,H,r,h=>by
  simp only[exec,execW]at h ⊢
  split at h
  ·rename_i hs
   obtain⟨n,hn⟩:=runD_fin hs
   exact⟨n,by rw[hn];exact h⟩
  ·simp at h
 | .seq a b,env,H,r,h=>by
  simp only[exec,execW]at h ⊢
  split at h
  ·rename_i hs
   obtain⟨n,hn⟩:=execW_fin hs
   obtain⟨m,hm⟩:=execW_fin h
   refine⟨max n m,?_⟩
   rw[exec_up (Nat.le_max_left n m) hn]
   exact exec_up (Nat.le_max_right n m) hm
  ·rename_i hx
   obtain⟨n,hn⟩:=execW_fin h
   refine⟨n,?_⟩
   rw[hn]
   split
   ·rename_i hs
    simp only[Option.some.injEq]at hs
    subst hs
    exact(hx _ _ h).elim
   ·rfl
 | .cond c a b,env,H,r,h=>by
  simp only[exec,execW]at h ⊢
  split at h
  ·rename_i hc
   rw[hc]
   dsimp only
   split at h
   ·rename_i ht
    obtain⟨n,hn⟩:=execW_fin h
    exact⟨n,by rw[if_pos ht];exact hn⟩
   ·rename_i ht
    obtain⟨n,hn⟩:=execW_fin h
    exact⟨n,by rw[if_neg ht];exact hn⟩
  ·simp at h
 | .block id b,env,H,r,h=>by
  simp only[exec,execW]at h ⊢
  split at h
  ·rename_i hs
   obtain⟨n,hn⟩:=execW_fin hs
   exact⟨n,by rw[hn];exact h⟩
  ·rename_i hx
   obtain⟨n,hn⟩:=execW_fin h
   refine⟨n,?_⟩
   rw[hn]
   split
   ·rename_i hs
    simp only[Option.some.injEq]at hs
    subst hs
    exact(hx _ _ _ h).elim
   ·rfl
 | .loop keep b,env,H,r,h=>by
  simp only[exec,execW]at h ⊢
  obtain⟨k,hk⟩:=iterW_some h
  have key:∀(k:Nat) (env:Env) (H:Heap),iter (fun env H=>execW (callW X A) lk lim b (restrict keep env) H) k env H=some r→∃n,iter (fun env H=>exec (callN X A n) n lk lim b (restrict keep env) H) n env H=some r:=by
   intro k
   induction k with
   | zero=>intro env H h;simp[iter]at h
   | succ k ih=>
    intro env H h
    simp only[iter]at h
    split at h
    ·rename_i e1 h1 hs
     obtain⟨n,hn⟩:=execW_fin hs
     obtain⟨m,hm⟩:=ih _ _ h
     refine⟨max n m+1,?_⟩
     simp only[iter]
     rw[exec_up (Nat.le_trans (Nat.le_max_left n m) (Nat.le_succ _)) hn]
     exact iter_mono (fun _ _ _ hr=>exec_up (Nat.le_trans (Nat.le_max_right n m) (Nat.le_succ _)) hr) (Nat.le_max_right n m) hm
    ·rename_i hx
     obtain⟨n,hn⟩:=execW_fin h
     refine⟨n+1,?_⟩
     simp only[iter]
     rw[exec_up (Nat.le_succ _) hn]
     split
     ·rename_i hs
      simp only[Option.some.injEq]at hs
      subst hs
      exact(hx _ _ h).elim
     ·rfl
  exact key k env H hk
 | .rangeM keep pre x tI tE body,env,H,r,h=>by
  simp only[exec,execW]at h ⊢
  split at h
  case h_2=>simp at h
  rename_i b es hx
  rw[hx]
  dsimp only
  split at h
  case h_2=>simp at h
  rename_i H' hs
  have key:∀(l:List (AV×AV)) {e0:Env} {L:Nat} {H H':Heap},roundsM (fun e H=>execW (callW X A) lk lim body e H) (tI::keep) tE e0 b es.length L l H=some H'→
    ∃n,roundsM (fun e H=>exec (callN X A n) n lk lim body e H) (tI::keep) tE e0 b es.length L l H=some H':=by
   intro l
   induction l with
   | nil=>intro e0 L H H' h;exact⟨0,h⟩
   | cons p l ih=>
    obtain⟨k,v⟩:=p
    intro e0 L H H' h
    simp only[roundsM]at h ⊢
    split at h
    ·rename_i hs
     split at h
     ·rename_i hc
      obtain⟨n,hn⟩:=execW_fin hs
      obtain⟨m,hm⟩:=ih h
      refine⟨max n m,?_⟩
      rw[exec_up (Nat.le_max_left n m) hn]
      dsimp only
      rw[if_pos hc]
      exact roundsM_mono (fun _ _ _ hr=>exec_up (Nat.le_max_right n m) hr) hm
     ·simp at h
    ·simp at h
  obtain⟨n,hn⟩:=key es hs
  exact⟨n,by rw[hn];exact h⟩
 | .rangeF keep it g ps asg body,env,H,r,h=>by
  simp only[exec,execW]at h ⊢
  split at h
  case h_2=>simp at h
  rename_i items hit
  have one:∀{x:List Value} {H:Heap} {r:Ex×Env×Heap},round1 (fun e H=>execW (callW X A) lk lim asg e H) (fun e H=>execW (callW X A) lk lim body e H) ps (restrict keep env) x H=some r→
    ∃n,round1 (fun e H=>exec (callN X A n) n lk lim asg e H) (fun e H=>exec (callN X A n) n lk lim body e H) ps (restrict keep env) x H=some r:=by
   intro x H r h
   unfold round1 at h ⊢
   split at h
   ·split at h
    ·rename_i hs
     split at h
     case isFalse=>simp at h
     rename_i hb
     obtain⟨n,hn⟩:=execW_fin hs
     obtain⟨m,hm⟩:=execW_fin h
     refine⟨max n m,?_⟩
     dsimp only
     rw[exec_up (Nat.le_max_left n m) hn]
     dsimp only
     rw[if_pos hb]
     exact exec_up (Nat.le_max_right n m) hm
    ·simp at h
   ·simp at h
  have key:∀(l:List (List Value)) (H:Heap),rangeN (fun e H=>execW (callW X A) lk lim asg e H) (fun e H=>execW (callW X A) lk lim body e H) ps (restrict keep env) l H=some r→
    ∃n,rangeN (fun e H=>exec (callN X A n) n lk lim asg e H) (fun e H=>exec (callN X A n) n lk lim body e H) ps (restrict keep env) l H=some r:=by
   intro l
   induction l with
   | nil=>intro H h;exact⟨0,h⟩
   | cons x l ih=>
    intro H h
    simp only[rangeN]at h ⊢
    split at h
    ·rename_i hs
     obtain⟨n,hn⟩:=one hs
     obtain⟨m,hm⟩:=ih _ h
     refine⟨max n m,?_⟩
     rw[round1_mono (fun _ _ _ hr=>exec_up (Nat.le_max_left n m) hr) (fun _ _ _ hr=>exec_up (Nat.le_max_left n m) hr) hn]
     exact rangeN_mono (fun _ _ _ hr=>exec_up (Nat.le_max_right n m) hr) (fun _ _ _ hr=>exec_up (Nat.le_max_right n m) hr) hm
    ·rename_i ex e1 H1 hx hs
     obtain⟨n,hn⟩:=one hs
     refine⟨n,?_⟩
     rw[hn]
     cases ex with
     | nrm=>exact(hx rfl).elim
     | exit id=>exact h
     | ret=>exact h
    ·simp at h
  rw[hit]
  exact key items H h
 | .exit _,_,_,_,h=>⟨0,h⟩
 | .ret,_,_,_,h=>⟨0,h⟩
 | .bad,_,_,_,h=>by simp[execW]at h

theorem finish_some {fd:AFn}{H:Heap}{o:Out}{r:AV×Heap}(h:finish fd H o=some r):∃q,o=some q:=by
 cases o with
 | none=>simp[finish]at h
 | some q=>exact⟨q,rfl⟩

theorem callW_eq {lk lim:Nat}{f:FuncId}{as:List AV}{H:Heap}{fd:AFn}(hX:X lk lim f as H=none)(hA:A f=some fd)(hl:as.length=fd.np):
  callW X A lk lim f as H=finish fd H (execW (callW X A) lk (if fd.trunc then H.length else lim) fd.body (enterFrom 0 as) H):=by
 cases h:finish fd H (execW (callW X A) lk (if fd.trunc then H.length else lim) fd.body (enterFrom 0 as) H) with
 | some r=>
  obtain⟨q,hq⟩:=finish_some h
  obtain⟨n,hn⟩:=execW_fin hq
  refine callW_of (n:=n+1) ?_
  simp only[callN,hX,hA,if_pos hl]
  rw[hn,←hq];exact h
 | none=>
  cases h2:callW X A lk lim f as H with
  | none=>rfl
  | some r=>
   obtain⟨n,hn⟩:=callW_some h2
   cases n with
   | zero=>simp[callN,hX]at hn
   | succ n=>
    simp only[callN,hX,hA,if_pos hl]at hn
    obtain⟨q,hq⟩:=finish_some hn
    rw[exec_le (callN_le n) hq,←hq,hn]at h
    simp at h

theorem callW_prim {lk lim:Nat}{f:FuncId}{as:List AV}{H:Heap}{r:AV×Heap}(hX:X lk lim f as H=some r):callW X A lk lim f as H=some r:=
 callW_of (n:=0) hX

theorem callW_ok {P:Program}(hm:P.follows .mixedOrders=true)(hX:OrcOk P X)(hXF:OrcFr X)(hA:FnsOk P A)(hR:RmA X A):OrcOk P (callW X A):=fun lk lim f as H r H' h=>by
 obtain⟨n,hn⟩:=callW_some h
 exact callN_ok hm hX hXF hA hR n _ _ _ _ _ _ _ hn
end

def assoc:List (Nat×AFn)→FuncId→Option AFn
 | [],_=>none
 | (k,fd)::r,f=>if k=f then some fd else assoc r f

def Comp1 (P:Program)(p:Nat×AFn):Prop:=∃pm ks,compF P (p.1 % 1000) pm ks p.2.trunc=some p.2∧SqOk P pm.it∧(pm.fz=none∨noRm p.2.body=true)
theorem mem_nil_ok {P:Program}:∀p∈([]:List (Nat×AFn)),Comp1 P p:=by simp
theorem mem_cons_ok {P:Program}{p:Nat×AFn}{l:List (Nat×AFn)}(h:Comp1 P p)(k:∀q∈l,Comp1 P q):∀q∈p::l,Comp1 P q:=by
 intro q hq
 rcases List.mem_cons.1 hq with h1 | h1
 ·subst h1;exact h
 ·exact k q h1
theorem assoc_mem:∀{l:List (Nat×AFn)} {f:FuncId} {fd:AFn},assoc l f=some fd→(f,fd)∈l
 | [],_,_,h=>by simp[assoc]at h
 | (k,fd')::r,f,fd,h=>by
  simp only[assoc]at h
  split at h
  ·rename_i e
   simp only[Option.some.injEq]at h
   subst h;subst e
   exact List.mem_cons_self ..
  ·exact List.mem_cons_of_mem _ (assoc_mem h)
theorem rmA_of {X:Orc}{l:List (Nat×AFn)}(h:∀p∈l,noRm p.2.body=true∨∀n lk lim,RmOks (callN X (assoc l) n) n lk lim p.2.body):RmA X (assoc l):=fun f fd hf n lk lim=>
 (h _ (assoc_mem hf)).elim (fun h=>RmOks.of h) (fun h=>h n lk lim)
theorem assoc_ok {P:Program}{l:List (Nat×AFn)}(h:∀p∈l,Comp1 P p):FnsOk P (assoc l):=fun _ _ hf=>h _ (assoc_mem hf)
end Go.Hm

namespace Go.Hm
open Go

theorem callW_fr {X:Orc}{A:FuncId→Option AFn}(h:OrcFr X):OrcFr (callW X A):=
 ⟨fun lk lim f as H r H' hx=>by
  obtain⟨n,hn⟩:=callW_some hx
  exact(callN_fr (A:=A) h n).len _ _ _ _ _ _ _ hn,fun lk lim f as H r H' hx=>by
  obtain⟨n,hn⟩:=callW_some hx
  exact(callN_fr (A:=A) h n).lock _ _ _ _ _ _ _ hn,fun lk lim f as H r H' hx=>by
  obtain⟨n,hn⟩:=callW_some hx
  exact(callN_fr (A:=A) h n).cl _ _ _ _ _ _ _ hn⟩
end Go.Hm

