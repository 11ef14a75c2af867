/- The machine HM, part 6. -/
import Derived.Test.YtkllbcjanneppaaGreatHmG5
import Derived.LoopNIn
set_option linter.all false
namespace Go.Hm
open Go Go.RowKit

section
variable {P:Program}{φ0:Phi}{F0:Nat->Nat->Prop}{H0:Heap}{w0:World}{T:TT}{C:Orc}{lk lim:Nat}{ws:WS}{pm:Pm}

theorem Full.heap {φ:Phi}{F:Nat->Nat->Prop}{H H':Heap}{w:World}{β:Nat->Nat}{env:Env}{act:Act}(f:Full φ0 F0 H0 w0 φ F H w β env act T)(h:∀(b:Nat) cs,H'[b]?=some (.cells cs)↔H[b]?=some (.cells cs))(hm:∀(b:Nat) es,H'[b]?=some (.map es)↔H[b]?=some (.map es)):
  Full φ0 F0 H0 w0 φ F H' w β env act T:=by
 have e:Ext φ F H w φ F H' w:=⟨fun b cs hb=>⟨cs,(h b cs).2 hb,Nat.le_refl _,fun _=>rfl⟩,fun b es hb=>⟨⟨es,(hm b es).2 hb⟩,rfl⟩,fun k o hk=>⟨hk,rfl⟩,Wm.refl w⟩;have lv:∀b,live H' b->live H b:=fun b ⟨x,h1,h2⟩=>by
  cases x with
  | hole=>exact h2.elim
  | cells cs=>exact⟨_,(h b cs).1 h1,h2⟩
  | map es=>exact⟨_,(hm b es).1 h1,h2⟩
 have sr:SR φ F H' w:=⟨fun b cs hb hne=>by
  obtain⟨arr,ty,ha,hc⟩:=f.st.sr.blk b cs ((h b cs).1 hb) hne;exact⟨arr,ty,ha,fun i a hi=>by
   obtain⟨v,hv,hr⟩:=hc i a hi;exact⟨v,hv,hr.mono e⟩⟩,fun b es hb=>by
  obtain⟨ces,clk,ha,hr⟩:=f.st.sr.mblk b es ((hm b es).1 hb);exact⟨ces,clk,ha,hr.mono e⟩,fun b b' h1 h2=>f.st.sr.inj b b' (lv b h1) (lv b' h2),fun b o hl=>f.st.sr.phiF b o (lv b hl),f.st.sr.fsz⟩
 exact⟨f.st.mono e sr (fun t cs ht=>⟨rfl,fun b hl=>f.st.bphi t cs b ht (lv b hl),fun o=>f.st.bF t cs o ht⟩),f.ext.trans e,f.chg,fun b hl=>f.phi b (lv b hl),f.beta,f.dfr,f.frn⟩

theorem Bp {i:AI}(h:cls2 i= .make):cls i.op= .make:=by
 unfold cls2 at h;split at h
 ·cases h
 ·split at h
  ·cases h
  ·exact h

theorem vz (rw:List Nat)(ops:Array Oper)(l:List AI):(mark rw ops l).length=l.length:=by simp[mark]
theorem Bq (rw:List Nat)(ops:Array Oper)(l:List AI)(j:Nat):SameBut ((mark rw ops l).getD j default) (l.getD j default):=by
 unfold mark;dsimp only;rw[R3,List.getElem?_map];by_cases h:j<l.length
 ·rw[List.getElem?_range h];exact⟨rfl,rfl,rfl⟩
 ·rw[List.getElem?_eq_none (by simpa using h)]
  have:l.getD j default=default:=by
   rw[R3,List.getElem?_eq_none (by omega)];rfl
  rw[this];exact⟨rfl,rfl,rfl⟩
theorem SameBut.trans {a b c:AI}(h:SameBut a b)(k:SameBut b c):SameBut a c:=⟨h.1.trans k.1,h.2.1.trans k.2.1,h.2.2.trans k.2.2⟩

theorem nj:∀(l:List AI) (k j:Nat),SameBut ((lM l k).getD j default) (l.getD j default)
 | [],k,j=>⟨rfl,rfl,rfl⟩
 | i::r,k,0=>by
  simp only[lM];split<;>exact⟨rfl,rfl,rfl⟩
 | i::r,k,j+1=>by
  simp only[lM];split
  ·simpa using nj r (k+1) j
  ·simpa using nj r k j
theorem oh:∀(l:List AI) (k:Nat),(lM l k).length=l.length
 | [],k=>rfl
 | i::r,k=>by
  simp only[lM];split<;>simp[oh r]
theorem nk:∀(l:List AI) (k:Nat),((lM l k).filter dJ).length=(l.filter dJ).length
 | [],k=>rfl
 | i::r,k=>by
  simp only[lM];split
  ·rename_i h;have h':dJ { i with at_:=k }=true:=h;simp[h,h',nk r]
  ·rename_i h;simp[h,nk r]

theorem jo (l:List AI):(List.range l.length).map (l.getD · default)=l:=by
 apply List.ext_getElem?;intro j;rw[List.getElem?_map];by_cases h:j<l.length
 ·rw[List.getElem?_range h];simp[h]
 ·rw[List.getElem?_eq_none (by simp;omega),List.getElem?_eq_none (by omega)]
  rfl

theorem Br (rw:List Nat)(ops:Array Oper)(l:List AI):((mark rw ops l).filter dJ).length=(l.filter dJ).length:=by
 have h:(l.filter dJ).length=(((List.range l.length).map (l.getD · default)).filter dJ).length:=by rw[jo]
 rw[h];unfold mark;dsimp only;rw[List.filter_map,List.filter_map,List.length_map,List.length_map];rfl

theorem Db (hC:bI P C)(hF:OrcFr C)(hT:pm.T=T){φ:Phi}{F:Nat->Nat->Prop}{H:Heap}{w:World}{β:Nat->Nat}{env:Env}{act:Act}{ops:Array Oper}{keep:List Nat}{env':Env}{H':Heap}{Q:Exit->Act->World->Prop}
  (f:Full φ0 F0 H0 w0 φ F H w β env act T) (hd:tB ops (mark pm.rows ops (lM (ops.toList.map (dT P pm ops)) 0))=true)
  (h:cX C lk lim ws H.length (mark pm.rows ops (lM (ops.toList.map (dT P pm ops)) 0)) (ab keep env) (H++List.replicate ((ops.toList.map (dT P pm ops)).filter dJ).length .hole)=some (env',H'))
  (hQ:∀act' w',dK φ0 F0 H0 w0 H' env' T act' w'->Q .normal act' w'):wpAny P .any ops Q ops.size (Array.replicate ops.size false) act w.drew:=by
 obtain⟨φ1,F1,β1,f1⟩:dK φ0 F0 H0 w0 H env T act w.drew:=pN f (dst:=none) (v:=.und) (cv:=undef) (F':=F) (fun d h=>by cases h) rfl (Below.refl w.heap.size w).drew (fun _ _ h=>h) (fun _ _ h=>.inl h) rfl
 generalize hl:mark pm.rows ops (lM (ops.toList.map (dT P pm ops)) 0)=l at hd h;have hlen:l.length=ops.size:=by rw[<-hl,vz,oh,List.length_map,Array.length_toList]
 have hmk:((ops.toList.map (dT P pm ops)).filter dJ).length=(l.filter dJ).length:=by rw[<-hl,Br,nk]
 rw[hmk]at h;have f2:Full φ0 F0 H0 w0 φ1 F1 (H++List.replicate (l.filter dJ).length .hole) w.drew β1 (ab keep env) act T:=by
  refine(f1.sub (dz keep env)).heap (fun b cs=>?_) (fun b es=>?_);all_goals
   by_cases hb:b<H.length
   ·rw[List.getElem?_append_left hb]
   ·rw[List.getElem?_append_right (by omega),List.getElem?_eq_none (l:=H) (by omega),List.getElem?_replicate]
    split<;>simp
 have hrest:rest ops.size (Array.replicate ops.size false)=List.range ops.size:=by
  unfold rest;rw[List.filter_eq_self];intro i hi;rw[List.mem_range]at hi;simp[Array.getD_eq_getD_getElem?,hi]
 have hmap:(rest ops.size (Array.replicate ops.size false)).map (l.getD · default)=l:=by rw[hrest,<-hlen];exact jo l
 refine r7 (w:=w.drew) hC hF hT (DrawOk.of hd) (fun j o ho=>?_) hQ ops.size (Array.replicate ops.size false) (by simp) (by rw[hrest];simp) (fun i o ho hi=>?_) f2 (fun _=>?_) ?_ (by rw[hmap];exact h) (EqE.refl _)
 ·have:=(Bq pm.rows ops (lM (ops.toList.map (dT P pm ops)) 0) j).trans (nj (ops.toList.map (dT P pm ops)) 0 j);rw[hl]at this;have e:(ops.toList.map (dT P pm ops)).getD j default=dT P pm ops o:=by
   rw[R3,List.getElem?_map];simp[ho]
  rw[e]at this;exact this
 ·have hlt:=(Array.getElem?_eq_some_iff.1 ho).1;simp[Array.getD_eq_getD_getElem?,hlt]at hi
 ·have:Cl H.length H:=f1.st.sr.cl;exact this.append (Nat.le_refl _)
 ·rw[hmap];refine⟨by simp,fun i hi hmi=>?_⟩
  have:0<(l.filter dJ).length:=List.length_pos_of_mem (List.mem_filter.2 ⟨hi,by unfold dJ;rw[Bp hmi];rfl⟩)
  rw[List.length_append,List.length_replicate];omega

def p5:Ex->Exit
 | .nrm=>.normal
 | .exit id=>.exit id
 | .ret=>.ret

def Begun (φ:Phi)(F:Nat->Nat->Prop)(H:Heap)(w:World)(B:World)(Z:Nat->Prop):Prop:=
 ∃φ' F',SR φ' F' H B/\Ext φ F H w φ' F' H B/\Chg w B (fun k=>∃b,live H b/\(φ b).1=k)/\(∀b,live H b->(live H b/\φ b=φ' b)\/w.heap.size<=(φ' b).1)/\(∀k o,F' k o->F k o\/w.heap.size<=k)/\
  ∀k,Z k->(∃o,F' k o)/\∃arr ty fr,B.heap[k]?=some (.cells arr ty fr)
theorem Begun.refl {φ:Phi}{F:Nat->Nat->Prop}{H:Heap}{w:World}(sr:SR φ F H w):Begun φ F H w w (fun _=>False):=
 ⟨φ,F,sr,Ext.refl _ _ _ _,Chg.refl _ _,fun b hl=>.inl ⟨hl,rfl⟩,fun _ _ h=>.inl h,fun _ h=>h.elim⟩
def xX (P:Program)(it:FuncId->List AV->Heap->Option (List (List Value))):Prop:=∀f cap H items,it f cap H=some items->jk P (f % 1000)/\(∀x∈items,∀v∈x,scal v=true)/\
 ∀φ F w vs,SR φ F H w->CL φ F H w cap vs->Hh P (Begun φ F H w) (f % 1000) vs.toArray (items.map List.toArray) w
end
section
variable {P:Program}{C:Orc}{lk lim:Nat}

theorem xY {f g:Env->Heap->Out}{ps:List Nat}{env:Env}{x:List Value}{r:List (List Value)}{H:Heap}{q:Ex×Env×Heap}(h:cm f g ps env (x::r) H=some q):
  ∃e,ja ps x env=some e/\∃e1 H1,f e H=some (.nrm,e1,H1)/\eT e1=true/\∃x2 e2 H2,g e1 H1=some (x2,e2,H2)/\((x2= .nrm/\cm f g ps env r H2=some q)\/(x2≠.nrm/\q=(x2,env,H2))):=by
 simp only[cm]at h;unfold eU at h;cases hp:ja ps x env with
 | none=>simp[hp]at h
 | some e=>
  simp only[hp]at h;refine⟨e,rfl,?_⟩;cases hf:f e H with
  | none=>simp[hf]at h
  | some p=>
   obtain⟨x1,e1,H1⟩:=p;cases x1 with
   | exit id=>simp[hf]at h
   | ret=>simp[hf]at h
   | nrm=>
    simp only[hf]at h;cases hb:eT e1 with
    | false=>simp[hb]at h
    | true=>
     simp only[hb,if_true]at h;refine⟨e1,H1,rfl,hb,?_⟩;cases hg:g e1 H1 with
     | none=>simp[hg]at h
     | some p=>
      obtain⟨x2,e2,H2⟩:=p;refine⟨x2,e2,H2,rfl,?_⟩;cases x2 with
      | nrm=>simp only[hg]at h;exact .inl ⟨rfl,h⟩
      | exit id=>simp only[hg,RZ]at h;exact .inr ⟨by simp,h.symm⟩
      | ret=>simp only[hg,RZ]at h;exact .inr ⟨by simp,h.symm⟩

theorem zC {φ0:Phi}{F0:Nat->Nat->Prop}{H0:Heap}{w0:World}{φ:Phi}{F:Nat->Nat->Prop}{H:Heap}{w:World}{β:Nat->Nat}{env:Env}{act:Act}{T:TT}{D:Nat}(hrd:T.rd=none)(f:Full φ0 F0 H0 w0 φ F H w β env act T)(hD:w.heap.size<=D):
  ({ target:=.collected D,args:=#[] }:Deferred)∉act.defers:=fun h=>by
 have hd:=f.dfr;unfold Dfr at hd;rw[hrd]at hd;obtain⟨r,h1,_,_,h2⟩:=hd.2 _ h;simp only[Deferred.mk.injEq,Target.collected.injEq,and_true]at h1;subst h1;have:=(Array.getElem?_eq_some_iff.1 h2).1;omega
def KX:Ex->Code
 | .nrm=>.skip
 | .exit id=>.exit id
 | .ret=>.ret

theorem fJ (hm:P.follows .mixedOrders=true)(hC:bI P C)(hF:OrcFr C){n:Nat}:∀(c:Code) (ks:List (List Nat)) {pm:Pm} {ro:Option Nat} {T:TT} {φ0:Phi} {F0:Nat->Nat->Prop} {H0:Heap} {w0:World} {φ:Phi} {F:Nat->Nat->Prop} {H:Heap} {w:World} {β:Nat->Nat} {env:Env} {act:Act} {ex:Ex} {env':Env} {H':Heap} {Q:Exit->Act->World->Prop},
  pm.T=T->xX P pm.it->((ro=none/\T.rd=none)\/pm.inR=true)->(∀k o,F0 k o->k<w0.heap.size)->
  Full φ0 F0 H0 w0 φ F H w β env act T->aO C n lk lim (bi P pm c ks).1 env H=some (ex,env',H')->(∀act' w',dK φ0 F0 H0 w0 H' env' T act' w'->Q (p5 ex) act' w')->c.wpIn (FR ro) 0 P Q act w:=by
 intro c;induction c with
 | skip=>
  intro ks pm ro T φ0 F0 H0 w0 φ F H w β env act ex env' H' Q hT hS hro hF0 f h hQ;simp only[bi,aO,RZ,R0]at h;obtain⟨rfl,rfl,rfl⟩:=h;exact wpIn_skip (hQ _ _ ⟨_,_,_,f⟩)
 | label l=>
  intro ks pm ro T φ0 F0 H0 w0 φ F H w β env act ex env' H' Q hT hS hro hF0 f h hQ;simp only[bi,aO,RZ,R0]at h;obtain⟨rfl,rfl,rfl⟩:=h;exact wpIn_label (hQ _ _ ⟨_,_,_,f⟩)
 | exit id=>
  intro ks pm ro T φ0 F0 H0 w0 φ F H w β env act ex env' H' Q hT hS hro hF0 f h hQ;simp only[bi,aO,RZ,R0]at h;obtain⟨rfl,rfl,rfl⟩:=h;exact wpIn_exit (hQ _ _ ⟨_,_,_,f⟩)
 | ret=>
  intro ks pm ro T φ0 F0 H0 w0 φ F H w β env act ex env' H' Q hT hS hro hF0 f h hQ;simp only[bi,aO,RZ,R0]at h;obtain⟨rfl,rfl,rfl⟩:=h;exact wpIn_ret (hQ _ _ ⟨_,_,_,f⟩)
 | region id ops draw=>
  intro ks pm ro T φ0 F0 H0 w0 φ F H w β env act ex env' H' Q hT hS hro hF0 f h hQ;simp only[bi]at h;split at h
  ·simp[aO]at h
  rename_i hnd;have lets:¬LetsOut (fun e a w=>e=p5 ex/\dK φ0 F0 H0 w0 H' env' T a w):=fun⟨a,w,h,_⟩=>by cases ex<;>cases h
  cases draw with
  | true=>
   simp only[if_true]at h;split at h
   ·rename_i hd;simp only[aO]at h;split at h;case h_2=>simp at h
    rename_i e1 h1 hr;simp only[RZ,R0]at h;obtain⟨rfl,rfl,rfl⟩:=h;have key:=Db (P:=P) (pm:=pm) (Q:=fun e a w=>e=p5 .nrm/\dK φ0 F0 H0 w0 h1 e1 T a w) hC hF hT f hd hr (fun _ _ hp=>⟨rfl,hp⟩);refine wpIn_mono (Q:=fun e a w=>e=p5 .nrm/\dK φ0 F0 H0 w0 h1 e1 T a w) ?_ (fun e a w h=>h.1▸hQ a w h.2);cases hdf:ops.toList.any (fun o=>gv o.op) with
    | true=>
     obtain⟨rfl,_⟩:=hro.resolve_right (fun e=>hnd ⟨e,hdf⟩);exact wpIn_wide.2 (wp_region_any hm key)
    | false=>
     refine wpIn_region_draw fun t=>jn hdf lets _ _ _ ?_;simp only[Region.schedule,hm,Bool.true_or,if_true];exact wpAny_sound ops.size t _ act _ key
   ·simp[aO]at h
  | false=>
   simp only[Bool.false_eq_true,if_false,aO]at h;split at h;case h_2=>simp at h
   rename_i e1 h1 hr;simp only[RZ,R0]at h;obtain⟨rfl,rfl,rfl⟩:=h;have key:=lU (ops:=ops) (Q:=fun e a w=>e=p5 .nrm/\dK φ0 F0 H0 w0 h1 e1 T a w) hC hT ops.toList 0 rfl (f.sub (dz (ks.headD []) env)) hr (fun _ _ hp=>⟨rfl,hp⟩);have key:wpOps P ops (fun e a w=>e=p5 .nrm/\dK φ0 F0 H0 w0 h1 e1 T a w) (List.range ops.size) act w:=by simpa[List.range_eq_range'] using key
   refine wpIn_mono (Q:=fun e a w=>e=p5 .nrm/\dK φ0 F0 H0 w0 h1 e1 T a w) ?_ (fun e a w h=>h.1▸hQ a w h.2);cases hdf:ops.toList.any (fun o=>gv o.op) with
   | true=>
    obtain⟨rfl,_⟩:=hro.resolve_right (fun e=>hnd ⟨e,hdf⟩);exact wpIn_wide.2 (wp_region key)
   | false=>exact wpIn_region (jn hdf lets _ _ _ key)
 | seq a b iha ihb=>
  intro ks pm ro T φ0 F0 H0 w0 φ F H w β env act ex env' H' Q hT hS hro hF0 f h hQ;simp only[bi,aO]at h;split at h
  ·rename_i e1 h1 ha;refine wpIn_seq (iha ks hT hS hro hF0 f ha (fun act' w' ⟨φ1,F1,β1,f1⟩=>?_));exact ihb _ hT hS hro hF0 f1 h hQ
  ·rename_i hne;refine wpIn_seq (iha ks hT hS hro hF0 f h (fun act' w' hp=>?_));cases ex with
   | nrm=>exact absurd h (hne _ _)
   | exit id=>exact hQ _ _ hp
   | ret=>exact hQ _ _ hp
 | cond cnd a b iha ihb=>
  intro ks pm ro T φ0 F0 H0 w0 φ F H w β env act ex env' H' Q hT hS hro hF0 f h hQ;simp only[bi,aO]at h;split at h;case h_2=>simp at h
  rename_i t hc;have hv:=aZ f.st hc;refine wpIn_cond hv ?_;cases t with
  | true=>rw[if_pos rfl]at h |-;exact iha _ hT hS hro hF0 f h hQ
  | false=>rw[if_neg (by simp)]at h |-;exact ihb _ hT hS hro hF0 f h hQ
 | block id b ih=>
  intro ks pm ro T φ0 F0 H0 w0 φ F H w β env act ex env' H' Q hT hS hro hF0 f h hQ;simp only[bi,aO]at h;split at h
  ·rename_i id' e1 h1 hb;refine wpIn_block (ih ks hT hS hro hF0 f hb (fun act' w' hp=>?_));show (if id'=id then Q .normal act' w' else Q (.exit id') act' w');split at h
   ·rename_i he;simp only[RZ,R0]at h;obtain⟨rfl,rfl,rfl⟩:=h;rw[if_pos he];exact hQ _ _ hp
   ·rename_i he;simp only[RZ,R0]at h;obtain⟨rfl,rfl,rfl⟩:=h;rw[if_neg he];exact hQ _ _ hp
  ·rename_i hne;refine wpIn_block (ih ks hT hS hro hF0 f h (fun act' w' hp=>?_));cases ex with
   | nrm=>exact hQ _ _ hp
   | exit id'=>exact absurd h (hne _ _ _)
   | ret=>exact hQ _ _ hp
 | loop b ih=>
  intro ks pm ro T φ0 F0 H0 w0 φ F H w β env act ex env' H' Q hT hS hro hF0 f h hQ;simp only[bi,aO]at h;refine wpIn_loop_rounds n ?_;have key:∀(k:Nat) {φ:Phi} {F:Nat->Nat->Prop} {H:Heap} {w:World} {β:Nat->Nat} {env:Env} {act:Act},Full φ0 F0 H0 w0 φ F H w β env act T->
    eK (fun env H=>aO C n lk lim (bi P pm b ks.tail).1 (ab (ks.headD []) env) H) k env H=some (ex,env',H')->Code.roundsIn (FR ro) 0 P b Q k act w:=by
   intro k;induction k with
   | zero=>intro φ F H w β env act f h;simp[eK]at h
   | succ k ihk=>
    intro φ F H w β env act f h;simp only[eK]at h;rw[roundsIn_succ];split at h
    ·rename_i e1 h1 hb;exact ih ks.tail hT hS hro hF0 (f.sub (dz _ env)) hb (fun act' w' ⟨φ1,F1,β1,f1⟩=>ihk f1 h)
    ·rename_i hne;refine ih ks.tail hT hS hro hF0 (f.sub (dz _ env)) h (fun act' w' hp=>?_);cases ex with
     | nrm=>exact absurd h (hne _ _)
     | exit id=>exact hQ _ _ hp
     | ret=>exact hQ _ _ hp
  exact key n f h
 | scope b ih=>
  intro ks pm ro T φ0 F0 H0 w0 φ F H w β env act ex env' H' Q hT hS hro hF0 f h hQ;simp only[bi]at h;split at h
  ·simp[aO]at h
  rename_i hr;obtain⟨rfl,_⟩:=hro.resolve_right hr;refine wpIn_wide.2 (wp_scope_straight ((wpIn_wide (n:=0)).1 (ih ks hT hS hro hF0 f h (fun act' w' hp=>?_))));cases ex<;>exact hQ _ _ hp
 | rangeFunc g ps asg body iha ihb=>
  intro ks pm ro T φ0 F0 H0 w0 φ F H w β env act ex env' H' Q hT hS hro hF0 f h hQ;simp only[bi]at h;split at h;case isFalse=>simp[aO]at h
  rename_i hc;obtain⟨hr,hpsT⟩:=hc;obtain⟨rfl,hrd⟩:=hro.resolve_right (by rw[hr];simp)
  simp only[aO]at h;split at h;case h_2=>simp at h
  rename_i items hit;generalize hE:ab (ks.headD []) env=env0 at h hit;have f0:Full φ0 F0 H0 w0 φ F H w β env0 act T:=hE▸f.sub (dz _ env);unfold jP at hit;split at hit;case isFalse=>simp at hit
  rename_i hnb;split at hit;case h_2=>simp at hit
  rename_i gf cap hgf;split at hit;case h_2=>simp at hit
  rename_i l0 hl0;split at hit;case isFalse=>simp at hit
  rename_i hlen;simp only[RZ]at hit;subst hit;have hgv:VRel φ F H w (.fn gf cap) (act.eval g):=cp f0.st hgf;generalize hfv:act.eval g=fv at hgv;cases hgv with
  | one hgv=>
  cases hgv with
  | fn _ _ vs hvl hvr=>
  obtain⟨hent,hsc,hitok⟩:=hS gf cap H l0 hl0;have hsz:∀v∈l0.map List.toArray,v.size=ps.size:=fun v hv=>by
   obtain⟨x,hx,rfl⟩:=List.mem_map.1 hv;have:=List.all_eq_true.1 hlen x hx;simpa using this
  have at_:∀(i:Nat) (v:Array Value),(l0.map List.toArray)[i]?=some v->∃x,l0[i]?=some x/\v=x.toArray/\l0.drop i=x::l0.drop (i+1):=fun i v hv=>by
   rw[List.getElem?_map]at hv;cases hx:l0[i]? with
   | none=>rw[hx]at hv;cases hv
   | some x=>
    rw[hx]at hv;simp only[Option.map_some,RZ]at hv;obtain⟨hlt,he⟩:=List.getElem?_eq_some_iff.1 hx;exact⟨x,rfl,hv.symm,by rw[List.drop_eq_getElem_cons hlt,he]⟩
  refine vy (vals:=l0.map List.toArray) hfv (iA hent) hsz
   (fun i A Z=>∃φ' F' H1,Full φ0 F0 H0 w0 φ' F' H1 A β env0 act T/\cm (fun e H=>aO C n lk lim (bi P { pm with inR:=true } asg ks.tail).1 e H) (fun e H=>aO C n lk lim (bi P { pm with inR:=true } body (bi P { pm with inR:=true } asg ks.tail).2).1 e H) ps.toList env0 (l0.drop i) H1=some (ex,env',H')/\∀k,Z k->∃o,F' k o)
   (fun p A Z=>∃φ' F' H1 β1 e1 x2 e2 H2,Full φ0 F0 H0 w0 φ' F' H1 A β env0 act T/\St φ' F' H1 A β1 e1 p.2 T.n/\p.2.defers=[]/\eT e1=true/\
    aO C n lk lim (bi P { pm with inR:=true } body (bi P { pm with inR:=true } asg ks.tail).2).1 e1 H1=some (x2,e2,H2)/\
    ((x2= .nrm/\cm (fun e H=>aO C n lk lim (bi P { pm with inR:=true } asg ks.tail).1 e H) (fun e H=>aO C n lk lim (bi P { pm with inR:=true } body (bi P { pm with inR:=true } asg ks.tail).2).1 e H) ps.toList env0 (l0.drop (p.1+1)) H2=some (ex,env',H'))\/(x2≠.nrm/\(ex,env',H')=(x2,env0,H2)))/\∀k,Z k->∃o,F' k o)
   (fun c A Z=>c=KX ex/\ex≠.nrm/\env'=env0/\∃φ' F',Full φ0 F0 H0 w0 φ' F' H' A β env0 act T/\∀k,Z k->∃o,F' k o)
   ?_ ?_ ?_ ?_ ?_ (fun W1 d r hb hs1 hd1 hl1=>⟨Begun φ (fun k o=>F k o\/(w.heap.size<=k/\k<W1.heap.size)) H W1,?_,?_⟩) ?_ ?_ ?_ ?_
  ·rintro i A B Z ⟨φ',F',H1,h1,h2,h3⟩ hb;exact⟨φ',_,H1,h1.grown hnb hb,h2,fun k hk=>by
    rcases hk with hk | ⟨hk1,hk2⟩
    ·exact(h3 k hk).imp fun _=>.inl
    ·exact⟨0,.inr ⟨hk1,hk2⟩⟩⟩
  ·rintro c A B Z ⟨h0,h1,h2,φ',F',h3,h4⟩ hb;exact⟨h0,h1,h2,φ',_,h3.grown hnb hb,fun k hk=>by
    rcases hk with hk | ⟨hk1,hk2⟩
    ·exact(h4 k hk).imp fun _=>.inl
    ·exact⟨0,.inr ⟨hk1,hk2⟩⟩⟩
  ·rintro i A Z l r r' ⟨φ',F',H1,h1,h2,h3⟩ hz hl;exact⟨φ',F',H1,h1.turn hF0 hl (Nat.le_trans f0.chg.size hz),h2,h3⟩
  ·rintro p A Z l r r' ⟨φ',F',H1,β1,e1,x2,e2,H2,h1,h2,h3,h4,h5,h6,h7⟩ hz hl;exact⟨φ',F',H1,β1,e1,x2,e2,H2,h1.turn hF0 hl (Nat.le_trans f0.chg.size hz),h2.turn (.loop hl r'),h3,h4,h5,h6,h7⟩
  ·rintro c A Z l r r' ⟨h0,h1,h2,φ',F',h3,h4⟩ hz hl;exact⟨h0,h1,h2,φ',F',h3.turn hF0 hl (Nat.le_trans f0.chg.size hz),h4⟩
  ·-- the iterator
   obtain⟨e1,sr1⟩:=grow f0.st.sr (F':=fun k o=>F k o\/(w.heap.size<=k/\k<W1.heap.size)) hb (fun _ _ h=>.inl h) (fun _ _ h=>h);exact hitok φ _ W1 vs sr1 (CL.mono e1 ⟨hvl,hvr⟩)
  ·rintro B Z ⟨φ',F',sr',e',c',p',r',z'⟩;have g1:=f0.grown hnb hb;have g2:Full φ0 F0 H0 w0 φ' F' H B β env0 act T:=g1.next c' (fun k h=>.inl h) (g1.st.over hnb e' sr') e' p' (fun t cs ht=>absurd ht ((eA hnb t).1 cs)) rfl r'
   have fD:=e'.frz w.heap.size 0 (.inr ⟨Nat.le_refl _,by omega⟩)
   have fl:=e'.frz (w.heap.size+1) 0 (.inr ⟨Nat.le_succ _,by omega⟩)
   refine⟨⟨φ',F',H,g2,by simpa using h,fun k hk=>?_⟩,fD.2,fl.2,fun k hk he=>?_⟩
   ·rcases hk with hk | rfl | rfl
    ·exact(z' k hk).1
    ·exact⟨0,fD.1⟩
    ·exact⟨0,fl.1⟩
   ·subst he;obtain⟨_,arr,ty,fr,hc⟩:=z' _ hk;rw[fl.2,hl1]at hc;cases hc
  ·-- the assignments
   rintro l i v A Z hv ⟨φ',F',H1,h1,h2,h3⟩;obtain⟨x,hx,rfl,hd⟩:=at_ i v hv;rw[hd]at h2;obtain⟨e,hp,e1,H2,hf1,hnb1,x2,e2,H3,hg1,hnx⟩:=xY h2;have hbase:=h1.round hnb hpsT hT (hsc x (List.mem_of_getElem? hx)) hp;refine iha ks.tail (pm:={ pm with inR:=true }) (T:=⟨T.n,some []⟩) hT hS (.inr rfl) h1.st.sr.fsz hbase hf1 (fun a1 B ⟨φ2,F2,β2,f2⟩=>?_);refine⟨f2.chg.size,fun k hk=>(h3 k hk).elim fun o ho=>(f2.ext.frz k o ho).2,φ2,F2,H2,β2,e1,x2,e2,H3,h1.over hnb f2,f2.st,?_,hnb1,hg1,hnx,fun k hk=>(h3 k hk).imp fun o ho=>(f2.ext.frz k o ho).1⟩;exact f2.dfr
  ·-- the body
   rintro l i v a1 A Z hv ⟨φ',F',H1,β1,e1,x2,e2,H2,h1,h2,h3,h4,h5,h6,h7⟩;refine ihb _ (pm:={ pm with inR:=true }) (T:=⟨T.n,some []⟩) hT hS (.inr rfl) h1.st.sr.fsz (Full.base h2 h4 h3) h5 (fun act' B ⟨φ2,F2,β2,f2⟩=>?_);refine⟨⟨f2.chg.size,fun k hk=>(h7 k hk).elim fun o ho=>(f2.ext.frz k o ho).2⟩,?_⟩;have hz:∀k,Z k->∃o,F2 k o:=fun k hk=>(h7 k hk).imp fun o ho=>(f2.ext.frz k o ho).1;rcases h6 with⟨rfl,h6⟩ | ⟨hne,h6⟩
   ·exact⟨φ2,F2,H2,h1.over hnb f2,h6,hz⟩
   ·simp only[R0]at h6;obtain⟨rfl,rfl,rfl⟩:=h6;cases ex with
    | nrm=>exact absurd rfl hne
    | exit id=>exact⟨rfl,hne,rfl,φ2,F2,h1.over hnb f2,hz⟩
    | ret=>exact⟨rfl,hne,rfl,φ2,F2,h1.over hnb f2,hz⟩
  ·-- all have come
   rintro D B Z ⟨φ',F',H1,h1,h2,h3⟩ hz hD hB;rw[List.length_map,List.drop_length]at h2;simp only[cm,RZ,R0]at h2;obtain⟨rfl,rfl,rfl⟩:=h2;exact hQ _ _ ⟨φ',F',β,h1.mark hrd (h3 D hz) (Nat.le_trans f0.chg.size hD) hB (zC hrd f0 hD)⟩
  ·-- a round has left
   rintro D c B Z ⟨rfl,hne,rfl,φ',F',h1,h3⟩ hz hD hB;have hp:dK φ0 F0 H0 w0 H' env' T { act with defers:={ target:=.collected D,args:=#[] }::act.defers } B:=⟨φ',F',β,h1.mark hrd (h3 D hz) (Nat.le_trans f0.chg.size hD) hB (zC hrd f0 hD)⟩;cases ex with
   | nrm=>exact absurd rfl hne
   | exit id=>exact wpIn_exit (hQ _ _ hp)
   | ret=>exact wpIn_ret (hQ _ _ hp)
 | _=>
  intros
  rename_i h _;simp[bi,aO]at h
end

section
variable {C:Orc}{lk lim base:Nat}{ws:WS}{env env':Env}{H H':Heap}

theorem p6 {x:Option (Ed×Heap)}(h:kW env x=some (env',H')):∃e,x=some (e,H'):=by
 unfold kW at h;split at h
 ·split at h
  ·simp only[RZ,R0]at h;obtain⟨_,rfl⟩:=h;exact⟨_,rfl⟩
  ·simp at h
 ·simp at h

theorem Dc (hF:OrcFr C){i:AI}(h:gr C lk lim i env H=some (env',H')):Fr lk lim H H':=by
 unfold gr at h;split at h
 ·unfold fF at h;split at h
  ·rw[oY]at h;obtain⟨e,he⟩:=p6 h;exact xW he
  ·rw[oY]at h;obtain⟨e,he⟩:=p6 h;exact xW he
  ·split at h;case h_2=>simp at h
   split at h;case h_2=>simp at h
   simp only[RZ,R0]at h;obtain⟨_,rfl⟩:=h;exact⟨by simp,fun hl b hb=>List.getElem?_append_left (by omega),fun m _ h2 hc=>hc.append h2⟩
  ·split at h;case h_2=>simp at h
   split at h;case isFalse=>simp at h
   split at h;case h_2=>simp at h
   rename_i hc;split at h;case h_2=>simp at h
   simp only[RZ,R0]at h;obtain⟨_,rfl⟩:=h;exact⟨hF.len _ _ _ _ _ _ _ hc,hF.lock _ _ _ _ _ _ _ hc,hF.cl _ _ _ _ _ _ _ hc⟩
  ·split at h;case h_2=>simp at h
   split at h;case h_2=>simp at h
   simp only[RZ,R0]at h;obtain⟨_,rfl⟩:=h;exact Fr.refl _ _ _
 ·split at h;case h_2=>simp at h
  simp only[RZ,R0]at h;obtain⟨_,rfl⟩:=h;exact Fr.refl _ _ _
 ·simp at h

theorem sa (hF:OrcFr C):∀{l:List AI} {env:Env} {H:Heap},cL C lk lim l env H=some (env',H')->Fr lk lim H H'
 | [],env,H,h=>by
  simp only[cL,RZ,R0]at h;obtain⟨_,rfl⟩:=h;exact Fr.refl _ _ _
 | i::r,env,H,h=>by
  simp only[cL]at h;split at h
  ·rename_i e1 h1 hs;exact(Dc hF hs).trans (sa hF h)
  ·simp at h

structure FrB (base lk lim:Nat)(H H':Heap):Prop where
 len:H.length<=H'.length
 lock:lk<=base->∀b,b<lk->H'[b]?=H[b]?
 cl:∀m,m<=lim->m<=base->Cl m H->Cl m H'

theorem Bs {cb:Nat}{i:AI}(hF:OrcFr C)(hb:base<=H.length)(h:jm C lk lim ws base cb i env H env' H'):FrB base lk lim H H':=by
 obtain⟨e,d,h1,_,h3⟩:=h;have hlen:=C6 hF.len h1 h3;cases d with
 | same=>
  simp[Hd.run]at h3;subst h3;exact⟨hlen,fun _ _ _=>rfl,fun _ _ _ h=>h⟩
 | app X=>
  simp only[Hd.run]at h3;split at h3;case isFalse=>simp at h3
  simp only[RZ]at h3;subst h3;exact⟨hlen,fun hl b hlt=>List.getElem?_append_left (by omega),fun m _ h2 hc=>hc.append (by omega)⟩
 | fill k cs=>
  rcases eL h1 with h | ⟨_,_,h⟩ | ⟨_,_,_,h⟩ | h | h
  ·cases h
  ·cases h;simp only[Hd.run]at h3;split at h3;case h_2=>simp at h3
   simp only[RZ]at h3;subst h3;exact⟨hlen,fun hl b hlt=>by rw[List.getElem?_set_ne (by omega)],fun m _ h2 hc=>hc.set (by omega)⟩
  ·cases h
  case inr.inr.inr.inr=>
   exfalso;unfold eff xN at h1;split at h1
   ·split at h1;case isFalse=>simp at h1
    split at h1
    ·split at h1;case h_2=>simp at h1
     split at h1;case isFalse=>simp at h1
     split at h1;case h_2=>simp at h1
     split at h1<;>simp at h1
    ·rename_i hfr;exact lX (jl hfr h (fun e=>by cases e))
   ·simp at h1
   ·simp at h1
  ·exfalso;unfold eff ld at h1;split at h1
   ·split at h1;case isFalse=>simp at h1
    split at h1
    ·rename_i hfr;rw[jS hfr]at h;cases h
    rename_i hfr;have h:=jl hfr h (fun e=>by cases e)
    rw[h]at h1;dsimp only at h1;split at h1<;>simp at h1
   ·simp at h1
   ·simp at h1
 | to H2=>
  simp[Hd.run]at h3;subst h3;have key:Fr lk lim H H2:=by
   unfold eff at h1;split at h1
   ·split at h1;case isFalse=>simp at h1
    split at h1
    ·unfold xN at h1;split at h1;case h_2=>simp at h1
     split at h1;case isFalse=>simp at h1
     split at h1;case h_2=>simp at h1
     rename_i hcc;split at h1;case isFalse=>simp at h1
     simp only[RZ,R0,Hd.to.injEq]at h1;obtain⟨_,rfl⟩:=h1;exact⟨hF.len _ _ _ _ _ _ _ hcc,hF.lock _ _ _ _ _ _ _ hcc,hF.cl _ _ _ _ _ _ _ hcc⟩
    unfold ld at h1;split at h1
    ·split at h1<;>simp at h1
    ·split at h1;case h_2=>simp at h1
     rename_i hx;simp only[RZ,R0,Hd.to.injEq]at h1;rw[<-h1.2];exact xW hx
    ·split at h1<;>simp at h1
    ·split at h1;case h_2=>simp at h1
     split at h1;case isFalse=>simp at h1
     split at h1;case h_2=>simp at h1
     split at h1;case isFalse=>simp at h1
     simp only[RZ,R0]at h1;split at h1<;>simp at h1
    ·split at h1;case h_2=>simp at h1
     split at h1<;>simp at h1
   ·simp at h1
   ·simp at h1
  exact⟨hlen,fun hl=>key.lock (by omega),fun m h1 h2=>key.cl m h1 (by omega)⟩

theorem vA (hF:OrcFr C):∀{l:List AI} {env:Env} {H:Heap},base<=H.length->cX C lk lim ws base l env H=some (env',H')->FrB base lk lim H H'
 | [],env,H,hb,h=>by
  simp only[cX,RZ,R0]at h;obtain⟨_,rfl⟩:=h;exact⟨Nat.le_refl _,fun _ _ _=>rfl,fun _ _ _ h=>h⟩
 | i::r,env,H,hb,h=>by
  obtain⟨e1,h1,hs,hr⟩:=bJ.1 h;have a:=Bs hF hb hs;have b:=vA hF (Nat.le_trans hb a.len) hr;exact⟨Nat.le_trans a.len b.len,fun hl k hk=>by rw[b.lock hl k hk,a.lock hl k hk],fun m h1 h2 hc=>b.cl m h1 h2 (a.cl m h1 h2 hc)⟩

theorem Hi {env:Env}{H:Heap}{e:Env}{h:Heap}(hf:AZ lk lim env H=some (e,h)):Fr lk lim H h:=by
 unfold AZ at hf;split at hf;case isFalse=>simp at hf
 rename_i hc;simp only[RZ,R0]at hf;rw[<-hf.2];unfold gk;refine⟨by simp;omega,fun _ b hb=>?_,fun m h1 h2 hm=>?_⟩
 ·rw[List.getElem?_append_left (by rw[List.length_take];omega),List.getElem?_take,if_pos (by omega)]
 ·intro b cs hb hg;rw[List.getElem?_append_left (by rw[List.length_take];omega),List.getElem?_take,if_pos (by omega)]at hg
  exact hm b cs hb hg

theorem tL (hF:OrcFr C){n:Nat}:∀(c:AC) {env:Env} {H:Heap} {ex:Ex} {env':Env} {H':Heap},aO C n lk lim c env H=some (ex,env',H')->Fr lk lim H H':=by
 intro c;induction c with
 | skip=>intro env H ex env' H' h;simp only[aO,RZ,R0]at h;rw[<-h.2.2];exact Fr.refl _ _ _
 | exit id=>intro env H ex env' H' h;simp only[aO,RZ,R0]at h;rw[<-h.2.2];exact Fr.refl _ _ _
 | ret=>intro env H ex env' H' h;simp only[aO,RZ,R0]at h;rw[<-h.2.2];exact Fr.refl _ _ _
 | bad=>intro env H ex env' H' h;simp[aO]at h
 | frz=>
  intro env H ex env' H' h;simp only[aO]at h;split at h;case h_2=>simp at h
  rename_i hf;simp only[RZ,R0]at h;rw[<-h.2.2];exact Hi hf
 | regN keep ops=>
  intro env H ex env' H' h;simp only[aO]at h;split at h;case h_2=>simp at h
  rename_i hr;simp only[RZ,R0]at h;rw[<-h.2.2];exact sa hF hr
 | regD keep m ops=>
  intro env H ex env' H' h;simp only[aO]at h;split at h;case h_2=>simp at h
  rename_i hr;simp only[RZ,R0]at h;rw[<-h.2.2];have a:=vA hF (by simp) hr
  have hlen:=a.len;rw[List.length_append]at hlen;refine⟨by omega,fun hl b hb=>?_,fun k h1 h2 hc=>a.cl k h1 h2 (hc.append h2)⟩
  rw[a.lock hl b hb,List.getElem?_append_left (by omega)]
 | seq a b iha ihb=>
  intro env H ex env' H' h;simp only[aO]at h;split at h
  ·rename_i ha;exact(iha ha).trans (ihb h)
  ·exact iha h
 | cond c a b iha ihb=>
  intro env H ex env' H' h;simp only[aO]at h;split at h;case h_2=>simp at h
  split at h
  ·exact iha h
  ·exact ihb h
 | block id b ih=>
  intro env H ex env' H' h;simp only[aO]at h;split at h
  ·rename_i hb;have:=ih hb;split at h<;>(simp only[RZ,R0]at h;rw[<-h.2.2];exact this)
  ·exact ih h
 | loop keep b ih=>
  intro env H ex env' H' h;simp only[aO]at h;have key:∀(k:Nat) {env:Env} {H:Heap},eK (fun env H=>aO C n lk lim b (ab keep env) H) k env H=some (ex,env',H')->Fr lk lim H H':=by
   intro k;induction k with
   | zero=>intro env H h;simp[eK]at h
   | succ k ihk=>
    intro env H h;simp only[eK]at h;split at h
    ·rename_i hb;exact(ih hb).trans (ihk h)
    ·exact ih h
  exact key n h
 | rangeF keep it g ps asg body iha ihb=>
  intro env H ex env' H' h;simp only[aO]at h;split at h;case h_2=>simp at h
  rename_i items hit;have one:∀{x:List Value} {H:Heap} {r:Ex×Env×Heap},eU (fun e H=>aO C n lk lim asg e H) (fun e H=>aO C n lk lim body e H) ps (ab keep env) x H=some r->Fr lk lim H r.2.2:=by
   intro x H r h;unfold eU at h;split at h
   ·split at h
    ·rename_i hs;split at h;case isFalse=>simp at h
     obtain⟨x1,x2,x3⟩:=r;exact(iha hs).trans (ihb h)
    ·simp at h
   ·simp at h
  have key:∀(l:List (List Value)) {H:Heap},cm (fun e H=>aO C n lk lim asg e H) (fun e H=>aO C n lk lim body e H) ps (ab keep env) l H=some (ex,env',H')->Fr lk lim H H':=by
   intro l;induction l with
   | nil=>
    intro H h;simp only[cm,RZ,R0]at h;rw[<-h.2.2];exact Fr.refl _ _ _
   | cons x l ihl=>
    intro H h;simp only[cm]at h;split at h
    ·rename_i hs;exact(one hs).trans (ihl h)
    ·rename_i hs;simp only[RZ,R0]at h;rw[<-h.2.2];exact one hs
    ·simp at h
  exact key items h
end

theorem vB {X:Orc}{A:FuncId->Option AFn}(hX:OrcFr X):∀n,OrcFr (bw X A n)
 | 0=>⟨fun _ _ _ _ _ _ _ h=>by simp[bw]at h,fun _ _ _ _ _ _ _ h=>by simp[bw]at h,fun _ _ _ _ _ _ _ h=>by simp[bw]at h⟩
 | n+1=>by
  have ih:=vB (A:=A) hX n;have key:∀lk lim f as H r H',bw X A (n+1) lk lim f as H=some (r,H')->Fr lk lim H H':=by
   intro lk lim f as H r H' h;simp only[bw]at h;split at h
   ·rename_i r' hx;simp only[RZ]at h;subst h;exact⟨hX.len _ _ _ _ _ _ _ hx,hX.lock _ _ _ _ _ _ _ hx,hX.cl _ _ _ _ _ _ _ hx⟩
   ·split at h;case h_1=>simp at h
    rename_i fd hA;split at h;case isFalse=>simp at h
    unfold cB at h;split at h
    ·simp at h
    ·rename_i ex env1 H1 _ hex;have hfr:=tL ih fd.body hex;split at h;case h_2=>simp at h
     split at h
     ·rename_i ht;rw[if_pos ht]at hfr;split at h;case h_2=>simp at h
      split at h;case isFalse=>simp at h
      simp only[RZ,R0]at h;rw[<-h.2];have hlen:=hfr.len;refine⟨by rw[List.length_take];omega,fun hl b hb=>?_,fun m _ h2 hc=>?_⟩
      ·rw[List.getElem?_take,if_pos (by omega)];exact hfr.lock hl b hb
      ·have:=hfr.cl m h2 h2 hc;intro b cs hb hbb;exact this b cs hb (cw hbb).2
     ·rename_i ht;rw[if_neg ht]at hfr;simp only[RZ,R0]at h;rw[<-h.2];exact hfr
    ·simp at h
  exact⟨fun _ _ _ _ _ _ _ h=>(key _ _ _ _ _ _ _ h).len,fun _ _ _ _ _ _ _ h=>(key _ _ _ _ _ _ _ h).lock,fun _ _ _ _ _ _ _ h=>(key _ _ _ _ _ _ _ h).cl⟩

section
variable {P:Program}{φ:Phi}{F:Nat->Nat->Prop}{H:Heap}{w:World}{β:Nat->Nat}{env:Env}{act:Act}{T:Nat}

def p7 (tmps:Array Value):ResultVar->Sem Value
 | .tmp t=>pure (tmps.getD t undef)
 | .cell a t=>do loadVar t (<-asAddr (tmps.getD a undef))

theorem Dd {k o:Nat}{cs:List AV}(h:RowAt φ F H w k o cs){t:TypeId}{n:Nat}(hn:szOf P t=some n){d:TypeDesc}(hu:P.underlying t=some d){off:Nat}{v:AV}
  (hv:(if aggT P t=true then (if off+n<=cs.length then some (.agg ((cs.drop off).take n)) else none) else cs[off]?)=some v):∃cv,(loadVar t ⟨k,o+off,none⟩).run P w= .ok cv w/\VRel φ F H w v cv:=by
 have hre:=lO (P:=P) hu;unfold loadVar;rw[Sem.run_bind,er hu];simp only[Result.andThen_ok];cases hr:d.isRow with
 | true=>
  rw[hre,hr,if_pos rfl]at hv;split at hv;case isFalse=>simp at hv
  rename_i hl;simp only[RZ]at hv;subst hv;obtain⟨vs,h1,h2,h3⟩:=h.range hl;refine⟨.agg vs.toArray,?_,.agg _ _ h1⟩;have:=run_loadCells_list (P:=P) w ⟨k,o+off,none⟩ vs (fun j v hv=>by rw[da];exact h2 j v hv)
  rw[if_pos rfl];simp only[Sem.run_bind,be hn,Result.andThen_ok,<-h3,this,Sem.run_pure]
 | false=>
  rw[hre,hr]at hv;simp only[Bool.false_eq_true,if_false]at hv;obtain⟨cv,hcv,hrel⟩:=h off v hv;refine⟨cv,?_,.one hrel⟩;rw[if_neg (by simp)]
  rw[run_load,hcv]

theorem Hj (s:St φ F H w β env act T){r:ResultVar}(hc:pG P r=true){v:AV}(h:pD env H (pF P r)=some v):∃cv,(p7 act.tmps r).run P w= .ok cv w/\VRel φ F H w v cv:=by
 cases r with
 | tmp t=>
  simp only[pF,pD]at h;split at h;case isFalse=>simp at h
  rename_i ha;simp only[RZ]at h;have hs:=s.slot t;rw[h]at hs ha;refine⟨_,rfl,?_⟩;have:ORel φ F H w β v (act.tmps.getD t undef):=by
   cases v<;>first | exact hs | (simp[a7,one]at ha;done)
  exact this.arg ha
 | cell a t=>
  simp only[pG,Bool.and_eq_true]at hc;obtain⟨n,hn⟩:=Option.isSome_iff_exists.1 hc.1;obtain⟨d,hu⟩:=Option.isSome_iff_exists.1 hc.2;simp only[pF,pD,hn,Option.getD_some]at h;split at h;case h_2=>simp at h
  rename_i cs off hp;have hrow:∃k o d,d<=off/\act.tmps.getD a undef= .pointer (some ⟨k,o+(off-d),none⟩)/\RowAt φ F H w k o (cs.drop d):=by
   have hs:=s.slot a;split at hp
   ·rename_i cs' hf;rw[hf]at hs;simp only[RZ,R0]at hp;obtain⟨rfl,rfl⟩:=hp;exact⟨β a,0,0,Nat.zero_le _,hs.1,hs.2.row⟩
   ·rename_i hnb;have ho:ORel φ F H w β (find env a) (act.tmps.getD a undef):=by
     generalize hfa:find env a=fa at hs hnb;cases fa<;>first | exact hs | exact absurd rfl (hnb _)
    exact tC s ho hp
  obtain⟨k,o,d0,hd0,hv,hrow⟩:=hrow;obtain⟨cv,h1,h2⟩:=Dd (off:=off-d0) (v:=v) hrow hn hu (by
   split at h
   ·rename_i ha;rw[if_pos ha];split at h;case isFalse=>simp at h
    rw[if_pos (by rw[List.length_drop];omega),List.drop_drop,Nat.add_sub_of_le hd0]
    exact h
   ·rename_i ha;rw[if_neg ha,List.getElem?_drop,Nat.add_sub_of_le hd0];exact h)
  refine⟨cv,?_,h2⟩;simp only[p7,hv,asAddr,Sem.run_bind,Sem.run_pure,Result.andThen_ok];exact h1

theorem vC (s:St φ F H w β env act T):∀{rs:List ResultVar} {vs:List AV},rs.all (pG P)=true->gu env H (rs.map (pF P))=some vs->∃cvs,(rs.mapM (p7 act.tmps)).run P w= .ok cvs w/\jb φ F H w vs cvs
 | [],vs,_,h=>by
  simp only[List.map_nil,gu,RZ]at h;subst h;exact⟨[],rfl,rfl,fun i a v ha=>by simp at ha⟩
 | r::rs,vs,hc,h=>by
  simp only[List.all_cons,Bool.and_eq_true]at hc;simp only[List.map_cons,gu]at h;split at h;case h_2=>simp at h
  rename_i v hv;split at h;case h_2=>simp at h
  rename_i vs' hvs;simp only[RZ]at h;subst h;obtain⟨cv,h1,h2⟩:=Hj s hc.1 hv;obtain⟨cvs,h3,h4⟩:=vC s hc.2 hvs;refine⟨cv::cvs,?_,by simp[h4.1],fun i a v ha hv=>?_⟩
  ·simp only[List.mapM_cons,Sem.run_bind,h1,Result.andThen_ok,h3,Sem.run_pure]
  ·cases i with
   | zero=>simp at ha hv;subst ha;subst hv;exact h2
   | succ i=>simp at ha hv;exact h4.2 i a v ha hv

theorem vD (s:St φ F H w β env act T){fn:Func}{v:AV}(hc:fn.results.toList.all (pG P)=true)(h:rI env H (fn.results.toList.map (pF P))=some v):∃cv,(results fn act.tmps).run P w= .ok cv w/\VRel φ F H w v cv:=by
 unfold rI at h;have main:∀vs,gu env H (fn.results.toList.map (pF P))=some vs->∃cvs:List Value,(fn.results.mapM (p7 act.tmps)).run P w= .ok cvs.toArray w/\jb φ F H w vs cvs:=by
  intro vs hvs;obtain⟨cvs,h1,h2⟩:=vC s hc hvs;refine⟨cvs,?_,h2⟩;generalize fn.results=rs at h1 |-;obtain⟨rl⟩:=rs;simp only[List.mapM_toArray,Sem.run_map,h1,Result.andThen_ok]
 have hdef:results fn act.tmps=(do
   let vs <-fn.results.mapM (p7 act.tmps)
   pure (if h:vs.size=1 then vs[0] else .tuple vs)):=by
  unfold results;congr 1
 split at h
 ·rename_i v' hvs;simp only[RZ]at h;subst h;obtain⟨cvs,h1,h2⟩:=main _ hvs;obtain⟨cv,rfl⟩:∃cv,cvs=[cv]:=by
   have:=h2.1
   match cvs,this with
   | [cv],_=>exact⟨cv,rfl⟩
  refine⟨cv,?_,h2.2 0 _ _ rfl rfl⟩;rw[hdef,Sem.run_bind,h1];rfl
 ·rename_i vs hne hvs;simp only[RZ]at h;subst h;obtain⟨cvs,h1,h2⟩:=main _ hvs;refine⟨.tuple cvs.toArray,?_,.tup _ _ h2.1 h2.2⟩;rw[hdef,Sem.run_bind,h1];have hl:cvs.toArray.size≠1:=by
   intro hs;rw[List.size_toArray,h2.1]at hs
   match vs,hs,hne with
   | [x],_,hne=>exact hne x rfl
  simp only[Result.andThen_ok,dif_neg hl];rfl
 ·simp at h
end

theorem fK {f:AV->Option AV}:∀{l l':List AV},ep f l=some l'->l'.length=l.length/\∀(i:Nat) a',l'[i]?=some a'->∃a,l[i]?=some a/\f a=some a'
 | [],l',h=>by simp only[ep,RZ]at h;subst h;exact⟨rfl,fun i a ha=>by simp at ha⟩
 | v::r,l',h=>by
  simp only[ep]at h;split at h;case h_2=>simp at h
  rename_i v' hv;split at h;case h_2=>simp at h
  rename_i r' hr;simp only[RZ]at h;subst h;obtain⟨h1,h2⟩:=fK hr;refine⟨by simp[h1],fun i a' ha=>?_⟩
  cases i with
  | zero=>simp at ha;subst ha;exact⟨v,rfl,hv⟩
  | succ i=>simp at ha |-;exact h2 i a' ha

section
variable {φ:Phi}{F:Nat->Nat->Prop}{H:Heap}{w:World}{lim:Nat}

def F2 (φ:Phi)(F:Nat->Nat->Prop)(H:Heap)(lim:Nat)(k o:Nat):Prop:=F k o\/∃b,lim<=b/\live H b/\(φ b).1=k

theorem F2.ext:Ext φ F H w φ (F2 φ F H lim) H w:=⟨fun _ cs h=>⟨cs,h,Nat.le_refl _,fun _=>rfl⟩,fun _ es h=>⟨⟨es,h⟩,rfl⟩,fun _ _ h=>⟨.inl h,rfl⟩,Wm.refl w⟩

theorem RY (sr:SR φ F H w):∀(d:Nat) {v v':AV} {cv:Value},frz lim H d v=some v'->CRel φ F H w v cv->CRel φ (F2 φ F H lim) H w v' cv
 | 0,v,v',cv,h,hc=>by simp only[frz,RZ]at h;subst h;exact hc.mono F2.ext
 | d+1,v,v',cv,h,hc=>by
  cases v;case hs b g off n es=>
   simp only[frz]at h;split at h
   ·simp only[RZ]at h;subst h;exact hc.mono F2.ext
   ·rename_i hlt;split at h;case h_2=>simp at h
    rename_i cs hcs;split at h;case h_2=>simp at h
    rename_i cs' hm;split at h;case isFalse=>simp at h
    rename_i hb;simp only[RZ]at h;subst h;obtain⟨hml,hmg⟩:=fK hm;simp only[bh]at hcs;split at hcs;case h_2=>simp at hcs
    rename_i csb hbb;split at hcs;case isFalse=>simp at hcs
    rename_i hg;simp only[RZ]at hcs;cases hc with
    | hs _ _ _ _ _ cs2 x cap hb2 hg2 hn hx hcase=>
    rw[hbb]at hb2;cases hb2;have hlen:cs.length=n*es:=by rw[<-hcs];simp;omega
    rcases hcase hg.1 with⟨h0g,hd0,hx',_⟩ | ⟨hn0,hc0,_⟩
    ·subst hx';have hne:csb≠[]:=by intro e;subst e;simp at hg;omega
     obtain⟨vs,hcl,hrange,hvl⟩:=(sr.blk b csb hbb hne).row.range (off:=off-(φ b).2) (n:=n*es) (by rw[List.length_drop];omega)
     rw[List.drop_drop,Nat.add_sub_of_le hd0,hcs]at hcl;rw[Nat.zero_add]at hrange;refine .sl (φ b).1 (off-(φ b).2) n cap cs' vs hn (by rw[hml,<-hcl.1]) hb (fun i _=>.inr ⟨b,by omega,⟨.cells csb,hbb,hne⟩,rfl⟩) (fun i v hv=>hrange i v hv) (fun i a v ha hv=>?_)
     obtain⟨a0,ha0,hf⟩:=hmg i a ha;exact RY sr d hf (hcl.2 i a0 v ha0 hv)
    ·subst hn0;subst hc0;have h0:cs'=[]:=List.eq_nil_of_length_eq_zero (by rw[hml,hlen];omega)
     subst h0;exact .slnil x
  case agg=>cases hc
  case tup=>cases hc
  case hp b g off=>
   simp only[frz]at h;split at h
   ·simp only[RZ]at h;subst h;exact hc.mono F2.ext
   ·rename_i hlt;split at h;case h_2=>simp at h
    rename_i csb hbb;split at h;case isFalse=>simp at h
    rename_i hg;split at h;case h_2=>simp at h
    rename_i cs' hm;split at h;case isFalse=>simp at h
    rename_i hb;simp only[RZ]at h;subst h;obtain⟨hml,hmg⟩:=fK hm;cases hc with
    | hp _ _ _ cs2 a hb2 hg2 hcase=>
    rw[hbb]at hb2;cases hb2;obtain⟨hd0,rfl⟩:=hcase hg.1;have hne:csb≠[]:=by intro e;subst e;simp at hg;omega
    obtain⟨vs,hcl,hrange,hvl⟩:=(sr.blk b csb hbb hne).row.range (off:=off-(φ b).2) (n:=g-off) (by rw[List.length_drop];omega)
    rw[List.drop_drop,Nat.add_sub_of_le hd0,List.take_of_length_le (by rw[List.length_drop];omega)]at hcl
    rw[Nat.zero_add]at hrange;have:=CRel.rop (φ:=φ) (F:=F2 φ F H lim) (H:=H) (w:=w) (φ b).1 (off-(φ b).2) 0 cs' vs (by rw[hml,<-hcl.1]) hb (fun i _=>.inr ⟨b,by omega,⟨.cells csb,hbb,hne⟩,rfl⟩) (fun i v hv=>hrange i v hv) (fun i a v ha hv=>by
     obtain⟨a0,ha0,hf⟩:=hmg i a ha;exact RY sr d hf (hcl.2 i a0 v ha0 hv))
    exact this
  case fn f caps=>
   simp only[frz]at h;split at h;case h_2=>simp at h
   rename_i cs' hm;simp only[RZ]at h;subst h;obtain⟨hml,hmg⟩:=fK hm;cases hc with
   | fn _ _ vs hl hr=>
    exact .fn f cs' vs (by rw[hml];exact hl) fun i a v ha hv=>by
     obtain⟨a0,ha0,hf⟩:=hmg i a ha;exact RY sr d hf (hr i a0 v ha0 hv)
  all_goals (simp only[frz,RZ]at h;subst h;exact hc.mono F2.ext)

theorem De (sr:SR φ F H w):∀(d:Nat) {v v':AV} {cv:Value},frz lim H d v=some v'->VRel φ F H w v cv->VRel φ (F2 φ F H lim) H w v' cv
 | 0,v,v',cv,h,hc=>by simp only[frz,RZ]at h;subst h;exact hc.mono F2.ext
 | d+1,v,v',cv,h,hc=>by
  cases hc with
  | one hc=>exact .one (RY sr (d+1) h hc)
  | agg cs vs hcl=>
   simp only[frz]at h;split at h;case h_2=>simp at h
   rename_i cs' hm;simp only[RZ]at h;subst h;obtain⟨hml,hmg⟩:=fK hm;refine .agg cs' vs ⟨by rw[hml,hcl.1],fun i a v ha hv=>?_⟩
   obtain⟨a0,ha0,hf⟩:=hmg i a ha;exact RY sr d hf (hcl.2 i a0 v ha0 hv)
  | tup as vs hl hrel=>
   simp only[frz]at h;split at h;case h_2=>simp at h
   rename_i as' hm;simp only[RZ]at h;subst h;obtain⟨hml,hmg⟩:=fK hm;refine .tup as' vs (by rw[hml,hl]) fun i a v ha hv=>?_
   obtain⟨a0,ha0,hf⟩:=hmg i a ha;exact De sr d hf (hrel i a0 v ha0 hv)
end

theorem jV (lim:Nat)(H:Heap)(t:Nat):∀env:Env,find (oM lim H env) t=kG lim H (find env t)
 | []=>by
  simp only[oM,find];rfl
 | (t',v)::r=>by
  simp only[oM,find];split
  ·rfl
  ·exact jV lim H t r
theorem tM {n:Nat}:∀(d:Nat) {a:AV},Hm.below n a=true->Hm.below n (zro d a)=true
 | 0,_,h=>h
 | d+1,a,h=>by
  cases a<;>first | exact h | rfl | skip
  rename_i cs;simp only[zro,Hm.below]at h |-;refine bD.2 fun x hx=>?_;obtain⟨y,hy,rfl⟩:=List.mem_map.1 hx;exact tM d (bD.1 h y hy)
theorem Df {n d:Nat}{cs:List AV}(h:belowL n cs=true):belowL n (cs.map (zro d))=true:=bD.2 fun x hx=>by
 obtain⟨y,hy,rfl⟩:=List.mem_map.1 hx;exact tM d (bD.1 h y hy)
theorem p8 {n:Nat}{a:AV}(h:Hm.below n a=true):Hm.below n (oJ a)=true:=by
 unfold oJ;split
 ·rfl
 ·exact tM 4 h
theorem zD {φ:Phi}{F:Nat->Nat->Prop}{H:Heap}{w:World}:∀(d:Nat) {a:AV} {v:Value},CRel φ F H w a v->CRel φ F H w (zro d a) v
 | 0,_,_,h=>h
 | d+1,a,v,h=>by
  cases h with
  | e0 x=>exact .slnil x
  | sl b o n cap cells vs hn hl hb hF hc hr=>
   refine .sl b o n cap (cells.map (zro d)) vs hn (by simpa using hl) (Df hb) (fun i hi=>hF i (by simpa using hi)) hc fun i a v ha hv=>?_
   rw[List.getElem?_map]at ha;obtain⟨a0,ha0,rfl⟩:=Option.map_eq_some_iff.1 ha;exact zD d (hr i a0 v ha0 hv)
  | slnil x=>exact .slnil x
  | val v h=>exact .val v h
  | rop b o off cells vs hl hb hF hc hr=>exact .rop b o off cells vs hl hb hF hc hr
  | hp b g off cs a hb hg h=>exact .hp b g off cs a hb hg h
  | hs b g off n es cs x cap hb hg hn hx h=>exact .hs b g off n es cs x cap hb hg hn hx h
  | mp b es hb=>exact .mp b es hb
  | fn f caps vs hl hr=>exact .fn f caps vs hl hr
theorem Nl {φ:Phi}{F:Nat->Nat->Prop}{H:Heap}{w:World}(d:Nat){a:AV}{v:Value}(h:VRel φ F H w a v):VRel φ F H w (zro d a) v:=by
 cases h with
 | one h=>exact .one (zD d h)
 | agg cs vs h=>
  cases d with
  | zero=>exact .agg cs vs h
  | succ d=>
   refine .agg (cs.map (zro d)) vs ⟨by simpa using h.1,fun i a v ha hv=>?_⟩
   rw[List.getElem?_map]at ha;obtain⟨a0,ha0,rfl⟩:=Option.map_eq_some_iff.1 ha;exact zD d (h.2 i a0 v ha0 hv)
 | tup as vs hl h=>
  cases d with
  | zero=>exact .tup as vs hl h
  | succ d=>exact .tup as vs hl h
theorem KY {φ:Phi}{F:Nat->Nat->Prop}{H:Heap}{w:World}{a:AV}{v:Value}(h:VRel φ F H w a v):VRel φ F H w (oJ a) v:=by
 unfold oJ;split
 ·exact h
 ·exact Nl 4 h
theorem tN {lim:Nat}{H:Heap}{v:AV}(h:∀cs,v≠.box cs):kG lim H v=match frz lim H 8 v with
  | some v'=>if Hm.below lim v'=true then oJ v' else .dead
  | none=>.dead:=by
 cases v<;>first | rfl | exact absurd rfl (h _)
theorem Dg {lim:Nat}{H:Heap}{v:AV}{cs:List AV}(h:kG lim H v= .box cs):∃cs0,v= .box cs0/\True:=by
 have key:∀v:AV,(match frz lim H 8 v with
  | some v'=>if Hm.below lim v'=true then oJ v' else .dead
  | none=>.dead)≠AV.box cs:=fun v=>by
  split
  ·split
   ·rename_i v' _ hb;intro e;have:=p8 hb;rw[e]at this;simp[Hm.below]at this
   ·intro e;cases e
  ·intro e;cases e
 by_cases hb:∃cs0,v= .box cs0
 ·obtain⟨cs0,rfl⟩:=hb;unfold kG at h;dsimp only at h;split at h
  ·rename_i cs' hm;split at h
   ·rename_i hb;cases h;exact⟨cs0,rfl,trivial⟩
   ·cases h
  ·cases h
 ·rw[tN (fun cs h=>hb ⟨cs,h⟩)]at h;exact absurd h (key v)

theorem oZ {lim:Nat}{H:Heap}(hl:lim<=H.length){b:Nat}{x:HB}(h:(gk lim H)[b]?=some x)(hx:x≠.hole):b<lim/\H[b]?=some x:=by
 unfold gk at h;by_cases hb:b<lim
 ·rw[List.getElem?_append_left (by rw[List.length_take];omega),List.getElem?_take,if_pos hb]at h
  exact⟨hb,h⟩
 ·rw[List.getElem?_append_right (by rw[List.length_take];omega),List.getElem?_replicate]at h
  split at h
  ·cases h;exact absurd rfl hx
  ·cases h
theorem nm {lim:Nat}{H:Heap}(hl:lim<=H.length){b:Nat}(hb:b<lim):(gk lim H)[b]?=H[b]?:=by
 unfold gk;rw[List.getElem?_append_left (by rw[List.length_take];omega),List.getElem?_take,if_pos hb]

section
variable {φ0:Phi}{F0:Nat->Nat->Prop}{H0:Heap}{w0:World}{φ:Phi}{F:Nat->Nat->Prop}{H:Heap}{w:World}{β:Nat->Nat}{env:Env}{act:Act}{T:TT}{lim:Nat}

theorem CRel.cut {a:AV}{v:Value}(hl:lim<=H.length)(h:CRel φ F H w a v)(hb:Hm.below lim a=true):CRel φ F (gk lim H) w a v:=by
 have e:Ext φ F (H.take lim) w φ F (gk lim H) w:=⟨fun b cs h=>by
  obtain⟨h1,h2⟩:=cw h;exact⟨cs,by rw[nm hl h1];exact h2,Nat.le_refl _,fun _=>rfl⟩,fun b es h=>by
  obtain⟨h1,h2⟩:=cw h;exact⟨⟨es,by rw[nm hl h1];exact h2⟩,rfl⟩,fun _ _ h=>⟨h,rfl⟩,Wm.refl w⟩
 exact(h.shrink hb).mono e
theorem VRel.cut {a:AV}{v:Value}(hl:lim<=H.length)(h:VRel φ F H w a v)(hb:Hm.below lim a=true):VRel φ F (gk lim H) w a v:=by
 have e:Ext φ F (H.take lim) w φ F (gk lim H) w:=⟨fun b cs h=>by
  obtain⟨h1,h2⟩:=cw h;exact⟨cs,by rw[nm hl h1];exact h2,Nat.le_refl _,fun _=>rfl⟩,fun b es h=>by
  obtain⟨h1,h2⟩:=cw h;exact⟨⟨es,by rw[nm hl h1];exact h2⟩,rfl⟩,fun _ _ h=>⟨h,rfl⟩,Wm.refl w⟩
 exact(h.shrink hb).mono e

theorem KZ (sr:SR φ F H w)(hl:lim<=H.length)(hcl:Cl lim H):SR φ (F2 φ F H lim) (gk lim H) w:=by
 have e2:Ext φ F (gk lim H) w φ (F2 φ F H lim) (gk lim H) w:=⟨fun _ cs h=>⟨cs,h,Nat.le_refl _,fun _=>rfl⟩,fun _ es h=>⟨⟨es,h⟩,rfl⟩,fun _ _ h=>⟨.inl h,rfl⟩,Wm.refl w⟩;have lv:∀b,live (gk lim H) b->live H b/\b<lim:=fun b ⟨x,h1,h2⟩=>by
  obtain⟨h3,h4⟩:=oZ hl h1 (fun e=>by subst e;exact h2)
  exact⟨⟨x,h4,h2⟩,h3⟩
 refine⟨fun b cs h hne=>?_,fun b es h=>?_,fun b b' h h'=>sr.inj b b' (lv b h).1 (lv b' h').1,fun b o h hF=>?_,fun k o h=>?_⟩
 ·obtain⟨h1,h2⟩:=oZ hl h (fun e=>by cases e)
  obtain⟨arr,ty,ha,hr⟩:=sr.blk b cs h2 hne;refine⟨arr,ty,ha,fun i a hi=>?_⟩;obtain⟨u,hu,hrel⟩:=hr i a hi;exact⟨u,hu,(hrel.cut hl (cf (hcl b cs h1 h2) hi)).mono e2⟩
 ·obtain⟨h1,h2⟩:=oZ hl h (fun e=>by cases e)
  obtain⟨ces,clk,ha,hm1,hm2,hm3⟩:=sr.mblk b es h2;refine⟨ces,clk,ha,hm1,fun i k v hi=>?_,hm3⟩;obtain⟨a1,a2,c,a3,a4,a5⟩:=hm2 i k v hi;exact⟨a1,a2,c,a3,(a4.cut hl (cY (Nat.zero_le _) _ a1)).mono e2,(a5.cut hl (cY (Nat.zero_le _) _ a2)).mono e2⟩
 ·rcases hF with hF | ⟨b',hb',hl',he⟩
  ·exact sr.phiF b o (lv b h).1 hF
  ·have:=sr.inj b' b hl' (lv b h).1 he;have:=(lv b h).2;omega
 ·rcases h with h | ⟨b',_,hl',he⟩
  ·exact sr.fsz k o h
  ·rw[<-he];exact live_lt sr hl'

theorem Dh (f:Full φ0 F0 H0 w0 φ F H w β env act T)(h0:lim=H0.length)(hl:lim<=H.length)(hcl:Cl lim H):Full φ0 F0 H0 w0 φ (F2 φ F H lim) (gk lim H) w β (oM lim H env) act T:=by
 have sr':=KZ f.st.sr hl hcl;have sr:=f.st.sr;have lv:∀b,live (gk lim H) b->live H b:=fun b ⟨x,h1,h2⟩=>by
  obtain⟨h3,h4⟩:=oZ hl h1 (fun e=>by subst e;exact h2)
  exact⟨x,h4,h2⟩
 have bx:∀t cs,find (oM lim H env) t= .box cs->∃cs0,find env t= .box cs0/\True:=fun t cs h=>by
  rw[jV]at h;exact Dg h
 refine⟨⟨sr',f.st.size,fun t=>?_,fun t cs b h hlv=>?_,fun t t' c1 c2 h1 h2 he=>?_,fun t cs o h hF=>?_⟩,⟨fun b cs h=>?_,fun b es h=>?_,fun k o h=>⟨.inl (f.ext.frz k o h).1,(f.ext.frz k o h).2⟩,f.ext.wm⟩,f.chg,fun b h=>f.phi b (lv b h),fun t cs h=>?_,?_,fun k o h=>?_⟩
 ·rw[jV];have hs:=f.st.slot t;generalize hv:find env t=v at hs;by_cases hbx:∃cs0,v= .box cs0
  ·obtain⟨cs,rfl⟩:=hbx;unfold kG;dsimp only;split
   ·rename_i cs' hm;split
    ·rename_i hb;refine⟨hs.1,?_⟩;obtain⟨arr,ty,ha,hr⟩:=hs.2;obtain⟨hml,hmg⟩:=fK hm;refine⟨arr,ty,ha,fun i a hi=>?_⟩;rw[List.getElem?_map]at hi;obtain⟨a1,hi1,rfl⟩:=Option.map_eq_some_iff.1 hi;obtain⟨a0,ha0,hf⟩:=hmg i a1 hi1;obtain⟨u,hu,hrel⟩:=hr i a0 ha0;exact⟨u,hu,zD 4 ((RY sr 8 hf hrel).cut hl (cf hb hi1))⟩
    ·trivial
   ·trivial
  ·rw[tN (fun cs h=>hbx ⟨cs,h⟩)];split
   ·rename_i v' hf;split
    ·rename_i hb;have hr:VRel φ F H w v (act.tmps.getD t undef):=by
      cases v<;>first | exact hs | (simp only[frz,RZ]at hf;subst hf;simp[Hm.below]at hb;done) | exact absurd ⟨_,rfl⟩ hbx
     have h2:=KY ((De sr 8 hf hr).cut hl hb);have h3:=p8 hb;generalize oJ v'=u at h2 h3;cases u<;>first | exact h2 | (simp[Hm.below]at h3;done)
    ·trivial
   ·trivial
 ·obtain⟨cs0,h1,_⟩:=bx t cs h;exact f.st.bphi t cs0 b h1 (lv b hlv)
 ·obtain⟨c3,h3,_⟩:=bx t c1 h1;obtain⟨c4,h4,_⟩:=bx t' c2 h2;exact f.st.binj t t' c3 c4 h3 h4 he
 ·obtain⟨cs0,h1,_⟩:=bx t cs h;rcases hF with hF | ⟨b',_,hl',he⟩
  ·exact f.st.bF t cs0 o h1 hF
  ·exact f.st.bphi t cs0 b' h1 hl' he.symm
 ·obtain⟨cs',h1,h2,h3⟩:=f.ext.len b cs h;have hlt:b<lim:=by rw[h0];exact(List.getElem?_eq_some_iff.1 h).1
  exact⟨cs',by rw[nm hl hlt];exact h1,h2,h3⟩
 ·obtain⟨⟨es',h1⟩,h2⟩:=f.ext.map b es h;have hlt:b<lim:=by rw[h0];exact(List.getElem?_eq_some_iff.1 h).1
  exact⟨⟨es',by rw[nm hl hlt];exact h1⟩,h2⟩
 ·obtain⟨cs0,h1,_⟩:=bx t cs h;exact f.beta t cs0 h1
 ·have hd:=f.dfr;unfold Dfr at *;split
  ·rename_i hr;rw[hr]at hd;exact⟨hd.1,fun d hm=>by
    obtain⟨r,h1,⟨o,h2⟩,h3,h4⟩:=hd.2 d hm;exact⟨r,h1,⟨o,.inl h2⟩,h3,h4⟩⟩
  ·rename_i l hr;rw[hr]at hd;exact hd
 ·rcases h with h | ⟨b',hb',hl',he⟩
  ·exact f.frn k o h
  ·rcases f.phi b' hl' with⟨⟨x,h1,_⟩,_⟩ | h
   ·have:=(List.getElem?_eq_some_iff.1 h1).1;omega
   ·exact .inr (by rw[<-he];exact h)
end

theorem Hk {k:Nat}{x:AC}(h:∀a b,x≠.seq a b):ve (k+1) x=x:=by
 cases x<;>first | rfl | exact absurd rfl (h _ _)
section
variable {P:Program}{C:Orc}{lk lim:Nat}
theorem nq (hm:P.follows .mixedOrders=true)(hC:bI P C)(hF:OrcFr C){n:Nat}:∀(c:Code) (ks:List (List Nat)) {pm:Pm} {ro:Option Nat} {T:TT} {φ0:Phi} {F0:Nat->Nat->Prop} {H0:Heap} {w0:World} {φ:Phi} {F:Nat->Nat->Prop} {H:Heap} {w:World} {β:Nat->Nat} {env:Env} {act:Act} {ex:Ex} {env':Env} {H':Heap} {Q:Exit->Act->World->Prop},
  pm.T=T->xX P pm.it->((ro=none/\T.rd=none)\/pm.inR=true)->(∀k o,F0 k o->k<w0.heap.size)->lim=H0.length->lim<=H.length->Cl lim H->
  Full φ0 F0 H0 w0 φ F H w β env act T->aO C n lk lim (AC.seq .frz (bi P pm c ks).1) env H=some (ex,env',H')->(∀act' w',dK φ0 F0 H0 w0 H' env' T act' w'->Q (p5 ex) act' w')->c.wpIn (FR ro) 0 P Q act w:=by
 intro c ks pm ro T φ0 F0 H0 w0 φ F H w β env act ex env' H' Q hT hS hro hF0 h0 hl hcl f h hQ;simp only[aO]at h;split at h
 ·rename_i e1 h1 hfz;split at hfz;case h_2=>cases hfz
  rename_i e2 h2 hfc;unfold AZ at hfc;split at hfc;case isFalse=>cases hfc
  simp only[RZ,R0]at hfc hfz;obtain⟨rfl,rfl⟩:=hfc;obtain⟨_,rfl,rfl⟩:=hfz;exact fJ hm hC hF _ ks hT hS hro hF0 (Dh f h0 hl hcl) h hQ
 ·rename_i hne;split at h
  ·rename_i hfc;exact absurd (by rw[hfc]) (hne _ _)
  ·cases h
theorem vE (hm:P.follows .mixedOrders=true)(hC:bI P C)(hF:OrcFr C){n:Nat}:∀(c:Code) (k:Nat) (ks:List (List Nat)) {pm:Pm} {ro:Option Nat} {T:TT} {φ0:Phi} {F0:Nat->Nat->Prop} {H0:Heap} {w0:World} {φ:Phi} {F:Nat->Nat->Prop} {H:Heap} {w:World} {β:Nat->Nat} {env:Env} {act:Act} {ex:Ex} {env':Env} {H':Heap} {Q:Exit->Act->World->Prop},
  pm.T=T->xX P pm.it->((ro=none/\T.rd=none)\/pm.inR=true)->(∀k o,F0 k o->k<w0.heap.size)->lim=H0.length->lim<=H.length->Cl lim H->
  Full φ0 F0 H0 w0 φ F H w β env act T->aO C n lk lim (ve k (bi P pm c ks).1) env H=some (ex,env',H')->(∀act' w',dK φ0 F0 H0 w0 H' env' T act' w'->Q (p5 ex) act' w')->c.wpIn (FR ro) 0 P Q act w:=by
 intro c;have other:∀(c:Code),(∀(pm:Pm) ks a b,(bi P pm c ks).1≠.seq a b)->∀(k:Nat) (ks:List (List Nat)) {pm:Pm} {ro:Option Nat} {T:TT} {φ0:Phi} {F0:Nat->Nat->Prop} {H0:Heap} {w0:World} {φ:Phi} {F:Nat->Nat->Prop} {H:Heap} {w:World} {β:Nat->Nat} {env:Env} {act:Act} {ex:Ex} {env':Env} {H':Heap} {Q:Exit->Act->World->Prop},
  pm.T=T->xX P pm.it->((ro=none/\T.rd=none)\/pm.inR=true)->(∀k o,F0 k o->k<w0.heap.size)->lim=H0.length->lim<=H.length->Cl lim H->
  Full φ0 F0 H0 w0 φ F H w β env act T->aO C n lk lim (ve k (bi P pm c ks).1) env H=some (ex,env',H')->(∀act' w',dK φ0 F0 H0 w0 H' env' T act' w'->Q (p5 ex) act' w')->c.wpIn (FR ro) 0 P Q act w:=by
  intro c hne k ks pm ro T φ0 F0 H0 w0 φ F H w β env act ex env' H' Q hT hS hro hF0 h0 hl hcl f h hQ;cases k with
  | zero=>exact nq hm hC hF c ks hT hS hro hF0 h0 hl hcl f h hQ
  | succ k=>
   rw[Hk (hne pm ks)]at h;exact fJ hm hC hF c ks hT hS hro hF0 f h hQ
 induction c with
 | seq a b iha ihb=>
  intro k ks pm ro T φ0 F0 H0 w0 φ F H w β env act ex env' H' Q hT hS hro hF0 h0 hl hcl f h hQ;cases k with
  | zero=>exact nq hm hC hF (.seq a b) ks hT hS hro hF0 h0 hl hcl f h hQ
  | succ k=>
   simp only[bi,ve,aO]at h;split at h
   ·rename_i e1 h1 ha;have fr:=tL hF _ ha;refine wpIn_seq (fJ hm hC hF a ks hT hS hro hF0 f ha (fun act' w' ⟨φ1,F1,β1,f1⟩=>?_));exact ihb k _ hT hS hro hF0 h0 (Nat.le_trans hl fr.len) (fr.cl _ (Nat.le_refl _) hl hcl) f1 h hQ
   ·rename_i hne;refine wpIn_seq (fJ hm hC hF a ks hT hS hro hF0 f h (fun act' w' hp=>?_));cases ex with
    | nrm=>exact absurd h (hne _ _)
    | exit id=>exact hQ _ _ hp
    | ret=>exact hQ _ _ hp
 | scope b ih=>
  intro k ks pm ro T φ0 F0 H0 w0 φ F H w β env act ex env' H' Q hT hS hro hF0 h0 hl hcl f h hQ;cases k with
  | zero=>exact nq hm hC hF (.scope b) ks hT hS hro hF0 h0 hl hcl f h hQ
  | succ k=>
   simp only[bi]at h;split at h
   ·simp[ve,aO]at h
   rename_i hr;obtain⟨rfl,_⟩:=hro.resolve_right hr;refine wpIn_wide.2 (wp_scope_straight ((wpIn_wide (n:=0)).1 (ih (k+1) ks hT hS hro hF0 h0 hl hcl f h (fun act' w' hp=>?_))));cases ex<;>exact hQ _ _ hp
 | region id ops draw=>exact other _ (fun pm ks a b e=>by
   simp only[bi]at e;split at e
   ·cases e
   ·split at e
    ·split at e<;>cases e
    ·cases e)
 | rangeFunc g ps asg body _ _=>exact other _ (fun pm ks a b e=>by
   simp only[bi]at e;split at e<;>cases e)
 | _=>exact other _ (fun pm ks a b e=>by simp only[bi]at e;cases e)
end

theorem li:∀(k:Nat) (as:List AV) (t:Nat),find (aP k as) t=if k<=t then (as[t-k]?).getD .dead else .dead
 | k,[],t=>by simp[aP,find]
 | k,a::r,t=>by
  simp only[aP,find,li (k+1) r t];by_cases h:k=t
  ·subst h;simp
  ·rw[if_neg h];by_cases h2:k<=t
   ·rw[if_pos h2,if_pos (by omega)]
    obtain⟨m,hm⟩:∃m,t-k=m+1:=⟨t-k-1,by omega⟩
    rw[hm,show t-(k+1)=m from by omega];simp
   ·rw[if_neg h2,if_neg (by omega)]

section
variable {P:Program}{X:Orc}{A:FuncId->Option AFn}

theorem VRel.notBox {φ:Phi}{F:Nat->Nat->Prop}{H:Heap}{w:World}{cs:List AV}{v:Value}(h:VRel φ F H w (.box cs) v):False:=by
 cases h with
 | one h=>cases h

theorem xZ {φ:Phi}{F:Nat->Nat->Prop}{H:Heap}{w:World}{as:List AV}{vs:List Value}{T:Nat}(sr:SR φ F H w)(ha:jb φ F H w as vs)(hT:as.length<=T):
  Full φ F H w φ F H w (fun _=>w.heap.size) (aP 0 as) { tmps:=vs.toArray++Array.replicate (T-vs.toArray.size) undef,defers:=[] } ⟨T,none⟩:=by
 have nb:∀t cs,find (aP 0 as) t≠.box cs:=fun t cs h=>by
  rw[li,if_pos (Nat.zero_le _),Nat.sub_zero]at h;cases hx:as[t]? with
  | none=>rw[hx]at h;cases h
  | some a=>
   rw[hx]at h;simp only[Option.getD_some]at h;subst h;have hlt:t<vs.length:=by rw[ha.1];exact(List.getElem?_eq_some_iff.1 hx).1
   exact(ha.2 t _ vs[t] hx (by simp[hlt])).notBox
 have hl:=ha.1;refine⟨⟨sr,by simp;omega,fun t=>?_,fun t cs b h=>absurd h (nb t cs),fun t t' cs cs' h=>absurd h (nb t cs),fun t cs o h=>absurd h (nb t cs)⟩,Ext.refl _ _ _ _,Chg.refl _ _,fun b hb=>.inl ⟨hb,rfl⟩,fun t cs h=>absurd h (nb t cs),Marks.nil,fun k o h=>.inl h⟩
 rw[li,if_pos (Nat.zero_le _),Nat.sub_zero];cases hx:as[t]? with
 | none=>trivial
 | some a=>
  have hlt:t<vs.length:=by rw[hl];exact(List.getElem?_eq_some_iff.1 hx).1
  have hv:(vs.toArray++Array.replicate (T-vs.toArray.size) undef).getD t undef=vs[t]:=by
   rw[Array.getD_eq_getD_getElem?,Array.getElem?_append_left (by simpa using hlt)]
   simp[hlt]
  have hr:=ha.2 t a vs[t] hx (by simp[hlt])
  simp only[Option.getD_some];rw[hv];have ho:ORel φ F H w (fun _=>w.heap.size) a vs[t]:=ORel.of hr;cases a<;>first | exact ho | exact ho.elim

theorem Bt {φ φ':Phi}{F F':Nat->Nat->Prop}{H H1:Heap}{w w':World}{β:Nat->Nat}{env:Env}{act:Act}{T:TT}{d:Nat}{v v':AV}{cv:Value}(f:Full φ F H w φ' F' H1 w' β env act T)(hcl:Cl H.length H1)(hv:VRel φ' F' H1 w' v cv)
  (hf:frz H.length H1 d v=some v') (hb:Hm.below H.length v'=true):jh φ F H w v' (H1.take H.length) cv w':=by
 have sr1:=f.st.sr.take hcl;have lv:∀b,live (H1.take H.length) b->live H1 b/\b<H.length:=fun b ⟨cs,h1,h2⟩=>⟨⟨cs,(cw h1).2,h2⟩,(cw h1).1⟩;have e2:Ext φ' F' (H1.take H.length) w' φ' (F2 φ' F' H1 H.length) (H1.take H.length) w':=⟨fun _ cs h=>⟨cs,h,Nat.le_refl _,fun _=>rfl⟩,fun _ es h=>⟨⟨es,h⟩,rfl⟩,fun _ _ h=>⟨.inl h,rfl⟩,Wm.refl w'⟩;refine⟨φ',F2 φ' F' H1 H.length,(De f.st.sr d hf hv).shrink hb,⟨fun b cs h hne=>?_,fun b es h=>?_,sr1.inj,fun b o hl h=>?_,fun k o h=>?_⟩,⟨fun b cs h=>?_,fun b es h=>?_,fun k o h=>⟨.inl (f.ext.frz k o h).1,(f.ext.frz k o h).2⟩,f.ext.wm⟩,f.chg,fun b hl=>f.phi b (lv b hl).1,fun k o h=>?_⟩
 ·obtain⟨arr,ty,ha,hr⟩:=sr1.blk b cs h hne;exact⟨arr,ty,ha,fun i a hi=>by
   obtain⟨u,hu,hrel⟩:=hr i a hi;exact⟨u,hu,hrel.mono e2⟩⟩
 ·obtain⟨ces,clk,ha,hr⟩:=sr1.mblk b es h;exact⟨ces,clk,ha,hr.mono e2⟩
 ·rcases h with h | ⟨b',hb',hl',he⟩
  ·exact sr1.phiF b o hl h
  ·have:=f.st.sr.inj b' b hl' (lv b hl).1 he;have:=(lv b hl).2;omega
 ·rcases h with h | ⟨b',_,hl',he⟩
  ·exact sr1.fsz k o h
  ·rw[<-he];exact live_lt f.st.sr hl'
 ·obtain⟨cs',h1,h2,h3⟩:=f.ext.len b cs h;have hlt:b<H.length:=(List.getElem?_eq_some_iff.1 h).1;exact⟨cs',by rw[List.getElem?_take,if_pos hlt];exact h1,h2,h3⟩
 ·obtain⟨⟨es',h1⟩,h2⟩:=f.ext.map b es h;have hlt:b<H.length:=(List.getElem?_eq_some_iff.1 h).1;exact⟨⟨es',by rw[List.getElem?_take,if_pos hlt];exact h1⟩,h2⟩
 ·rcases h with h | ⟨b',hb',hl',he⟩
  ·exact f.frn k o h
  ·rcases f.phi b' hl' with⟨⟨cs,h1,_⟩,_⟩ | h
   ·have:=(List.getElem?_eq_some_iff.1 h1).1;omega
   ·exact .inr (by omega)

def zE (P:Program)(A:FuncId->Option AFn):Prop:=∀f fd,A f=some fd->∃pm ks,aD P (f % 1000) pm ks fd.trunc=some fd/\xX P pm.it
theorem Di (fz:Option Nat)(t:Bool)(c:AC):zr fz t c=c\/∃k,t=true/\zr fz t c=ve k c:=by
 unfold zr;cases fz with
 | none=>exact .inl rfl
 | some k=>cases t with
  | true=>exact .inr ⟨k,rfl,rfl⟩
  | false=>exact .inl rfl

theorem vF (hm:P.follows .mixedOrders=true)(hX:bI P X)(hXF:OrcFr X)(hA:zE P A):∀n,bI P (bw X A n)
 | 0=>fun _ _ _ _ _ _ _ h=>by simp[bw]at h
 | n+1=>by
  have ih:=vF hm hX hXF hA n;have ihF:=vB (A:=A) hXF n;intro lk lim f as H r H' h;simp only[bw]at h;split at h
  ·rename_i r' hx;simp only[RZ]at h;subst h;exact hX _ _ _ _ _ _ _ hx
  ·split at h;case h_1=>simp at h
   rename_i fd hfd;split at h;case isFalse=>simp at h
   rename_i hnp;obtain⟨pm,ks,hcomp,hsq⟩:=hA f fd hfd;unfold aD at hcomp;split at hcomp;case h_2=>simp at hcomp
   rename_i fn hfn;split at hcomp;case h_2=>simp at hcomp
   rename_i c hbody;split at hcomp;case isFalse=>simp at hcomp
   rename_i hchk;simp only[RZ]at hcomp;obtain⟨hname,hsz,hres⟩:=hchk;refine⟨⟨fn,hfn,hname,by rw[hbody];rfl⟩,fun φ F w vs sr ha=>?_⟩
   rw[<-hcomp]at h hnp;dsimp only at h hnp;have f0:=xZ (T:=fn.ntmps) sr ha (by omega)
   unfold cB at h;split at h
   ·simp at h
   ·rename_i ex env1 H1 hnx hex;split at h;case h_2=>simp at h
    rename_i v hv;have snd:∀{Q:Exit->Act->World->Prop},(∀act' w',dK φ F H w H1 env1 (⟨fn.ntmps,none⟩:TT) act' w'->Q (p5 ex) act' w')->c.wpIn (FR none) 0 P Q { tmps:=vs.toArray++Array.replicate (fn.ntmps-vs.toArray.size) undef,defers:=[] } w:=fun hQ=>by
     have hex:=hex;rcases Di pm.fz fd.trunc (bi P { pm with T:=fn.ntmps } c ks).1 with hb | ⟨k,ht,hb⟩
     ·rw[hb]at hex;exact fJ hm ih ihF c ks (pm:={ pm with T:=fn.ntmps }) (ro:=none) (T:=⟨fn.ntmps,none⟩) rfl hsq (.inl ⟨rfl,rfl⟩) sr.fsz f0 hex hQ
     ·rw[hb,if_pos ht]at hex;exact vE hm ih ihF c k ks (pm:={ pm with T:=fn.ntmps }) (ro:=none) (T:=⟨fn.ntmps,none⟩) rfl hsq (.inl ⟨rfl,rfl⟩) sr.fsz rfl (Nat.le_refl _) sr.cl f0 hex hQ
    refine(callsIn_wide (n:=0)).1 (callsIn_of_wp_marks hfn hbody trivial (snd (fun act' w1 ⟨φ1,F1,β1,f1⟩=>?_)) rfl);have leave:∀w',(∃φ' F' β',Full φ F H w φ' F' H1 w' β' env1 { tmps:=act'.tmps,defers:=[] } ⟨fn.ntmps,none⟩)->∃v,(results fn act'.tmps).run P w'= .ok v w'/\∃v',Ending.returned v= .returned v'/\jh φ F H w r H' v' w':=by
     rintro w' ⟨φ',F',β',f'⟩;obtain⟨cv,hrun,hrel⟩:=vD f'.st hres hv;have hfr:=tL ihF _ hex;refine⟨cv,hrun,cv,rfl,?_⟩;split at h
     ·rename_i ht;rw[if_pos ht]at hfr;split at h;case h_2=>simp at h
      rename_i v' hfz;split at h;case isFalse=>simp at h
      rename_i hbel;simp only[RZ,R0]at h;obtain⟨rfl,rfl⟩:=h;exact Bt f' (hfr.cl _ (Nat.le_refl _) (Nat.le_refl _) sr.cl) hrel hfz hbel
     ·simp only[RZ,R0]at h;obtain⟨rfl,rfl⟩:=h;exact⟨φ',F',hrel,f'.st.sr,f'.ext,f'.chg,f'.phi,f'.frn⟩
    have all:∀(ds:List Deferred) (w':World),(∃φ' F' β',Full φ F H w φ' F' H1 w' β' env1 { tmps:=act'.tmps,defers:=ds } ⟨fn.ntmps,none⟩)->LeavesInM Fence.wide 0 P fn act'.tmps (fun e w'=>∃v,e= .returned v/\jh φ F H w r H' v w') ds .returning w':=by
     intro ds;induction ds with
     | nil=>intro w' h;exact leave w' h
     | cons d ds ihd=>
      rintro w' ⟨φ',F',β',f'⟩;obtain⟨q,rfl,hq,f2⟩:=f'.close sr.fsz rfl;exact⟨by simp,.inl ⟨q,_,rfl,run_takeDeferred hq,ihd _ ⟨φ',F',β',f2⟩⟩⟩
    have h0:=all act'.defers w1 ⟨φ1,F1,β1,f1⟩;cases ex with
    | nrm=>exact h0
    | ret=>exact h0
    | exit id=>exact(hnx id rfl).elim
   ·simp at h
end

def OLe (C C':Orc):Prop:=∀lk lim f as H r,C lk lim f as H=some r->C' lk lim f as H=some r

theorem OLe.refl (C:Orc):OLe C C:=fun _ _ _ _ _ _ h=>h
theorem OLe.trans {A B C:Orc}(h:OLe A B)(k:OLe B C):OLe A C:=fun _ _ _ _ _ _ e=>k _ _ _ _ _ _ (h _ _ _ _ _ _ e)

section
variable {C C':Orc}

theorem x6 (hC:OLe C C'){lk lim:Nat}{dst:Option Nat}{op:AOp}{env:Env}{H:Heap}{r:Env×Heap}(h:fF C lk lim dst op env H=some r):fF C' lk lim dst op env H=some r:=by
 unfold fF at h |-;split at h
 ·exact h
 ·exact h
 ·exact h
 ·split at h;case h_2=>simp at h
  rename_i g as hg;split at h;case isFalse=>simp at h
  rename_i ha;split at h;case h_2=>simp at h
  rename_i v H' hc;simp only[ha,if_true,hC _ _ _ _ _ _ hc];exact h
 ·exact h

theorem Bu (hC:OLe C C'){lk lim base cb:Nat}{dst:Option Nat}{op:AOp}{k:Nat}{env:Env}{H:Heap}{r:Env×Heap}(h:fG C lk lim base cb dst op k env H=some r):fG C' lk lim base cb dst op k env H=some r:=by
 unfold fG at h |-;split at h
 ·exact h
 ·exact h
 ·exact h
 ·split at h;case h_2=>simp at h
  rename_i g as hg;split at h;case isFalse=>simp at h
  rename_i ha;split at h;case h_2=>simp at h
  rename_i v H' hc;rw[if_pos ha];simp only[hC _ _ _ _ _ _ hc];exact h
 ·exact h

theorem Bv (hC:OLe C C'){lk lim:Nat}{dst:Option Nat}{op:AOp}{env:Env}{H:Heap}{r:Env×Heap}(h:lL C lk lim dst op env H=some r):lL C' lk lim dst op env H=some r:=by
 unfold lL at h |-;split at h;case h_2=>simp at h
 split at h;case isFalse=>simp at h
 rename_i ha;split at h;case h_2=>simp at h
 rename_i v H' hc;rw[if_pos ha];simp only[hC _ _ _ _ _ _ hc];exact h

theorem qa (hC:OLe C C'){lk lim:Nat}{i:AI}{env:Env}{H:Heap}{r:Env×Heap}(h:gr C lk lim i env H=some r):gr C' lk lim i env H=some r:=by
 unfold gr at h |-;split at h
 ·exact x6 hC h
 ·exact h
 ·exact h

theorem qc (hC:OLe C C'){ws:WS}{lk lim base cb:Nat}{i:AI}{env:Env}{H:Heap}{r:Env×Heap}(h:dq C lk lim ws base cb i env H=some r):dq C' lk lim ws base cb i env H=some r:=by
 unfold dq at h |-;split at h
 ·split at h
  ·rename_i hok;rw[if_pos hok];split at h
   ·rename_i hfr;rw[if_pos hfr];exact Bv hC h
   ·rename_i hfr;rw[if_neg hfr];exact Bu hC h
  ·simp at h
 ·exact h
 ·exact h

theorem gy (hC:OLe C C'){lk lim:Nat}:∀{l:List AI} {env:Env} {H:Heap} {r:Env×Heap},cL C lk lim l env H=some r->cL C' lk lim l env H=some r
 | [],_,_,_,h=>h
 | i::l,env,H,r,h=>by
  simp only[cL]at h |-;split at h
  ·rename_i e1 h1 hs;rw[qa hC hs];exact gy hC h
  ·simp at h

theorem jW (hC:OLe C C'){ws:WS}{lk lim base:Nat}:∀{l:List AI} {env:Env} {H:Heap} {r:Env×Heap},cX C lk lim ws base l env H=some r->cX C' lk lim ws base l env H=some r
 | [],_,_,_,h=>h
 | i::l,env,H,r,h=>by
  simp only[cX]at h |-;split at h
  ·rename_i e1 h1 hs;rw[qc hC hs];exact jW hC h
  ·simp at h

theorem fp {f g:Env->Heap->Out}(hfg:∀env H r,f env H=some r->g env H=some r):∀{n m:Nat} (_:n<=m) {env:Env} {H:Heap} {r:Ex×Env×Heap},eK f n env H=some r->eK g m env H=some r
 | 0,_,_,_,_,_,h=>by simp[eK]at h
 | n+1,m,hm,env,H,r,h=>by
  obtain⟨m,rfl⟩:∃k,m=k+1:=⟨m-1,by omega⟩
  simp only[eK]at h |-;split at h
  ·rename_i e1 h1 hs;rw[hfg _ _ _ hs];exact fp hfg (by omega) h
  ·rename_i hx;rw[hfg _ _ _ h];split
   ·rename_i e1 h1 hs;simp only[RZ]at hs;subst hs;exact(hx _ _ h).elim
   ·rfl

theorem jp {f f' g g':Env->Heap->Out}(hf:∀env H r,f env H=some r->f' env H=some r)(hg:∀env H r,g env H=some r->g' env H=some r){ps:List Nat}{env:Env}{x:List Value}{H:Heap}{r:Ex×Env×Heap}(h:eU f g ps env x H=some r):eU f' g' ps env x H=some r:=by
 unfold eU at h |-;split at h
 ·split at h
  ·rename_i hs;rw[hf _ _ _ hs];dsimp only;split at h
   ·rename_i hb;rw[if_pos hb];exact hg _ _ _ h
   ·simp at h
  ·simp at h
 ·simp at h
theorem gz {f f' g g':Env->Heap->Out}(hf:∀env H r,f env H=some r->f' env H=some r)(hg:∀env H r,g env H=some r->g' env H=some r){ps:List Nat}{env:Env}:∀{l:List (List Value)} {H:Heap} {r:Ex×Env×Heap},cm f g ps env l H=some r->cm f' g' ps env l H=some r
 | [],_,_,h=>h
 | x::l,H,r,h=>by
  simp only[cm]at h |-;split at h
  ·rename_i hs;rw[jp hf hg hs];exact gz hf hg h
  ·rename_i ex e1 H1 hx hs;rw[jp hf hg hs];cases ex with
   | nrm=>exact(hx rfl).elim
   | exit id=>exact h
   | ret=>exact h
  ·simp at h

theorem c7 (hC:OLe C C'){n m:Nat}(hn:n<=m){lk lim:Nat}:∀{c:AC} {env:Env} {H:Heap} {r:Ex×Env×Heap},aO C n lk lim c env H=some r->aO C' m lk lim c env H=some r
 | .skip,_,_,_,h=>h
 | .frz,_,_,_,h=>h
 | .regN keep ops,env,H,r,h=>by
  simp only[aO]at h |-;split at h
  ·rename_i hs;rw[gy hC hs];exact h
  ·simp at h
 | .regD keep k ops,env,H,r,h=>by
  simp only[aO]at h |-;split at h
  ·rename_i hs;rw[jW hC hs];exact h
  ·simp at h
 | .seq a b,env,H,r,h=>by
  simp only[aO]at h |-;split at h
  ·rename_i hs;rw[c7 hC hn hs];exact c7 hC hn h
  ·rename_i hx;rw[c7 hC hn h];split
   ·rename_i hs;simp only[RZ]at hs;subst hs;exact(hx _ _ h).elim
   ·rfl
 | .cond c a b,env,H,r,h=>by
  simp only[aO]at h |-;split at h
  ·split at h
   ·rename_i ht;rw[if_pos ht];exact c7 hC hn h
   ·rename_i ht;rw[if_neg ht];exact c7 hC hn h
  ·simp at h
 | .block id b,env,H,r,h=>by
  simp only[aO]at h |-;split at h
  ·rename_i hs;rw[c7 hC hn hs];exact h
  ·rename_i hx;rw[c7 hC hn h];split
   ·rename_i hs;simp only[RZ]at hs;subst hs;exact(hx _ _ _ h).elim
   ·rfl
 | .loop keep b,env,H,r,h=>by
  simp only[aO]at h |-;exact fp (fun _ _ _ hr=>c7 hC hn hr) hn h
 | .rangeF keep it g ps asg body,env,H,r,h=>by
  simp only[aO]at h |-;split at h
  ·exact gz (fun _ _ _ hr=>c7 hC hn hr) (fun _ _ _ hr=>c7 hC hn hr) h
  ·simp at h
 | .exit _,_,_,_,h=>h
 | .ret,_,_,_,h=>h
 | .bad,_,_,_,h=>by simp[aO]at h
end

theorem de (X:Orc)(A:FuncId->Option AFn):∀{n m:Nat},n<=m->OLe (bw X A n) (bw X A m)
 | 0,_,_=>fun _ _ _ _ _ _ h=>by simp[bw]at h
 | n+1,m,hm=>fun lk lim f as H r h=>by
  obtain⟨m,rfl⟩:∃k,m=k+1:=⟨m-1,by omega⟩
  have ih:=de X A (n:=n) (m:=m) (by omega)
  simp only[bw]at h |-;split at h
  ·exact h
  ·split at h
   ·simp at h
   ·split at h
    ·unfold cB at h;split at h
     ·simp at h
     ·rename_i hx hs;rw[if_pos ‹_›,c7 ih (by omega) hs]
      unfold cB;split
      ·rename_i heq;simp only[RZ,R0]at heq;exact(hx _ heq.1).elim
      ·rename_i heq;simp only[RZ,R0]at heq;obtain⟨_,rfl,rfl⟩:=heq;exact h
      ·rename_i heq;simp at heq
     ·simp at h
    ·simp at h

open Classical in
noncomputable def ia (f:Env->Heap->Out)(env:Env)(H:Heap):Out:=if h:∃r n,eK f n env H=some r then some (Classical.choose h) else none

theorem lY {f:Env->Heap->Out}{n:Nat}{env:Env}{H:Heap}{r:Ex×Env×Heap}(h:eK f n env H=some r):ia f env H=some r:=by
 have hx:∃r n,eK f n env H=some r:=⟨r,n,h⟩;unfold ia;rw[dif_pos hx];obtain⟨m,hm⟩:=Classical.choose_spec hx;have h1:=fp (g:=f) (fun _ _ _ h=>h) (Nat.le_max_left n m) h;have h2:=fp (g:=f) (fun _ _ _ h=>h) (Nat.le_max_right n m) hm;rw[h1]at h2;exact h2.symm
theorem lj {f:Env->Heap->Out}{env:Env}{H:Heap}{r:Ex×Env×Heap}(h:ia f env H=some r):∃n,eK f n env H=some r:=by
 unfold ia at h;split at h
 ·rename_i hx;simp only[RZ]at h;obtain⟨n,hn⟩:=Classical.choose_spec hx;exact⟨n,by rw[hn,h]⟩
 ·simp at h

theorem Dj (f:Env->Heap->Out)(env:Env)(H:Heap):ia f env H=match f env H with
  | some (.nrm,env',H')=>ia f env' H'
  | r=>r:=by
 have one:∀r,(match f env H with
  | some (.nrm,env',H')=>ia f env' H'
  | r=>r)=some r->ia f env H=some r:=fun r h=>by
  split at h
  ·rename_i hs;obtain⟨n,hn⟩:=lj h;exact lY (n:=n+1) (by simp only[eK,hs];exact hn)
  ·rename_i hx;refine lY (n:=1) ?_;simp only[eK,h];cases r with
   | mk x r=>
    cases x with
    | nrm=>exact(hx _ _ h).elim
    | exit id=>rfl
    | ret=>rfl
 have two:∀r,ia f env H=some r->(match f env H with
  | some (.nrm,env',H')=>ia f env' H'
  | r=>r)=some r:=fun r h=>by
  obtain⟨n,hn⟩:=lj h;cases n with
  | zero=>simp[eK]at hn
  | succ n=>
   simp only[eK]at hn;split at hn
   ·rename_i hs;rw[hs];exact lY hn
   ·rename_i hx;rw[hn];cases r with
    | mk x r=>
     cases x with
     | nrm=>exact(hx _ _ hn).elim
     | exit id=>rfl
     | ret=>rfl
 cases h:ia f env H with
 | some r=>rw[two r h]
 | none=>
  symm;cases h2:(match f env H with
   | some (.nrm,env',H')=>ia f env' H'
   | r=>r) with
  | none=>rfl
  | some r=>rw[one r h2]at h;simp at h

noncomputable def aU (C:Orc)(lk lim:Nat):AC->Env->Heap->Out
 | .skip,env,H=>some (.nrm,env,H)
 | .regN keep ops,env,H=>match cL C lk lim ops (ab keep env) H with
  | some (env',H')=>some (.nrm,env',H')
  | none=>none
 | .regD keep m ops,env,H=>match cX C lk lim (je lk lim H.length ops (ab keep env) (H++List.replicate m .hole)) H.length ops (ab keep env) (H++List.replicate m .hole) with
  | some (env',H')=>some (.nrm,env',H')
  | none=>none
 | .seq a b,env,H=>match aU C lk lim a env H with
  | some (.nrm,env',H')=>aU C lk lim b env' H'
  | r=>r
 | .cond c a b,env,H=>match ev env c with
  | .val (.bool t)=>if t=true then aU C lk lim a env H else aU C lk lim b env H
  | _=>none
 | .block id b,env,H=>match aU C lk lim b env H with
  | some (.exit id',env',H')=>if id'=id then some (.nrm,env',H') else some (.exit id',env',H')
  | r=>r
 | .loop keep b,env,H=>ia (fun env H=>aU C lk lim b (ab keep env) H) env H
 | .rangeF keep it g ps asg body,env,H=>match jP it g ps (ab keep env) H with
  | some items=>cm (fun e H=>aU C lk lim asg e H) (fun e H=>aU C lk lim body e H) ps (ab keep env) items H
  | none=>none
 | .exit id,env,H=>some (.exit id,env,H)
 | .ret,env,H=>some (.ret,env,H)
 | .frz,env,H=>match AZ lk lim env H with
  | some (e,h)=>some (.nrm,e,h)
  | none=>none
 | .bad,_,_=>none

theorem dU {C C':Orc}(hC:OLe C C'){n:Nat}{lk lim:Nat}:∀{c:AC} {env:Env} {H:Heap} {r:Ex×Env×Heap},aO C n lk lim c env H=some r->aU C' lk lim c env H=some r
 | .skip,_,_,_,h=>h
 | .frz,_,_,_,h=>h
 | .regN keep ops,env,H,r,h=>by
  simp only[aO,aU]at h |-;split at h
  ·rename_i hs;rw[gy hC hs];exact h
  ·simp at h
 | .regD keep k ops,env,H,r,h=>by
  simp only[aO,aU]at h |-;split at h
  ·rename_i hs;rw[jW hC hs];exact h
  ·simp at h
 | .seq a b,env,H,r,h=>by
  simp only[aO,aU]at h |-;split at h
  ·rename_i hs;rw[dU hC hs];exact dU hC h
  ·rename_i hx;rw[dU hC h];split
   ·rename_i hs;simp only[RZ]at hs;subst hs;exact(hx _ _ h).elim
   ·rfl
 | .cond c a b,env,H,r,h=>by
  simp only[aO,aU]at h |-;split at h
  ·rename_i hc;rw[hc];dsimp only;split at h
   ·rename_i ht;rw[if_pos ht];exact dU hC h
   ·rename_i ht;rw[if_neg ht];exact dU hC h
  ·simp at h
 | .block id b,env,H,r,h=>by
  simp only[aO,aU]at h |-;split at h
  ·rename_i hs;rw[dU hC hs];exact h
  ·rename_i hx;rw[dU hC h];split
   ·rename_i hs;simp only[RZ]at hs;subst hs;exact(hx _ _ _ h).elim
   ·rfl
 | .loop keep b,env,H,r,h=>by
  simp only[aO,aU]at h |-;exact lY (fp (fun _ _ _ hr=>dU hC hr) (Nat.le_refl n) h)
 | .rangeF keep it g ps asg body,env,H,r,h=>by
  simp only[aO,aU]at h |-;split at h
  ·rename_i hit;rw[hit];exact gz (fun _ _ _ hr=>dU hC hr) (fun _ _ _ hr=>dU hC hr) h
  ·simp at h
 | .exit _,_,_,_,h=>h
 | .ret,_,_,_,h=>h
 | .bad,_,_,_,h=>by simp[aO]at h

section
variable (X:Orc)(A:FuncId->Option AFn)

open Classical in
noncomputable def aj:Orc:=fun lk lim f as H=>if h:∃r n,bw X A n lk lim f as H=some r then some (Classical.choose h) else none

variable {X A}
theorem qd {n:Nat}{lk lim:Nat}{f:FuncId}{as:List AV}{H:Heap}{r:AV×Heap}(h:bw X A n lk lim f as H=some r):aj X A lk lim f as H=some r:=by
 have hx:∃r n,bw X A n lk lim f as H=some r:=⟨r,n,h⟩;unfold aj;rw[dif_pos hx];obtain⟨m,hm⟩:=Classical.choose_spec hx;have h1:=de X A (Nat.le_max_left n m) _ _ _ _ _ _ h;have h2:=de X A (Nat.le_max_right n m) _ _ _ _ _ _ hm;rw[h1]at h2;exact h2.symm
theorem fL {lk lim:Nat}{f:FuncId}{as:List AV}{H:Heap}{r:AV×Heap}(h:aj X A lk lim f as H=some r):∃n,bw X A n lk lim f as H=some r:=by
 unfold aj at h;split at h
 ·rename_i hx;simp only[RZ]at h;obtain⟨n,hn⟩:=Classical.choose_spec hx;exact⟨n,by rw[hn,h]⟩
 ·simp at h
theorem Dk (n:Nat):OLe (bw X A n) (aj X A):=fun _ _ _ _ _ _ h=>qd h


theorem Bw {lk lim:Nat}{dst:Option Nat}{op:AOp}{env:Env}{H:Heap}{r:Env×Heap}(h:fF (aj X A) lk lim dst op env H=some r):∃n,fF (bw X A n) lk lim dst op env H=some r:=by
 unfold fF at h |-;split at h
 ·exact⟨0,h⟩
 ·exact⟨0,h⟩
 ·exact⟨0,h⟩
 ·split at h;case h_2=>simp at h
  rename_i g as hg;split at h;case isFalse=>simp at h
  rename_i ha;split at h;case h_2=>simp at h
  rename_i v H' hc;obtain⟨n,hn⟩:=fL hc;refine⟨n,?_⟩;simp only[ha,if_true,hn];exact h
 ·exact⟨0,h⟩

theorem Dl {lk lim base cb:Nat}{dst:Option Nat}{op:AOp}{k:Nat}{env:Env}{H:Heap}{r:Env×Heap}(h:fG (aj X A) lk lim base cb dst op k env H=some r):∃n,fG (bw X A n) lk lim base cb dst op k env H=some r:=by
 unfold fG at h |-;split at h
 ·exact⟨0,h⟩
 ·exact⟨0,h⟩
 ·exact⟨0,h⟩
 ·split at h;case h_2=>simp at h
  rename_i g as hg;split at h;case isFalse=>simp at h
  rename_i ha;split at h;case h_2=>simp at h
  rename_i v H' hc;obtain⟨n,hn⟩:=fL hc;refine⟨n,?_⟩;rw[if_pos ha];simp only[hn];exact h
 ·exact⟨0,h⟩

theorem Dm {lk lim:Nat}{dst:Option Nat}{op:AOp}{env:Env}{H:Heap}{r:Env×Heap}(h:lL (aj X A) lk lim dst op env H=some r):∃n,lL (bw X A n) lk lim dst op env H=some r:=by
 unfold lL at h |-;split at h;case h_2=>simp at h
 split at h;case isFalse=>simp at h
 rename_i ha;split at h;case h_2=>simp at h
 rename_i v H' hc;obtain⟨n,hn⟩:=fL hc;refine⟨n,?_⟩;rw[if_pos ha];simp only[hn];exact h

theorem Bx {lk lim:Nat}{i:AI}{env:Env}{H:Heap}{r:Env×Heap}(h:gr (aj X A) lk lim i env H=some r):∃n,gr (bw X A n) lk lim i env H=some r:=by
 unfold gr at h |-;split at h
 ·exact Bw h
 ·exact⟨0,h⟩
 ·exact⟨0,h⟩
theorem Bz {ws:WS}{lk lim base cb:Nat}{i:AI}{env:Env}{H:Heap}{r:Env×Heap}(h:dq (aj X A) lk lim ws base cb i env H=some r):∃n,dq (bw X A n) lk lim ws base cb i env H=some r:=by
 unfold dq at h |-;split at h
 ·split at h
  ·rename_i hok;split at h
   ·rename_i hfr;obtain⟨n,hn⟩:=Dm h;exact⟨n,by rw[if_pos hok,if_pos hfr];exact hn⟩
   ·rename_i hfr;obtain⟨n,hn⟩:=Dl h;exact⟨n,by rw[if_pos hok,if_neg hfr];exact hn⟩
  ·simp at h
 ·exact⟨0,h⟩
 ·exact⟨0,h⟩

theorem qe {lk lim:Nat}:∀{l:List AI} {env:Env} {H:Heap} {r:Env×Heap},cL (aj X A) lk lim l env H=some r->∃n,cL (bw X A n) lk lim l env H=some r
 | [],_,_,_,h=>⟨0,h⟩
 | i::l,env,H,r,h=>by
  simp only[cL]at h |-;split at h
  ·rename_i e1 h1 hs;obtain⟨n,hn⟩:=Bx hs;obtain⟨m,hm⟩:=qe h;refine⟨max n m,?_⟩;rw[qa (de X A (Nat.le_max_left n m)) hn];exact gy (de X A (Nat.le_max_right n m)) hm
  ·simp at h
theorem vG {ws:WS}{lk lim base:Nat}:∀{l:List AI} {env:Env} {H:Heap} {r:Env×Heap},cX (aj X A) lk lim ws base l env H=some r->∃n,cX (bw X A n) lk lim ws base l env H=some r
 | [],_,_,_,h=>⟨0,h⟩
 | i::l,env,H,r,h=>by
  simp only[cX]at h |-;split at h
  ·rename_i e1 h1 hs;obtain⟨n,hn⟩:=Bz hs;obtain⟨m,hm⟩:=vG h;refine⟨max n m,?_⟩;rw[qc (de X A (Nat.le_max_left n m)) hn];exact jW (de X A (Nat.le_max_right n m)) hm
  ·simp at h

theorem dV {n m:Nat}(h:n<=m){lk lim:Nat}{c:AC}{env:Env}{H:Heap}{r:Ex×Env×Heap}(he:aO (bw X A n) n lk lim c env H=some r):aO (bw X A m) m lk lim c env H=some r:=
 c7 (de X A h) h he

theorem b7 {lk lim:Nat}:∀{c:AC} {env:Env} {H:Heap} {r:Ex×Env×Heap},aU (aj X A) lk lim c env H=some r->∃n,aO (bw X A n) n lk lim c env H=some r
 | .skip,_,_,_,h=>⟨0,h⟩
 | .frz,_,_,_,h=>⟨0,h⟩
 | .regN keep ops,env,H,r,h=>by
  simp only[aO,aU]at h |-;split at h
  ·rename_i hs;obtain⟨n,hn⟩:=qe hs;exact⟨n,by rw[hn];exact h⟩
  ·simp at h
 | .regD keep k ops,env,H,r,h=>by
  simp only[aO,aU]at h |-;split at h
  ·rename_i hs;obtain⟨n,hn⟩:=vG hs;exact⟨n,by rw[hn];exact h⟩
  ·simp at h
 | .seq a b,env,H,r,h=>by
  simp only[aO,aU]at h |-;split at h
  ·rename_i hs;obtain⟨n,hn⟩:=b7 hs;obtain⟨m,hm⟩:=b7 h;refine⟨max n m,?_⟩;rw[dV (Nat.le_max_left n m) hn];exact dV (Nat.le_max_right n m) hm
  ·rename_i hx;obtain⟨n,hn⟩:=b7 h;refine⟨n,?_⟩;rw[hn];split
   ·rename_i hs;simp only[RZ]at hs;subst hs;exact(hx _ _ h).elim
   ·rfl
 | .cond c a b,env,H,r,h=>by
  simp only[aO,aU]at h |-;split at h
  ·rename_i hc;rw[hc];dsimp only;split at h
   ·rename_i ht;obtain⟨n,hn⟩:=b7 h;exact⟨n,by rw[if_pos ht];exact hn⟩
   ·rename_i ht;obtain⟨n,hn⟩:=b7 h;exact⟨n,by rw[if_neg ht];exact hn⟩
  ·simp at h
 | .block id b,env,H,r,h=>by
  simp only[aO,aU]at h |-;split at h
  ·rename_i hs;obtain⟨n,hn⟩:=b7 hs;exact⟨n,by rw[hn];exact h⟩
  ·rename_i hx;obtain⟨n,hn⟩:=b7 h;refine⟨n,?_⟩;rw[hn];split
   ·rename_i hs;simp only[RZ]at hs;subst hs;exact(hx _ _ _ h).elim
   ·rfl
 | .loop keep b,env,H,r,h=>by
  simp only[aO,aU]at h |-;obtain⟨k,hk⟩:=lj h;have key:∀(k:Nat) (env:Env) (H:Heap),eK (fun env H=>aU (aj X A) lk lim b (ab keep env) H) k env H=some r->∃n,eK (fun env H=>aO (bw X A n) n lk lim b (ab keep env) H) n env H=some r:=by
   intro k;induction k with
   | zero=>intro env H h;simp[eK]at h
   | succ k ih=>
    intro env H h;simp only[eK]at h;split at h
    ·rename_i e1 h1 hs;obtain⟨n,hn⟩:=b7 hs;obtain⟨m,hm⟩:=ih _ _ h;refine⟨max n m+1,?_⟩;simp only[eK];rw[dV (Nat.le_trans (Nat.le_max_left n m) (Nat.le_succ _)) hn];exact fp (fun _ _ _ hr=>dV (Nat.le_trans (Nat.le_max_right n m) (Nat.le_succ _)) hr) (Nat.le_max_right n m) hm
    ·rename_i hx;obtain⟨n,hn⟩:=b7 h;refine⟨n+1,?_⟩;simp only[eK];rw[dV (Nat.le_succ _) hn];split
     ·rename_i hs;simp only[RZ]at hs;subst hs;exact(hx _ _ h).elim
     ·rfl
  exact key k env H hk
 | .rangeF keep it g ps asg body,env,H,r,h=>by
  simp only[aO,aU]at h |-;split at h;case h_2=>simp at h
  rename_i items hit;have one:∀{x:List Value} {H:Heap} {r:Ex×Env×Heap},eU (fun e H=>aU (aj X A) lk lim asg e H) (fun e H=>aU (aj X A) lk lim body e H) ps (ab keep env) x H=some r->
    ∃n,eU (fun e H=>aO (bw X A n) n lk lim asg e H) (fun e H=>aO (bw X A n) n lk lim body e H) ps (ab keep env) x H=some r:=by
   intro x H r h;unfold eU at h |-;split at h
   ·split at h
    ·rename_i hs;split at h;case isFalse=>simp at h
     rename_i hb;obtain⟨n,hn⟩:=b7 hs;obtain⟨m,hm⟩:=b7 h;refine⟨max n m,?_⟩;dsimp only;rw[dV (Nat.le_max_left n m) hn];dsimp only;rw[if_pos hb];exact dV (Nat.le_max_right n m) hm
    ·simp at h
   ·simp at h
  have key:∀(l:List (List Value)) (H:Heap),cm (fun e H=>aU (aj X A) lk lim asg e H) (fun e H=>aU (aj X A) lk lim body e H) ps (ab keep env) l H=some r->
    ∃n,cm (fun e H=>aO (bw X A n) n lk lim asg e H) (fun e H=>aO (bw X A n) n lk lim body e H) ps (ab keep env) l H=some r:=by
   intro l;induction l with
   | nil=>intro H h;exact⟨0,h⟩
   | cons x l ih=>
    intro H h;simp only[cm]at h |-;split at h
    ·rename_i hs;obtain⟨n,hn⟩:=one hs;obtain⟨m,hm⟩:=ih _ h;refine⟨max n m,?_⟩;rw[jp (fun _ _ _ hr=>dV (Nat.le_max_left n m) hr) (fun _ _ _ hr=>dV (Nat.le_max_left n m) hr) hn];exact gz (fun _ _ _ hr=>dV (Nat.le_max_right n m) hr) (fun _ _ _ hr=>dV (Nat.le_max_right n m) hr) hm
    ·rename_i ex e1 H1 hx hs;obtain⟨n,hn⟩:=one hs;refine⟨n,?_⟩;rw[hn];cases ex with
     | nrm=>exact(hx rfl).elim
     | exit id=>exact h
     | ret=>exact h
    ·simp at h
  rw[hit];exact key items H h
 | .exit _,_,_,_,h=>⟨0,h⟩
 | .ret,_,_,_,h=>⟨0,h⟩
 | .bad,_,_,_,h=>by simp[aU]at h

theorem oi {fd:AFn}{H:Heap}{o:Out}{r:AV×Heap}(h:cB fd H o=some r):∃q,o=some q:=by
 cases o with
 | none=>simp[cB]at h
 | some q=>exact⟨q,rfl⟩

theorem vH {lk lim:Nat}{f:FuncId}{as:List AV}{H:Heap}{fd:AFn}(hX:X lk lim f as H=none)(hA:A f=some fd)(hl:as.length=fd.np):
  aj X A lk lim f as H=cB fd H (aU (aj X A) lk (if fd.trunc then H.length else lim) fd.body (aP 0 as) H):=by
 cases h:cB fd H (aU (aj X A) lk (if fd.trunc then H.length else lim) fd.body (aP 0 as) H) with
 | some r=>
  obtain⟨q,hq⟩:=oi h;obtain⟨n,hn⟩:=b7 hq;refine qd (n:=n+1) ?_;simp only[bw,hX,hA,if_pos hl];rw[hn,<-hq];exact h
 | none=>
  cases h2:aj X A lk lim f as H with
  | none=>rfl
  | some r=>
   obtain⟨n,hn⟩:=fL h2;cases n with
   | zero=>simp[bw]at hn
   | succ n=>
    simp only[bw,hX,hA,if_pos hl]at hn;obtain⟨q,hq⟩:=oi hn;rw[dU (Dk n) hq,<-hq,hn]at h;simp at h

theorem eB {lk lim:Nat}{f:FuncId}{as:List AV}{H:Heap}{r:AV×Heap}(hX:X lk lim f as H=some r):aj X A lk lim f as H=some r:=
 qd (n:=1) (by simp only[bw,hX])

theorem vI {P:Program}(hm:P.follows .mixedOrders=true)(hX:bI P X)(hXF:OrcFr X)(hA:zE P A):bI P (aj X A):=fun lk lim f as H r H' h=>by
 obtain⟨n,hn⟩:=fL h;exact vF hm hX hXF hA n _ _ _ _ _ _ _ hn
end

def se:List (Nat×AFn)->FuncId->Option AFn
 | [],_=>none
 | (k,fd)::r,f=>if k=f then some fd else se r f

def vJ (P:Program)(p:Nat×AFn):Prop:=∃pm ks,aD P (p.1 % 1000) pm ks p.2.trunc=some p.2/\xX P pm.it
theorem x7 {P:Program}:∀p∈([]:List (Nat×AFn)),vJ P p:=by simp
theorem am {P:Program}{p:Nat×AFn}{l:List (Nat×AFn)}(h:vJ P p)(k:∀q∈l,vJ P q):∀q∈p::l,vJ P q:=by
 intro q hq;rcases List.mem_cons.1 hq with h1 | h1
 ·subst h1;exact h
 ·exact k q h1
theorem sg:∀{l:List (Nat×AFn)} {f:FuncId} {fd:AFn},se l f=some fd->(f,fd)∈l
 | [],_,_,h=>by simp[se]at h
 | (k,fd')::r,f,fd,h=>by
  simp only[se]at h;split at h
  ·rename_i e;simp only[RZ]at h;subst h;subst e;exact List.mem_cons_self ..
  ·exact List.mem_cons_of_mem _ (sg h)
theorem Dn {P:Program}{l:List (Nat×AFn)}(h:∀p∈l,vJ P p):zE P (se l):=fun _ _ hf=>h _ (sg hf)

end Go.Hm

