/- The machine HM, part 6. -/
import Derived.Test.YtkllbcjanneppaaGreatHmG5
import Derived.LoopNIn
set_option linter.unusedSimpArgs false
set_option linter.unusedVariables false
namespace Go.Hm
open Go Go.RowKit

section
variable {P:Program}{φ0:Phi}{F0:Nat→Nat→Prop}{H0:Heap}{w0:World}{T:TT}{C:Orc}{lk lim:Nat}{ws:WS}{pm:Pm}

theorem Full.heap {φ:Phi}{F:Nat→Nat→Prop}{H H':Heap}{w:World}{β:Nat→Nat}{env:Env}{act:Act}(f:Full φ0 F0 H0 w0 φ F H w β env act T)(h:∀(b:Nat) cs,H'[b]?=some (.cells cs)↔H[b]?=some (.cells cs))(hm:∀(b:Nat) es,H'[b]?=some (.map es)↔H[b]?=some (.map es)):
  Full φ0 F0 H0 w0 φ F H' w β env act T:=by
 have e:Ext φ F H w φ F H' w:=⟨fun b cs hb=>⟨cs,(h b cs).2 hb,Nat.le_refl _,fun _=>rfl⟩,fun b es hb=>⟨⟨es,(hm b es).2 hb⟩,rfl⟩,fun k o hk=>⟨hk,rfl⟩,Wm.refl w⟩;have lv:∀b,live H' b→live H b:=fun b ⟨x,h1,h2⟩=>by
  cases x with
  | hole=>exact h2.elim
  | cells cs=>exact ⟨_,(h b cs).1 h1,h2⟩
  | map es=>exact ⟨_,(hm b es).1 h1,h2⟩
 have sr:SR φ F H' w:=⟨fun b cs hb hne=>by
  obtain ⟨arr,ty,ha,hc⟩:=f.st.sr.blk b cs ((h b cs).1 hb) hne;exact ⟨arr,ty,ha,fun i a hi=>by
   obtain ⟨v,hv,hr⟩:=hc i a hi;exact ⟨v,hv,hr.mono e⟩⟩,fun b es hb=>by
  obtain ⟨ces,clk,ha,hr⟩:=f.st.sr.mblk b es ((hm b es).1 hb);exact ⟨ces,clk,ha,hr.mono e⟩,fun b b' h1 h2=>f.st.sr.inj b b' (lv b h1) (lv b' h2),fun b o hl=>f.st.sr.phiF b o (lv b hl),f.st.sr.fsz⟩
 exact ⟨f.st.mono e sr (fun t cs ht=>⟨rfl,fun b hl=>f.st.bphi t cs b ht (lv b hl),fun o=>f.st.bF t cs o ht⟩),f.ext.trans e,f.chg,fun b hl=>f.phi b (lv b hl),f.beta,f.dfr,f.frn⟩

theorem yF {i:AI}(h:cls2 i= .make):cls i.op= .make:=by
 unfold cls2 at h;split at h
 ·cases h
 ·split at h
  ·cases h
  ·exact h

theorem tl (rw:List Nat)(ops:Array Oper)(l:List AI):(mark rw ops l).length=l.length:=by simp [mark]
theorem yG (rw:List Nat)(ops:Array Oper)(l:List AI)(j:Nat):SameBut ((mark rw ops l).getD j default) (l.getD j default):=by
 unfold mark;dsimp only;rw [List.getD_eq_getElem?_getD,List.getElem?_map];by_cases h:j < l.length
 ·rw [List.getElem?_range h];exact ⟨rfl,rfl,rfl⟩
 ·rw [List.getElem?_eq_none (by simpa using h)]
  have:l.getD j default=default:=by
   rw [List.getD_eq_getElem?_getD,List.getElem?_eq_none (by omega)];rfl
  rw [this];exact ⟨rfl,rfl,rfl⟩
theorem SameBut.trans {a b c:AI}(h:SameBut a b)(k:SameBut b c):SameBut a c:=⟨h.1.trans k.1,h.2.1.trans k.2.1,h.2.2.trans k.2.2⟩

theorem lH:∀(l:List AI) (k j:Nat),SameBut ((j2 l k).getD j default) (l.getD j default)
 | [],k,j=>⟨rfl,rfl,rfl⟩
 | i::r,k,0=>by
  simp only [j2];split<;>exact ⟨rfl,rfl,rfl⟩
 | i::r,k,j+1=>by
  simp only [j2];split
  ·simpa using lH r (k+1) j
  ·simpa using lH r k j
theorem mD:∀(l:List AI) (k:Nat),(j2 l k).length=l.length
 | [],k=>rfl
 | i::r,k=>by
  simp only [j2];split<;>simp [mD r]
theorem lI:∀(l:List AI) (k:Nat),((j2 l k).filter dv).length=(l.filter dv).length
 | [],k=>rfl
 | i::r,k=>by
  simp only [j2];split
  ·rename_i h;have h':dv { i with at_:=k }=true:=h;simp [h,h',lI r]
  ·rename_i h;simp [h,lI r]

theorem iC (l:List AI):(List.range l.length).map (l.getD · default)=l:=by
 apply List.ext_getElem?;intro j;rw [List.getElem?_map];by_cases h:j < l.length
 ·rw [List.getElem?_range h];simp [h]
 ·rw [List.getElem?_eq_none (by simp;omega),List.getElem?_eq_none (by omega)]
  rfl

theorem yH (rw:List Nat)(ops:Array Oper)(l:List AI):((mark rw ops l).filter dv).length=(l.filter dv).length:=by
 have h:(l.filter dv).length=(((List.range l.length).map (l.getD · default)).filter dv).length:=by rw [iC]
 rw [h];unfold mark;dsimp only;rw [List.filter_map,List.filter_map,List.length_map,List.length_map];rfl

theorem Ax (hC:bB P C)(hF:OrcFr C)(hT:pm.T=T){φ:Phi}{F:Nat→Nat→Prop}{H:Heap}{w:World}{β:Nat→Nat}{env:Env}{act:Act}{ops:Array Oper}{keep:List Nat}{env':Env}{H':Heap}{Q:Exit→Act→World→Prop}
  (f:Full φ0 F0 H0 w0 φ F H w β env act T) (hd:qZ ops (mark pm.rows ops (j2 (ops.toList.map (dE P pm ops)) 0))=true)
  (h:cI C lk lim ws H.length (mark pm.rows ops (j2 (ops.toList.map (dE P pm ops)) 0)) (ab keep env) (H++List.replicate ((ops.toList.map (dE P pm ops)).filter dv).length .hole)=some (env',H'))
  (hQ:∀act' w',dw φ0 F0 H0 w0 H' env' T act' w'→Q .normal act' w'):wpAny P .any ops Q ops.size (Array.replicate ops.size false) act w.drew:=by
 obtain ⟨φ1,F1,β1,f1⟩:dw φ0 F0 H0 w0 H env T act w.drew:=nH f (dst:=none) (v:=.und) (cv:=undef) (F':=F) (fun d h=>by cases h) rfl (Below.refl w.heap.size w).drew (fun _ _ h=>h) (fun _ _ h=>.inl h) rfl
 generalize hl:mark pm.rows ops (j2 (ops.toList.map (dE P pm ops)) 0)=l at hd h;have hlen:l.length=ops.size:=by rw [←hl,tl,mD,List.length_map,Array.length_toList]
 have hmk:((ops.toList.map (dE P pm ops)).filter dv).length=(l.filter dv).length:=by rw [←hl,yH,lI]
 rw [hmk] at h;have f2:Full φ0 F0 H0 w0 φ1 F1 (H++List.replicate (l.filter dv).length .hole) w.drew β1 (ab keep env) act T:=by
  refine (f1.sub (dh keep env)).heap (fun b cs=>?_) (fun b es=>?_);all_goals
   by_cases hb:b < H.length
   ·rw [List.getElem?_append_left hb]
   ·rw [List.getElem?_append_right (by omega),List.getElem?_eq_none (l:=H) (by omega),List.getElem?_replicate]
    split<;>simp
 have hrest:rest ops.size (Array.replicate ops.size false)=List.range ops.size:=by
  unfold rest;rw [List.filter_eq_self];intro i hi;rw [List.mem_range] at hi;simp [Array.getD_eq_getD_getElem?,hi]
 have hmap:(rest ops.size (Array.replicate ops.size false)).map (l.getD · default)=l:=by rw [hrest,←hlen];exact iC l
 refine pV (w:=w.drew) hC hF hT (DrawOk.of hd) (fun j o ho=>?_) hQ ops.size (Array.replicate ops.size false) (by simp) (by rw [hrest];simp) (fun i o ho hi=>?_) f2 (fun _=>?_) ?_ (by rw [hmap];exact h) (EqE.refl _)
 ·have:=(yG pm.rows ops (j2 (ops.toList.map (dE P pm ops)) 0) j).trans (lH (ops.toList.map (dE P pm ops)) 0 j);rw [hl] at this;have e:(ops.toList.map (dE P pm ops)).getD j default=dE P pm ops o:=by
   rw [List.getD_eq_getElem?_getD,List.getElem?_map];simp [ho]
  rw [e] at this;exact this
 ·have hlt:=(Array.getElem?_eq_some_iff.1 ho).1;simp [Array.getD_eq_getD_getElem?,hlt] at hi
 ·have:Cl H.length H:=f1.st.sr.cl;exact this.append (Nat.le_refl _)
 ·rw [hmap];refine ⟨by simp,fun i hi hmi=>?_⟩
  have:0 < (l.filter dv).length:=List.length_pos_of_mem (List.mem_filter.2 ⟨hi,by unfold dv;rw [yF hmi];rfl⟩)
  rw [List.length_append,List.length_replicate];omega

def nU:Ex→Exit
 | .nrm=>.normal
 | .exit id=>.exit id
 | .ret=>.ret

def Begun (φ:Phi)(F:Nat→Nat→Prop)(H:Heap)(w:World)(B:World)(Z:Nat→Prop):Prop:=
 ∃φ' F',SR φ' F' H B∧Ext φ F H w φ' F' H B∧Chg w B (fun k=>∃b,live H b∧(φ b).1=k)∧(∀b,live H b→(live H b∧φ b=φ' b)∨w.heap.size≤(φ' b).1)∧(∀k o,F' k o→F k o∨w.heap.size≤k)∧
  ∀k,Z k→(∃o,F' k o)∧∃arr ty fr,B.heap[k]?=some (.cells arr ty fr)
theorem Begun.refl {φ:Phi}{F:Nat→Nat→Prop}{H:Heap}{w:World}(sr:SR φ F H w):Begun φ F H w w (fun _=>False):=
 ⟨φ,F,sr,Ext.refl _ _ _ _,Chg.refl _ _,fun b hl=>.inl ⟨hl,rfl⟩,fun _ _ h=>.inl h,fun _ h=>h.elim⟩
def vH (P:Program)(it:FuncId→List AV→Heap→Option (List (List Value))):Prop:=∀f cap H items,it f cap H=some items→iy P (f % 1000)∧(∀x∈items,∀v∈x,scal v=true)∧
 ∀φ F w vs,SR φ F H w→CL φ F H w cap vs→Eh P (Begun φ F H w) (f % 1000) vs.toArray (items.map List.toArray) w
end
section
variable {P:Program}{C:Orc}{lk lim:Nat}

theorem vI {f g:Env→Heap→Out}{ps:List Nat}{env:Env}{x:List Value}{r:List (List Value)}{H:Heap}{q:Ex×Env×Heap}(h:bR f g ps env (x::r) H=some q):
  ∃e,ik ps x env=some e∧∃e1 H1,f e H=some (.nrm,e1,H1)∧ep e1=true∧∃x2 e2 H2,g e1 H1=some (x2,e2,H2)∧((x2= .nrm∧bR f g ps env r H2=some q)∨(x2≠.nrm∧q=(x2,env,H2))):=by
 simp only [bR] at h;unfold er at h;cases hp:ik ps x env with
 | none=>simp [hp] at h
 | some e=>
  simp only [hp] at h;refine ⟨e,rfl,?_⟩;cases hf:f e H with
  | none=>simp [hf] at h
  | some p=>
   obtain ⟨x1,e1,H1⟩:=p;cases x1 with
   | exit id=>simp [hf] at h
   | ret=>simp [hf] at h
   | nrm=>
    simp only [hf] at h;cases hb:ep e1 with
    | false=>simp [hb] at h
    | true=>
     simp only [hb,if_true] at h;refine ⟨e1,H1,rfl,hb,?_⟩;cases hg:g e1 H1 with
     | none=>simp [hg] at h
     | some p=>
      obtain ⟨x2,e2,H2⟩:=p;refine ⟨x2,e2,H2,rfl,?_⟩;cases x2 with
      | nrm=>simp only [hg] at h;exact .inl ⟨rfl,h⟩
      | exit id=>simp only [hg,Option.some.injEq] at h;exact .inr ⟨by simp,h.symm⟩
      | ret=>simp only [hg,Option.some.injEq] at h;exact .inr ⟨by simp,h.symm⟩

theorem xo {φ0:Phi}{F0:Nat→Nat→Prop}{H0:Heap}{w0:World}{φ:Phi}{F:Nat→Nat→Prop}{H:Heap}{w:World}{β:Nat→Nat}{env:Env}{act:Act}{T:TT}{D:Nat}(hrd:T.rd=none)(f:Full φ0 F0 H0 w0 φ F H w β env act T)(hD:w.heap.size≤D):
  ({ target:=.collected D,args:=#[] }:Deferred)∉act.defers:=fun h=>by
 have hd:=f.dfr;unfold Dfr at hd;rw [hrd] at hd;obtain ⟨r,h1,_,_,h2⟩:=hd.2 _ h;simp only [Deferred.mk.injEq,Target.collected.injEq,and_true] at h1;subst h1;have:=(Array.getElem?_eq_some_iff.1 h2).1;omega
def HU:Ex→Code
 | .nrm=>.skip
 | .exit id=>.exit id
 | .ret=>.ret

theorem eX (hm:P.follows .mixedOrders=true)(hC:bB P C)(hF:OrcFr C){n:Nat}:∀(c:Code) (ks:List (List Nat)) {pm:Pm} {ro:Option Nat} {T:TT} {φ0:Phi} {F0:Nat→Nat→Prop} {H0:Heap} {w0:World} {φ:Phi} {F:Nat→Nat→Prop} {H:Heap} {w:World} {β:Nat→Nat} {env:Env} {act:Act} {ex:Ex} {env':Env} {H':Heap} {Q:Exit→Act→World→Prop},
  pm.T=T→vH P pm.it→((ro=none∧T.rd=none)∨pm.inR=true)→(∀k o,F0 k o→k < w0.heap.size)→
  Full φ0 F0 H0 w0 φ F H w β env act T→aL C n lk lim (be P pm c ks).1 env H=some (ex,env',H')→(∀act' w',dw φ0 F0 H0 w0 H' env' T act' w'→Q (nU ex) act' w')→c.wpIn (FR ro) 0 P Q act w:=by
 intro c;induction c with
 | skip=>
  intro ks pm ro T φ0 F0 H0 w0 φ F H w β env act ex env' H' Q hT hS hro hF0 f h hQ;simp only [be,aL,Option.some.injEq,Prod.mk.injEq] at h;obtain ⟨rfl,rfl,rfl⟩:=h;exact wpIn_skip (hQ _ _ ⟨_,_,_,f⟩)
 | label l=>
  intro ks pm ro T φ0 F0 H0 w0 φ F H w β env act ex env' H' Q hT hS hro hF0 f h hQ;simp only [be,aL,Option.some.injEq,Prod.mk.injEq] at h;obtain ⟨rfl,rfl,rfl⟩:=h;exact wpIn_label (hQ _ _ ⟨_,_,_,f⟩)
 | exit id=>
  intro ks pm ro T φ0 F0 H0 w0 φ F H w β env act ex env' H' Q hT hS hro hF0 f h hQ;simp only [be,aL,Option.some.injEq,Prod.mk.injEq] at h;obtain ⟨rfl,rfl,rfl⟩:=h;exact wpIn_exit (hQ _ _ ⟨_,_,_,f⟩)
 | ret=>
  intro ks pm ro T φ0 F0 H0 w0 φ F H w β env act ex env' H' Q hT hS hro hF0 f h hQ;simp only [be,aL,Option.some.injEq,Prod.mk.injEq] at h;obtain ⟨rfl,rfl,rfl⟩:=h;exact wpIn_ret (hQ _ _ ⟨_,_,_,f⟩)
 | region id ops draw=>
  intro ks pm ro T φ0 F0 H0 w0 φ F H w β env act ex env' H' Q hT hS hro hF0 f h hQ;simp only [be] at h;split at h
  ·simp [aL] at h
  rename_i hnd;have lets:¬LetsOut (fun e a w=>e=nU ex∧dw φ0 F0 H0 w0 H' env' T a w):=fun ⟨a,w,h,_⟩=>by cases ex<;>cases h
  cases draw with
  | true=>
   simp only [if_true] at h;split at h
   ·rename_i hd;simp only [aL] at h;split at h;case h_2=>simp at h
    rename_i e1 h1 hr;simp only [Option.some.injEq,Prod.mk.injEq] at h;obtain ⟨rfl,rfl,rfl⟩:=h;have key:=Ax (P:=P) (pm:=pm) (Q:=fun e a w=>e=nU .nrm∧dw φ0 F0 H0 w0 h1 e1 T a w) hC hF hT f hd hr (fun _ _ hp=>⟨rfl,hp⟩);refine wpIn_mono (Q:=fun e a w=>e=nU .nrm∧dw φ0 F0 H0 w0 h1 e1 T a w) ?_ (fun e a w h=>h.1▸hQ a w h.2);cases hdf:ops.toList.any (fun o=>fw o.op) with
    | true=>
     obtain ⟨rfl,_⟩:=hro.resolve_right (fun e=>hnd ⟨e,hdf⟩);exact wpIn_wide.2 (wp_region_any hm key)
    | false=>
     refine wpIn_region_draw fun t=>iB hdf lets _ _ _ ?_;simp only [Region.schedule,hm,Bool.true_or,if_true];exact wpAny_sound ops.size t _ act _ key
   ·simp [aL] at h
  | false=>
   simp only [Bool.false_eq_true,if_false,aL] at h;split at h;case h_2=>simp at h
   rename_i e1 h1 hr;simp only [Option.some.injEq,Prod.mk.injEq] at h;obtain ⟨rfl,rfl,rfl⟩:=h;have key:=j8 (ops:=ops) (Q:=fun e a w=>e=nU .nrm∧dw φ0 F0 H0 w0 h1 e1 T a w) hC hT ops.toList 0 rfl (f.sub (dh (ks.headD []) env)) hr (fun _ _ hp=>⟨rfl,hp⟩);have key:wpOps P ops (fun e a w=>e=nU .nrm∧dw φ0 F0 H0 w0 h1 e1 T a w) (List.range ops.size) act w:=by simpa [List.range_eq_range'] using key
   refine wpIn_mono (Q:=fun e a w=>e=nU .nrm∧dw φ0 F0 H0 w0 h1 e1 T a w) ?_ (fun e a w h=>h.1▸hQ a w h.2);cases hdf:ops.toList.any (fun o=>fw o.op) with
   | true=>
    obtain ⟨rfl,_⟩:=hro.resolve_right (fun e=>hnd ⟨e,hdf⟩);exact wpIn_wide.2 (wp_region key)
   | false=>exact wpIn_region (iB hdf lets _ _ _ key)
 | seq a b iha ihb=>
  intro ks pm ro T φ0 F0 H0 w0 φ F H w β env act ex env' H' Q hT hS hro hF0 f h hQ;simp only [be,aL] at h;split at h
  ·rename_i e1 h1 ha;refine wpIn_seq (iha ks hT hS hro hF0 f ha (fun act' w' ⟨φ1,F1,β1,f1⟩=>?_));exact ihb _ hT hS hro hF0 f1 h hQ
  ·rename_i hne;refine wpIn_seq (iha ks hT hS hro hF0 f h (fun act' w' hp=>?_));cases ex with
   | nrm=>exact absurd h (hne _ _)
   | exit id=>exact hQ _ _ hp
   | ret=>exact hQ _ _ hp
 | cond cnd a b iha ihb=>
  intro ks pm ro T φ0 F0 H0 w0 φ F H w β env act ex env' H' Q hT hS hro hF0 f h hQ;simp only [be,aL] at h;split at h;case h_2=>simp at h
  rename_i t hc;have hv:=aX f.st hc;refine wpIn_cond hv ?_;cases t with
  | true=>rw [if_pos rfl] at h ⊢;exact iha _ hT hS hro hF0 f h hQ
  | false=>rw [if_neg (by simp)] at h ⊢;exact ihb _ hT hS hro hF0 f h hQ
 | block id b ih=>
  intro ks pm ro T φ0 F0 H0 w0 φ F H w β env act ex env' H' Q hT hS hro hF0 f h hQ;simp only [be,aL] at h;split at h
  ·rename_i id' e1 h1 hb;refine wpIn_block (ih ks hT hS hro hF0 f hb (fun act' w' hp=>?_));show (if id'=id then Q .normal act' w' else Q (.exit id') act' w');split at h
   ·rename_i he;simp only [Option.some.injEq,Prod.mk.injEq] at h;obtain ⟨rfl,rfl,rfl⟩:=h;rw [if_pos he];exact hQ _ _ hp
   ·rename_i he;simp only [Option.some.injEq,Prod.mk.injEq] at h;obtain ⟨rfl,rfl,rfl⟩:=h;rw [if_neg he];exact hQ _ _ hp
  ·rename_i hne;refine wpIn_block (ih ks hT hS hro hF0 f h (fun act' w' hp=>?_));cases ex with
   | nrm=>exact hQ _ _ hp
   | exit id'=>exact absurd h (hne _ _ _)
   | ret=>exact hQ _ _ hp
 | loop b ih=>
  intro ks pm ro T φ0 F0 H0 w0 φ F H w β env act ex env' H' Q hT hS hro hF0 f h hQ;simp only [be,aL] at h;refine wpIn_loop_rounds n ?_;have key:∀(k:Nat) {φ:Phi} {F:Nat→Nat→Prop} {H:Heap} {w:World} {β:Nat→Nat} {env:Env} {act:Act},Full φ0 F0 H0 w0 φ F H w β env act T→
    ef (fun env H=>aL C n lk lim (be P pm b ks.tail).1 (ab (ks.headD []) env) H) k env H=some (ex,env',H')→Code.roundsIn (FR ro) 0 P b Q k act w:=by
   intro k;induction k with
   | zero=>intro φ F H w β env act f h;simp [ef] at h
   | succ k ihk=>
    intro φ F H w β env act f h;simp only [ef] at h;rw [roundsIn_succ];split at h
    ·rename_i e1 h1 hb;exact ih ks.tail hT hS hro hF0 (f.sub (dh _ env)) hb (fun act' w' ⟨φ1,F1,β1,f1⟩=>ihk f1 h)
    ·rename_i hne;refine ih ks.tail hT hS hro hF0 (f.sub (dh _ env)) h (fun act' w' hp=>?_);cases ex with
     | nrm=>exact absurd h (hne _ _)
     | exit id=>exact hQ _ _ hp
     | ret=>exact hQ _ _ hp
  exact key n f h
 | scope b ih=>
  intro ks pm ro T φ0 F0 H0 w0 φ F H w β env act ex env' H' Q hT hS hro hF0 f h hQ;simp only [be] at h;split at h
  ·simp [aL] at h
  rename_i hr;obtain ⟨rfl,_⟩:=hro.resolve_right hr;refine wpIn_wide.2 (wp_scope_straight ((wpIn_wide (n:=0)).1 (ih ks hT hS hro hF0 f h (fun act' w' hp=>?_))));cases ex<;>exact hQ _ _ hp
 | rangeFunc g ps asg body iha ihb=>
  intro ks pm ro T φ0 F0 H0 w0 φ F H w β env act ex env' H' Q hT hS hro hF0 f h hQ;simp only [be] at h;split at h;case isFalse=>simp [aL] at h
  rename_i hc;obtain ⟨hr,hpsT⟩:=hc;obtain ⟨rfl,hrd⟩:=hro.resolve_right (by rw [hr];simp)
  simp only [aL] at h;split at h;case h_2=>simp at h
  rename_i items hit;generalize hE:ab (ks.headD []) env=env0 at h hit;have f0:Full φ0 F0 H0 w0 φ F H w β env0 act T:=hE▸f.sub (dh _ env);unfold i7 at hit;split at hit;case isFalse=>simp at hit
  rename_i hnb;split at hit;case h_2=>simp at hit
  rename_i gf cap hgf;split at hit;case h_2=>simp at hit
  rename_i l0 hl0;split at hit;case isFalse=>simp at hit
  rename_i hlen;simp only [Option.some.injEq] at hit;subst hit;have hgv:VRel φ F H w (.fn gf cap) (act.eval g):=bZ f0.st hgf;generalize hfv:act.eval g=fv at hgv;cases hgv with
  | one hgv=>
  cases hgv with
  | fn _ _ vs hvl hvr=>
  obtain ⟨hent,hsc,hitok⟩:=hS gf cap H l0 hl0;have hsz:∀v∈l0.map List.toArray,v.size=ps.size:=fun v hv=>by
   obtain ⟨x,hx,rfl⟩:=List.mem_map.1 hv;have:=List.all_eq_true.1 hlen x hx;simpa using this
  have at_:∀(i:Nat) (v:Array Value),(l0.map List.toArray)[i]?=some v→∃x,l0[i]?=some x∧v=x.toArray∧l0.drop i=x::l0.drop (i+1):=fun i v hv=>by
   rw [List.getElem?_map] at hv;cases hx:l0[i]? with
   | none=>rw [hx] at hv;cases hv
   | some x=>
    rw [hx] at hv;simp only [Option.map_some,Option.some.injEq] at hv;obtain ⟨hlt,he⟩:=List.getElem?_eq_some_iff.1 hx;exact ⟨x,rfl,hv.symm,by rw [List.drop_eq_getElem_cons hlt,he]⟩
  refine tj (vals:=l0.map List.toArray) hfv (gC hent) hsz
   (fun i A Z=>∃φ' F' H1,Full φ0 F0 H0 w0 φ' F' H1 A β env0 act T∧bR (fun e H=>aL C n lk lim (be P { pm with inR:=true } asg ks.tail).1 e H) (fun e H=>aL C n lk lim (be P { pm with inR:=true } body (be P { pm with inR:=true } asg ks.tail).2).1 e H) ps.toList env0 (l0.drop i) H1=some (ex,env',H')∧∀k,Z k→∃o,F' k o)
   (fun p A Z=>∃φ' F' H1 β1 e1 x2 e2 H2,Full φ0 F0 H0 w0 φ' F' H1 A β env0 act T∧St φ' F' H1 A β1 e1 p.2 T.n∧p.2.defers=[]∧ep e1=true∧
    aL C n lk lim (be P { pm with inR:=true } body (be P { pm with inR:=true } asg ks.tail).2).1 e1 H1=some (x2,e2,H2)∧
    ((x2= .nrm∧bR (fun e H=>aL C n lk lim (be P { pm with inR:=true } asg ks.tail).1 e H) (fun e H=>aL C n lk lim (be P { pm with inR:=true } body (be P { pm with inR:=true } asg ks.tail).2).1 e H) ps.toList env0 (l0.drop (p.1+1)) H2=some (ex,env',H'))∨(x2≠.nrm∧(ex,env',H')=(x2,env0,H2)))∧∀k,Z k→∃o,F' k o)
   (fun c A Z=>c=HU ex∧ex≠.nrm∧env'=env0∧∃φ' F',Full φ0 F0 H0 w0 φ' F' H' A β env0 act T∧∀k,Z k→∃o,F' k o)
   ?_ ?_ ?_ ?_ ?_ (fun W1 d r hb hs1 hd1 hl1=>⟨Begun φ (fun k o=>F k o∨(w.heap.size≤k∧k < W1.heap.size)) H W1,?_,?_⟩) ?_ ?_ ?_ ?_
  ·rintro i A B Z ⟨φ',F',H1,h1,h2,h3⟩ hb;exact ⟨φ',_,H1,h1.grown hnb hb,h2,fun k hk=>by
    rcases hk with hk | ⟨hk1,hk2⟩
    ·exact (h3 k hk).imp fun _=>.inl
    ·exact ⟨0,.inr ⟨hk1,hk2⟩⟩⟩
  ·rintro c A B Z ⟨h0,h1,h2,φ',F',h3,h4⟩ hb;exact ⟨h0,h1,h2,φ',_,h3.grown hnb hb,fun k hk=>by
    rcases hk with hk | ⟨hk1,hk2⟩
    ·exact (h4 k hk).imp fun _=>.inl
    ·exact ⟨0,.inr ⟨hk1,hk2⟩⟩⟩
  ·rintro i A Z l r r' ⟨φ',F',H1,h1,h2,h3⟩ hz hl;exact ⟨φ',F',H1,h1.turn hF0 hl (Nat.le_trans f0.chg.size hz),h2,h3⟩
  ·rintro p A Z l r r' ⟨φ',F',H1,β1,e1,x2,e2,H2,h1,h2,h3,h4,h5,h6,h7⟩ hz hl;exact ⟨φ',F',H1,β1,e1,x2,e2,H2,h1.turn hF0 hl (Nat.le_trans f0.chg.size hz),h2.turn (.loop hl r'),h3,h4,h5,h6,h7⟩
  ·rintro c A Z l r r' ⟨h0,h1,h2,φ',F',h3,h4⟩ hz hl;exact ⟨h0,h1,h2,φ',F',h3.turn hF0 hl (Nat.le_trans f0.chg.size hz),h4⟩
  ·-- the iterator
   obtain ⟨e1,sr1⟩:=grow f0.st.sr (F':=fun k o=>F k o∨(w.heap.size≤k∧k < W1.heap.size)) hb (fun _ _ h=>.inl h) (fun _ _ h=>h);exact hitok φ _ W1 vs sr1 (CL.mono e1 ⟨hvl,hvr⟩)
  ·rintro B Z ⟨φ',F',sr',e',c',p',r',z'⟩;have g1:=f0.grown hnb hb;have g2:Full φ0 F0 H0 w0 φ' F' H B β env0 act T:=g1.next c' (fun k h=>.inl h) (g1.st.over hnb e' sr') e' p' (fun t cs ht=>absurd ht ((d7 hnb t).1 cs)) rfl r'
   have fD:=e'.frz w.heap.size 0 (.inr ⟨Nat.le_refl _,by omega⟩)
   have fl:=e'.frz (w.heap.size+1) 0 (.inr ⟨Nat.le_succ _,by omega⟩)
   refine ⟨⟨φ',F',H,g2,by simpa using h,fun k hk=>?_⟩,fD.2,fl.2,fun k hk he=>?_⟩
   ·rcases hk with hk | rfl | rfl
    ·exact (z' k hk).1
    ·exact ⟨0,fD.1⟩
    ·exact ⟨0,fl.1⟩
   ·subst he;obtain ⟨_,arr,ty,fr,hc⟩:=z' _ hk;rw [fl.2,hl1] at hc;cases hc
  ·-- the assignments
   rintro l i v A Z hv ⟨φ',F',H1,h1,h2,h3⟩;obtain ⟨x,hx,rfl,hd⟩:=at_ i v hv;rw [hd] at h2;obtain ⟨e,hp,e1,H2,hf1,hnb1,x2,e2,H3,hg1,hnx⟩:=vI h2;have hbase:=h1.round hnb hpsT hT (hsc x (List.mem_of_getElem? hx)) hp;refine iha ks.tail (pm:={ pm with inR:=true }) (T:=⟨T.n,some []⟩) hT hS (.inr rfl) h1.st.sr.fsz hbase hf1 (fun a1 B ⟨φ2,F2,β2,f2⟩=>?_);refine ⟨f2.chg.size,fun k hk=>(h3 k hk).elim fun o ho=>(f2.ext.frz k o ho).2,φ2,F2,H2,β2,e1,x2,e2,H3,h1.over hnb f2,f2.st,?_,hnb1,hg1,hnx,fun k hk=>(h3 k hk).imp fun o ho=>(f2.ext.frz k o ho).1⟩;exact f2.dfr
  ·-- the body
   rintro l i v a1 A Z hv ⟨φ',F',H1,β1,e1,x2,e2,H2,h1,h2,h3,h4,h5,h6,h7⟩;refine ihb _ (pm:={ pm with inR:=true }) (T:=⟨T.n,some []⟩) hT hS (.inr rfl) h1.st.sr.fsz (Full.base h2 h4 h3) h5 (fun act' B ⟨φ2,F2,β2,f2⟩=>?_);refine ⟨⟨f2.chg.size,fun k hk=>(h7 k hk).elim fun o ho=>(f2.ext.frz k o ho).2⟩,?_⟩;have hz:∀k,Z k→∃o,F2 k o:=fun k hk=>(h7 k hk).imp fun o ho=>(f2.ext.frz k o ho).1;rcases h6 with ⟨rfl,h6⟩ | ⟨hne,h6⟩
   ·exact ⟨φ2,F2,H2,h1.over hnb f2,h6,hz⟩
   ·simp only [Prod.mk.injEq] at h6;obtain ⟨rfl,rfl,rfl⟩:=h6;cases ex with
    | nrm=>exact absurd rfl hne
    | exit id=>exact ⟨rfl,hne,rfl,φ2,F2,h1.over hnb f2,hz⟩
    | ret=>exact ⟨rfl,hne,rfl,φ2,F2,h1.over hnb f2,hz⟩
  ·-- all have come
   rintro D B Z ⟨φ',F',H1,h1,h2,h3⟩ hz hD hB;rw [List.length_map,List.drop_length] at h2;simp only [bR,Option.some.injEq,Prod.mk.injEq] at h2;obtain ⟨rfl,rfl,rfl⟩:=h2;exact hQ _ _ ⟨φ',F',β,h1.mark hrd (h3 D hz) (Nat.le_trans f0.chg.size hD) hB (xo hrd f0 hD)⟩
  ·-- a round has left
   rintro D c B Z ⟨rfl,hne,rfl,φ',F',h1,h3⟩ hz hD hB;have hp:dw φ0 F0 H0 w0 H' env' T { act with defers:={ target:=.collected D,args:=#[] }::act.defers } B:=⟨φ',F',β,h1.mark hrd (h3 D hz) (Nat.le_trans f0.chg.size hD) hB (xo hrd f0 hD)⟩;cases ex with
   | nrm=>exact absurd rfl hne
   | exit id=>exact wpIn_exit (hQ _ _ hp)
   | ret=>exact wpIn_ret (hQ _ _ hp)
 | _=>
  intros
  rename_i h _;simp [be,aL] at h
end
end Go.Hm

namespace Go.Hm
open Go

section
variable {C:Orc}{lk lim base:Nat}{ws:WS}{env env':Env}{H H':Heap}

theorem nV {x:Option (Ed×Heap)}(h:jx env x=some (env',H')):∃e,x=some (e,H'):=by
 unfold jx at h;split at h
 ·split at h
  ·simp only [Option.some.injEq,Prod.mk.injEq] at h;obtain ⟨_,rfl⟩:=h;exact ⟨_,rfl⟩
  ·simp at h
 ·simp at h

theorem Ay (hF:OrcFr C){i:AI}(h:ft C lk lim i env H=some (env',H')):Fr lk lim H H':=by
 unfold ft at h;split at h
 ·unfold eU at h;split at h
  ·rw [mY] at h;obtain ⟨e,he⟩:=nV h;exact vG he
  ·rw [mY] at h;obtain ⟨e,he⟩:=nV h;exact vG he
  ·split at h;case h_2=>simp at h
   split at h;case h_2=>simp at h
   simp only [Option.some.injEq,Prod.mk.injEq] at h;obtain ⟨_,rfl⟩:=h;exact ⟨by simp,fun hl b hb=>List.getElem?_append_left (by omega),fun m _ h2 hc=>hc.append h2⟩
  ·split at h;case h_2=>simp at h
   split at h;case isFalse=>simp at h
   split at h;case h_2=>simp at h
   rename_i hc;split at h;case h_2=>simp at h
   simp only [Option.some.injEq,Prod.mk.injEq] at h;obtain ⟨_,rfl⟩:=h;exact ⟨hF.len _ _ _ _ _ _ _ hc,hF.lock _ _ _ _ _ _ _ hc,hF.cl _ _ _ _ _ _ _ hc⟩
  ·split at h;case h_2=>simp at h
   split at h;case h_2=>simp at h
   simp only [Option.some.injEq,Prod.mk.injEq] at h;obtain ⟨_,rfl⟩:=h;exact Fr.refl _ _ _
 ·split at h;case h_2=>simp at h
  simp only [Option.some.injEq,Prod.mk.injEq] at h;obtain ⟨_,rfl⟩:=h;exact Fr.refl _ _ _
 ·simp at h

theorem pY (hF:OrcFr C):∀{l:List AI} {env:Env} {H:Heap},cB C lk lim l env H=some (env',H')→Fr lk lim H H'
 | [],env,H,h=>by
  simp only [cB,Option.some.injEq,Prod.mk.injEq] at h;obtain ⟨_,rfl⟩:=h;exact Fr.refl _ _ _
 | i::r,env,H,h=>by
  simp only [cB] at h;split at h
  ·rename_i e1 h1 hs;exact (Ay hF hs).trans (pY hF h)
  ·simp at h

structure FrB (base lk lim:Nat)(H H':Heap):Prop where
 len:H.length≤H'.length
 lock:lk≤base→∀b,b < lk→H'[b]?=H[b]?
 cl:∀m,m≤lim→m≤base→Cl m H→Cl m H'

theorem yI {cb:Nat}{i:AI}(hF:OrcFr C)(hb:base≤H.length)(h:iA C lk lim ws base cb i env H env' H'):FrB base lk lim H H':=by
 obtain ⟨e,d,h1,_,h3⟩:=h;have hlen:=Aq hF.len h1 h3;cases d with
 | same=>
  simp [Hd.run] at h3;subst h3;exact ⟨hlen,fun _ _ _=>rfl,fun _ _ _ h=>h⟩
 | app X=>
  simp only [Hd.run] at h3;split at h3;case isFalse=>simp at h3
  simp only [Option.some.injEq] at h3;subst h3;exact ⟨hlen,fun hl b hlt=>List.getElem?_append_left (by omega),fun m _ h2 hc=>hc.append (by omega)⟩
 | fill k cs=>
  rcases ei h1 with h | ⟨_,_,h⟩ | ⟨_,_,_,h⟩ | h | h
  ·cases h
  ·cases h;simp only [Hd.run] at h3;split at h3;case h_2=>simp at h3
   simp only [Option.some.injEq] at h3;subst h3;exact ⟨hlen,fun hl b hlt=>by rw [List.getElem?_set_ne (by omega)],fun m _ h2 hc=>hc.set (by omega)⟩
  ·cases h
  case inr.inr.inr.inr=>
   exfalso;unfold eff vw at h1;split at h1
   ·split at h1;case isFalse=>simp at h1
    split at h1
    ·split at h1;case h_2=>simp at h1
     split at h1;case isFalse=>simp at h1
     split at h1;case h_2=>simp at h1
     split at h1<;>simp at h1
    ·rename_i hfr;exact kA (iz hfr h (fun e=>by cases e))
   ·simp at h1
   ·simp at h1
  ·exfalso;unfold eff jG at h1;split at h1
   ·split at h1;case isFalse=>simp at h1
    split at h1
    ·rename_i hfr;rw [ja hfr] at h;cases h
    rename_i hfr;have h:=iz hfr h (fun e=>by cases e)
    rw [h] at h1;dsimp only at h1;split at h1<;>simp at h1
   ·simp at h1
   ·simp at h1
 | to H2=>
  simp [Hd.run] at h3;subst h3;have key:Fr lk lim H H2:=by
   unfold eff at h1;split at h1
   ·split at h1;case isFalse=>simp at h1
    split at h1
    ·unfold vw at h1;split at h1;case h_2=>simp at h1
     split at h1;case isFalse=>simp at h1
     split at h1;case h_2=>simp at h1
     rename_i hcc;split at h1;case isFalse=>simp at h1
     simp only [Option.some.injEq,Prod.mk.injEq,Hd.to.injEq] at h1;obtain ⟨_,rfl⟩:=h1;exact ⟨hF.len _ _ _ _ _ _ _ hcc,hF.lock _ _ _ _ _ _ _ hcc,hF.cl _ _ _ _ _ _ _ hcc⟩
    unfold jG at h1;split at h1
    ·split at h1<;>simp at h1
    ·split at h1;case h_2=>simp at h1
     rename_i hx;simp only [Option.some.injEq,Prod.mk.injEq,Hd.to.injEq] at h1;rw [←h1.2];exact vG hx
    ·split at h1<;>simp at h1
    ·split at h1;case h_2=>simp at h1
     split at h1;case isFalse=>simp at h1
     split at h1;case h_2=>simp at h1
     split at h1;case isFalse=>simp at h1
     simp only [Option.some.injEq,Prod.mk.injEq] at h1;split at h1<;>simp at h1
    ·split at h1;case h_2=>simp at h1
     split at h1<;>simp at h1
   ·simp at h1
   ·simp at h1
  exact ⟨hlen,fun hl=>key.lock (by omega),fun m h1 h2=>key.cl m h1 (by omega)⟩

theorem tn (hF:OrcFr C):∀{l:List AI} {env:Env} {H:Heap},base≤H.length→cI C lk lim ws base l env H=some (env',H')→FrB base lk lim H H'
 | [],env,H,hb,h=>by
  simp only [cI,Option.some.injEq,Prod.mk.injEq] at h;obtain ⟨_,rfl⟩:=h;exact ⟨Nat.le_refl _,fun _ _ _=>rfl,fun _ _ _ h=>h⟩
 | i::r,env,H,hb,h=>by
  obtain ⟨e1,h1,hs,hr⟩:=bC.1 h;have a:=yI hF hb hs;have b:=tn hF (Nat.le_trans hb a.len) hr;exact ⟨Nat.le_trans a.len b.len,fun hl k hk=>by rw [b.lock hl k hk,a.lock hl k hk],fun m h1 h2 hc=>b.cl m h1 h2 (a.cl m h1 h2 hc)⟩

theorem Ei {env:Env}{H:Heap}{e:Env}{h:Heap}(hf:yl lk lim env H=some (e,h)):Fr lk lim H h:=by
 unfold yl at hf;split at hf;case isFalse=>simp at hf
 rename_i hc;simp only [Option.some.injEq,Prod.mk.injEq] at hf;rw [←hf.2];unfold fT;refine ⟨by simp;omega,fun _ b hb=>?_,fun m h1 h2 hm=>?_⟩
 ·rw [List.getElem?_append_left (by rw [List.length_take];omega),List.getElem?_take,if_pos (by omega)]
 ·intro b cs hb hg;rw [List.getElem?_append_left (by rw [List.length_take];omega),List.getElem?_take,if_pos (by omega)] at hg
  exact hm b cs hb hg

theorem rn (hF:OrcFr C){n:Nat}:∀(c:AC) {env:Env} {H:Heap} {ex:Ex} {env':Env} {H':Heap},aL C n lk lim c env H=some (ex,env',H')→Fr lk lim H H':=by
 intro c;induction c with
 | skip=>intro env H ex env' H' h;simp only [aL,Option.some.injEq,Prod.mk.injEq] at h;rw [←h.2.2];exact Fr.refl _ _ _
 | exit id=>intro env H ex env' H' h;simp only [aL,Option.some.injEq,Prod.mk.injEq] at h;rw [←h.2.2];exact Fr.refl _ _ _
 | ret=>intro env H ex env' H' h;simp only [aL,Option.some.injEq,Prod.mk.injEq] at h;rw [←h.2.2];exact Fr.refl _ _ _
 | bad=>intro env H ex env' H' h;simp [aL] at h
 | frz=>
  intro env H ex env' H' h;simp only [aL] at h;split at h;case h_2=>simp at h
  rename_i hf;simp only [Option.some.injEq,Prod.mk.injEq] at h;rw [←h.2.2];exact Ei hf
 | regN keep ops=>
  intro env H ex env' H' h;simp only [aL] at h;split at h;case h_2=>simp at h
  rename_i hr;simp only [Option.some.injEq,Prod.mk.injEq] at h;rw [←h.2.2];exact pY hF hr
 | regD keep m ops=>
  intro env H ex env' H' h;simp only [aL] at h;split at h;case h_2=>simp at h
  rename_i hr;simp only [Option.some.injEq,Prod.mk.injEq] at h;rw [←h.2.2];have a:=tn hF (by simp) hr
  have hlen:=a.len;rw [List.length_append] at hlen;refine ⟨by omega,fun hl b hb=>?_,fun k h1 h2 hc=>a.cl k h1 h2 (hc.append h2)⟩
  rw [a.lock hl b hb,List.getElem?_append_left (by omega)]
 | seq a b iha ihb=>
  intro env H ex env' H' h;simp only [aL] at h;split at h
  ·rename_i ha;exact (iha ha).trans (ihb h)
  ·exact iha h
 | cond c a b iha ihb=>
  intro env H ex env' H' h;simp only [aL] at h;split at h;case h_2=>simp at h
  split at h
  ·exact iha h
  ·exact ihb h
 | block id b ih=>
  intro env H ex env' H' h;simp only [aL] at h;split at h
  ·rename_i hb;have:=ih hb;split at h<;>(simp only [Option.some.injEq,Prod.mk.injEq] at h;rw [←h.2.2];exact this)
  ·exact ih h
 | loop keep b ih=>
  intro env H ex env' H' h;simp only [aL] at h;have key:∀(k:Nat) {env:Env} {H:Heap},ef (fun env H=>aL C n lk lim b (ab keep env) H) k env H=some (ex,env',H')→Fr lk lim H H':=by
   intro k;induction k with
   | zero=>intro env H h;simp [ef] at h
   | succ k ihk=>
    intro env H h;simp only [ef] at h;split at h
    ·rename_i hb;exact (ih hb).trans (ihk h)
    ·exact ih h
  exact key n h
 | rangeF keep it g ps asg body iha ihb=>
  intro env H ex env' H' h;simp only [aL] at h;split at h;case h_2=>simp at h
  rename_i items hit;have one:∀{x:List Value} {H:Heap} {r:Ex×Env×Heap},er (fun e H=>aL C n lk lim asg e H) (fun e H=>aL C n lk lim body e H) ps (ab keep env) x H=some r→Fr lk lim H r.2.2:=by
   intro x H r h;unfold er at h;split at h
   ·split at h
    ·rename_i hs;split at h;case isFalse=>simp at h
     obtain ⟨x1,x2,x3⟩:=r;exact (iha hs).trans (ihb h)
    ·simp at h
   ·simp at h
  have key:∀(l:List (List Value)) {H:Heap},bR (fun e H=>aL C n lk lim asg e H) (fun e H=>aL C n lk lim body e H) ps (ab keep env) l H=some (ex,env',H')→Fr lk lim H H':=by
   intro l;induction l with
   | nil=>
    intro H h;simp only [bR,Option.some.injEq,Prod.mk.injEq] at h;rw [←h.2.2];exact Fr.refl _ _ _
   | cons x l ihl=>
    intro H h;simp only [bR] at h;split at h
    ·rename_i hs;exact (one hs).trans (ihl h)
    ·rename_i hs;simp only [Option.some.injEq,Prod.mk.injEq] at h;rw [←h.2.2];exact one hs
    ·simp at h
  exact key items h
end

theorem tp {X:Orc}{A:FuncId→Option AFn}(hX:OrcFr X):∀n,OrcFr (bo X A n)
 | 0=>⟨fun _ _ _ _ _ _ _ h=>by simp [bo] at h,fun _ _ _ _ _ _ _ h=>by simp [bo] at h,fun _ _ _ _ _ _ _ h=>by simp [bo] at h⟩
 | n+1=>by
  have ih:=tp (A:=A) hX n;have key:∀lk lim f as H r H',bo X A (n+1) lk lim f as H=some (r,H')→Fr lk lim H H':=by
   intro lk lim f as H r H' h;simp only [bo] at h;split at h
   ·rename_i r' hx;simp only [Option.some.injEq] at h;subst h;exact ⟨hX.len _ _ _ _ _ _ _ hx,hX.lock _ _ _ _ _ _ _ hx,hX.cl _ _ _ _ _ _ _ hx⟩
   ·split at h;case h_1=>simp at h
    rename_i fd hA;split at h;case isFalse=>simp at h
    unfold ck at h;split at h
    ·simp at h
    ·rename_i ex env1 H1 _ hex;have hfr:=rn ih fd.body hex;split at h;case h_2=>simp at h
     split at h
     ·rename_i ht;rw [if_pos ht] at hfr;split at h;case h_2=>simp at h
      split at h;case isFalse=>simp at h
      simp only [Option.some.injEq,Prod.mk.injEq] at h;rw [←h.2];have hlen:=hfr.len;refine ⟨by rw [List.length_take];omega,fun hl b hb=>?_,fun m _ h2 hc=>?_⟩
      ·rw [List.getElem?_take,if_pos (by omega)];exact hfr.lock hl b hb
      ·have:=hfr.cl m h2 h2 hc;intro b cs hb hbb;exact this b cs hb (b7 hbb).2
     ·rename_i ht;rw [if_neg ht] at hfr;simp only [Option.some.injEq,Prod.mk.injEq] at h;rw [←h.2];exact hfr
    ·simp at h
  exact ⟨fun _ _ _ _ _ _ _ h=>(key _ _ _ _ _ _ _ h).len,fun _ _ _ _ _ _ _ h=>(key _ _ _ _ _ _ _ h).lock,fun _ _ _ _ _ _ _ h=>(key _ _ _ _ _ _ _ h).cl⟩
end Go.Hm

namespace Go.Hm
open Go Go.RowKit

section
variable {P:Program}{φ:Phi}{F:Nat→Nat→Prop}{H:Heap}{w:World}{β:Nat→Nat}{env:Env}{act:Act}{T:Nat}

def nW (tmps:Array Value):ResultVar→Sem Value
 | .tmp t=>pure (tmps.getD t undef)
 | .cell a t=>do loadVar t (←asAddr (tmps.getD a undef))

theorem Az {k o:Nat}{cs:List AV}(h:RowAt φ F H w k o cs){t:TypeId}{n:Nat}(hn:szOf P t=some n){d:TypeDesc}(hu:P.underlying t=some d){off:Nat}{v:AV}
  (hv:(if aggT P t=true then (if off+n≤cs.length then some (.agg ((cs.drop off).take n)) else none) else cs[off]?)=some v):∃cv,(loadVar t ⟨k,o+off,none⟩).run P w= .ok cv w∧VRel φ F H w v cv:=by
 have hre:=j3 (P:=P) hu;unfold loadVar;rw [Sem.run_bind,dW hu];simp only [Result.andThen_ok];cases hr:d.isRow with
 | true=>
  rw [hre,hr,if_pos rfl] at hv;split at hv;case isFalse=>simp at hv
  rename_i hl;simp only [Option.some.injEq] at hv;subst hv;obtain ⟨vs,h1,h2,h3⟩:=h.range hl;refine ⟨.agg vs.toArray,?_,.agg _ _ h1⟩;have:=run_loadCells_list (P:=P) w ⟨k,o+off,none⟩ vs (fun j v hv=>by rw [cL];exact h2 j v hv)
  rw [if_pos rfl];simp only [Sem.run_bind,a7 hn,Result.andThen_ok,←h3,this,Sem.run_pure]
 | false=>
  rw [hre,hr] at hv;simp only [Bool.false_eq_true,if_false] at hv;obtain ⟨cv,hcv,hrel⟩:=h off v hv;refine ⟨cv,?_,.one hrel⟩;rw [if_neg (by simp)]
  rw [run_load,hcv]

theorem Ej (s:St φ F H w β env act T){r:ResultVar}(hc:ny P r=true){v:AV}(h:nt env H (nw P r)=some v):∃cv,(nW act.tmps r).run P w= .ok cv w∧VRel φ F H w v cv:=by
 cases r with
 | tmp t=>
  simp only [nw,nt] at h;split at h;case isFalse=>simp at h
  rename_i ha;simp only [Option.some.injEq] at h;have hs:=s.slot t;rw [h] at hs ha;refine ⟨_,rfl,?_⟩;have:ORel φ F H w β v (act.tmps.getD t undef):=by
   cases v<;>first | exact hs | (simp [aO,one] at ha;done)
  exact this.arg ha
 | cell a t=>
  simp only [ny,Bool.and_eq_true] at hc;obtain ⟨n,hn⟩:=Option.isSome_iff_exists.1 hc.1;obtain ⟨d,hu⟩:=Option.isSome_iff_exists.1 hc.2;simp only [nw,nt,hn,Option.getD_some] at h;split at h;case h_2=>simp at h
  rename_i cs off hp;have hrow:∃k o d,d≤off∧act.tmps.getD a undef= .pointer (some ⟨k,o+(off - d),none⟩)∧RowAt φ F H w k o (cs.drop d):=by
   have hs:=s.slot a;split at hp
   ·rename_i cs' hf;rw [hf] at hs;simp only [Option.some.injEq,Prod.mk.injEq] at hp;obtain ⟨rfl,rfl⟩:=hp;exact ⟨β a,0,0,Nat.zero_le _,hs.1,hs.2.row⟩
   ·rename_i hnb;have ho:ORel φ F H w β (find env a) (act.tmps.getD a undef):=by
     generalize hfa:find env a=fa at hs hnb;cases fa<;>first | exact hs | exact absurd rfl (hnb _)
    exact rc s ho hp
  obtain ⟨k,o,d0,hd0,hv,hrow⟩:=hrow;obtain ⟨cv,h1,h2⟩:=Az (off:=off - d0) (v:=v) hrow hn hu (by
   split at h
   ·rename_i ha;rw [if_pos ha];split at h;case isFalse=>simp at h
    rw [if_pos (by rw [List.length_drop];omega),List.drop_drop,Nat.add_sub_of_le hd0]
    exact h
   ·rename_i ha;rw [if_neg ha,List.getElem?_drop,Nat.add_sub_of_le hd0];exact h)
  refine ⟨cv,?_,h2⟩;simp only [nW,hv,asAddr,Sem.run_bind,Sem.run_pure,Result.andThen_ok];exact h1

theorem tq (s:St φ F H w β env act T):∀{rs:List ResultVar} {vs:List AV},rs.all (ny P)=true→fu env H (rs.map (nw P))=some vs→∃cvs,(rs.mapM (nW act.tmps)).run P w= .ok cvs w∧il φ F H w vs cvs
 | [],vs,_,h=>by
  simp only [List.map_nil,fu,Option.some.injEq] at h;subst h;exact ⟨[],rfl,rfl,fun i a v ha=>by simp at ha⟩
 | r::rs,vs,hc,h=>by
  simp only [List.all_cons,Bool.and_eq_true] at hc;simp only [List.map_cons,fu] at h;split at h;case h_2=>simp at h
  rename_i v hv;split at h;case h_2=>simp at h
  rename_i vs' hvs;simp only [Option.some.injEq] at h;subst h;obtain ⟨cv,h1,h2⟩:=Ej s hc.1 hv;obtain ⟨cvs,h3,h4⟩:=tq s hc.2 hvs;refine ⟨cv::cvs,?_,by simp [h4.1],fun i a v ha hv=>?_⟩
  ·simp only [List.mapM_cons,Sem.run_bind,h1,Result.andThen_ok,h3,Sem.run_pure]
  ·cases i with
   | zero=>simp at ha hv;subst ha;subst hv;exact h2
   | succ i=>simp at ha hv;exact h4.2 i a v ha hv

theorem tu (s:St φ F H w β env act T){fn:Func}{v:AV}(hc:fn.results.toList.all (ny P)=true)(h:pH env H (fn.results.toList.map (nw P))=some v):∃cv,(results fn act.tmps).run P w= .ok cv w∧VRel φ F H w v cv:=by
 unfold pH at h;have main:∀vs,fu env H (fn.results.toList.map (nw P))=some vs→∃cvs:List Value,(fn.results.mapM (nW act.tmps)).run P w= .ok cvs.toArray w∧il φ F H w vs cvs:=by
  intro vs hvs;obtain ⟨cvs,h1,h2⟩:=tq s hc hvs;refine ⟨cvs,?_,h2⟩;generalize fn.results=rs at h1 ⊢;obtain ⟨rl⟩:=rs;simp only [List.mapM_toArray,Sem.run_map,h1,Result.andThen_ok]
 have hdef:results fn act.tmps=(do
   let vs ←fn.results.mapM (nW act.tmps)
   pure (if h:vs.size=1 then vs[0] else .tuple vs)):=by
  unfold results;congr 1
 split at h
 ·rename_i v' hvs;simp only [Option.some.injEq] at h;subst h;obtain ⟨cvs,h1,h2⟩:=main _ hvs;obtain ⟨cv,rfl⟩:∃cv,cvs=[cv]:=by
   have:=h2.1
   match cvs,this with
   | [cv],_=>exact ⟨cv,rfl⟩
  refine ⟨cv,?_,h2.2 0 _ _ rfl rfl⟩;rw [hdef,Sem.run_bind,h1];rfl
 ·rename_i vs hne hvs;simp only [Option.some.injEq] at h;subst h;obtain ⟨cvs,h1,h2⟩:=main _ hvs;refine ⟨.tuple cvs.toArray,?_,.tup _ _ h2.1 h2.2⟩;rw [hdef,Sem.run_bind,h1];have hl:cvs.toArray.size≠1:=by
   intro hs;rw [List.size_toArray,h2.1] at hs
   match vs,hs,hne with
   | [x],_,hne=>exact hne x rfl
  simp only [Result.andThen_ok,dif_neg hl];rfl
 ·simp at h
end
end Go.Hm

namespace Go.Hm
open Go Go.RowKit

theorem eY {f:AV→Option AV}:∀{l l':List AV},eh f l=some l'→l'.length=l.length∧∀(i:Nat) a',l'[i]?=some a'→∃a,l[i]?=some a∧f a=some a'
 | [],l',h=>by simp only [eh,Option.some.injEq] at h;subst h;exact ⟨rfl,fun i a ha=>by simp at ha⟩
 | v::r,l',h=>by
  simp only [eh] at h;split at h;case h_2=>simp at h
  rename_i v' hv;split at h;case h_2=>simp at h
  rename_i r' hr;simp only [Option.some.injEq] at h;subst h;obtain ⟨h1,h2⟩:=eY hr;refine ⟨by simp [h1],fun i a' ha=>?_⟩
  cases i with
  | zero=>simp at ha;subst ha;exact ⟨v,rfl,hv⟩
  | succ i=>simp at ha ⊢;exact h2 i a' ha

section
variable {φ:Phi}{F:Nat→Nat→Prop}{H:Heap}{w:World}{lim:Nat}

def F2 (φ:Phi)(F:Nat→Nat→Prop)(H:Heap)(lim:Nat)(k o:Nat):Prop:=F k o∨∃b,lim≤b∧live H b∧(φ b).1=k

theorem F2.ext:Ext φ F H w φ (F2 φ F H lim) H w:=⟨fun _ cs h=>⟨cs,h,Nat.le_refl _,fun _=>rfl⟩,fun _ es h=>⟨⟨es,h⟩,rfl⟩,fun _ _ h=>⟨.inl h,rfl⟩,Wm.refl w⟩

theorem pZ (sr:SR φ F H w):∀(d:Nat) {v v':AV} {cv:Value},frz lim H d v=some v'→CRel φ F H w v cv→CRel φ (F2 φ F H lim) H w v' cv
 | 0,v,v',cv,h,hc=>by simp only [frz,Option.some.injEq] at h;subst h;exact hc.mono F2.ext
 | d+1,v,v',cv,h,hc=>by
  cases v;case hs b g off n es=>
   simp only [frz] at h;split at h
   ·simp only [Option.some.injEq] at h;subst h;exact hc.mono F2.ext
   ·rename_i hlt;split at h;case h_2=>simp at h
    rename_i cs hcs;split at h;case h_2=>simp at h
    rename_i cs' hm;split at h;case isFalse=>simp at h
    rename_i hb;simp only [Option.some.injEq] at h;subst h;obtain ⟨hml,hmg⟩:=eY hm;simp only [bh] at hcs;split at hcs;case h_2=>simp at hcs
    rename_i csb hbb;split at hcs;case isFalse=>simp at hcs
    rename_i hg;simp only [Option.some.injEq] at hcs;cases hc with
    | hs _ _ _ _ _ cs2 x cap hb2 hg2 hn hx hcase=>
    rw [hbb] at hb2;cases hb2;have hlen:cs.length=n * es:=by rw [←hcs];simp;omega
    rcases hcase hg.1 with ⟨h0g,hd0,hx',_⟩ | ⟨hn0,hc0,_⟩
    ·subst hx';have hne:csb≠[]:=by intro e;subst e;simp at hg;omega
     obtain ⟨vs,hcl,hrange,hvl⟩:=(sr.blk b csb hbb hne).row.range (off:=off - (φ b).2) (n:=n * es) (by rw [List.length_drop];omega)
     rw [List.drop_drop,Nat.add_sub_of_le hd0,hcs] at hcl;rw [Nat.zero_add] at hrange;refine .sl (φ b).1 (off - (φ b).2) n cap cs' vs hn (by rw [hml,←hcl.1]) hb (fun i _=>.inr ⟨b,by omega,⟨.cells csb,hbb,hne⟩,rfl⟩) (fun i v hv=>hrange i v hv) (fun i a v ha hv=>?_)
     obtain ⟨a0,ha0,hf⟩:=hmg i a ha;exact pZ sr d hf (hcl.2 i a0 v ha0 hv)
    ·subst hn0;subst hc0;have h0:cs'=[]:=List.eq_nil_of_length_eq_zero (by rw [hml,hlen];omega)
     subst h0;exact .slnil x
  case agg=>cases hc
  case tup=>cases hc
  case hp b g off=>
   simp only [frz] at h;split at h
   ·simp only [Option.some.injEq] at h;subst h;exact hc.mono F2.ext
   ·rename_i hlt;split at h;case h_2=>simp at h
    rename_i csb hbb;split at h;case isFalse=>simp at h
    rename_i hg;split at h;case h_2=>simp at h
    rename_i cs' hm;split at h;case isFalse=>simp at h
    rename_i hb;simp only [Option.some.injEq] at h;subst h;obtain ⟨hml,hmg⟩:=eY hm;cases hc with
    | hp _ _ _ cs2 a hb2 hg2 hcase=>
    rw [hbb] at hb2;cases hb2;obtain ⟨hd0,rfl⟩:=hcase hg.1;have hne:csb≠[]:=by intro e;subst e;simp at hg;omega
    obtain ⟨vs,hcl,hrange,hvl⟩:=(sr.blk b csb hbb hne).row.range (off:=off - (φ b).2) (n:=g - off) (by rw [List.length_drop];omega)
    rw [List.drop_drop,Nat.add_sub_of_le hd0,List.take_of_length_le (by rw [List.length_drop];omega)] at hcl
    rw [Nat.zero_add] at hrange;have:=CRel.rop (φ:=φ) (F:=F2 φ F H lim) (H:=H) (w:=w) (φ b).1 (off - (φ b).2) 0 cs' vs (by rw [hml,←hcl.1]) hb (fun i _=>.inr ⟨b,by omega,⟨.cells csb,hbb,hne⟩,rfl⟩) (fun i v hv=>hrange i v hv) (fun i a v ha hv=>by
     obtain ⟨a0,ha0,hf⟩:=hmg i a ha;exact pZ sr d hf (hcl.2 i a0 v ha0 hv))
    exact this
  case fn f caps=>
   simp only [frz] at h;split at h;case h_2=>simp at h
   rename_i cs' hm;simp only [Option.some.injEq] at h;subst h;obtain ⟨hml,hmg⟩:=eY hm;cases hc with
   | fn _ _ vs hl hr=>
    exact .fn f cs' vs (by rw [hml];exact hl) fun i a v ha hv=>by
     obtain ⟨a0,ha0,hf⟩:=hmg i a ha;exact pZ sr d hf (hr i a0 v ha0 hv)
  all_goals (simp only [frz,Option.some.injEq] at h;subst h;exact hc.mono F2.ext)

theorem AA (sr:SR φ F H w):∀(d:Nat) {v v':AV} {cv:Value},frz lim H d v=some v'→VRel φ F H w v cv→VRel φ (F2 φ F H lim) H w v' cv
 | 0,v,v',cv,h,hc=>by simp only [frz,Option.some.injEq] at h;subst h;exact hc.mono F2.ext
 | d+1,v,v',cv,h,hc=>by
  cases hc with
  | one hc=>exact .one (pZ sr (d+1) h hc)
  | agg cs vs hcl=>
   simp only [frz] at h;split at h;case h_2=>simp at h
   rename_i cs' hm;simp only [Option.some.injEq] at h;subst h;obtain ⟨hml,hmg⟩:=eY hm;refine .agg cs' vs ⟨by rw [hml,hcl.1],fun i a v ha hv=>?_⟩
   obtain ⟨a0,ha0,hf⟩:=hmg i a ha;exact pZ sr d hf (hcl.2 i a0 v ha0 hv)
  | tup as vs hl hrel=>
   simp only [frz] at h;split at h;case h_2=>simp at h
   rename_i as' hm;simp only [Option.some.injEq] at h;subst h;obtain ⟨hml,hmg⟩:=eY hm;refine .tup as' vs (by rw [hml,hl]) fun i a v ha hv=>?_
   obtain ⟨a0,ha0,hf⟩:=hmg i a ha;exact AA sr d hf (hrel i a0 v ha0 hv)
end
end Go.Hm

namespace Go.Hm
open Go Go.RowKit

theorem jd (lim:Nat)(H:Heap)(t:Nat):∀env:Env,find (nq lim H env) t=nm lim H (find env t)
 | []=>by
  simp only [nq,find];rfl
 | (t',v)::r=>by
  simp only [nq,find];split
  ·rfl
  ·exact jd lim H t r
theorem rq {n:Nat}:∀(d:Nat) {a:AV},Hm.below n a=true→Hm.below n (zro d a)=true
 | 0,_,h=>h
 | d+1,a,h=>by
  cases a<;>first | exact h | rfl | skip
  rename_i cs;simp only [zro,Hm.below] at h ⊢;refine bv.2 fun x hx=>?_;obtain ⟨y,hy,rfl⟩:=List.mem_map.1 hx;exact rq d (bv.1 h y hy)
theorem AB {n d:Nat}{cs:List AV}(h:belowL n cs=true):belowL n (cs.map (zro d))=true:=bv.2 fun x hx=>by
 obtain ⟨y,hy,rfl⟩:=List.mem_map.1 hx;exact rq d (bv.1 h y hy)
theorem nX {n:Nat}{a:AV}(h:Hm.below n a=true):Hm.below n (pu a)=true:=by
 unfold pu;split
 ·rfl
 ·exact rq 4 h
theorem xp {φ:Phi}{F:Nat→Nat→Prop}{H:Heap}{w:World}:∀(d:Nat) {a:AV} {v:Value},CRel φ F H w a v→CRel φ F H w (zro d a) v
 | 0,_,_,h=>h
 | d+1,a,v,h=>by
  cases h with
  | e0 x=>exact .slnil x
  | sl b o n cap cells vs hn hl hb hF hc hr=>
   refine .sl b o n cap (cells.map (zro d)) vs hn (by simpa using hl) (AB hb) (fun i hi=>hF i (by simpa using hi)) hc fun i a v ha hv=>?_
   rw [List.getElem?_map] at ha;obtain ⟨a0,ha0,rfl⟩:=Option.map_eq_some_iff.1 ha;exact xp d (hr i a0 v ha0 hv)
  | slnil x=>exact .slnil x
  | val v h=>exact .val v h
  | rop b o off cells vs hl hb hF hc hr=>exact .rop b o off cells vs hl hb hF hc hr
  | hp b g off cs a hb hg h=>exact .hp b g off cs a hb hg h
  | hs b g off n es cs x cap hb hg hn hx h=>exact .hs b g off n es cs x cap hb hg hn hx h
  | mp b es hb=>exact .mp b es hb
  | fn f caps vs hl hr=>exact .fn f caps vs hl hr
theorem Ko {φ:Phi}{F:Nat→Nat→Prop}{H:Heap}{w:World}(d:Nat){a:AV}{v:Value}(h:VRel φ F H w a v):VRel φ F H w (zro d a) v:=by
 cases h with
 | one h=>exact .one (xp d h)
 | agg cs vs h=>
  cases d with
  | zero=>exact .agg cs vs h
  | succ d=>
   refine .agg (cs.map (zro d)) vs ⟨by simpa using h.1,fun i a v ha hv=>?_⟩
   rw [List.getElem?_map] at ha;obtain ⟨a0,ha0,rfl⟩:=Option.map_eq_some_iff.1 ha;exact xp d (h.2 i a0 v ha0 hv)
 | tup as vs hl h=>
  cases d with
  | zero=>exact .tup as vs hl h
  | succ d=>exact .tup as vs hl h
theorem HV {φ:Phi}{F:Nat→Nat→Prop}{H:Heap}{w:World}{a:AV}{v:Value}(h:VRel φ F H w a v):VRel φ F H w (pu a) v:=by
 unfold pu;split
 ·exact h
 ·exact Ko 4 h
theorem ru {lim:Nat}{H:Heap}{v:AV}(h:∀cs,v≠.box cs):nm lim H v=match frz lim H 8 v with
  | some v'=>if Hm.below lim v'=true then pu v' else .dead
  | none=>.dead:=by
 cases v<;>first | rfl | exact absurd rfl (h _)
theorem AD {lim:Nat}{H:Heap}{v:AV}{cs:List AV}(h:nm lim H v= .box cs):∃cs0,v= .box cs0∧True:=by
 have key:∀v:AV,(match frz lim H 8 v with
  | some v'=>if Hm.below lim v'=true then pu v' else .dead
  | none=>.dead)≠AV.box cs:=fun v=>by
  split
  ·split
   ·rename_i v' _ hb;intro e;have:=nX hb;rw [e] at this;simp [Hm.below] at this
   ·intro e;cases e
  ·intro e;cases e
 by_cases hb:∃cs0,v= .box cs0
 ·obtain ⟨cs0,rfl⟩:=hb;unfold nm at h;dsimp only at h;split at h
  ·rename_i cs' hm;split at h
   ·rename_i hb;cases h;exact ⟨cs0,rfl,trivial⟩
   ·cases h
  ·cases h
 ·rw [ru (fun cs h=>hb ⟨cs,h⟩)] at h;exact absurd h (key v)

theorem mZ {lim:Nat}{H:Heap}(hl:lim≤H.length){b:Nat}{x:HB}(h:(fT lim H)[b]?=some x)(hx:x≠.hole):b < lim∧H[b]?=some x:=by
 unfold fT at h;by_cases hb:b < lim
 ·rw [List.getElem?_append_left (by rw [List.length_take];omega),List.getElem?_take,if_pos hb] at h
  exact ⟨hb,h⟩
 ·rw [List.getElem?_append_right (by rw [List.length_take];omega),List.getElem?_replicate] at h
  split at h
  ·cases h;exact absurd rfl hx
  ·cases h
theorem lJ {lim:Nat}{H:Heap}(hl:lim≤H.length){b:Nat}(hb:b < lim):(fT lim H)[b]?=H[b]?:=by
 unfold fT;rw [List.getElem?_append_left (by rw [List.length_take];omega),List.getElem?_take,if_pos hb]

section
variable {φ0:Phi}{F0:Nat→Nat→Prop}{H0:Heap}{w0:World}{φ:Phi}{F:Nat→Nat→Prop}{H:Heap}{w:World}{β:Nat→Nat}{env:Env}{act:Act}{T:TT}{lim:Nat}

theorem CRel.cut {a:AV}{v:Value}(hl:lim≤H.length)(h:CRel φ F H w a v)(hb:Hm.below lim a=true):CRel φ F (fT lim H) w a v:=by
 have e:Ext φ F (H.take lim) w φ F (fT lim H) w:=⟨fun b cs h=>by
  obtain ⟨h1,h2⟩:=b7 h;exact ⟨cs,by rw [lJ hl h1];exact h2,Nat.le_refl _,fun _=>rfl⟩,fun b es h=>by
  obtain ⟨h1,h2⟩:=b7 h;exact ⟨⟨es,by rw [lJ hl h1];exact h2⟩,rfl⟩,fun _ _ h=>⟨h,rfl⟩,Wm.refl w⟩
 exact (h.shrink hb).mono e
theorem VRel.cut {a:AV}{v:Value}(hl:lim≤H.length)(h:VRel φ F H w a v)(hb:Hm.below lim a=true):VRel φ F (fT lim H) w a v:=by
 have e:Ext φ F (H.take lim) w φ F (fT lim H) w:=⟨fun b cs h=>by
  obtain ⟨h1,h2⟩:=b7 h;exact ⟨cs,by rw [lJ hl h1];exact h2,Nat.le_refl _,fun _=>rfl⟩,fun b es h=>by
  obtain ⟨h1,h2⟩:=b7 h;exact ⟨⟨es,by rw [lJ hl h1];exact h2⟩,rfl⟩,fun _ _ h=>⟨h,rfl⟩,Wm.refl w⟩
 exact (h.shrink hb).mono e

theorem HW (sr:SR φ F H w)(hl:lim≤H.length)(hcl:Cl lim H):SR φ (F2 φ F H lim) (fT lim H) w:=by
 have e2:Ext φ F (fT lim H) w φ (F2 φ F H lim) (fT lim H) w:=⟨fun _ cs h=>⟨cs,h,Nat.le_refl _,fun _=>rfl⟩,fun _ es h=>⟨⟨es,h⟩,rfl⟩,fun _ _ h=>⟨.inl h,rfl⟩,Wm.refl w⟩;have lv:∀b,live (fT lim H) b→live H b∧b < lim:=fun b ⟨x,h1,h2⟩=>by
  obtain ⟨h3,h4⟩:=mZ hl h1 (fun e=>by subst e;exact h2)
  exact ⟨⟨x,h4,h2⟩,h3⟩
 refine ⟨fun b cs h hne=>?_,fun b es h=>?_,fun b b' h h'=>sr.inj b b' (lv b h).1 (lv b' h').1,fun b o h hF=>?_,fun k o h=>?_⟩
 ·obtain ⟨h1,h2⟩:=mZ hl h (fun e=>by cases e)
  obtain ⟨arr,ty,ha,hr⟩:=sr.blk b cs h2 hne;refine ⟨arr,ty,ha,fun i a hi=>?_⟩;obtain ⟨u,hu,hrel⟩:=hr i a hi;exact ⟨u,hu,(hrel.cut hl (bW (hcl b cs h1 h2) hi)).mono e2⟩
 ·obtain ⟨h1,h2⟩:=mZ hl h (fun e=>by cases e)
  obtain ⟨ces,clk,ha,hm1,hm2,hm3⟩:=sr.mblk b es h2;refine ⟨ces,clk,ha,hm1,fun i k v hi=>?_,hm3⟩;obtain ⟨a1,a2,c,a3,a4,a5⟩:=hm2 i k v hi;exact ⟨a1,a2,c,a3,(a4.cut hl (cJ (Nat.zero_le _) _ a1)).mono e2,(a5.cut hl (cJ (Nat.zero_le _) _ a2)).mono e2⟩
 ·rcases hF with hF | ⟨b',hb',hl',he⟩
  ·exact sr.phiF b o (lv b h).1 hF
  ·have:=sr.inj b' b hl' (lv b h).1 he;have:=(lv b h).2;omega
 ·rcases h with h | ⟨b',_,hl',he⟩
  ·exact sr.fsz k o h
  ·rw [←he];exact live_lt sr hl'

theorem AE (f:Full φ0 F0 H0 w0 φ F H w β env act T)(h0:lim=H0.length)(hl:lim≤H.length)(hcl:Cl lim H):Full φ0 F0 H0 w0 φ (F2 φ F H lim) (fT lim H) w β (nq lim H env) act T:=by
 have sr':=HW f.st.sr hl hcl;have sr:=f.st.sr;have lv:∀b,live (fT lim H) b→live H b:=fun b ⟨x,h1,h2⟩=>by
  obtain ⟨h3,h4⟩:=mZ hl h1 (fun e=>by subst e;exact h2)
  exact ⟨x,h4,h2⟩
 have bx:∀t cs,find (nq lim H env) t= .box cs→∃cs0,find env t= .box cs0∧True:=fun t cs h=>by
  rw [jd] at h;exact AD h
 refine ⟨⟨sr',f.st.size,fun t=>?_,fun t cs b h hlv=>?_,fun t t' c1 c2 h1 h2 he=>?_,fun t cs o h hF=>?_⟩,⟨fun b cs h=>?_,fun b es h=>?_,fun k o h=>⟨.inl (f.ext.frz k o h).1,(f.ext.frz k o h).2⟩,f.ext.wm⟩,f.chg,fun b h=>f.phi b (lv b h),fun t cs h=>?_,?_,fun k o h=>?_⟩
 ·rw [jd];have hs:=f.st.slot t;generalize hv:find env t=v at hs;by_cases hbx:∃cs0,v= .box cs0
  ·obtain ⟨cs,rfl⟩:=hbx;unfold nm;dsimp only;split
   ·rename_i cs' hm;split
    ·rename_i hb;refine ⟨hs.1,?_⟩;obtain ⟨arr,ty,ha,hr⟩:=hs.2;obtain ⟨hml,hmg⟩:=eY hm;refine ⟨arr,ty,ha,fun i a hi=>?_⟩;rw [List.getElem?_map] at hi;obtain ⟨a1,hi1,rfl⟩:=Option.map_eq_some_iff.1 hi;obtain ⟨a0,ha0,hf⟩:=hmg i a1 hi1;obtain ⟨u,hu,hrel⟩:=hr i a0 ha0;exact ⟨u,hu,xp 4 ((pZ sr 8 hf hrel).cut hl (bW hb hi1))⟩
    ·trivial
   ·trivial
  ·rw [ru (fun cs h=>hbx ⟨cs,h⟩)];split
   ·rename_i v' hf;split
    ·rename_i hb;have hr:VRel φ F H w v (act.tmps.getD t undef):=by
      cases v<;>first | exact hs | (simp only [frz,Option.some.injEq] at hf;subst hf;simp [Hm.below] at hb;done) | exact absurd ⟨_,rfl⟩ hbx
     have h2:=HV ((AA sr 8 hf hr).cut hl hb);have h3:=nX hb;generalize pu v'=u at h2 h3;cases u<;>first | exact h2 | (simp [Hm.below] at h3;done)
    ·trivial
   ·trivial
 ·obtain ⟨cs0,h1,_⟩:=bx t cs h;exact f.st.bphi t cs0 b h1 (lv b hlv)
 ·obtain ⟨c3,h3,_⟩:=bx t c1 h1;obtain ⟨c4,h4,_⟩:=bx t' c2 h2;exact f.st.binj t t' c3 c4 h3 h4 he
 ·obtain ⟨cs0,h1,_⟩:=bx t cs h;rcases hF with hF | ⟨b',_,hl',he⟩
  ·exact f.st.bF t cs0 o h1 hF
  ·exact f.st.bphi t cs0 b' h1 hl' he.symm
 ·obtain ⟨cs',h1,h2,h3⟩:=f.ext.len b cs h;have hlt:b < lim:=by rw [h0];exact (List.getElem?_eq_some_iff.1 h).1
  exact ⟨cs',by rw [lJ hl hlt];exact h1,h2,h3⟩
 ·obtain ⟨⟨es',h1⟩,h2⟩:=f.ext.map b es h;have hlt:b < lim:=by rw [h0];exact (List.getElem?_eq_some_iff.1 h).1
  exact ⟨⟨es',by rw [lJ hl hlt];exact h1⟩,h2⟩
 ·obtain ⟨cs0,h1,_⟩:=bx t cs h;exact f.beta t cs0 h1
 ·have hd:=f.dfr;unfold Dfr at *;split
  ·rename_i hr;rw [hr] at hd;exact ⟨hd.1,fun d hm=>by
    obtain ⟨r,h1,⟨o,h2⟩,h3,h4⟩:=hd.2 d hm;exact ⟨r,h1,⟨o,.inl h2⟩,h3,h4⟩⟩
  ·rename_i l hr;rw [hr] at hd;exact hd
 ·rcases h with h | ⟨b',hb',hl',he⟩
  ·exact f.frn k o h
  ·rcases f.phi b' hl' with ⟨⟨x,h1,_⟩,_⟩ | h
   ·have:=(List.getElem?_eq_some_iff.1 h1).1;omega
   ·exact .inr (by rw [←he];exact h)
end

theorem Ek {k:Nat}{x:AC}(h:∀a b,x≠.seq a b):sT (k+1) x=x:=by
 cases x<;>first | rfl | exact absurd rfl (h _ _)
section
variable {P:Program}{C:Orc}{lk lim:Nat}
theorem lK (hm:P.follows .mixedOrders=true)(hC:bB P C)(hF:OrcFr C){n:Nat}:∀(c:Code) (ks:List (List Nat)) {pm:Pm} {ro:Option Nat} {T:TT} {φ0:Phi} {F0:Nat→Nat→Prop} {H0:Heap} {w0:World} {φ:Phi} {F:Nat→Nat→Prop} {H:Heap} {w:World} {β:Nat→Nat} {env:Env} {act:Act} {ex:Ex} {env':Env} {H':Heap} {Q:Exit→Act→World→Prop},
  pm.T=T→vH P pm.it→((ro=none∧T.rd=none)∨pm.inR=true)→(∀k o,F0 k o→k < w0.heap.size)→lim=H0.length→lim≤H.length→Cl lim H→
  Full φ0 F0 H0 w0 φ F H w β env act T→aL C n lk lim (AC.seq .frz (be P pm c ks).1) env H=some (ex,env',H')→(∀act' w',dw φ0 F0 H0 w0 H' env' T act' w'→Q (nU ex) act' w')→c.wpIn (FR ro) 0 P Q act w:=by
 intro c ks pm ro T φ0 F0 H0 w0 φ F H w β env act ex env' H' Q hT hS hro hF0 h0 hl hcl f h hQ;simp only [aL] at h;split at h
 ·rename_i e1 h1 hfz;split at hfz;case h_2=>cases hfz
  rename_i e2 h2 hfc;unfold yl at hfc;split at hfc;case isFalse=>cases hfc
  simp only [Option.some.injEq,Prod.mk.injEq] at hfc hfz;obtain ⟨rfl,rfl⟩:=hfc;obtain ⟨_,rfl,rfl⟩:=hfz;exact eX hm hC hF _ ks hT hS hro hF0 (AE f h0 hl hcl) h hQ
 ·rename_i hne;split at h
  ·rename_i hfc;exact absurd (by rw [hfc]) (hne _ _)
  ·cases h
theorem tz (hm:P.follows .mixedOrders=true)(hC:bB P C)(hF:OrcFr C){n:Nat}:∀(c:Code) (k:Nat) (ks:List (List Nat)) {pm:Pm} {ro:Option Nat} {T:TT} {φ0:Phi} {F0:Nat→Nat→Prop} {H0:Heap} {w0:World} {φ:Phi} {F:Nat→Nat→Prop} {H:Heap} {w:World} {β:Nat→Nat} {env:Env} {act:Act} {ex:Ex} {env':Env} {H':Heap} {Q:Exit→Act→World→Prop},
  pm.T=T→vH P pm.it→((ro=none∧T.rd=none)∨pm.inR=true)→(∀k o,F0 k o→k < w0.heap.size)→lim=H0.length→lim≤H.length→Cl lim H→
  Full φ0 F0 H0 w0 φ F H w β env act T→aL C n lk lim (sT k (be P pm c ks).1) env H=some (ex,env',H')→(∀act' w',dw φ0 F0 H0 w0 H' env' T act' w'→Q (nU ex) act' w')→c.wpIn (FR ro) 0 P Q act w:=by
 intro c;have other:∀(c:Code),(∀(pm:Pm) ks a b,(be P pm c ks).1≠.seq a b)→∀(k:Nat) (ks:List (List Nat)) {pm:Pm} {ro:Option Nat} {T:TT} {φ0:Phi} {F0:Nat→Nat→Prop} {H0:Heap} {w0:World} {φ:Phi} {F:Nat→Nat→Prop} {H:Heap} {w:World} {β:Nat→Nat} {env:Env} {act:Act} {ex:Ex} {env':Env} {H':Heap} {Q:Exit→Act→World→Prop},
  pm.T=T→vH P pm.it→((ro=none∧T.rd=none)∨pm.inR=true)→(∀k o,F0 k o→k < w0.heap.size)→lim=H0.length→lim≤H.length→Cl lim H→
  Full φ0 F0 H0 w0 φ F H w β env act T→aL C n lk lim (sT k (be P pm c ks).1) env H=some (ex,env',H')→(∀act' w',dw φ0 F0 H0 w0 H' env' T act' w'→Q (nU ex) act' w')→c.wpIn (FR ro) 0 P Q act w:=by
  intro c hne k ks pm ro T φ0 F0 H0 w0 φ F H w β env act ex env' H' Q hT hS hro hF0 h0 hl hcl f h hQ;cases k with
  | zero=>exact lK hm hC hF c ks hT hS hro hF0 h0 hl hcl f h hQ
  | succ k=>
   rw [Ek (hne pm ks)] at h;exact eX hm hC hF c ks hT hS hro hF0 f h hQ
 induction c with
 | seq a b iha ihb=>
  intro k ks pm ro T φ0 F0 H0 w0 φ F H w β env act ex env' H' Q hT hS hro hF0 h0 hl hcl f h hQ;cases k with
  | zero=>exact lK hm hC hF (.seq a b) ks hT hS hro hF0 h0 hl hcl f h hQ
  | succ k=>
   simp only [be,sT,aL] at h;split at h
   ·rename_i e1 h1 ha;have fr:=rn hF _ ha;refine wpIn_seq (eX hm hC hF a ks hT hS hro hF0 f ha (fun act' w' ⟨φ1,F1,β1,f1⟩=>?_));exact ihb k _ hT hS hro hF0 h0 (Nat.le_trans hl fr.len) (fr.cl _ (Nat.le_refl _) hl hcl) f1 h hQ
   ·rename_i hne;refine wpIn_seq (eX hm hC hF a ks hT hS hro hF0 f h (fun act' w' hp=>?_));cases ex with
    | nrm=>exact absurd h (hne _ _)
    | exit id=>exact hQ _ _ hp
    | ret=>exact hQ _ _ hp
 | scope b ih=>
  intro k ks pm ro T φ0 F0 H0 w0 φ F H w β env act ex env' H' Q hT hS hro hF0 h0 hl hcl f h hQ;cases k with
  | zero=>exact lK hm hC hF (.scope b) ks hT hS hro hF0 h0 hl hcl f h hQ
  | succ k=>
   simp only [be] at h;split at h
   ·simp [sT,aL] at h
   rename_i hr;obtain ⟨rfl,_⟩:=hro.resolve_right hr;refine wpIn_wide.2 (wp_scope_straight ((wpIn_wide (n:=0)).1 (ih (k+1) ks hT hS hro hF0 h0 hl hcl f h (fun act' w' hp=>?_))));cases ex<;>exact hQ _ _ hp
 | region id ops draw=>exact other _ (fun pm ks a b e=>by
   simp only [be] at e;split at e
   ·cases e
   ·split at e
    ·split at e<;>cases e
    ·cases e)
 | rangeFunc g ps asg body _ _=>exact other _ (fun pm ks a b e=>by
   simp only [be] at e;split at e<;>cases e)
 | _=>exact other _ (fun pm ks a b e=>by simp only [be] at e;cases e)
end
end Go.Hm

namespace Go.Hm
open Go Go.RowKit

theorem jI:∀(k:Nat) (as:List AV) (t:Nat),find (aZ k as) t=if k≤t then (as[t - k]?).getD .dead else .dead
 | k,[],t=>by simp [aZ,find]
 | k,a::r,t=>by
  simp only [aZ,find,jI (k+1) r t];by_cases h:k=t
  ·subst h;simp
  ·rw [if_neg h];by_cases h2:k≤t
   ·rw [if_pos h2,if_pos (by omega)]
    obtain ⟨m,hm⟩:∃m,t - k=m+1:=⟨t - k - 1,by omega⟩
    rw [hm,show t - (k+1)=m from by omega];simp
   ·rw [if_neg h2,if_neg (by omega)]

section
variable {P:Program}{X:Orc}{A:FuncId→Option AFn}

theorem VRel.notBox {φ:Phi}{F:Nat→Nat→Prop}{H:Heap}{w:World}{cs:List AV}{v:Value}(h:VRel φ F H w (.box cs) v):False:=by
 cases h with
 | one h=>cases h

theorem vJ {φ:Phi}{F:Nat→Nat→Prop}{H:Heap}{w:World}{as:List AV}{vs:List Value}{T:Nat}(sr:SR φ F H w)(ha:il φ F H w as vs)(hT:as.length≤T):
  Full φ F H w φ F H w (fun _=>w.heap.size) (aZ 0 as) { tmps:=vs.toArray++Array.replicate (T - vs.toArray.size) undef,defers:=[] } ⟨T,none⟩:=by
 have nb:∀t cs,find (aZ 0 as) t≠.box cs:=fun t cs h=>by
  rw [jI,if_pos (Nat.zero_le _),Nat.sub_zero] at h;cases hx:as[t]? with
  | none=>rw [hx] at h;cases h
  | some a=>
   rw [hx] at h;simp only [Option.getD_some] at h;subst h;have hlt:t < vs.length:=by rw [ha.1];exact (List.getElem?_eq_some_iff.1 hx).1
   exact (ha.2 t _ vs[t] hx (by simp [hlt])).notBox
 have hl:=ha.1;refine ⟨⟨sr,by simp;omega,fun t=>?_,fun t cs b h=>absurd h (nb t cs),fun t t' cs cs' h=>absurd h (nb t cs),fun t cs o h=>absurd h (nb t cs)⟩,Ext.refl _ _ _ _,Chg.refl _ _,fun b hb=>.inl ⟨hb,rfl⟩,fun t cs h=>absurd h (nb t cs),Marks.nil,fun k o h=>.inl h⟩
 rw [jI,if_pos (Nat.zero_le _),Nat.sub_zero];cases hx:as[t]? with
 | none=>trivial
 | some a=>
  have hlt:t < vs.length:=by rw [hl];exact (List.getElem?_eq_some_iff.1 hx).1
  have hv:(vs.toArray++Array.replicate (T - vs.toArray.size) undef).getD t undef=vs[t]:=by
   rw [Array.getD_eq_getD_getElem?,Array.getElem?_append_left (by simpa using hlt)]
   simp [hlt]
  have hr:=ha.2 t a vs[t] hx (by simp [hlt])
  simp only [Option.getD_some];rw [hv];have ho:ORel φ F H w (fun _=>w.heap.size) a vs[t]:=ORel.of hr;cases a<;>first | exact ho | exact ho.elim

theorem yJ {φ φ':Phi}{F F':Nat→Nat→Prop}{H H1:Heap}{w w':World}{β:Nat→Nat}{env:Env}{act:Act}{T:TT}{d:Nat}{v v':AV}{cv:Value}(f:Full φ F H w φ' F' H1 w' β env act T)(hcl:Cl H.length H1)(hv:VRel φ' F' H1 w' v cv)
  (hf:frz H.length H1 d v=some v') (hb:Hm.below H.length v'=true):iw φ F H w v' (H1.take H.length) cv w':=by
 have sr1:=f.st.sr.take hcl;have lv:∀b,live (H1.take H.length) b→live H1 b∧b < H.length:=fun b ⟨cs,h1,h2⟩=>⟨⟨cs,(b7 h1).2,h2⟩,(b7 h1).1⟩;have e2:Ext φ' F' (H1.take H.length) w' φ' (F2 φ' F' H1 H.length) (H1.take H.length) w':=⟨fun _ cs h=>⟨cs,h,Nat.le_refl _,fun _=>rfl⟩,fun _ es h=>⟨⟨es,h⟩,rfl⟩,fun _ _ h=>⟨.inl h,rfl⟩,Wm.refl w'⟩;refine ⟨φ',F2 φ' F' H1 H.length,(AA f.st.sr d hf hv).shrink hb,⟨fun b cs h hne=>?_,fun b es h=>?_,sr1.inj,fun b o hl h=>?_,fun k o h=>?_⟩,⟨fun b cs h=>?_,fun b es h=>?_,fun k o h=>⟨.inl (f.ext.frz k o h).1,(f.ext.frz k o h).2⟩,f.ext.wm⟩,f.chg,fun b hl=>f.phi b (lv b hl).1,fun k o h=>?_⟩
 ·obtain ⟨arr,ty,ha,hr⟩:=sr1.blk b cs h hne;exact ⟨arr,ty,ha,fun i a hi=>by
   obtain ⟨u,hu,hrel⟩:=hr i a hi;exact ⟨u,hu,hrel.mono e2⟩⟩
 ·obtain ⟨ces,clk,ha,hr⟩:=sr1.mblk b es h;exact ⟨ces,clk,ha,hr.mono e2⟩
 ·rcases h with h | ⟨b',hb',hl',he⟩
  ·exact sr1.phiF b o hl h
  ·have:=f.st.sr.inj b' b hl' (lv b hl).1 he;have:=(lv b hl).2;omega
 ·rcases h with h | ⟨b',_,hl',he⟩
  ·exact sr1.fsz k o h
  ·rw [←he];exact live_lt f.st.sr hl'
 ·obtain ⟨cs',h1,h2,h3⟩:=f.ext.len b cs h;have hlt:b < H.length:=(List.getElem?_eq_some_iff.1 h).1;exact ⟨cs',by rw [List.getElem?_take,if_pos hlt];exact h1,h2,h3⟩
 ·obtain ⟨⟨es',h1⟩,h2⟩:=f.ext.map b es h;have hlt:b < H.length:=(List.getElem?_eq_some_iff.1 h).1;exact ⟨⟨es',by rw [List.getElem?_take,if_pos hlt];exact h1⟩,h2⟩
 ·rcases h with h | ⟨b',hb',hl',he⟩
  ·exact f.frn k o h
  ·rcases f.phi b' hl' with ⟨⟨cs,h1,_⟩,_⟩ | h
   ·have:=(List.getElem?_eq_some_iff.1 h1).1;omega
   ·exact .inr (by omega)

def xq (P:Program)(A:FuncId→Option AFn):Prop:=∀f fd,A f=some fd→∃pm ks,aE P (f % 1000) pm ks fd.trunc=some fd∧vH P pm.it
theorem AF (fz:Option Nat)(t:Bool)(c:AC):xf fz t c=c∨∃k,t=true∧xf fz t c=sT k c:=by
 unfold xf;cases fz with
 | none=>exact .inl rfl
 | some k=>cases t with
  | true=>exact .inr ⟨k,rfl,rfl⟩
  | false=>exact .inl rfl

theorem tA (hm:P.follows .mixedOrders=true)(hX:bB P X)(hXF:OrcFr X)(hA:xq P A):∀n,bB P (bo X A n)
 | 0=>fun _ _ _ _ _ _ _ h=>by simp [bo] at h
 | n+1=>by
  have ih:=tA hm hX hXF hA n;have ihF:=tp (A:=A) hXF n;intro lk lim f as H r H' h;simp only [bo] at h;split at h
  ·rename_i r' hx;simp only [Option.some.injEq] at h;subst h;exact hX _ _ _ _ _ _ _ hx
  ·split at h;case h_1=>simp at h
   rename_i fd hfd;split at h;case isFalse=>simp at h
   rename_i hnp;obtain ⟨pm,ks,hcomp,hsq⟩:=hA f fd hfd;unfold aE at hcomp;split at hcomp;case h_2=>simp at hcomp
   rename_i fn hfn;split at hcomp;case h_2=>simp at hcomp
   rename_i c hbody;split at hcomp;case isFalse=>simp at hcomp
   rename_i hchk;simp only [Option.some.injEq] at hcomp;obtain ⟨hname,hsz,hres⟩:=hchk;refine ⟨⟨fn,hfn,hname,by rw [hbody];rfl⟩,fun φ F w vs sr ha=>?_⟩
   rw [←hcomp] at h hnp;dsimp only at h hnp;have f0:=vJ (T:=fn.ntmps) sr ha (by omega)
   unfold ck at h;split at h
   ·simp at h
   ·rename_i ex env1 H1 hnx hex;split at h;case h_2=>simp at h
    rename_i v hv;have snd:∀{Q:Exit→Act→World→Prop},(∀act' w',dw φ F H w H1 env1 (⟨fn.ntmps,none⟩:TT) act' w'→Q (nU ex) act' w')→c.wpIn (FR none) 0 P Q { tmps:=vs.toArray++Array.replicate (fn.ntmps - vs.toArray.size) undef,defers:=[] } w:=fun hQ=>by
     have hex:=hex;rcases AF pm.fz fd.trunc (be P { pm with T:=fn.ntmps } c ks).1 with hb | ⟨k,ht,hb⟩
     ·rw [hb] at hex;exact eX hm ih ihF c ks (pm:={ pm with T:=fn.ntmps }) (ro:=none) (T:=⟨fn.ntmps,none⟩) rfl hsq (.inl ⟨rfl,rfl⟩) sr.fsz f0 hex hQ
     ·rw [hb,if_pos ht] at hex;exact tz hm ih ihF c k ks (pm:={ pm with T:=fn.ntmps }) (ro:=none) (T:=⟨fn.ntmps,none⟩) rfl hsq (.inl ⟨rfl,rfl⟩) sr.fsz rfl (Nat.le_refl _) sr.cl f0 hex hQ
    refine (callsIn_wide (n:=0)).1 (callsIn_of_wp_marks hfn hbody trivial (snd (fun act' w1 ⟨φ1,F1,β1,f1⟩=>?_)) rfl);have leave:∀w',(∃φ' F' β',Full φ F H w φ' F' H1 w' β' env1 { tmps:=act'.tmps,defers:=[] } ⟨fn.ntmps,none⟩)→∃v,(results fn act'.tmps).run P w'= .ok v w'∧∃v',Ending.returned v= .returned v'∧iw φ F H w r H' v' w':=by
     rintro w' ⟨φ',F',β',f'⟩;obtain ⟨cv,hrun,hrel⟩:=tu f'.st hres hv;have hfr:=rn ihF _ hex;refine ⟨cv,hrun,cv,rfl,?_⟩;split at h
     ·rename_i ht;rw [if_pos ht] at hfr;split at h;case h_2=>simp at h
      rename_i v' hfz;split at h;case isFalse=>simp at h
      rename_i hbel;simp only [Option.some.injEq,Prod.mk.injEq] at h;obtain ⟨rfl,rfl⟩:=h;exact yJ f' (hfr.cl _ (Nat.le_refl _) (Nat.le_refl _) sr.cl) hrel hfz hbel
     ·simp only [Option.some.injEq,Prod.mk.injEq] at h;obtain ⟨rfl,rfl⟩:=h;exact ⟨φ',F',hrel,f'.st.sr,f'.ext,f'.chg,f'.phi,f'.frn⟩
    have all:∀(ds:List Deferred) (w':World),(∃φ' F' β',Full φ F H w φ' F' H1 w' β' env1 { tmps:=act'.tmps,defers:=ds } ⟨fn.ntmps,none⟩)→LeavesInM Fence.wide 0 P fn act'.tmps (fun e w'=>∃v,e= .returned v∧iw φ F H w r H' v w') ds .returning w':=by
     intro ds;induction ds with
     | nil=>intro w' h;exact leave w' h
     | cons d ds ihd=>
      rintro w' ⟨φ',F',β',f'⟩;obtain ⟨q,rfl,hq,f2⟩:=f'.close sr.fsz rfl;exact ⟨by simp,.inl ⟨q,_,rfl,run_takeDeferred hq,ihd _ ⟨φ',F',β',f2⟩⟩⟩
    have h0:=all act'.defers w1 ⟨φ1,F1,β1,f1⟩;cases ex with
    | nrm=>exact h0
    | ret=>exact h0
    | exit id=>exact (hnx id rfl).elim
   ·simp at h
end
end Go.Hm

namespace Go.Hm
open Go

def OLe (C C':Orc):Prop:=∀lk lim f as H r,C lk lim f as H=some r→C' lk lim f as H=some r

theorem OLe.refl (C:Orc):OLe C C:=fun _ _ _ _ _ _ h=>h
theorem OLe.trans {A B C:Orc}(h:OLe A B)(k:OLe B C):OLe A C:=fun _ _ _ _ _ _ e=>k _ _ _ _ _ _ (h _ _ _ _ _ _ e)

section
variable {C C':Orc}

theorem vK (hC:OLe C C'){lk lim:Nat}{dst:Option Nat}{op:AOp}{env:Env}{H:Heap}{r:Env×Heap}(h:eU C lk lim dst op env H=some r):eU C' lk lim dst op env H=some r:=by
 unfold eU at h ⊢;split at h
 ·exact h
 ·exact h
 ·exact h
 ·split at h;case h_2=>simp at h
  rename_i g as hg;split at h;case isFalse=>simp at h
  rename_i ha;split at h;case h_2=>simp at h
  rename_i v H' hc;simp only [ha,if_true,hC _ _ _ _ _ _ hc];exact h
 ·exact h

theorem yK (hC:OLe C C'){lk lim base cb:Nat}{dst:Option Nat}{op:AOp}{k:Nat}{env:Env}{H:Heap}{r:Env×Heap}(h:eV C lk lim base cb dst op k env H=some r):eV C' lk lim base cb dst op k env H=some r:=by
 unfold eV at h ⊢;split at h
 ·exact h
 ·exact h
 ·exact h
 ·split at h;case h_2=>simp at h
  rename_i g as hg;split at h;case isFalse=>simp at h
  rename_i ha;split at h;case h_2=>simp at h
  rename_i v H' hc;rw [if_pos ha];simp only [hC _ _ _ _ _ _ hc];exact h
 ·exact h

theorem yL (hC:OLe C C'){lk lim:Nat}{dst:Option Nat}{op:AOp}{env:Env}{H:Heap}{r:Env×Heap}(h:j1 C lk lim dst op env H=some r):j1 C' lk lim dst op env H=some r:=by
 unfold j1 at h ⊢;split at h;case h_2=>simp at h
 split at h;case isFalse=>simp at h
 rename_i ha;split at h;case h_2=>simp at h
 rename_i v H' hc;rw [if_pos ha];simp only [hC _ _ _ _ _ _ hc];exact h

theorem nY (hC:OLe C C'){lk lim:Nat}{i:AI}{env:Env}{H:Heap}{r:Env×Heap}(h:ft C lk lim i env H=some r):ft C' lk lim i env H=some r:=by
 unfold ft at h ⊢;split at h
 ·exact vK hC h
 ·exact h
 ·exact h

theorem nZ (hC:OLe C C'){ws:WS}{lk lim base cb:Nat}{i:AI}{env:Env}{H:Heap}{r:Env×Heap}(h:cZ C lk lim ws base cb i env H=some r):cZ C' lk lim ws base cb i env H=some r:=by
 unfold cZ at h ⊢;split at h
 ·split at h
  ·rename_i hok;rw [if_pos hok];split at h
   ·rename_i hfr;rw [if_pos hfr];exact yL hC h
   ·rename_i hfr;rw [if_neg hfr];exact yK hC h
  ·simp at h
 ·exact h
 ·exact h

theorem fA (hC:OLe C C'){lk lim:Nat}:∀{l:List AI} {env:Env} {H:Heap} {r:Env×Heap},cB C lk lim l env H=some r→cB C' lk lim l env H=some r
 | [],_,_,_,h=>h
 | i::l,env,H,r,h=>by
  simp only [cB] at h ⊢;split at h
  ·rename_i e1 h1 hs;rw [nY hC hs];exact fA hC h
  ·simp at h

theorem je (hC:OLe C C'){ws:WS}{lk lim base:Nat}:∀{l:List AI} {env:Env} {H:Heap} {r:Env×Heap},cI C lk lim ws base l env H=some r→cI C' lk lim ws base l env H=some r
 | [],_,_,_,h=>h
 | i::l,env,H,r,h=>by
  simp only [cI] at h ⊢;split at h
  ·rename_i e1 h1 hs;rw [nZ hC hs];exact je hC h
  ·simp at h

theorem eM {f g:Env→Heap→Out}(hfg:∀env H r,f env H=some r→g env H=some r):∀{n m:Nat} (_:n≤m) {env:Env} {H:Heap} {r:Ex×Env×Heap},ef f n env H=some r→ef g m env H=some r
 | 0,_,_,_,_,_,h=>by simp [ef] at h
 | n+1,m,hm,env,H,r,h=>by
  obtain ⟨m,rfl⟩:∃k,m=k+1:=⟨m - 1,by omega⟩
  simp only [ef] at h ⊢;split at h
  ·rename_i e1 h1 hs;rw [hfg _ _ _ hs];exact eM hfg (by omega) h
  ·rename_i hx;rw [hfg _ _ _ h];split
   ·rename_i e1 h1 hs;simp only [Option.some.injEq] at hs;subst hs;exact (hx _ _ h).elim
   ·rfl

theorem iE {f f' g g':Env→Heap→Out}(hf:∀env H r,f env H=some r→f' env H=some r)(hg:∀env H r,g env H=some r→g' env H=some r){ps:List Nat}{env:Env}{x:List Value}{H:Heap}{r:Ex×Env×Heap}(h:er f g ps env x H=some r):er f' g' ps env x H=some r:=by
 unfold er at h ⊢;split at h
 ·split at h
  ·rename_i hs;rw [hf _ _ _ hs];dsimp only;split at h
   ·rename_i hb;rw [if_pos hb];exact hg _ _ _ h
   ·simp at h
  ·simp at h
 ·simp at h
theorem fB {f f' g g':Env→Heap→Out}(hf:∀env H r,f env H=some r→f' env H=some r)(hg:∀env H r,g env H=some r→g' env H=some r){ps:List Nat}{env:Env}:∀{l:List (List Value)} {H:Heap} {r:Ex×Env×Heap},bR f g ps env l H=some r→bR f' g' ps env l H=some r
 | [],_,_,h=>h
 | x::l,H,r,h=>by
  simp only [bR] at h ⊢;split at h
  ·rename_i hs;rw [iE hf hg hs];exact fB hf hg h
  ·rename_i ex e1 H1 hx hs;rw [iE hf hg hs];cases ex with
   | nrm=>exact (hx rfl).elim
   | exit id=>exact h
   | ret=>exact h
  ·simp at h

theorem bS (hC:OLe C C'){n m:Nat}(hn:n≤m){lk lim:Nat}:∀{c:AC} {env:Env} {H:Heap} {r:Ex×Env×Heap},aL C n lk lim c env H=some r→aL C' m lk lim c env H=some r
 | .skip,_,_,_,h=>h
 | .frz,_,_,_,h=>h
 | .regN keep ops,env,H,r,h=>by
  simp only [aL] at h ⊢;split at h
  ·rename_i hs;rw [fA hC hs];exact h
  ·simp at h
 | .regD keep k ops,env,H,r,h=>by
  simp only [aL] at h ⊢;split at h
  ·rename_i hs;rw [je hC hs];exact h
  ·simp at h
 | .seq a b,env,H,r,h=>by
  simp only [aL] at h ⊢;split at h
  ·rename_i hs;rw [bS hC hn hs];exact bS hC hn h
  ·rename_i hx;rw [bS hC hn h];split
   ·rename_i hs;simp only [Option.some.injEq] at hs;subst hs;exact (hx _ _ h).elim
   ·rfl
 | .cond c a b,env,H,r,h=>by
  simp only [aL] at h ⊢;split at h
  ·split at h
   ·rename_i ht;rw [if_pos ht];exact bS hC hn h
   ·rename_i ht;rw [if_neg ht];exact bS hC hn h
  ·simp at h
 | .block id b,env,H,r,h=>by
  simp only [aL] at h ⊢;split at h
  ·rename_i hs;rw [bS hC hn hs];exact h
  ·rename_i hx;rw [bS hC hn h];split
   ·rename_i hs;simp only [Option.some.injEq] at hs;subst hs;exact (hx _ _ _ h).elim
   ·rfl
 | .loop keep b,env,H,r,h=>by
  simp only [aL] at h ⊢;exact eM (fun _ _ _ hr=>bS hC hn hr) hn h
 | .rangeF keep it g ps asg body,env,H,r,h=>by
  simp only [aL] at h ⊢;split at h
  ·exact fB (fun _ _ _ hr=>bS hC hn hr) (fun _ _ _ hr=>bS hC hn hr) h
  ·simp at h
 | .exit _,_,_,_,h=>h
 | .ret,_,_,_,h=>h
 | .bad,_,_,_,h=>by simp [aL] at h
end

theorem cM (X:Orc)(A:FuncId→Option AFn):∀{n m:Nat},n≤m→OLe (bo X A n) (bo X A m)
 | 0,_,_=>fun _ _ _ _ _ _ h=>by simp [bo] at h
 | n+1,m,hm=>fun lk lim f as H r h=>by
  obtain ⟨m,rfl⟩:∃k,m=k+1:=⟨m - 1,by omega⟩
  have ih:=cM X A (n:=n) (m:=m) (by omega)
  simp only [bo] at h ⊢;split at h
  ·exact h
  ·split at h
   ·simp at h
   ·split at h
    ·unfold ck at h;split at h
     ·simp at h
     ·rename_i hx hs;rw [if_pos ‹_›,bS ih (by omega) hs]
      unfold ck;split
      ·rename_i heq;simp only [Option.some.injEq,Prod.mk.injEq] at heq;exact (hx _ heq.1).elim
      ·rename_i heq;simp only [Option.some.injEq,Prod.mk.injEq] at heq;obtain ⟨_,rfl,rfl⟩:=heq;exact h
      ·rename_i heq;simp at heq
     ·simp at h
    ·simp at h

open Classical in
noncomputable def fZ (f:Env→Heap→Out)(env:Env)(H:Heap):Out:=if h:∃r n,ef f n env H=some r then some (Classical.choose h) else none

theorem kB {f:Env→Heap→Out}{n:Nat}{env:Env}{H:Heap}{r:Ex×Env×Heap}(h:ef f n env H=some r):fZ f env H=some r:=by
 have hx:∃r n,ef f n env H=some r:=⟨r,n,h⟩;unfold fZ;rw [dif_pos hx];obtain ⟨m,hm⟩:=Classical.choose_spec hx;have h1:=eM (g:=f) (fun _ _ _ h=>h) (Nat.le_max_left n m) h;have h2:=eM (g:=f) (fun _ _ _ h=>h) (Nat.le_max_right n m) hm;rw [h1] at h2;exact h2.symm
theorem jJ {f:Env→Heap→Out}{env:Env}{H:Heap}{r:Ex×Env×Heap}(h:fZ f env H=some r):∃n,ef f n env H=some r:=by
 unfold fZ at h;split at h
 ·rename_i hx;simp only [Option.some.injEq] at h;obtain ⟨n,hn⟩:=Classical.choose_spec hx;exact ⟨n,by rw [hn,h]⟩
 ·simp at h

theorem AG (f:Env→Heap→Out)(env:Env)(H:Heap):fZ f env H=match f env H with
  | some (.nrm,env',H')=>fZ f env' H'
  | r=>r:=by
 have one:∀r,(match f env H with
  | some (.nrm,env',H')=>fZ f env' H'
  | r=>r)=some r→fZ f env H=some r:=fun r h=>by
  split at h
  ·rename_i hs;obtain ⟨n,hn⟩:=jJ h;exact kB (n:=n+1) (by simp only [ef,hs];exact hn)
  ·rename_i hx;refine kB (n:=1) ?_;simp only [ef,h];cases r with
   | mk x r=>
    cases x with
    | nrm=>exact (hx _ _ h).elim
    | exit id=>rfl
    | ret=>rfl
 have two:∀r,fZ f env H=some r→(match f env H with
  | some (.nrm,env',H')=>fZ f env' H'
  | r=>r)=some r:=fun r h=>by
  obtain ⟨n,hn⟩:=jJ h;cases n with
  | zero=>simp [ef] at hn
  | succ n=>
   simp only [ef] at hn;split at hn
   ·rename_i hs;rw [hs];exact kB hn
   ·rename_i hx;rw [hn];cases r with
    | mk x r=>
     cases x with
     | nrm=>exact (hx _ _ hn).elim
     | exit id=>rfl
     | ret=>rfl
 cases h:fZ f env H with
 | some r=>rw [two r h]
 | none=>
  symm;cases h2:(match f env H with
   | some (.nrm,env',H')=>fZ f env' H'
   | r=>r) with
  | none=>rfl
  | some r=>rw [one r h2] at h;simp at h

noncomputable def aP (C:Orc)(lk lim:Nat):AC→Env→Heap→Out
 | .skip,env,H=>some (.nrm,env,H)
 | .regN keep ops,env,H=>match cB C lk lim ops (ab keep env) H with
  | some (env',H')=>some (.nrm,env',H')
  | none=>none
 | .regD keep m ops,env,H=>match cI C lk lim (iq lk lim H.length ops (ab keep env) (H++List.replicate m .hole)) H.length ops (ab keep env) (H++List.replicate m .hole) with
  | some (env',H')=>some (.nrm,env',H')
  | none=>none
 | .seq a b,env,H=>match aP C lk lim a env H with
  | some (.nrm,env',H')=>aP C lk lim b env' H'
  | r=>r
 | .cond c a b,env,H=>match ev env c with
  | .val (.bool t)=>if t=true then aP C lk lim a env H else aP C lk lim b env H
  | _=>none
 | .block id b,env,H=>match aP C lk lim b env H with
  | some (.exit id',env',H')=>if id'=id then some (.nrm,env',H') else some (.exit id',env',H')
  | r=>r
 | .loop keep b,env,H=>fZ (fun env H=>aP C lk lim b (ab keep env) H) env H
 | .rangeF keep it g ps asg body,env,H=>match i7 it g ps (ab keep env) H with
  | some items=>bR (fun e H=>aP C lk lim asg e H) (fun e H=>aP C lk lim body e H) ps (ab keep env) items H
  | none=>none
 | .exit id,env,H=>some (.exit id,env,H)
 | .ret,env,H=>some (.ret,env,H)
 | .frz,env,H=>match yl lk lim env H with
  | some (e,h)=>some (.nrm,e,h)
  | none=>none
 | .bad,_,_=>none

theorem dF {C C':Orc}(hC:OLe C C'){n:Nat}{lk lim:Nat}:∀{c:AC} {env:Env} {H:Heap} {r:Ex×Env×Heap},aL C n lk lim c env H=some r→aP C' lk lim c env H=some r
 | .skip,_,_,_,h=>h
 | .frz,_,_,_,h=>h
 | .regN keep ops,env,H,r,h=>by
  simp only [aL,aP] at h ⊢;split at h
  ·rename_i hs;rw [fA hC hs];exact h
  ·simp at h
 | .regD keep k ops,env,H,r,h=>by
  simp only [aL,aP] at h ⊢;split at h
  ·rename_i hs;rw [je hC hs];exact h
  ·simp at h
 | .seq a b,env,H,r,h=>by
  simp only [aL,aP] at h ⊢;split at h
  ·rename_i hs;rw [dF hC hs];exact dF hC h
  ·rename_i hx;rw [dF hC h];split
   ·rename_i hs;simp only [Option.some.injEq] at hs;subst hs;exact (hx _ _ h).elim
   ·rfl
 | .cond c a b,env,H,r,h=>by
  simp only [aL,aP] at h ⊢;split at h
  ·rename_i hc;rw [hc];dsimp only;split at h
   ·rename_i ht;rw [if_pos ht];exact dF hC h
   ·rename_i ht;rw [if_neg ht];exact dF hC h
  ·simp at h
 | .block id b,env,H,r,h=>by
  simp only [aL,aP] at h ⊢;split at h
  ·rename_i hs;rw [dF hC hs];exact h
  ·rename_i hx;rw [dF hC h];split
   ·rename_i hs;simp only [Option.some.injEq] at hs;subst hs;exact (hx _ _ _ h).elim
   ·rfl
 | .loop keep b,env,H,r,h=>by
  simp only [aL,aP] at h ⊢;exact kB (eM (fun _ _ _ hr=>dF hC hr) (Nat.le_refl n) h)
 | .rangeF keep it g ps asg body,env,H,r,h=>by
  simp only [aL,aP] at h ⊢;split at h
  ·rename_i hit;rw [hit];exact fB (fun _ _ _ hr=>dF hC hr) (fun _ _ _ hr=>dF hC hr) h
  ·simp at h
 | .exit _,_,_,_,h=>h
 | .ret,_,_,_,h=>h
 | .bad,_,_,_,h=>by simp [aL] at h

section
variable (X:Orc)(A:FuncId→Option AFn)

open Classical in
noncomputable def ah:Orc:=fun lk lim f as H=>if h:∃r n,bo X A n lk lim f as H=some r then some (Classical.choose h) else none

variable {X A}
theorem n5 {n:Nat}{lk lim:Nat}{f:FuncId}{as:List AV}{H:Heap}{r:AV×Heap}(h:bo X A n lk lim f as H=some r):ah X A lk lim f as H=some r:=by
 have hx:∃r n,bo X A n lk lim f as H=some r:=⟨r,n,h⟩;unfold ah;rw [dif_pos hx];obtain ⟨m,hm⟩:=Classical.choose_spec hx;have h1:=cM X A (Nat.le_max_left n m) _ _ _ _ _ _ h;have h2:=cM X A (Nat.le_max_right n m) _ _ _ _ _ _ hm;rw [h1] at h2;exact h2.symm
theorem eZ {lk lim:Nat}{f:FuncId}{as:List AV}{H:Heap}{r:AV×Heap}(h:ah X A lk lim f as H=some r):∃n,bo X A n lk lim f as H=some r:=by
 unfold ah at h;split at h
 ·rename_i hx;simp only [Option.some.injEq] at h;obtain ⟨n,hn⟩:=Classical.choose_spec hx;exact ⟨n,by rw [hn,h]⟩
 ·simp at h
theorem AH (n:Nat):OLe (bo X A n) (ah X A):=fun _ _ _ _ _ _ h=>n5 h


theorem yM {lk lim:Nat}{dst:Option Nat}{op:AOp}{env:Env}{H:Heap}{r:Env×Heap}(h:eU (ah X A) lk lim dst op env H=some r):∃n,eU (bo X A n) lk lim dst op env H=some r:=by
 unfold eU at h ⊢;split at h
 ·exact ⟨0,h⟩
 ·exact ⟨0,h⟩
 ·exact ⟨0,h⟩
 ·split at h;case h_2=>simp at h
  rename_i g as hg;split at h;case isFalse=>simp at h
  rename_i ha;split at h;case h_2=>simp at h
  rename_i v H' hc;obtain ⟨n,hn⟩:=eZ hc;refine ⟨n,?_⟩;simp only [ha,if_true,hn];exact h
 ·exact ⟨0,h⟩

theorem AJ {lk lim base cb:Nat}{dst:Option Nat}{op:AOp}{k:Nat}{env:Env}{H:Heap}{r:Env×Heap}(h:eV (ah X A) lk lim base cb dst op k env H=some r):∃n,eV (bo X A n) lk lim base cb dst op k env H=some r:=by
 unfold eV at h ⊢;split at h
 ·exact ⟨0,h⟩
 ·exact ⟨0,h⟩
 ·exact ⟨0,h⟩
 ·split at h;case h_2=>simp at h
  rename_i g as hg;split at h;case isFalse=>simp at h
  rename_i ha;split at h;case h_2=>simp at h
  rename_i v H' hc;obtain ⟨n,hn⟩:=eZ hc;refine ⟨n,?_⟩;rw [if_pos ha];simp only [hn];exact h
 ·exact ⟨0,h⟩

theorem AK {lk lim:Nat}{dst:Option Nat}{op:AOp}{env:Env}{H:Heap}{r:Env×Heap}(h:j1 (ah X A) lk lim dst op env H=some r):∃n,j1 (bo X A n) lk lim dst op env H=some r:=by
 unfold j1 at h ⊢;split at h;case h_2=>simp at h
 split at h;case isFalse=>simp at h
 rename_i ha;split at h;case h_2=>simp at h
 rename_i v H' hc;obtain ⟨n,hn⟩:=eZ hc;refine ⟨n,?_⟩;rw [if_pos ha];simp only [hn];exact h

theorem yN {lk lim:Nat}{i:AI}{env:Env}{H:Heap}{r:Env×Heap}(h:ft (ah X A) lk lim i env H=some r):∃n,ft (bo X A n) lk lim i env H=some r:=by
 unfold ft at h ⊢;split at h
 ·exact yM h
 ·exact ⟨0,h⟩
 ·exact ⟨0,h⟩
theorem yO {ws:WS}{lk lim base cb:Nat}{i:AI}{env:Env}{H:Heap}{r:Env×Heap}(h:cZ (ah X A) lk lim ws base cb i env H=some r):∃n,cZ (bo X A n) lk lim ws base cb i env H=some r:=by
 unfold cZ at h ⊢;split at h
 ·split at h
  ·rename_i hok;split at h
   ·rename_i hfr;obtain ⟨n,hn⟩:=AK h;exact ⟨n,by rw [if_pos hok,if_pos hfr];exact hn⟩
   ·rename_i hfr;obtain ⟨n,hn⟩:=AJ h;exact ⟨n,by rw [if_pos hok,if_neg hfr];exact hn⟩
  ·simp at h
 ·exact ⟨0,h⟩
 ·exact ⟨0,h⟩

theorem n8 {lk lim:Nat}:∀{l:List AI} {env:Env} {H:Heap} {r:Env×Heap},cB (ah X A) lk lim l env H=some r→∃n,cB (bo X A n) lk lim l env H=some r
 | [],_,_,_,h=>⟨0,h⟩
 | i::l,env,H,r,h=>by
  simp only [cB] at h ⊢;split at h
  ·rename_i e1 h1 hs;obtain ⟨n,hn⟩:=yN hs;obtain ⟨m,hm⟩:=n8 h;refine ⟨max n m,?_⟩;rw [nY (cM X A (Nat.le_max_left n m)) hn];exact fA (cM X A (Nat.le_max_right n m)) hm
  ·simp at h
theorem tB {ws:WS}{lk lim base:Nat}:∀{l:List AI} {env:Env} {H:Heap} {r:Env×Heap},cI (ah X A) lk lim ws base l env H=some r→∃n,cI (bo X A n) lk lim ws base l env H=some r
 | [],_,_,_,h=>⟨0,h⟩
 | i::l,env,H,r,h=>by
  simp only [cI] at h ⊢;split at h
  ·rename_i e1 h1 hs;obtain ⟨n,hn⟩:=yO hs;obtain ⟨m,hm⟩:=tB h;refine ⟨max n m,?_⟩;rw [nZ (cM X A (Nat.le_max_left n m)) hn];exact je (cM X A (Nat.le_max_right n m)) hm
  ·simp at h

theorem dG {n m:Nat}(h:n≤m){lk lim:Nat}{c:AC}{env:Env}{H:Heap}{r:Ex×Env×Heap}(he:aL (bo X A n) n lk lim c env H=some r):aL (bo X A m) m lk lim c env H=some r:=
 bS (cM X A h) h he

theorem bT {lk lim:Nat}:∀{c:AC} {env:Env} {H:Heap} {r:Ex×Env×Heap},aP (ah X A) lk lim c env H=some r→∃n,aL (bo X A n) n lk lim c env H=some r
 | .skip,_,_,_,h=>⟨0,h⟩
 | .frz,_,_,_,h=>⟨0,h⟩
 | .regN keep ops,env,H,r,h=>by
  simp only [aL,aP] at h ⊢;split at h
  ·rename_i hs;obtain ⟨n,hn⟩:=n8 hs;exact ⟨n,by rw [hn];exact h⟩
  ·simp at h
 | .regD keep k ops,env,H,r,h=>by
  simp only [aL,aP] at h ⊢;split at h
  ·rename_i hs;obtain ⟨n,hn⟩:=tB hs;exact ⟨n,by rw [hn];exact h⟩
  ·simp at h
 | .seq a b,env,H,r,h=>by
  simp only [aL,aP] at h ⊢;split at h
  ·rename_i hs;obtain ⟨n,hn⟩:=bT hs;obtain ⟨m,hm⟩:=bT h;refine ⟨max n m,?_⟩;rw [dG (Nat.le_max_left n m) hn];exact dG (Nat.le_max_right n m) hm
  ·rename_i hx;obtain ⟨n,hn⟩:=bT h;refine ⟨n,?_⟩;rw [hn];split
   ·rename_i hs;simp only [Option.some.injEq] at hs;subst hs;exact (hx _ _ h).elim
   ·rfl
 | .cond c a b,env,H,r,h=>by
  simp only [aL,aP] at h ⊢;split at h
  ·rename_i hc;rw [hc];dsimp only;split at h
   ·rename_i ht;obtain ⟨n,hn⟩:=bT h;exact ⟨n,by rw [if_pos ht];exact hn⟩
   ·rename_i ht;obtain ⟨n,hn⟩:=bT h;exact ⟨n,by rw [if_neg ht];exact hn⟩
  ·simp at h
 | .block id b,env,H,r,h=>by
  simp only [aL,aP] at h ⊢;split at h
  ·rename_i hs;obtain ⟨n,hn⟩:=bT hs;exact ⟨n,by rw [hn];exact h⟩
  ·rename_i hx;obtain ⟨n,hn⟩:=bT h;refine ⟨n,?_⟩;rw [hn];split
   ·rename_i hs;simp only [Option.some.injEq] at hs;subst hs;exact (hx _ _ _ h).elim
   ·rfl
 | .loop keep b,env,H,r,h=>by
  simp only [aL,aP] at h ⊢;obtain ⟨k,hk⟩:=jJ h;have key:∀(k:Nat) (env:Env) (H:Heap),ef (fun env H=>aP (ah X A) lk lim b (ab keep env) H) k env H=some r→∃n,ef (fun env H=>aL (bo X A n) n lk lim b (ab keep env) H) n env H=some r:=by
   intro k;induction k with
   | zero=>intro env H h;simp [ef] at h
   | succ k ih=>
    intro env H h;simp only [ef] at h;split at h
    ·rename_i e1 h1 hs;obtain ⟨n,hn⟩:=bT hs;obtain ⟨m,hm⟩:=ih _ _ h;refine ⟨max n m+1,?_⟩;simp only [ef];rw [dG (Nat.le_trans (Nat.le_max_left n m) (Nat.le_succ _)) hn];exact eM (fun _ _ _ hr=>dG (Nat.le_trans (Nat.le_max_right n m) (Nat.le_succ _)) hr) (Nat.le_max_right n m) hm
    ·rename_i hx;obtain ⟨n,hn⟩:=bT h;refine ⟨n+1,?_⟩;simp only [ef];rw [dG (Nat.le_succ _) hn];split
     ·rename_i hs;simp only [Option.some.injEq] at hs;subst hs;exact (hx _ _ h).elim
     ·rfl
  exact key k env H hk
 | .rangeF keep it g ps asg body,env,H,r,h=>by
  simp only [aL,aP] at h ⊢;split at h;case h_2=>simp at h
  rename_i items hit;have one:∀{x:List Value} {H:Heap} {r:Ex×Env×Heap},er (fun e H=>aP (ah X A) lk lim asg e H) (fun e H=>aP (ah X A) lk lim body e H) ps (ab keep env) x H=some r→
    ∃n,er (fun e H=>aL (bo X A n) n lk lim asg e H) (fun e H=>aL (bo X A n) n lk lim body e H) ps (ab keep env) x H=some r:=by
   intro x H r h;unfold er at h ⊢;split at h
   ·split at h
    ·rename_i hs;split at h;case isFalse=>simp at h
     rename_i hb;obtain ⟨n,hn⟩:=bT hs;obtain ⟨m,hm⟩:=bT h;refine ⟨max n m,?_⟩;dsimp only;rw [dG (Nat.le_max_left n m) hn];dsimp only;rw [if_pos hb];exact dG (Nat.le_max_right n m) hm
    ·simp at h
   ·simp at h
  have key:∀(l:List (List Value)) (H:Heap),bR (fun e H=>aP (ah X A) lk lim asg e H) (fun e H=>aP (ah X A) lk lim body e H) ps (ab keep env) l H=some r→
    ∃n,bR (fun e H=>aL (bo X A n) n lk lim asg e H) (fun e H=>aL (bo X A n) n lk lim body e H) ps (ab keep env) l H=some r:=by
   intro l;induction l with
   | nil=>intro H h;exact ⟨0,h⟩
   | cons x l ih=>
    intro H h;simp only [bR] at h ⊢;split at h
    ·rename_i hs;obtain ⟨n,hn⟩:=one hs;obtain ⟨m,hm⟩:=ih _ h;refine ⟨max n m,?_⟩;rw [iE (fun _ _ _ hr=>dG (Nat.le_max_left n m) hr) (fun _ _ _ hr=>dG (Nat.le_max_left n m) hr) hn];exact fB (fun _ _ _ hr=>dG (Nat.le_max_right n m) hr) (fun _ _ _ hr=>dG (Nat.le_max_right n m) hr) hm
    ·rename_i ex e1 H1 hx hs;obtain ⟨n,hn⟩:=one hs;refine ⟨n,?_⟩;rw [hn];cases ex with
     | nrm=>exact (hx rfl).elim
     | exit id=>exact h
     | ret=>exact h
    ·simp at h
  rw [hit];exact key items H h
 | .exit _,_,_,_,h=>⟨0,h⟩
 | .ret,_,_,_,h=>⟨0,h⟩
 | .bad,_,_,_,h=>by simp [aP] at h

theorem mE {fd:AFn}{H:Heap}{o:Out}{r:AV×Heap}(h:ck fd H o=some r):∃q,o=some q:=by
 cases o with
 | none=>simp [ck] at h
 | some q=>exact ⟨q,rfl⟩

theorem tC {lk lim:Nat}{f:FuncId}{as:List AV}{H:Heap}{fd:AFn}(hX:X lk lim f as H=none)(hA:A f=some fd)(hl:as.length=fd.np):
  ah X A lk lim f as H=ck fd H (aP (ah X A) lk (if fd.trunc then H.length else lim) fd.body (aZ 0 as) H):=by
 cases h:ck fd H (aP (ah X A) lk (if fd.trunc then H.length else lim) fd.body (aZ 0 as) H) with
 | some r=>
  obtain ⟨q,hq⟩:=mE h;obtain ⟨n,hn⟩:=bT hq;refine n5 (n:=n+1) ?_;simp only [bo,hX,hA,if_pos hl];rw [hn,←hq];exact h
 | none=>
  cases h2:ah X A lk lim f as H with
  | none=>rfl
  | some r=>
   obtain ⟨n,hn⟩:=eZ h2;cases n with
   | zero=>simp [bo] at hn
   | succ n=>
    simp only [bo,hX,hA,if_pos hl] at hn;obtain ⟨q,hq⟩:=mE hn;rw [dF (AH n) hq,←hq,hn] at h;simp at h

theorem d8 {lk lim:Nat}{f:FuncId}{as:List AV}{H:Heap}{r:AV×Heap}(hX:X lk lim f as H=some r):ah X A lk lim f as H=some r:=
 n5 (n:=1) (by simp only [bo,hX])

theorem tD {P:Program}(hm:P.follows .mixedOrders=true)(hX:bB P X)(hXF:OrcFr X)(hA:xq P A):bB P (ah X A):=fun lk lim f as H r H' h=>by
 obtain ⟨n,hn⟩:=eZ h;exact tA hm hX hXF hA n _ _ _ _ _ _ _ hn
end

def p5:List (Nat×AFn)→FuncId→Option AFn
 | [],_=>none
 | (k,fd)::r,f=>if k=f then some fd else p5 r f

def tE (P:Program)(p:Nat×AFn):Prop:=∃pm ks,aE P (p.1 % 1000) pm ks p.2.trunc=some p.2∧vH P pm.it
theorem vM {P:Program}:∀p∈([]:List (Nat×AFn)),tE P p:=by simp
theorem am {P:Program}{p:Nat×AFn}{l:List (Nat×AFn)}(h:tE P p)(k:∀q∈l,tE P q):∀q∈p::l,tE P q:=by
 intro q hq;rcases List.mem_cons.1 hq with h1 | h1
 ·subst h1;exact h
 ·exact k q h1
theorem p6:∀{l:List (Nat×AFn)} {f:FuncId} {fd:AFn},p5 l f=some fd→(f,fd)∈l
 | [],_,_,h=>by simp [p5] at h
 | (k,fd')::r,f,fd,h=>by
  simp only [p5] at h;split at h
  ·rename_i e;simp only [Option.some.injEq] at h;subst h;subst e;exact List.mem_cons_self ..
  ·exact List.mem_cons_of_mem _ (p6 h)
theorem AL {P:Program}{l:List (Nat×AFn)}(h:∀p∈l,tE P p):xq P (p5 l):=fun _ _ hf=>h _ (p6 hf)
end Go.Hm

namespace Go.Hm
open Go

end Go.Hm

