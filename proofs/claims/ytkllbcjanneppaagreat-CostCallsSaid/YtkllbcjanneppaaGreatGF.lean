import Derived.Test.YtkllbcjanneppaaGreatGB
set_option maxRecDepth 20000
set_option linter.all false
namespace Go.Proofs.YtkllbcjanneppaaGreat
open Go Go.Hm

def quV (b:Nat)(q:List Nat)(off:Nat)(inq:List Bool):List AV:=.hs b q.length off (q.length-off) 1::bools inq
def foH (H:Heap)(g:Gm)(F:AV)(cs qv:List AV)(q:List Nat)(G:Heap):Heap:=
 H++(.cells g.cells:: .cells [F]:: .cells cs:: .cells [.hs (H.length+2) cs.length 0 cs.length 1]:: .cells qv:: .cells (nts q)::G)
section
variable {H:Heap}{g:Gm}{F:AV}{cs qv:List AV}{q:List Nat}{G:Heap}
theorem gH:(foH H g F cs qv q G).length=H.length+6+G.length:=by simp[foH];omega
theorem Fk:(foH H g F cs qv q G)[H.length]?=some (.cells g.cells):=by unfold foH;rw[Hm.get_at0];rfl
theorem PQ:(foH H g F cs qv q G)[H.length+1]?=some (.cells [F]):=by unfold foH;rw[Hm.get_at];rfl
theorem rE:(foH H g F cs qv q G)[H.length+2]?=some (.cells cs):=by unfold foH;rw[Hm.get_at];rfl
theorem E0:(foH H g F cs qv q G)[H.length+3]?=some (.cells [.hs (H.length+2) cs.length 0 cs.length 1]):=by unfold foH;rw[Hm.get_at];rfl
theorem mD:(foH H g F cs qv q G)[H.length+4]?=some (.cells qv):=by unfold foH;rw[Hm.get_at];rfl
theorem IK:(foH H g F cs qv q G)[H.length+5]?=some (.cells (nts q)):=by unfold foH;rw[Hm.get_at];rfl
theorem uC (j:Nat):(foH H g F cs qv q G)[H.length+6+j]?=G[j]?:=by
 unfold foH;rw[Nat.add_assoc,Hm.get_at,Nat.add_comm 6 j];rfl
theorem uD (x:HB):foH H g F cs qv q G++[x]=foH H g F cs qv q (G++[x]):=by simp[foH]
theorem Fl (ds:List AV)(h:ds.length=cs.length):(foH H g F cs qv q G).set (H.length+2) (.cells ds)=foH H g F ds qv q G:=by
 unfold foH;rw[Hm.set_at,h];rfl
theorem mE (x:List AV):(foH H g F cs qv q G).set (H.length+4) (.cells x)=foH H g F cs x q G:=by
 unfold foH;rw[Hm.set_at];rfl
theorem Fm (x:List Nat):(foH H g F cs qv q G).set (H.length+5) (.cells (nts x))=foH H g F cs qv x G:=by
 unfold foH;rw[Hm.set_at];rfl
theorem jC (j:Nat)(x:HB):(foH H g F cs qv q G).set (H.length+6+j) x=foH H g F cs qv q (G.set j x):=by
 unfold foH;rw[Nat.add_assoc,Hm.set_at,Nat.add_comm 6 j];rfl
end
theorem mF {b off:Nat}{q:List Nat}{inq:List Bool}(h:inq.length=16):(quV b q off inq).length=17:=by simp[quV,h]
theorem IL {b off:Nat}{q:List Nat}{inq:List Bool}{m:Nat}{x:Bool}(h:inq[m]?=some x):(quV b q off inq)[1+m]?=some (Bo x):=by
 rw[Nat.add_comm];simp[quV,aF,h]
theorem Ai {b off:Nat}{q:List Nat}{inq:List Bool}{m:Nat}{x:Bool}(h:inq.length=16)(hm:m<16):an (quV b q off inq) (1+m) [Bo x]=quV b q off (inq.set m x):=by
 unfold an;have h1:(quV b q off inq).set (1+m) (Bo x)=quV b q off (inq.set m x):=by rw[Nat.add_comm];simp[quV,cJ]
 rw[<-h1,List.set_eq_take_append_cons_drop,if_pos (by rw[mF h];omega)]
 simp
theorem wF {b off:Nat}{q:List Nat}{inq:List Bool}(x:AV):an (quV b q off inq) 0 [x]=x::bools inq:=by
 simp[an,quV]
theorem qM {b off:Nat}{q:List Nat}{inq:List Bool}(h:0<(quV b q off inq).length):(quV b q off inq)[0]= .hs b q.length off (q.length-off) 1:=rfl
theorem Fo {b off:Nat}{q:List Nat}{inq:List Bool}:(quV b q off inq)[0]?=some (.hs b q.length off (q.length-off) 1):=rfl
theorem BX {lk lim:Nat}{H:Heap}{g:Gm}{F:AV}{cs:List AV}{q:List Nat}{off:Nat}{inq:List Bool}{G:Heap}(hlk:lk<=H.length+4)(hlim:lim<=H.length+4)
  (h16:inq.length=16) (m:Nat) (hm:m<16) (hq:off<=q.length) (hr:q.length<=1000000):
  aj X A lk lim 101 [.hp (H.length+4) 17 0,I (m:Int)] (foH H g F cs (quV (H.length+5) q off inq) q G)=some (.tup [],if inq.getD m false=true then foH H g F cs (quV (H.length+5) q off inq) q G else foH H g F cs (quV (H.length+5) (q++[m]) off (inq.set m true)) (q++[m]) G):=by
 obtain⟨b,hb⟩:∃b,inq.getD m false=b:=⟨_,rfl⟩;have hb2:inq[m]?=some b:=by
  rw[R3,R4 (by omega)]at hb
  rw[R4 (by omega),<-hb];rfl
 rw[hb];have hql:=mF (b:=H.length+5) (q:=q) (off:=off) h16;have hqg:=IL (b:=H.length+5) (q:=q) (off:=off) hb2;have hqs:=fun (x:Bool)=>Ai (b:=H.length+5) (q:=q) (off:=off) (x:=x) h16 hm;have hql2:=mF (b:=H.length+5) (q:=q) (off:=off) (inq:=inq.set m true) (by simpa using h16)
 have hqh:=Fo (b:=H.length+5) (q:=q) (off:=off) (inq:=inq.set m true);have hqz:=fun x=>wF (b:=H.length+5) (q:=q) (off:=off) (inq:=inq.set m true) x;have hpl:off+(q.length-off)=q.length:=by omega
 have hna:nts q++[AV.val (.int .i64 m)]=nts (q++[m]):=by simp[nts]
 have hle:q.length+1-off=q.length-off+1:=by omega
 refine ar [] rfl Ox rfl rfl ?_;unfold EB;generalize aj X A=C;have hm1:(m:Int)<16:=by omega
 have hm0:¬(m:Int)<0:=by omega
 have hm2:1+m+1<=17:=by omega
 have g4:lk<=H.length+4:=hlk;have g5:lk<=H.length+5:=by omega
 have r1:(q.length-off+1)*8<=aM:=by unfold aM;omega
 cases b with
 | true=>
  simp[mD,hm,hm1,hm0,hql,hqg]
 | false=>
  simp[-aE,-ae,mD,hm,hm1,hm0,hql,hqg];rw[ae];simp[-aE,-ae,mD,hm,hm1,hm0,hql,hqg];rw[ae];simp[-aE,-ae,mD,hm,hm1,hm0,hql,hqg];rw[aE];simp[-aE,-ae,mD,hm,hm1,hm0,hm2,hql,hqs,aR,g4,mE];rw[ae];simp[-aE,-ae,mD,IK,hm,hm1,hm0,hm2,hql,hqs,hql2,qM,dG,r1,aR,g5,cS,eh,hpl,hna,Fm];rw[aE];simp[-aE,-ae,mD,hql2,hqz,aR,g4,mE,hlim];simp[quV,hle]
theorem yE {lk lim:Nat}{H:Heap}{g:Gm}{F:AV}{cs:List AV}{q:List Nat}{off:Nat}{inq:List Bool}{G:Heap}(hlk:lk<=H.length+4)(hlim:lim<=H.length+4)
  (h16:inq.length=16) (hoff:off<=q.length) (hm:∀m∈q,m<16):
  aj X A lk lim 102 [.hp (H.length+4) 17 0] (foH H g F cs (quV (H.length+5) q off inq) q G)=some (if off<q.length then .tup [I (q.getD off 0:Nat),Bo true] else .tup [I 0,Bo false],if off<q.length then foH H g F cs (quV (H.length+5) q (off+1) (inq.set (q.getD off 0) false)) q G else foH H g F cs (quV (H.length+5) q off inq) q G):=by
 have hql:=mF (b:=H.length+5) (q:=q) (off:=off) h16;refine ar [] rfl PK rfl rfl ?_;unfold J9;generalize aj X A=C;have g4:lk<=H.length+4:=hlk;by_cases ho:off<q.length;case neg=>
  rw[if_neg ho,if_neg ho];have hz:((q.length-off:Nat)==0)=true:=by simp;omega
  have hz2:q.length-off=0:=by omega
  simp[mD,hql,qM,hz2]
 rw[if_pos ho,if_pos ho];have hz:((q.length-off:Nat)==0)=false:=by rw[beq_eq_false_iff_ne];omega
 have hz2:¬q.length-off=0:=by omega
 have hz3:0<q.length-off:=by omega
 obtain⟨n,hn⟩:∃n,q[off]=n:=⟨_,rfl⟩;have hn2:q.getD off 0=n:=by rw[R3,R4 ho,<-hn];rfl
 have hn3:q[off]?=some n:=by rw[R4 ho,hn]
 have hnm:n<16:=hm n (hn▸List.getElem_mem ho);have hm1:(n:Int)<16:=by omega
 have hm0:¬(n:Int)<0:=by omega
 have hm2:1+n+1<=17:=by omega
 rw[hn2];simp[-aE,-ae,-aB];rw[ae];simp[-aE,-ae,-aB];rw[ae];simp[-aE,-ae,-aB,mD,IK,hql,qM,hz,hz2,hz3];rw[ae];simp[-aE,-ae,-aB,mD,IK,hql,qM,hz,hz2,hz3,ho,hn3,hn];rw[aB rfl];have hb1:(1:Int)<=((q.length-off:Nat):Int):=by omega
 have hb2:q.length-(off+1)=q.length-off-1:=by omega
 have hqz:=fun x=>wF (b:=H.length+5) (q:=q) (off:=off) (inq:=inq) x;have hqy:AV.hs (H.length+5) q.length (off+1) (q.length-off-1) 1::bools inq=quV (H.length+5) q (off+1) inq:=by rw[quV,hb2]
 have hql2:=mF (b:=H.length+5) (q:=q) (off:=off+1) h16;have hqs:=Ai (b:=H.length+5) (q:=q) (off:=off+1) (x:=false) h16 hnm;simp[-nu,-ae,-aB,mD,IK,hql,qM,hz,hz2,hz3,ho,hn3,hn,bnd,hb1];rw[nu];simp[-nu,-ae,-aB,mD,hql,hqz,aR,g4,hlim,mE,hqy,hql2,hm1,hm0,hnm];rw[nu];simp[-nu,-ae,-aB,mD,hm2,aR,g4,hlim,mE,hqs,hql2];rw[ae];simp

def putQ (q:List Nat)(inq:List Bool)(m:Nat):List Nat×List Bool:=if inq.getD m false=true then (q,inq) else (q++[m],inq.set m true)
structure QInv (g:Gm)(S:Ss)(q:List Nat)(off:Nat)(inq:List Bool):Prop where
 reach:Reach g S
 ofl:off<=q.length
 lt:∀m∈q,m<g.n.toNat
 nd:(q.drop off).Nodup
 len:inq.length=16
 iff:∀m,m<16->(inq.getD m false=true↔m∈q.drop off)
 sz:q.length<=szS S
def Pend (g:Gm)(S:Ss)(w:List Nat)(P:Pl->Prop):Prop:=∀p∈pls g,p.l∈w\/P p\/uj g S p
def qmu (g:Gm)(S:Ss)(q:List Nat)(off:Nat):Nat:=2*(g.n.toNat*585-szS S)+(q.length-off)
theorem nM {α:Type}{q:List α}{off:Nat}(h:off<=q.length)(x:α):(q++[x]).drop off=q.drop off++[x]:=by
 rw[List.drop_append_of_le_length h]
section
variable {g:Gm}{S:Ss}{q:List Nat}{off:Nat}{inq:List Bool}
theorem QInv.small (hg:GOk g)(h:QInv g S q off inq):q.length<=9360:=by
 have h1:=h.sz;have h2:=qx hg h.reach.ok;have:=hg.n2;omega
theorem QInv.lt16 (hg:GOk g)(h:QInv g S q off inq):∀m∈q,m<16:=fun m hm=>by
 have:=h.lt m hm;have:=hg.n2;omega
theorem Fp (q:List Nat){inq:List Bool}(m:Nat)(h:inq.length=16):(putQ q inq m).2.length=16:=by
 unfold putQ;split<;>simp[h]
theorem Fq (hg:GOk g)(h:QInv g S q off inq){p:Pl}(hp:p∈pls g){P:Pl->Prop}(hP:Pend g S (q.drop off) fun p'=>P p'\/p'=p)
  (hlt:(S.getD p.s []).length<(uni (S.getD p.s []) (cat g.k.toNat (ofM g (setsM g) p.r) (S.getD p.l []))).length):
  QInv g (stF g (setsM g) S p) (putQ q inq p.s).1 off (putQ q inq p.s).2/\Pend g (stF g (setsM g) S p) ((putQ q inq p.s).1.drop off) P/\qmu g (stF g (setsM g) S p) (putQ q inq p.s).1 off<qmu g S q off:=by
 have pok:=d7 hg p hp;have hr:=qy hg h.reach hp;have hup:=ug (F:=setsM g) h.reach.ok pok;have hsz:szS S<szS (stF g (setsM g) S p):=by
  rcases hup.1 with e | e
  ·exact absurd (hup.2.1 e) (by omega)
  ·exact e
 have hle:=qx hg hr.ok;have h16:p.s<16:=by have:=pok.s;have:=hg.n2;omega
 have hin:p.s∈(putQ q inq p.s).1.drop off/\∀m∈q.drop off,m∈(putQ q inq p.s).1.drop off:=by
  unfold putQ;split
  ·rename_i hi;exact⟨(h.iff _ h16).1 hi,fun m hm=>hm⟩
  ·show p.s∈(q++[p.s]).drop off/\_;rw[nM h.ofl];exact⟨by simp,fun m hm=>List.mem_append_left _ hm⟩
 have hlen:(putQ q inq p.s).1.length<=q.length+1/\q.length<=(putQ q inq p.s).1.length:=by
  unfold putQ;split<;>simp
 have hoff:=h.ofl;have hqs:=h.sz;refine⟨⟨hr,by omega,?_,?_,Fp _ _ h.len,?_,by omega⟩,?_,?_⟩
 ·intro m hm;unfold putQ at hm;split at hm
  ·exact h.lt m hm
  ·rcases List.mem_append.1 hm with hm | hm
   ·exact h.lt m hm
   ·rw[List.mem_singleton.1 hm];exact pok.s
 ·unfold putQ;split
  ·exact h.nd
  ·rename_i hi;show ((q++[p.s]).drop off).Nodup;rw[nM h.ofl,List.nodup_append];exact⟨h.nd,by simp,fun a ha b hb=>by
    rw[List.mem_singleton.1 hb];rintro rfl;exact hi ((h.iff _ h16).2 ha)⟩
 ·intro m hm;unfold putQ;split
  ·exact h.iff m hm
  ·show (inq.set p.s true).getD m false=true↔m∈(q++[p.s]).drop off;rw[nM h.ofl,List.mem_append,List.mem_singleton,<-h.iff m hm,R3,R3];by_cases e:p.s=m
   ·subst e;rw[List.getElem?_set_self (by rw[h.len];exact h16)]
    simp
   ·rw[List.getElem?_set_ne e];simp[Ne.symm e]
 ·intro p' hp';have pok':=d7 hg p' hp';by_cases e:p'.l=p.s
  ·exact .inl (by rw[e];exact hin.1)
  have hsl:(stF g (setsM g) S p).getD p'.l []=S.getD p'.l []:=by
   unfold stF;rw[md _ (by rw[h.reach.ok.len];exact pok.s),if_neg e]
  rcases hP p' hp' with h1 | (h1 | rfl) | h1
  ·exact .inl (hin.2 _ h1)
  ·exact .inr (.inl h1)
  ·refine .inr (.inr fun x hx=>?_);rw[hsl]at hx;exact(gF h.reach.ok pok _ x).2 (.inr ⟨rfl,hx⟩)
  ·refine .inr (.inr fun x hx=>?_);rw[hsl]at hx;exact(gF h.reach.ok pok _ x).2 (.inl (h1 x hx))
 ·unfold qmu;omega
theorem BZ (hg:GOk g)(h:QInv g S q off inq){p:Pl}(hp:p∈pls g){P:Pl->Prop}(hP:Pend g S (q.drop off) fun p'=>P p'\/p'=p)
  (hle:(uni (S.getD p.s []) (cat g.k.toNat (ofM g (setsM g) p.r) (S.getD p.l []))).length<=(S.getD p.s []).length):Pend g S (q.drop off) P:=by
 have pok:=d7 hg p hp;have hup:=(ug (F:=setsM g) h.reach.ok pok).2.2 hle;intro p' hp';rcases hP p' hp' with h1 | (h1 | rfl) | h1
 ·exact .inl h1
 ·exact .inr (.inl h1)
 ·refine .inr (.inr fun x hx=>?_);rw[<-hup];exact(gF h.reach.ok pok _ x).2 (.inr ⟨rfl,hx⟩)
 ·exact .inr (.inr h1)
theorem cK {w:List Nat}{P Q:Pl->Prop}(h:Pend g S w P)(hPQ:∀p∈pls g,P p->Q p):Pend g S w Q:=fun p hp=>by
 rcases h p hp with h1 | h1 | h1
 ·exact .inl h1
 ·exact .inr (.inl (hPQ p hp h1))
 ·exact .inr (.inr h1)
theorem wG (hg:GOk g)(h:QInv g S q off inq)(ho:off<q.length)(hP:Pend g S (q.drop off) fun _=>False):
  QInv g S q (off+1) (inq.set (q.getD off 0) false)/\Pend g S (q.drop (off+1)) (fun p=>p.l=q.getD off 0)/\qmu g S q (off+1)<qmu g S q off/\q.getD off 0<g.n.toNat:=by
 have hd:q.drop off=q.getD off 0::q.drop (off+1):=by
  rw[List.drop_eq_getElem_cons ho,R3,R4 ho];rfl
 have hn:q.getD off 0∈q:=List.drop_subset off q (by rw[hd];exact List.mem_cons_self ..)
 have hnd:=h.nd;rw[hd,List.nodup_cons]at hnd;have h16:=h.lt16 hg _ hn;generalize q.getD off 0=n at *;refine⟨⟨h.reach,ho,h.lt,hnd.2,by simp[h.len],fun m hm=>?_,h.sz⟩,fun p hp=>?_,by unfold qmu;omega,h.lt n hn⟩
 ·have:=h.iff m hm;rw[hd,List.mem_cons]at this;rw[R3]at this |-;by_cases e:n=m
  ·subst e;rw[List.getElem?_set_self (by rw[h.len];exact h16)]
   simp[hnd.1]
  ·rw[List.getElem?_set_ne e,this];simp[Ne.symm e]
 ·rcases hP p hp with h1 | h1 | h1
  ·rw[hd,List.mem_cons]at h1;exact h1.elim (fun e=>.inr (.inl e)) .inl
  ·exact h1.elim
  ·exact .inr (.inr h1)
theorem B0 (hg:GOk g):QInv g (cE g) [0] 0 (true::List.replicate 15 false)/\Pend g (cE g) [0] fun _=>False:=by
 have hn:=hg.n1;have hs:=om hg;refine⟨⟨hs,by simp,fun m hm=>?_,by simp,by simp,fun m hm=>?_,?_⟩,fun p hp=>?_⟩
 ·rw[List.mem_singleton.1 hm];omega
 ·cases m with
  | zero=>simp
  | succ m=>
   have:(List.replicate 15 false).getD m false=false:=by
    rw[R3,List.getElem?_replicate];split<;>rfl
   rw[List.getD_cons_succ,this];simp
 ·obtain⟨k,hk⟩:∃k,g.n.toNat=k+1:=⟨g.n.toNat-1,by omega⟩
  unfold cE;rw[hk,List.replicate_succ];simp[szS]
 ·by_cases e:p.l=0
  ·exact .inl (by rw[e];simp)
  ·refine .inr (.inr fun x hx=>?_);obtain⟨a,_,b,hb,rfl⟩:=bA.1 hx;exact absurd ((im hg).1 hb).1 e
theorem Fs (hg:GOk g)(h:QInv g S q off inq)(ho:q.length<=off)(hP:Pend g S (q.drop off) fun _=>False):S=cM g:=by
 refine D5 hg h.reach fun p hp=>?_;rcases hP p hp with h1 | h1 | h1
 ·rw[List.drop_eq_nil_of_le ho]at h1;cases h1
 ·exact h1.elim
 ·exact h1
end
theorem wH {g:Gm}{lf:Nat}{ps:Pr}(hps:ps∈g.ps)(hl:ps.l.toNat=lf){j:Nat}(hj:j<ps.r.length)(hs:¬ps.r[j] < g.t):(⟨lf,(ps.r[j] - g.t).toNat,ps.r.drop (j+1)⟩:Pl)∈pls g:=
 List.mem_flatMap.2 ⟨ps,hps,fS.2 ⟨ps.r.take j,ps.r[j],by
  show ps.r=ps.r.take j++ps.r[j]::ps.r.drop (j+1);rw[<-List.drop_eq_getElem_cons hj,List.take_append_drop],hs,hl.symm,rfl⟩⟩
theorem sF {t:Int}{l:Nat}{r:List Int}{p:Pl}(hp:p∈fR t l r){j:Nat}(hj:j<r.length)(he:p.r.length=r.length-1-j):¬r[j] < t/\p=⟨l,(r[j] - t).toNat,r.drop (j+1)⟩:=by
 obtain⟨a,s,e,h1,h2,h3⟩:=fS.1 hp;have hal:a.length=j:=by
  have:=congrArg List.length e;simp at this;omega
 have hs:r[j]=s:=by
  have:r[j]?=some s:=by rw[e,<-hal];simp
  rw[R4 hj]at this;exact Option.some.inj this
 have hd:r.drop (j+1)=p.r:=by
  rw[e,<-hal];simp
 rw[hs,hd];refine⟨h1,?_⟩;cases p;simp only at h2 h3 |-;subst h2;subst h3;rfl
theorem Ft {t:Int}{l:Nat}{r:List Int}{p:Pl}(hp:p∈fR t l r):p.r.length<r.length:=by
 obtain⟨a,s,e,_⟩:=fS.1 hp;have:=congrArg List.length e;simp at this;omega

theorem sG {lk lim:Nat}{H:Heap}(hlk:lk<=H.length)(r:List Int):aj X A lk lim 64 [.sl r.length (ints r)] H=some (.fn 90 [.rop [.sl r.length (ints r)] 0],H):=by
 refine ar [] rfl A64 rfl rfl ?_;unfold N0;generalize aj X A=C;simp
structure KF (C:Orc)(g:Gm)(F:AV)(L:Nat):Prop where
 back:∀K M (h:Heap) (r:List Int),K<=h.length->C K M 64 [.sl r.length (ints r)] h=some (.fn 90 [.rop [.sl r.length (ints r)] 0],h)
 first:∀K M (h:Heap) (r:List Int),K<=h.length->r.length<=8->(∀x∈r,0<=x/\x<g.t+g.n)->C K M 86 [gV g,F,.sl r.length (ints r)] h=some (ofV g (setsM g) r,h)
 cat:∀K M (h:Heap) va vb a b,K<=h.length->RV va a->RV vb b->ROk g a->FOk g b->C K M 85 [I g.k,va,vb] h=some (catV g.k.toNat a b,h)
 uni:∀K M (h:Heap) va vb a b,RV va a->RV vb b->FOk g a->FOk g b->C K M 99 [va,vb] h=some (rowsV (uni a b),h)
 put:∀K M (H:Heap) (cs:List AV) (q:List Nat) (off:Nat) (inq:List Bool) (G:Heap) (m:Nat),H.length=L->K<=L+4->M<=L+4->inq.length=16->m<16->off<=q.length->q.length<=1000000->
  C K M 101 [.hp (L+4) 17 0,I (m:Int)] (foH H g F cs (quV (L+5) q off inq) q G)=some (.tup [],foH H g F cs (quV (L+5) (putQ q inq m).1 off (putQ q inq m).2) (putQ q inq m).1 G)
structure KG (C:Orc)(g:Gm)(F:AV)(L:Nat):Prop extends KF C g F L where
 take:∀K M (H:Heap) (cs:List AV) (q:List Nat) (off:Nat) (inq:List Bool) (G:Heap),H.length=L->K<=L+4->M<=L+4->inq.length=16->off<=q.length->(∀m∈q,m<16)->
  C K M 102 [.hp (L+4) 17 0] (foH H g F cs (quV (L+5) q off inq) q G)=some (if off<q.length then .tup [I (q.getD off 0:Nat),Bo true] else .tup [I 0,Bo false],if off<q.length then foH H g F cs (quV (L+5) q (off+1) (inq.set (q.getD off 0) false)) q G else foH H g F cs (quV (L+5) q off inq) q G)
 prods:∀K M (h:Heap) (lf:Nat),K<=h.length->C K M 53 [gV g,I lf] h=some (slvN (ofN g.ps lf g.ps.length),h)
structure S1 where
 i:Nat
 S:Ss
 cs:List AV
 q:List Nat
 inq:List Bool
 G:Heap
def S1.heap (H:Heap)(g:Gm)(F:AV)(off:Nat)(s:S1):Heap:=foH H g F s.cs (quV (H.length+5) s.q off s.inq) s.q s.G
def qN (L j:Nat)(t:Env):Env:=(1,.hp L 4 0)::(2,.e0)::(3,.hp (L+1) 1 0)::(4,.hp (L+3) 1 0)::(5,.hp (L+4) 17 0)::(6,.hp (L+6+j) 1 0)::t
structure I1 (g:Gm)(off j lf m0:Nat)(P:Pl->Prop)(S:Ss)(cs:List AV)(q:List Nat)(inq:List Bool)(G:Heap):Prop where
 inv:QInv g S q off inq
 sc:SC cs S
 left:G[j]?=some (.cells [I lf])
 pend:Pend g S (q.drop off) P
 mu:qmu g S q off<=m0
def P1 (g:Gm)(ixs:List Nat)(lf i:Nat)(p:Pl):Prop:=p.l=lf/\∃i',i<=i'/\i'<ixs.length/\p∈fR g.t lf (g.ps.getD (ixs.getD i' 0) ⟨0,[]⟩).r
def Fu (g:Gm)(ixs:List Nat)(off j lf m0:Nat)(s:S1):Prop:=s.i<=ixs.length/\I1 g off j lf m0 (P1 g ixs lf s.i) s.S s.cs s.q s.inq s.G
def bX (L j:Nat)(ixs:List Nat)(s:S1):Env:=qN L j [(38,slvN ixs),(39,I ixs.length),(40,I s.i)]
set_option maxHeartbeats 2000000 in
theorem Fv {C:Orc}{lk:Nat}{H:Heap}(hlk:lk<=H.length){g:Gm}{F:AV}{cs:List AV}{q:List Nat}{off:Nat}{inq:List Bool}{G:Heap}{Q:Ex->Kt}{m:Nat}{vm:AV}{Sm u:List (List UInt8)}{E:Env}
  (hE:ab [4,5,13,14] E=[(4,.hp (H.length+3) 1 0),(5,.hp (H.length+4) 17 0),(13,I m),(14,rowsV u)]) (hm:m<cs.length) (hvm:cs[m]?=some vm) (hr:RV vm Sm)
  (kp:∀cs,C lk H.length 101 [.hp (H.length+4) 17 0,I (m:Int)] (foH H g F cs (quV (H.length+5) q off inq) q G)=some (.tup [],foH H g F cs (quV (H.length+5) (putQ q inq m).1 off (putQ q inq m).2) (putQ q inq m).1 G))
  (h0:u.length<=Sm.length->∀e,Q .nrm e (foH H g F cs (quV (H.length+5) q off inq) q G))
  (h1:Sm.length<u.length->∀e,Q .nrm e (foH H g F (cs.set m (rowsV u)) (quV (H.length+5) (putQ q inq m).1 off (putQ q inq m).2) (putQ q inq m).1 G)):
  WB ⟨C,lk,H.length,[]⟩ (AC.regN [4,5,13,14]
   [{ dst:=some 81,grd:=none,op:=AOp.mv (AO.tmp 14) },
    { dst:=some 82,grd:=none,op:=AOp.len false (AO.tmp 81) },
    { dst:=some 83,grd:=none,op:=AOp.ld1 none (AO.tmp 4) },
    { dst:=some 84,grd:=none,op:=AOp.mv (AO.tmp 13) },
    { dst:=some 85,grd:=none,op:=AOp.ixA 1 (AO.tmp 83) (AO.tmp 84) },
    { dst:=some 86,grd:=none,op:=AOp.ld1 none (AO.tmp 85) },
    { dst:=some 87,grd:=none,op:=AOp.len false (AO.tmp 86) },
    { dst:=some 88,grd:=none,op:=AOp.bini BinOp.gtr (AO.tmp 82) (AO.tmp 87) }])
  (Fol ⟨C,lk,H.length,[]⟩
   (AC.cond (AO.tmp 88)
    ((AC.regN [4,5,13,14]
       [{ dst:=some 89,grd:=none,op:=AOp.ld1 none (AO.tmp 4) },
        { dst:=some 90,grd:=none,op:=AOp.mv (AO.tmp 13) },
        { dst:=some 91,grd:=none,op:=AOp.mv (AO.tmp 14) },
        { dst:=some 92,grd:=none,op:=AOp.ixA 1 (AO.tmp 89) (AO.tmp 90) },
        { dst:=none,grd:=none,op:=AOp.st none 1 (AO.tmp 92) (AO.tmp 91) }]).seq
     (AC.regN [5,13]
      [{ dst:=some 93,grd:=none,op:=AOp.mv (AO.tmp 13) },
       { dst:=some 94,grd:=none,op:=AOp.call 101 [AO.tmp 5,AO.tmp 93] }]))
    AC.skip) Q) E (foH H g F cs (quV (H.length+5) q off inq) q G):=by
 have hvmE:cs[m]=vm:=by rw[R4 hm]at hvm;simpa using hvm
 have g2:lk<=H.length+2:=by omega
 have hm1:m+1<=cs.length:=hm;have hset:List.take m cs++AV.sl u.length (ay u)::List.drop (m+1) cs=cs.set m (rowsV u):=by
  rw[List.set_eq_take_append_cons_drop,if_pos hm]
 have hs2:=Fl (H:=H) (g:=g) (F:=F) (cs:=cs) (qv:=quV (H.length+5) q off inq) (q:=q) (G:=G) (cs.set m (rowsV u)) (by simp)
 have hcn:(cs.set m (rowsV u)).length=cs.length:=by simp
 rw[ae,hE];by_cases hlt:Sm.length<u.length
 ·have hlt2:(Sm.length:Int)<u.length:=by omega
  have hlt3:u.length=0->False:=fun e=>by omega
  have h1x:=h1 hlt;have kp1:=kp (cs.set m (rowsV u));rcases hr with rfl | ⟨rfl,rfl⟩
  ·simp[-aE,-ae,-ak,-af,E0,rE,hm,hvm,hvmE,hlt2];rw[ak rfl,ai,ae];simp[-aE,-ae,-ak,-af,E0,rE,hm,hvm,hvmE];rw[aE];simp[-aE,-ae,-ak,-af,rE,aR,g2,an,hm1,hset,hs2];rw[ae];simp[-aE,-ak,-af,kp1];exact h1x _
  ·have hlt4:0<u.length:=by simpa using hlt
   simp[-aE,-ae,-ak,-af,E0,rE,hm,hvm,hvmE,hlt4];rw[ak rfl,ai,ae];simp[-aE,-ae,-ak,-af,E0,rE,hm,hvm,hvmE];rw[aE];simp[-aE,-ae,-ak,-af,rE,aR,g2,an,hm1,hset,hs2];rw[ae];simp[-aE,-ak,-af,kp1];exact h1x _
 ·have hlt2:¬(Sm.length:Int)<u.length:=by omega
  have h0x:=h0 (by omega)
  rcases hr with rfl | ⟨rfl,rfl⟩
  ·simp[-aE,-ae,-ak,-af,E0,rE,hm,hvm,hvmE,hlt2];rw[af rfl,aA];exact h0x _
  ·have hlt4:¬0<u.length:=by simpa using hlt
   simp[-aE,-ae,-ak,-af,E0,rE,hm,hvm,hvmE,hlt4];rw[af rfl,aA];exact h0x _
set_option maxHeartbeats 2000000 in
theorem Fw {C:Orc}{lk:Nat}{H:Heap}(hlk:lk<=H.length){g:Gm}(hg:GOk g){nf:Nat}{Fc:List AV}(k:KF C g (.sl nf Fc) H.length){ixs:List Nat}{off j lf m0:Nat}
  (hlen:ixs.length<=1000000) (hix:∀i∈ixs,i<g.ps.length) (hlf:∀i (h:i<g.ps.length),i∈ixs->g.ps[i].l.toNat=lf) {Q:Ex->Kt}
  (hQ:∀s e,Fu g ixs off j lf m0 s->s.i=ixs.length->ab [1,2,3,4,5,6] e=qN H.length j []->Q (.exit 2) e (s.heap H g (.sl nf Fc) off)) (s:S1) (hs:Fu g ixs off j lf m0 s):
  WB ⟨C,lk,H.length,[]⟩ Ac (Rnd [1,2,3,4,5,6,38,39,40] (bX H.length j ixs) (fun s=>s.heap H g (.sl nf Fc) off) (Fu g ixs off j lf m0) (fun s=>ixs.length-s.i) s Q) (bX H.length j ixs s) (s.heap H g (.sl nf Fc) off):=by
 obtain⟨i,S,cs,q,inq,G⟩:=s;obtain⟨hi,hI⟩:=hs;simp only at hi hI;unfold Ac;by_cases hil:i<ixs.length;case neg=>
  obtain rfl:i=ixs.length:=by omega
  have hQ2:=hQ ⟨ixs.length,S,cs,q,inq,G⟩;simp[-ak,-af,-ae,bX,qN];rw[ae];simp[-ak,-af];rw[af rfl];simp;exact hQ2 _ ⟨Nat.le_refl _,hI⟩ rfl rfl
 obtain⟨ix,hixE⟩:∃ix,ixs[i]=ix:=⟨_,rfl⟩;have hixm:ix∈ixs:=hixE▸List.getElem_mem hil;have hixl:=hix ix hixm;have hsl:slvN ixs= .sl ixs.length (nts ixs):=by
  unfold slvN;rw[if_neg (fun e=>by subst e;simp at hil)]
 have hq2:ixs[i]?=some ix:=by rw[R4 hil,hixE]
 obtain⟨p,hp⟩:∃p,g.ps[ix]=p:=⟨_,rfl⟩;have hpm:p∈g.ps:=hp▸List.getElem_mem hixl;have pok:=hg.p p hpm;have hll:=aY g.ps;have hpr:=qF hixl;rw[hp]at hpr;have h2:ix*2+2<=2*g.ps.length:=by omega
 have hcl:(g.cells).length=4:=rfl;have g1:∀n,lk<=H.length+n:=fun n=>by omega
 have hil2:(i:Int)<ixs.length:=by omega
 have hc3:∀h:3<g.cells.length,(g.cells)[3]= .sl g.ps.length (psC g.ps):=fun _=>rfl;have hprE:∀h,(psC g.ps)[ix*2+1]'h= .sl p.r.length (ints p.r):=fun h=>by rw[R4 h]at hpr;simpa using hpr
 have hne:qN H.length j []=[(1,.hp H.length 4 0),(2,.e0),(3,.hp (H.length+1) 1 0),(4,.hp (H.length+3) 1 0),(5,.hp (H.length+4) 17 0),(6,.hp (H.length+6+j) 1 0)]:=rfl;simp[-aE,-ae,-ak,-af,bX,qN,S1.heap,hsl];rw[ae];simp[-aE,-ae,-ak,-af,hil2];rw[ak rfl,aA,ah,ai,ap,ai,ae];simp[-aE,-ae,-ak,-af,hq2,hixE,hil];rw[ae];simp[-aE,-ae,-ak,-af,Fk,gH,hcl,hc3,hll,h2,hpr,hprE,hixl,uD];rw[aE];have kb:=fun M (G:Heap)=>k.back lk M (foH H g (.sl nf Fc) cs (quV (H.length+5) q off inq) q G) p.r (by rw[gH];omega)
 have gG:∀n,lk<=H.length+6+n:=fun n=>by omega
 simp[-aE,-ae,-ak,-af,uC,jC,aR,gG,an];rw[ae];simp[-aE,-ae,-ak,-af,uC,kb];have hbi:∀h:Heap,az 90 [.rop [.sl p.r.length (ints p.r)] 0] h=some (e8 p.r 0):=fun h=>ot h p.r (by have:=pok.len;omega)
 have hgt:ixs.getD i 0=ix:=by rw[R3,hq2];rfl
 have hgp:g.ps.getD ix ⟨0,[]⟩=p:=by rw[R3,R4 hixl,hp];rfl
 have hjG:j<G.length:=(List.getElem?_eq_some_iff.1 hI.left).1;have hplf:p.l.toNat=lf:=by rw[<-hp];exact hlf ix hixl hixm
 refine sj (e8 p.r 0) (fun i' h=>∃S cs q inq G2,h=foH H g (.sl nf Fc) cs (quV (H.length+5) q off inq) q G2/\G2[G.length]?=some (.cells [.sl p.r.length (ints p.r)])/\
   I1 g off j lf m0 (fun p'=>P1 g ixs lf (i+1) p'\/(p'∈fR g.t lf p.r/\i'<=p'.r.length)) S cs q inq G2)
  [(1,.hp H.length 4 0),(2,.e0),(3,.hp (H.length+1) 1 0),(4,.hp (H.length+3) 1 0),(5,.hp (H.length+4) 17 0),(6,.hp (H.length+6+j) 1 0),(10,.hp (H.length+6+G.length) 1 0),(38,.sl ixs.length (nts ixs)),(39,I ixs.length),(40,I i),(51,.fn 90 [.rop [.sl p.r.length (ints p.r)] 0])]
  rfl rfl rfl (hbi _) ?_ ?_ ?_ ?_
 ·rw[List.all_eq_true];intro x hx;obtain⟨n,hn⟩:=List.getElem?_of_mem hx;have hnl:=(List.getElem?_eq_some_iff.1 hn).1;rw[cx]at hnl;have hb:=fu p.r 0 (p.r.length-1-n) (by omega)
  rw[show p.r.length-1-(p.r.length-1-n)=n by omega,hn]at hb
  rw[Option.some.inj hb];rfl
 ·refine⟨S,cs,q,inq,G++[.cells [.sl p.r.length (ints p.r)]],rfl,by simp,hI.inv,hI.sc,?_,?_,hI.mu⟩
  ·rw[List.getElem?_append_left hjG];exact hI.left
  ·refine cK hI.pend fun p' _ hP=>?_;obtain⟨h1,i',hi1,hi2,hm⟩:=hP;rcases Nat.eq_or_lt_of_le hi1 with e | e
   ·subst e;rw[hgt,hgp]at hm;exact .inr ⟨hm,Nat.zero_le _⟩
   ·exact .inl ⟨h1,i',e,hi2,hm⟩
 ·rintro n x h hx ⟨S,cs,q,inq,G2,rfl,hr,hI2⟩;have hnl:=(List.getElem?_eq_some_iff.1 hx).1;rw[cx]at hnl;obtain⟨jj,hjj⟩:∃jj,jj+n+1=p.r.length:=⟨p.r.length-1-n,by omega⟩
  have hjl:jj<p.r.length:=by omega
  have hb:=fu p.r 0 jj hjl;rw[show p.r.length-1-jj=n by omega,hx,Nat.zero_add]at hb
  obtain rfl:=Option.some.inj hb;obtain⟨sy,hsy⟩:∃sy,p.r[jj]=sy:=⟨_,rfl⟩;have hsok:=pok.s sy (hsy▸List.getElem_mem hjl);rw[hsy];have hc0:∀h:0<g.cells.length,(g.cells)[0]=I g.t:=fun _=>rfl;have hc2:∀h:2<g.cells.length,(g.cells)[2]=I g.k:=fun _=>rfl;refine⟨_,rfl,?_⟩;rw[ai,ae];simp[-aE,-ae,-ak,-af];rw[ae];simp[-aE,-ae,-ak,-af];refine zP rfl ?_;rw[ap,ai,ai,ae];simp[-aE,-ae,-ak,-af,Fk,hcl,hc0];by_cases hst:sy<g.t
  ·rw[decide_eq_true hst,ak rfl];simp[-aE,-ae,-ak,-af];rw[zQ];refine⟨S,cs,q,inq,G2,rfl,hr,hI2.inv,hI2.sc,hI2.left,cK hI2.pend fun p' _ hP=>?_,hI2.mu⟩;rcases hP with hP | ⟨hm,hle⟩
   ·exact .inl hP
   ·rcases Nat.eq_or_lt_of_le hle with e | e
    ·exact absurd hst (hsy▸(sF hm hjl (by omega)).1)
    ·exact .inr ⟨hm,e⟩
  obtain⟨m,hm⟩:∃m:Nat,sy-g.t=(m:Int):=Int.eq_ofNat_of_zero_le (by omega)
  have hw:IntKind.i64.wrap (sy-g.t)=(m:Int):=by rw[<-hm];have:=hg.t1;have:=hg.t2;have:=hg.n1;have:=hg.n2;exact au (by omega) (by omega)
  rw[decide_eq_false hst,af rfl,aA,ah,ai,ae];simp[-aE,-ae,-aB,-ak,-af,Fk,hcl,hc0,hw];have hok:=hI2.inv.reach.ok;have hcs:cs.length=g.n.toNat:=hI2.sc.1.trans hok.len;have hmn:m<cs.length:=by omega
  have hlfn:lf<cs.length:=by rw[hcs,<-hplf];have:=pok.l0;have:=pok.l1;omega
  obtain⟨vm,hvm,hrm⟩:=hI2.sc.get (j:=m) (by rw[<-hI2.sc.1];exact hmn)
  obtain⟨vl,hvl,hrl⟩:=hI2.sc.get (j:=lf) (by rw[<-hI2.sc.1];exact hlfn)
  have hvmE:cs[m]=vm:=by rw[R4 hmn]at hvm;simpa using hvm
  have hvlE:cs[lf]=vl:=by rw[R4 hlfn]at hvl;simpa using hvl
  have w2:IntKind.i64.wrap ((jj:Int)+1)=(jj:Int)+1:=by have:=pok.len;exact au (by omega) (by omega)
  have hjr:(jj:Int)+1<=p.r.length:=by omega
  have hj0:(0:Int)<=(jj:Int)+1:=by omega
  obtain⟨sf,hsf⟩:∃sf,p.r.drop (jj+1)=sf:=⟨_,rfl⟩;have hsl2:AV.sl (p.r.length-(jj+1)) (List.take (p.r.length-(jj+1)) (List.drop (jj+1) (ints p.r)))= .sl sf.length (ints sf):=by
   rw[<-hsf,List.length_drop,List.take_of_length_le (by simp)];simp[ints,List.map_drop]
  have ht4:List.take 4 g.cells=g.cells:=rfl;have hbg:∀X,belowL X g.cells=true:=fun X=>by simp[Gm.cells,belowL,Hm.below]
  have kf:=fun (K M:Nat) (hK:K<=H.length+6+G2.length)=>k.first K M (foH H g (.sl nf Fc) cs (quV (H.length+5) q off inq) q G2) sf (by rw[gH];omega) (by rw[<-hsf,List.length_drop];have:=pok.len;omega) (fun x hx=>pok.s x (by rw[<-hsf]at hx;exact List.mem_of_mem_drop hx))
  have hu:=hI2.inv;have hsc:=hI2.sc;have hovr:=iQ g (setsM g) sf;have hofok:=eD hg (aJ hg) (r:=sf) fun x hx=>(pok.s x (by rw[<-hsf]at hx;exact List.mem_of_mem_drop hx)).1
  have kc:=fun (K M:Nat) (hK:K<=H.length+6+G2.length)=>k.cat K M (foH H g (.sl nf Fc) cs (quV (H.length+5) q off inq) q G2) _ _ _ _ (by rw[gH];omega) hovr hrl hofok (hok.get lf)
  have hcvr:=RV.cat g.k.toNat (ofM g (setsM g) sf) (S.getD lf []);have ku:=fun (K M:Nat)=>k.uni K M (foH H g (.sl nf Fc) cs (quV (H.length+5) q off inq) q G2) _ _ _ _ hrm hcvr (hok.get m) (o6 hg hofok (hok.get lf));have h16:m<16:=by have:=hg.n2;omega
  have kp:=fun (cs:List AV)=>k.put lk H.length H cs q off inq G2 m rfl (by omega) (by omega) hI2.inv.len h16 hI2.inv.ofl (by have:=hI2.inv.small hg;omega)
  have hplm:(⟨lf,m,sf⟩:Pl)∈pls g:=by
   have:=wH hpm hplf hjl (by rw[hsy];exact hst)
   rw[hsy,hsf,hm]at this;exact this
  have hpend:Pend g S (q.drop off) fun p'=>(P1 g ixs lf (i+1) p'\/(p'∈fR g.t lf p.r/\n+1<=p'.r.length))\/p'=⟨lf,m,sf⟩:=cK hI2.pend fun p' _ hP=>by
   rcases hP with hP | ⟨hmm,hle⟩
   ·exact .inl (.inl hP)
   ·rcases Nat.eq_or_lt_of_le hle with e | e
    ·have:=(sF hmm hjl (by omega)).2
     rw[hsy,hsf,hm]at this;exact .inr this
    ·exact .inl (.inr ⟨hmm,e⟩)
  have hgrow:=Fq hg hI2.inv hplm hpend;have hstill:=BZ hg hI2.inv hplm hpend;have hsc3:=fun l=>nK hI2.sc (j:=m) (v:=rowsV l) (l:=l) (.inl rfl);unfold stF at hgrow;simp only at hgrow hstill;generalize S.getD m []=Sm at *;generalize S.getD lf []=Sl at *;generalize ofV g (setsM g) sf=ov at kf kc hovr;generalize catV g.k.toNat (ofM g (setsM g) sf) Sl=cv at kc hcvr ku;generalize uni Sm (cat g.k.toNat (ofM g (setsM g) sf) Sl)=u at *;have hK1:lk<=H.length+6+G2.length:=by omega
  have h0:u.length<=Sm.length->∃S1 cs1 q1 inq1 G1,foH H g (.sl nf Fc) cs (quV (H.length+5) q off inq) q G2=foH H g (.sl nf Fc) cs1 (quV (H.length+5) q1 off inq1) q1 G1/\G1[G.length]?=some (.cells [.sl p.r.length (ints p.r)])/\
    I1 g off j lf m0 (fun p'=>P1 g ixs lf (i+1) p'\/(p'∈fR g.t lf p.r/\n+1<=p'.r.length)) S1 cs1 q1 inq1 G1:=fun hle=>⟨S,cs,q,inq,G2,rfl,hr,hI2.inv,hI2.sc,hI2.left,hstill hle,hI2.mu⟩
  have h1:Sm.length<u.length->∃S1 cs1 q1 inq1 G1,foH H g (.sl nf Fc) (cs.set m (rowsV u)) (quV (H.length+5) (putQ q inq m).1 off (putQ q inq m).2) (putQ q inq m).1 G2=foH H g (.sl nf Fc) cs1 (quV (H.length+5) q1 off inq1) q1 G1/\G1[G.length]?=some (.cells [.sl p.r.length (ints p.r)])/\
    I1 g off j lf m0 (fun p'=>P1 g ixs lf (i+1) p'\/(p'∈fR g.t lf p.r/\n+1<=p'.r.length)) S1 cs1 q1 inq1 G1:=fun hlt=>by
   obtain⟨i1,i2,i3⟩:=hgrow hlt;exact⟨S.set m u,cs.set m (rowsV u),_,_,G2,rfl,hr,i1,hsc3 u,hI2.left,i2,Nat.le_trans (Nat.le_of_lt i3) hI2.mu⟩
  clear hgrow hstill hpend hsc3;rw[aB rfl];rcases aC hrm with rfl | rfl<;>rcases aC hrl with rfl | rfl<;>rcases aC hovr with rfl | rfl<;>rcases aC hcvr with rfl | rfl;all_goals
   simp[-aE,-ae,-aB,-ak,-af,Fk,PQ,rE,E0,mD,uC,gH,hcl,hc0,hc2,hmn,hvm,hvmE,hlfn,hvl,hvlE,hr,hI2.left,w2,bnd,hjr,hj0,hsl2,ht4,hbg,kf,kc,ku,hK1];exact Fv hlk rfl hmn hvm hrm kp (fun hle e=>h0 hle) (fun hlt e=>h1 hlt)
 ·rintro h ⟨S,cs,q,inq,G2,rfl,hr,hI2⟩;have w1:IntKind.i64.wrap ((i:Int)+1)=(i:Int)+1:=au (by omega) (by omega)
  have hfin:I1 g off j lf m0 (P1 g ixs lf (i+1)) S cs q inq G2:=⟨hI2.inv,hI2.sc,hI2.left,cK hI2.pend fun p' _ hP=>by
   rcases hP with hP | ⟨hm,hle⟩
   ·exact hP
   ·rw[cx]at hle;have:=Ft hm;omega,hI2.mu⟩
  simp[w1,ao];exact⟨⟨i+1,S,cs,q,inq,G2⟩,⟨hil,hfin⟩,by show ixs.length-(i+1)<_;omega,by simp[bX,qN,hsl],rfl⟩

theorem d9 {ps:List Pr}{left:Int}{i:Nat}:i∈ofN ps left ps.length↔∃h:i<ps.length,ps[i].l=left:=by
 unfold ofN;rw[List.mem_filter,List.mem_range];constructor
 ·rintro⟨h,h2⟩;refine⟨h,?_⟩;rw[R3,R4 h]at h2;simpa using h2
 ·rintro⟨h,h2⟩;refine⟨h,?_⟩;rw[R3,R4 h];simpa using h2
structure S2 where
 S:Ss
 cs:List AV
 q:List Nat
 off:Nat
 inq:List Bool
 G:Heap
 j:Nat
 lf:Nat
 is:Bool
def S2.heap (H:Heap)(g:Gm)(F:AV)(s:S2):Heap:=foH H g F s.cs (quV (H.length+5) s.q s.off s.inq) s.q s.G
structure I2 (g:Gm)(s:S2):Prop where
 inv:QInv g s.S s.q s.off s.inq
 sc:SC s.cs s.S
 left:s.G[s.j]?=some (.cells [I s.lf])
 pend:Pend g s.S (s.q.drop s.off) fun p=>s.is=true/\p.l=s.lf
 lt:s.is=true->s.lf<g.n.toNat
 no:s.is=false->s.q.length<=s.off
def S2.mu (g:Gm)(s:S2):Nat:=qmu g s.S s.q s.off+if s.is=true then 1 else 0
def bS (L:Nat)(s:S2):Env:=qN L s.j [(7,Bo s.is)]
theorem Fx {g:Gm}(hg:GOk g){lf:Nat}{p:Pl}(hp:p∈pls g)(h:p.l=lf):P1 g (ofN g.ps lf g.ps.length) lf 0 p:=by
 obtain⟨pr,hpr,hm⟩:=List.mem_flatMap.1 hp;have h0:=(hg.p pr hpr).l0;obtain⟨a,s,e,h1,h2,h3⟩:=fS.1 hm;obtain⟨i,hi,rfl⟩:=List.mem_iff_getElem.1 hpr;have hl:g.ps[i].l=lf:=by omega
 have him:i∈ofN g.ps lf g.ps.length:=d9.2 ⟨hi,hl⟩;obtain⟨i',hi',e'⟩:=List.mem_iff_getElem.1 him;refine⟨h,i',Nat.zero_le _,hi',?_⟩;rw[R3 (l:=ofN g.ps lf g.ps.length),R4 hi',e',Option.getD_some,R3,R4 hi,Option.getD_some];rw[<-h2,h]at hm;exact hm
set_option maxHeartbeats 2000000 in
theorem Fy {C:Orc}{lk:Nat}{H:Heap}(hlk:lk<=H.length){g:Gm}(hg:GOk g){nf:Nat}{Fc:List AV}(k:KG C g (.sl nf Fc) H.length){Q:Ex->Kt}
  (hQ:∀s e,I2 g s->s.is=false->ab [4] e=[(4,.hp (H.length+3) 1 0)]->Q (.exit 0) e (s.heap H g (.sl nf Fc))) (s:S2) (hs:I2 g s):
  WB ⟨C,lk,H.length,[]⟩ EA (Rnd [1,2,3,4,5,6,7] (bS H.length) (fun s=>s.heap H g (.sl nf Fc)) (I2 g) (fun s=>s.mu g) s Q) (bS H.length s) (s.heap H g (.sl nf Fc)):=by
 have hQ2:=hQ s;obtain⟨S,cs,q,off,inq,G,j,lf,is⟩:=s;obtain⟨i1,i2,i3,i4,i5,i6⟩:=hs;simp only at i1 i2 i3 i4 i5 i6;unfold EA;have hcl:(g.cells).length=4:=rfl;have ht4:List.take 4 g.cells=g.cells:=rfl;cases is with
 | false=>
  simp[-ak,-af,-ae,bS,qN];rw[ae];simp[-ak,-af];rw[af rfl];simp;exact hQ2 _ ⟨i1,i2,i3,i4,i5,i6⟩ rfl rfl
 | true=>
  have hlf:=i5 rfl;have ko:=fun M=>k.prods lk M (foH H g (.sl nf Fc) cs (quV (H.length+5) q off inq) q G) lf (by rw[gH];omega)
  have hmem:=fun i=>d9 (ps:=g.ps) (left:=lf) (i:=i);have hp1:=fun (p:Pl) (hp:p∈pls g)=>Fx hg (lf:=lf) hp;have hon:=j1 g.ps lf g.ps.length;have hl2:=hg.l2;generalize ofN g.ps lf g.ps.length=ixs at ko hmem hp1 hon;have hsv:(slvN ixs= .e0/\ixs.length=0)\/slvN ixs= .sl ixs.length (nts ixs):=by
   unfold slvN;by_cases h:ixs=[]<;>simp[h]
  have h0:Fu g ixs off j lf (qmu g S q off) ⟨0,S,cs,q,inq,G⟩:=⟨Nat.zero_le _,i1,i2,i3,cK i4 fun p hp h=>hp1 p hp h.2,Nat.le_refl _⟩;have main:∀(E:Env),ab [1,2,3,4,5,6,38,39,40] E=bX H.length j ixs ⟨0,S,cs,q,inq,G⟩->
    WB ⟨C,lk,H.length,[]⟩ (.loop [1,2,3,4,5,6,38,39,40] Ac) (tP 2 (tP 1 (Fol ⟨C,lk,H.length,[]⟩
     (((AC.regN [1,2,3,4,5,6] [⟨some 96,none,.ld1 none (.tmp 6),0,false⟩]).seq
      (AC.regN [1,2,3,4,5,96] [⟨some 6,none,.allocH [(.val (.int .i64 0))],0,false⟩,⟨none,none,.st none 1 (.tmp 6) (.tmp 96),0,false⟩])).seq
      (AC.regN [1,2,3,4,5,6] [⟨some 33,none,.call 102 [(.tmp 5)],0,false⟩,⟨some 32,none,.mv (.tmp 33),0,false⟩,⟨some 34,none,.ext (.tmp 32) 0,0,false⟩,⟨some 35,none,.ext (.tmp 32) 1,0,false⟩,⟨none,none,.st none 1 (.tmp 6) (.tmp 34),0,false⟩,⟨some 7,none,.mv (.tmp 35),0,false⟩]))
     (Rnd [1,2,3,4,5,6,7] (bS H.length) (fun s=>s.heap H g (.sl nf Fc)) (I2 g) (fun s=>s.mu g) ⟨S,cs,q,off,inq,G,j,lf,true⟩ Q))))
     E (foH H g (.sl nf Fc) cs (quV (H.length+5) q off inq) q G):=fun E hE=>by
   refine ax (σ:=S1) (bX H.length j ixs) (fun s=>s.heap H g (.sl nf Fc) off) (Fu g ixs off j lf (qmu g S q off)) (fun s=>ixs.length-s.i)
    (fun s hs=>Fw hlk hg k.toKF (by omega) (fun i hi=>((hmem i).1 hi).1) (fun i h hi=>by have:=((hmem i).1 hi).2;omega) ?_ s hs) ⟨0,S,cs,q,inq,G⟩ h0 hE rfl
   clear hE E h0;rintro⟨i,T,cs1,q1,inq1,G1⟩ e ⟨_,hI⟩ hi he;simp only at hI hi;subst hi;obtain⟨v1,v2,v3,v4,v5⟩:=hI;have v4:Pend g T (q1.drop off) fun _=>False:=cK v4 fun p hp h=>by obtain⟨_,i',h1,h2,_⟩:=h;omega
   have kt:=fun G=>k.take lk H.length H cs1 q1 off inq1 G rfl (by omega) (by omega) v1.len v1.ofl (v1.lt16 hg)
   have gG:∀n,lk<=H.length+6+n:=fun n=>by omega
   rw[aG,if_pos rfl];show WB _ _ _ _ _;rw[ai,ai,ae,he];simp[-ak,-af,-ae,-aE,S1.heap,qN,uC,v3];rw[ae];simp[-ak,-af,-ae,-aE,gH,uD];rw[aE];simp[-ak,-af,-ae,-aE,uC,jC,aR,gG,an];rw[ae];by_cases ho:off<q1.length
   ·have ti:=wG hg v1 ho v4;simp only[if_pos ho]at kt;generalize q1.getD off 0=n at kt ti;simp[-ak,-af,-ae,-aE,kt];rw[aE];simp[-ak,-af,-ae,-aE,uC,jC,aR,gG,an];rw[ao];obtain⟨t1,t2,t3,t4⟩:=ti;exact⟨⟨T,cs1,q1,off+1,inq1.set n false,G1++[.cells [I n]],G1.length,n,true⟩,⟨t1,v2,by simp,cK t2 fun p _ h=>⟨rfl,h⟩,fun _=>t4,fun h=>by cases h⟩,
     by show qmu g T q1 (off+1)+1<qmu g S q off+1;omega,rfl,rfl⟩
   ·simp only[if_neg ho]at kt;simp[-ak,-af,-ae,-aE,kt];rw[aE];simp[-ak,-af,-ae,-aE,uC,jC,aR,gG,an];rw[ao];exact⟨⟨T,cs1,q1,off,inq1,G1++[.cells [I 0]],G1.length,0,false⟩,⟨v1,v2,by simp,cK v4 fun p _ h=>h.elim,fun h=>(by cases h),fun _=>by show q1.length<=off;omega⟩,
     by show qmu g T q1 off+0<qmu g S q off+1;omega,rfl,rfl⟩
  simp[-ak,-af,-ae,bS,qN,S2.heap];rw[ae];simp[-ak,-af,-ae];rw[ak rfl,aA,ah,ai,ap,ai,ae];rcases hsv with⟨hsv,hlen⟩ | hsv;all_goals
   rw[hsv]at ko;simp[-ak,-af,-ae,Fk,hcl,ht4,uC,i3,ko];refine main _ ?_;simp[bX,qN,hsv,ab,find]
  omega

theorem mG {g:Gm}(hg:GOk g){l:List (List UInt8)}(h:FOk g l):∀x∈l,x.length<=1000000:=fun x hx=>by
 have:=(h.row x hx).len;have:=hg.k2;omega
theorem L7 {g:Gm}(hc:chkE g=0)(hl:g.ps.length<=1000000)(hr:∀p∈g.ps,p.r.length<=1000000){Fc:List AV}(hF:SC Fc (setsM g))(L:Nat):KG (aj X A) g (.sl Fc.length Fc) L:=by
 have ok:=br hc;have hso:=aJ ok;refine { back:=fun K M h r hK=>sG hK r,first:=fun K M h r hK hr8 hrs=>?_,cat:=fun K M h va vb a b hK ha hb ra rb=>?_,uni:=fun K M h va vb a b ha hb ra rb=>?_,put:=?_,take:=?_,prods:=fun K M h lf hK=>?_ }
 ·have hb:r.any (du g)=false:=by
   rw[List.any_eq_false];intro s hs;have:=hrs s hs;simp only[du,Bool.or_eq_true,decide_eq_true_eq,not_or];omega
  have ho:OfOk g (setsM g) r:=⟨hc,by rw[hso.len];have:=ok.n1;omega,hb⟩
  have:=sE (lk:=K) (lim:=M) (H:=h) hK g hl hr hF r (by omega) (by rw[hso.len];have:=ok.n2;omega) fun _=>⟨fun i=>?_,fun s hs=>?_⟩
  ·rw[if_pos ho]at this;exact this
  ·have h1:=eD ok hso (r:=r.take i) fun s hs=>(hrs s (List.mem_of_mem_take hs)).1;have h2:=h1.size ok;exact⟨by omega,fun x hx=>by have:=h1.len x hx;have:=ok.k2;omega⟩
  ·unfold nxt;split
   ·simp
   ·have h1:=hso.get (s-g.t).toNat;have h2:=h1.size ok;exact⟨by omega,fun x hx=>by have:=h1.len x hx;have:=ok.k2;omega⟩
 ·have h1:=ra.size ok;have h2:=rb.size ok;exact mw hK g.k ha hb (by omega) (by omega) (fun x hx=>by have:=ra.len x hx;have:=ok.k2;omega) (mG ok rb)
 ·have h1:=ra.size ok;have h2:=rb.size ok;exact qJ ha hb (by omega)
 ·rintro K M H cs q off inq G m rfl hK hM h16 hm ho hq;rw[BX hK hM h16 m hm ho hq];unfold putQ;split<;>rfl
 ·rintro K M H cs q off inq G rfl hK hM h16 ho hm;exact yE hK hM h16 ho hm
 ·have:=mC (lk:=K) (lim:=M) (H:=h) g lf hl hr hK;unfold nL at this;rw[if_pos hc]at this;exact this
def IM (H:Heap)(g:Gm)(F:AV)(cs:List AV):Heap:=
 H++[.cells g.cells,.cells [F],.cells cs,.cells [.hs (H.length+2) cs.length 0 cs.length 1],.cells (.e0::bools (List.replicate 16 false))]
theorem yG {lk lim:Nat}{H:Heap}{g:Gm}{F:AV}{cs:List AV}(hlk:lk<=H.length)(hlim:lim<=H.length):
  aj X A lk lim 101 [.hp (H.length+4) 17 0,I 0] (IM H g F cs)=some (.tup [],foH H g F cs (quV (H.length+5) [0] 0 (true::List.replicate 15 false)) [0] []):=by
 refine ar [] rfl Ox rfl rfl ?_;unfold EB;generalize aj X A=C;have g1:∀m,lk<=H.length+m:=fun m=>by omega
 have g2:∀m,lim<=H.length+m:=fun m=>by omega
 have r1:8<=aM:=by decide
 have e1:bools (List.replicate 16 false)=[Bo false,Bo false,Bo false,Bo false,Bo false,Bo false,Bo false,Bo false,Bo false,Bo false,Bo false,Bo false,Bo false,Bo false,Bo false,Bo false]:=rfl;unfold IM foH quV;rw[e1];simp[-ak,-af,-ae,-aE];rw[ae];simp[-ak,-af,-ae,-aE];rw[ak rfl,ai,ae];simp[-ak,-af,-ae,-aE];rw[aE];simp[-ak,-af,-ae,-aE,aR,g1,g2,an];rw[ae];simp[-ak,-af,-ae,-aE,dG,r1];rw[aE];simp[-ak,-af,-ae,-aE,aR,g1,g2,an];exact⟨rfl,rfl⟩
set_option maxHeartbeats 2000000 in
theorem yH {lk lim:Nat}{H:Heap}(hlk:lk<=H.length)(g:Gm)(hl:g.ps.length<=1000000)(hr:∀p∈g.ps,p.r.length<=1000000):
  ∃v h',aj X A lk lim 84 [gV g] H=some (v,h')/\h'=H/\if chkE g=0 then ∃cs,v= .sl cs.length cs/\SC cs (cM g) else v= .e0:=by
 have kc:=fun (M:Nat) (h:Heap)=>ck (lk:=lk) (lim:=M) (H:=h) g hl hr;refine dD [] rfl A84 rfl rfl ?_;unfold NY;have hcl:(g.cells).length=4:=rfl;have ht4:List.take 4 g.cells=g.cells:=rfl;have ht5:[I g.t,I g.n,I g.k,.sl g.ps.length (psC g.ps)]=g.cells:=rfl;by_cases hc:chkE g=0;case neg=>
  generalize chkE g=e at kc hc |-;have h3:(e != 0)=true:=by simpa using hc
  have kc1:=fun M=>kc M (H++[.cells g.cells]);generalize aj X A=C at kc1 |-;simp[-ak,-af,-ae];rw[ae];simp[-ak,-af,-ae,hcl];rw[ae];simp[-ak,-af,-ae,hcl,ht4,kc1,h3];rw[ak rfl];simp[bt,hc];exact⟨.e0,H,⟨rfl,rfl⟩,rfl,rfl⟩
 have ok:=br hc;simp only[hc,if_true];rw[hc]at kc;have hn1:=ok.n1;have hn2:=ok.n2;obtain⟨n,hn⟩:∃n:Nat,g.n=(n:Int):=Int.eq_ofNat_of_zero_le (by omega)
 have kF:=fun (M:Nat) (h:Heap) (hh:lk<=h.length)=>sD (lk:=lk) (lim:=M) (H:=h) hh g hl hr;have kc1:=fun M=>kc M (H++[.cells g.cells]);have hc1:∀h:1<g.cells.length,(g.cells)[1]=I n:=fun _=>by rw[<-hn];rfl
 have hro:n*24<=aM:=by unfold aM;omega
 have g1:∀m,lk<=H.length+m:=fun m=>by omega
 simp only[hc,if_true]at kF;obtain⟨v,h',kf,rfl,Fc,rfl,hF⟩:=kF H.length (H++[.cells g.cells]) (by simp;omega)
 obtain⟨inq0,hq0⟩:∃x,x=true::List.replicate 15 false:=⟨_,rfl⟩;have kk:=L7 hc hl hr hF H.length;have kp0:=fun cs=>yG (lk:=lk) (lim:=H.length) (H:=H) (g:=g) (F:=.sl Fc.length Fc) (cs:=cs) hlk (Nat.le_refl _);rw[<-hq0]at kp0;generalize aj X A=C at kc1 kf kp0 kk |-;simp[-ak,-af,-ae];rw[ae];simp[-ak,-af,-ae,hcl];rw[ae];simp[-ak,-af,-ae,hcl,ht4,kc1];rw[af rfl,aA,ah,ai,ae];simp[-ak,-af,-ae,-aE,hcl,ht4,kf];rw[aE];simp[-ak,-af,-ae,-aE,aR,g1,an];rw[ae];simp[-ak,-af,-ae,-aE,-fN,hcl,hc1];rw[fN,uB (l:=.tmp 21) (z:=[.e0]) (es:=1) (n:=n) rfl rfl hro];simp[-ak,-af,-ae,-aE];rw[aE];simp[-ak,-af,-ae,-aE,aR,g1,an];rw[ae];have hn0:0<n:=by omega
 have hS0:=nK (mA n) (j:=0) (v:=rowsV [[255]]) (l:=[[255]]) (.inl rfl);have hset:(repl n [AV.e0]).set 0 (rowsV [[255]])=an (repl n [AV.e0]) 0 [.sl 1 [Sg [255]]]:=by
  obtain⟨m,rfl⟩:∃m,n=m+1:=⟨n-1,by omega⟩
  have:repl (m+1) [AV.e0]= .e0::repl m [AV.e0]:=rfl;rw[this];simp[an];rfl
 have hst0:cE g=(List.replicate n []).set 0 [[255]]:=by unfold cE;rw[hn,Int.toNat_natCast]
 rw[hset,<-hst0]at hS0;have hrl:(repl n [AV.e0]).length=n:=by simp[repl]
 have hn1':1<=n:=hn0;simp[-ak,-af,-ae,-aE,hn0];rw[aE];have hcl0:=hS0.1;have hstl:(cE g).length=n:=by rw[(TOk.start ok).len,hn];rfl
 rw[hstl]at hcl0;have hsg:AV.sl 1 [AV.val (.string ⟨#[255]⟩)]= .sl 1 [Sg [255]]:=rfl;simp[-ak,-af,-ae,-aE,aR,g1,hsg,hrl,hn1'];generalize an (repl n [AV.e0]) 0 [.sl 1 [Sg [255]]]=cs at *;rw[ae];simp[-ak,-af,-ae,-aE];rw[ae];have hf0:H++[HB.cells g.cells,.cells [.sl Fc.length Fc],.cells cs,.cells [.hs (H.length+2) n 0 n 1],.cells [.e0,.val (.bool false),.val (.bool false),.val (.bool false),.val (.bool false),.val (.bool false),.val (.bool false),.val (.bool false),.val (.bool false),.val (.bool false),.val (.bool false),.val (.bool false),.val (.bool false),.val (.bool false),.val (.bool false),.val (.bool false),.val (.bool false)]]=IM H g (.sl Fc.length Fc) cs:=by
  unfold IM;rw[hcl0];rfl
 rw[hf0];simp[-ak,-af,-ae,-aE,kp0];rw[ae];have st:=B0 ok;rw[<-hq0]at st;have ti:=wG ok st.1 (by simp) st.2
 have kt:=kk.take lk H.length H cs [0] 0 inq0 [] rfl (by omega) (by omega) st.1.len (by simp) (st.1.lt16 ok)
 rw[if_pos (by simp),if_pos (by simp)]at kt
 have e0:([0]:List Nat).getD 0 0=0:=rfl;rw[e0]at kt ti;have gG:∀n,lk<=H.length+6+n:=fun n=>by omega
 have gG0:lk<=H.length+6:=gG 0;have hG0:=fun (cs qv:List AV) (q:List Nat) (G:Heap)=>uC (H:=H) (g:=g) (F:=.sl Fc.length Fc) (cs:=cs) (qv:=qv) (q:=q) (G:=G) 0;have hS0':=fun (cs qv:List AV) (q:List Nat) (G:Heap) (x:HB)=>jC (H:=H) (g:=g) (F:=.sl Fc.length Fc) (cs:=cs) (qv:=qv) (q:=q) (G:=G) 0 x;simp only[Nat.add_zero]at hG0 hS0';simp[-ak,-af,-ae,-aE,kt,uD,gH];rw[aE];simp[-ak,-af,-ae,-aE,hG0,hS0',aR,gG0,an];refine ax (σ:=S2) (bS H.length) (fun s=>s.heap H g (.sl Fc.length Fc)) (I2 g) (fun s=>s.mu g) (fun s hs=>Fy hlk ok kk ?_ s hs) ⟨cE g,cs,[0],1,inq0.set 0 false,[.cells [I 0]],0,0,true⟩ ?_ ?_ ?_
 ·intro s e hI hns he;obtain⟨S,ds,q,off,inq,G,j,lf,is⟩:=s;obtain⟨v1,v2,v3,v4,v5,v6⟩:=hI;simp only at v1 v2 v3 v4 v5 v6 hns;subst hns;have hfin:=Fs ok v1 (v6 rfl) (cK v4 fun p _ h=>by cases h.1)
  subst hfin;have hz:=iR H.length (foH H g (.sl Fc.length Fc) ds (quV (H.length+5) q off inq) q G) 6 v2;rw[aG,if_pos rfl];show WB _ _ _ _ _;rw[ai,ae,he];simp[-ak,-af,S2.heap,E0,rE,bt,hz];rw[if_neg (by omega)]
  have hta:List.take H.length (foH H g (.sl Fc.length Fc) ds (quV (H.length+5) q off inq) q G)=H:=by unfold foH;exact Hm.take_at _ _
  have hbe:Hm.below H.length (.sl ds.length ds)=true:=by simp[Hm.below]
  simp only[hbe,hta,if_true];exact⟨_,_,rfl,rfl,ds,rfl,v2⟩
 ·exact⟨ti.1,hS0,rfl,cK ti.2.1 fun p _ h=>⟨rfl,h⟩,fun _=>ti.2.2.2,fun h=>by cases h⟩
 ·rfl
 ·rfl
end Go.Proofs.YtkllbcjanneppaaGreat
