import Derived.Test.YtkllbcjanneppaaGreatGV
set_option maxRecDepth 20000
set_option linter.unusedSimpArgs false
set_option linter.unusedVariables false
namespace Go.Proofs.YtkllbcjanneppaaGreat
open Go Go.Hm

theorem w6 {α:Type}{S T:List α}{i:Nat}(hS:i < S.length)(hT:i < T.length)(h:S=T↔S.drop i=T.drop i):(S[i]=T[i]->(S=T↔S.drop (i+1)=T.drop (i+1)))/\(S[i]≠T[i]->S≠T):=by
 rw [List.drop_eq_getElem_cons hS,List.drop_eq_getElem_cons hT,List.cons.injEq] at h;exact ⟨fun e=>by rw [h];simp [e],fun e e2=>e (by simp only [e2])⟩
theorem w8 {α:Type}{S T:List α}(h:S=T↔S.drop S.length=T.drop S.length)(hl:S.length=T.length):S=T:=by
 rw [h,List.drop_length,hl,List.drop_length]
theorem uQ {lk lim:Nat}{H:Heap}{va vb:AV}{a b:List (List UInt8)}(hva:RV va a)(hvb:RV vb b)(hla:a.length<=1000000000):aj X A lk lim 62 [va,vb] H=some (Bo (decide (a=b)),H):=by
 refine ar [] rfl A62 rfl (by simp only [List.all_cons,List.all_nil,Fg hva,Fg hvb,Bool.and_self]) ?_
 unfold Oa;generalize aj X A=C;by_cases hl:a.length=b.length;case neg=>
  have hne:¬a=b:=fun e=>hl (by rw [e])
  have h1:¬(a.length:Int)=b.length:=by omega
  have h2:((a.length:Int) != b.length)=true:=by rw [bne_iff_ne];exact h1
  rcases hva with rfl | ⟨rfl,rfl⟩<;>rcases hvb with rfl | ⟨rfl,rfl⟩
  ·simp [h2,h1,hne]
  ·simp at h2 hl;simp [hl]
  ·have hb:¬b=[]:=fun e=>by subst e;simp at hl
   have h3:((0:Int) != b.length)=true:=by simpa using h2
   have hbn:¬[]=b:=fun e=>hb e.symm;simp [h3,hbn]
   trace_state
  ·simp at hl
 have h2:((a.length:Int) != b.length)=false:=by rw [bne_eq_false_iff_eq];omega
 obtain ⟨r,hr⟩:∃r,decide (a=b)=r:=⟨_,rfl⟩;rw [hr];have main:∀E,ab [0,1,12,13] E=[(0,va),(1,vb),(12,I a.length),(13,I 0)]->WB ⟨C,lk,H.length,[]⟩ (.block 0 (.loop [0,1,12,13] EJ)) (Fol ⟨C,lk,H.length,[]⟩ (.seq (.regN [] [⟨some 4,none,.mv (.con (.val (.bool true))),0,false⟩]) .ret) (oO [.tmp 4] true H (Bo r,H))) E H:=by
  intro E hE;rw [ap];refine ax (σ:=Nat) (fun i=>[(0,va),(1,vb),(12,I a.length),(13,I i)]) (fun _=>H) (fun i=>i<=a.length/\(a=b↔a.drop i=b.drop i)) (fun i=>a.length - i) ?_ 0 ⟨Nat.zero_le _,by simp⟩ hE rfl
  rintro i ⟨hi,hinv⟩;unfold EJ;have w1:IntKind.i64.wrap ((i:Int)+1)=(i:Int)+1:=au (by omega) (by omega)
  by_cases hil:i < a.length;case neg=>
   obtain rfl:i=a.length:=by omega
   have:=w8 hinv hl;rw [decide_eq_true this] at hr;subst hr;rcases hva with rfl | ⟨rfl,rfl⟩<;>rcases hvb with rfl | ⟨rfl,rfl⟩<;>simp
  have hib:i < b.length:=by omega
  obtain ⟨d1,d2⟩:=w6 hil hib hinv;have ga:=bE hil;have gb:=bE hib;rcases hva with rfl | ⟨rfl,rfl⟩;case inr=>simp at hil
  rcases hvb with rfl | ⟨rfl,rfl⟩;case inr=>simp at hib
  by_cases he:a[i]=b[i]
  ·have hq:=uz a[i] b[i];rw [show (!(a[i]==b[i]))=false by simp [he]] at hq
   simp [hil,hib,ga,gb,hq,w1,ao];exact ⟨i+1,⟨by omega,d1 he⟩,by omega,by simp⟩
  ·have hq:=uz a[i] b[i];rw [show (!(a[i]==b[i]))=true by simp [he]] at hq
   rw [decide_eq_false (d2 he)] at hr;subst hr;simp [hil,hib,ga,gb,hq]
 have h3:(a.length:Int)=b.length:=by omega
 rcases hva with rfl | ⟨rfl,rfl⟩<;>rcases hvb with rfl | ⟨rfl,rfl⟩
 ·simp [-ap,<-h3];refine main _ ?_;simp
 ·have:a=[]:=List.eq_nil_of_length_eq_zero hl;subst this;simp [-ap];refine main _ ?_;simp
 ·have:b=[]:=List.eq_nil_of_length_eq_zero hl.symm;subst this;simp [-ap];refine main _ ?_;simp
 ·simp [-ap];refine main _ ?_;simp

theorem F4 {v:AV}{S:Ss}(h:TV v S):a7 v=true:=by
 rcases h with ⟨rfl,_⟩ | ⟨cs,rfl,_⟩<;>rfl
theorem uR {S:Ss}{i:Nat}(h:i < S.length):S.getD i []=S[i]:=by
 rw [List.getD_eq_getElem?_getD,List.getElem?_eq_getElem h];rfl
theorem za {lk lim:Nat}{H:Heap}{ta tb:AV}{S T:Ss}(hta:TV ta S)(htb:TV tb T)(hla:S.length<=1000000000)(hl1:∀l∈S,l.length<=1000000000):aj X A lk lim 61 [ta,tb,.fn 62 []] H=some (Bo (decide (S=T)),H):=by
 have ke:=fun (L:Nat) (va vb:AV) (a b:List (List UInt8)) (ha:RV va a) (hb:RV vb b) (h:a.length<=1000000000)=>uQ (lk:=lk) (lim:=L) (H:=H) ha hb h;refine ar [] rfl A61 rfl (by simp only [List.all_cons,List.all_nil,F4 hta,F4 htb,Bool.and_self];rfl) ?_
 unfold N9;generalize aj X A=C at ke |-;by_cases hl:S.length=T.length;case neg=>
  have hne:¬S=T:=fun e=>hl (by rw [e])
  have hne2:decide (S=T)=false:=decide_eq_false hne;rw [hne2];rcases hta.len with ⟨rfl,h1⟩ | ⟨cs,rfl,h1⟩<;>rcases htb.len with ⟨rfl,h2⟩ | ⟨ds,rfl,h2⟩
  ·omega
  ·have h3:((0:Int) != ds.length)=true:=by rw [bne_iff_ne];omega
   have h4:¬ds=[]:=fun e=>by subst e;simp at h2;omega
   simp [h3,h4]
  ·have h3:((cs.length:Int) != 0)=true:=by rw [bne_iff_ne];omega
   have h4:¬cs=[]:=fun e=>by subst e;simp at h1;omega
   simp [h3,h4]
  ·have h3:((cs.length:Int) != ds.length)=true:=by rw [bne_iff_ne];omega
   have h4:¬(cs.length:Int)=ds.length:=by omega
   simp [h3,h4]
 obtain ⟨r,hr⟩:∃r,decide (S=T)=r:=⟨_,rfl⟩;rw [hr];have main:∀E,ab [1,2,15,16,17] E=[(1,tb),(2,.fn 62 []),(15,ta),(16,I S.length),(17,I 0)]->WB ⟨C,lk,H.length,[]⟩ (.block 0 (.loop [1,2,15,16,17] EI)) (Fol ⟨C,lk,H.length,[]⟩ (.seq (.regN [] [⟨some 6,none,.mv (.con (.val (.bool true))),0,false⟩]) .ret) (oO [.tmp 6] true H (Bo r,H))) E H:=by
  intro E hE;rw [ap];refine ax (σ:=Nat) (fun i=>[(1,tb),(2,.fn 62 []),(15,ta),(16,I S.length),(17,I i)]) (fun _=>H) (fun i=>i<=S.length/\(S=T↔S.drop i=T.drop i)) (fun i=>S.length - i) ?_ 0 ⟨Nat.zero_le _,by simp⟩ hE rfl
  rintro i ⟨hi,hinv⟩;unfold EI;have w1:IntKind.i64.wrap ((i:Int)+1)=(i:Int)+1:=au (by omega) (by omega)
  by_cases hil:i < S.length;case neg=>
   obtain rfl:i=S.length:=by omega
   have:=w8 hinv hl;rw [decide_eq_true this] at hr;subst hr;rcases hta.len with ⟨rfl,h1⟩ | ⟨cs,rfl,h1⟩<;>rcases htb.len with ⟨rfl,h2⟩ | ⟨ds,rfl,h2⟩<;>simp
  have hib:i < T.length:=by omega
  obtain ⟨d1,d2⟩:=w6 hil hib hinv;rcases hta with ⟨rfl,rfl⟩ | ⟨cs,rfl,hs⟩
  ·simp at hil
  rcases htb with ⟨rfl,rfl⟩ | ⟨ds,rfl,ht⟩
  ·simp at hib
  obtain ⟨va,ga,ra⟩:=hs.get hil;obtain ⟨vb,gb,rb⟩:=ht.get hib;have hci:i < cs.length:=by rw [hs.1];exact hil
  have hdi:i < ds.length:=by rw [ht.1];exact hib
  rw [uR hil] at ra;rw [uR hib] at rb;have ke:=fun L=>ke L va vb _ _ ra rb (hl1 _ (List.getElem_mem hil));have gaE:∀h,cs[i]'h=va:=fun h=>(List.getElem?_eq_some_iff.1 ga).2;have gbE:∀h,ds[i]'h=vb:=fun h=>(List.getElem?_eq_some_iff.1 gb).2;by_cases he:S[i]=T[i]
  ·rw [decide_eq_true he] at ke;have d1:=d1 he;generalize S[i]=a at ra;generalize T[i]=b at rb;rcases aC ra with rfl | rfl<;>rcases aC rb with rfl | rfl;all_goals
    simp [hil,hci,hdi,gaE,gbE,ke,w1,ao];exact ⟨i+1,⟨by omega,d1⟩,by omega,by simp⟩
  ·rw [decide_eq_false he] at ke;rw [decide_eq_false (d2 he)] at hr;subst hr;clear he d1 d2;generalize S[i]=a at ra;generalize T[i]=b at rb;rcases aC ra with rfl | rfl<;>rcases aC rb with rfl | rfl;all_goals
    simp [hil,hci,hdi,gaE,gbE,ke]
 rcases hta.len with ⟨rfl,h1⟩ | ⟨cs,rfl,h1⟩<;>rcases htb.len with ⟨rfl,h2⟩ | ⟨ds,rfl,h2⟩
 ·rw [h1] at main;simp [-ap];refine main _ ?_;simp
 ·have:ds=[]:=List.eq_nil_of_length_eq_zero (by omega)
  subst this;rw [h1] at main;simp [-ap];refine main _ ?_;simp
 ·have:cs=[]:=List.eq_nil_of_length_eq_zero (by omega)
  subst this;rw [<-h1] at main;simp [-ap];refine main _ ?_;simp
 ·have h3:(cs.length:Int)=ds.length:=by omega
  rw [<-h1] at main;simp [-ap,<-h3];refine main _ ?_;simp
theorem w9 {lk lim:Nat}{H:Heap}{ta tb:AV}{S T:Ss}(hta:TV ta S)(htb:TV tb T)(hla:S.length<=1000000000)(hl1:∀l∈S,l.length<=1000000000):aj X A lk lim 44 [.agg [ta],.agg [tb]] H=some (Bo (decide (S=T)),H):=by
 have ke:=fun (L:Nat)=>za (lk:=lk) (lim:=L) (H:=H) hta htb hla hl1;refine ar [2,3] rfl A44 rfl rfl ?_;unfold N8;generalize aj X A=C at ke |-;rcases hta.len with ⟨rfl,h1⟩ | ⟨cs,rfl,h1⟩<;>rcases htb.len with ⟨rfl,h2⟩ | ⟨ds,rfl,h2⟩;all_goals simp [ke]



structure LRw (l:List (List UInt8)):Prop where
 n:l.length<=9223372036854775807
 s:∀x∈l,x.length<=9223372036854775807

theorem xb {lk lim:Nat}{H:Heap}(hlk:lk<=H.length)(g:Gm)(hc:chkE g=0):
  ∃v h',aj X A lk lim 46 [gV g] H=some (v,h')/\h'=H/\∃cs,v= .agg [.sl cs.length cs]/\SC cs (aK g):=by
 have ok:=br hc;have hl:g.ps.length<=1000000:=Nat.le_trans ok.l2 (by decide)
 have hr:∀p∈g.ps,p.r.length<=1000000:=fun p hp=>Nat.le_trans (ok.p p hp).len (by decide)
 obtain ⟨v1,g1,k1,e1,h1⟩:=qO (lim:=H.length) hlk g hl hr;rw [if_pos hc] at h1;obtain ⟨Fc,rfl,hF⟩:=h1;rw [e1] at k1;obtain ⟨v2,g2,k2,e2,h2⟩:=yR (lim:=H.length) hlk g hl hr;rw [if_pos hc] at h2;obtain ⟨Gc,rfl,hG⟩:=h2;rw [e2] at k2;have ko:=fun (K L:Nat) (cs:List AV) (hK:K<=(tbH H cs).length) (p:Pr) (hp:p∈g.ps)=>
  sJ (lk:=K) (lim:=L) (H:=tbH H cs) hK g hl hr hF p.r (hr p hp) (by rw [(aJ ok).len];have:=ok.n2;omega)
   fun _=>⟨(cP ok (aJ ok) (ok.p p hp)).2.1,(cP ok (aJ ok) (ok.p p hp)).2.2⟩
 have kc:=fun (L:Nat) (cs:List AV) (va vb:AV) (a b:List (List UInt8)) (ha:RV va a) (hb:RV vb b) h3 h4 h5 h6=>j3 (lk:=lk) (lim:=L) (H:=tbH H cs) (Nat.le_trans hlk (Ak H cs)) g.k ha hb h3 h4 h5 h6;refine dD [1,2,5,7] rfl A46 rfl rfl ?_;unfold Nt;have hll:∀{p:Pr},p∈g.ps->(cQ g p).length<=1000000:=fun hp=>jE ok (List.mem_map.2 ⟨_,hp,rfl⟩);have hoo:∀p∈g.ps,OfOk g (setsM g) p.r:=fun p hp=>⟨hc,by rw [(aJ ok).len];have:=ok.n1;omega,by
  rw [List.any_eq_false];intro s hs;have:=(ok.p p hp).s s hs;simp only [du,Bool.or_eq_true,decide_eq_true_eq,not_or];omega⟩
 have kcc:∀(L:Nat) (cs:List AV) (p:Pr) (hp:p∈g.ps) (vb:AV),RV vb ((cM g).getD p.l.toNat [])->aj X A lk L 67 [I g.k,rV (ofM g (setsM g) p.r),vb] (tbH H cs)=some (rV (cat g.k.toNat (ofM g (setsM g) p.r) ((cM g).getD p.l.toNat [])),tbH H cs):=fun L cs p hp vb hv=>
  kc L cs _ _ _ _ (dE _) hv (by
   have:=(cP ok (aJ ok) (ok.p p hp)).2.1 p.r.length;rw [List.take_length] at this;exact this.1) (Nat.le_trans (((eV ok).get _).size ok) (by decide)) (by
   have:=(cP ok (aJ ok) (ok.p p hp)).2.1 p.r.length;rw [List.take_length] at this;exact this.2) (mG ok ((eV ok).get _))
 have hGl:Gc.length=g.n.toNat:=by rw [hG.1,(eV ok).len]
 have hGg:∀p∈g.ps,∃v,Gc[p.l.toNat]?=some v/\RV v ((cM g).getD p.l.toNat []):=fun p hp=>hG.get (by rw [(eV ok).len];have:=(ok.p p hp).l1;have:=(ok.p p hp).l0;omega)
 have hlk2:(aK g).length=g.ps.length:=fA g;have hlg:∀(i:Nat) (h:i < g.ps.length),(aK g)[i]?=some (cQ g g.ps[i]):=fun i h=>by simp [aK,h]
 have kof:∀(K L:Nat) (cs:List AV),K<=(tbH H cs).length->∀(p:Pr),p∈g.ps->aj X A K L 68 [gV g,.sl Fc.length Fc,.sl p.r.length (ints p.r)] (tbH H cs)=some (rV (ofM g (setsM g) p.r),tbH H cs):=fun K L cs hK p hp=>by
  have:=ko K L cs hK p hp
  rwa [if_pos (hoo p hp)] at this
 have hcv:∀p,RV (rV (cat g.k.toNat (ofM g (setsM g) p.r) ((cM g).getD p.l.toNat []))) (cQ g p):=fun p=>dE _;generalize aK g=M at hlk2 hlg |-;generalize hlp:(fun p:Pr=>cQ g p)=LP at *;clear ko kc hoo hll hG;obtain ⟨t,n,k,ps⟩:=g;obtain ⟨t1,t2,n1,n2,k1',k2',l1,l2,okp⟩:=ok;simp only at t1 t2 n1 n2 k1' k2' l1 l2 okp hGl hGg hlk2 hlg;simp only [gV,Gm.cells] at k1 k2 kof kcc;generalize aj X A=C at k1 k2 kof kcc |-;simp [k1,k2,Gm.cells]
 let bx:AV:=.box [I t,I n,I k,.sl ps.length (psC ps)]
 refine ax (σ:=Nat×List AV) (fun s=>[(1,bx),(2,.box [.e0]),(3,.sl Fc.length Fc),(4,.sl Gc.length Gc),(5,.box [tbV H s.2]),(6,I s.1)]) (fun s=>tbH H s.2)
  (fun s=>s.1<=ps.length/\SC s.2 (M.take s.1)) (fun s=>ps.length - s.1) ?_ (0,[]) ⟨Nat.zero_le _,rfl,fun j v h=>by simp at h⟩ (by simp [bx,tbV]) (by simp [tbH])
 rintro ⟨i,cs⟩ ⟨hi,hcs⟩;simp only at hi hcs;have hcl:cs.length=i:=by rw [hcs.1];simp;omega
 unfold JM;have w1:IntKind.i64.wrap ((i:Int)+1)=(i:Int)+1:=au (by omega) (by omega)
 have hro1:24<=aM:=by unfold aM;omega
 have hro:(cs.length+1) * 24<=aM:=by unfold aM;omega
 by_cases hil:i < ps.length;case neg=>
  obtain rfl:i=ps.length:=by omega
  rw [List.take_of_length_le (by omega)] at hcs
  have h0:¬cs=[]:=fun e=>by subst e;simp at hcl;omega
  have hfz:=fun d=>(iR H.length (H++[.cells cs]) d hcs).1;have hbl:=(iR H.length (H++[.cells cs]) 0 hcs).2;simp [bx,tbV,tbH,h0];simp [bt,hbl,hfz];exact ⟨_,_,⟨rfl,rfl⟩,rfl,cs,rfl,hcs⟩
 have hs:=cd hil;have hll:=aY ps;have h2:i * 2+2<=2 * ps.length:=by omega
 have hpm:=List.getElem_mem hil;have hMi:=hlg i hil;obtain ⟨v,hv1,hv2⟩:=hGg _ hpm;have hco:=fun K L hK=>kof K L cs hK _ hpm;have hcc:=fun L=>kcc L cs _ hpm v hv2;have hr2:=hcv ps[i];have ho2:=dE (ofM ⟨t,n,k,ps⟩ (setsM ⟨t,n,k,ps⟩) ps[i].r);have hpl0:=(okp _ hpm).l0;generalize rV (ofM ⟨t,n,k,ps⟩ (setsM ⟨t,n,k,ps⟩) ps[i].r)=O at hco hcc ho2;generalize rV (cat k.toNat (ofM ⟨t,n,k,ps⟩ (setsM ⟨t,n,k,ps⟩) ps[i].r) ((cM ⟨t,n,k,ps⟩).getD ps[i].l.toNat []))=R at hcc hr2;generalize ofM ⟨t,n,k,ps⟩ (setsM ⟨t,n,k,ps⟩) ps[i].r=oL at ho2;generalize (cM ⟨t,n,k,ps⟩).getD ps[i].l.toNat []=vL at hv2;generalize cQ ⟨t,n,k,ps⟩ ps[i]=rL at hr2 hMi;generalize ps[i]=p at hs hco hv1 hpl0 hpm;obtain ⟨pl,pr⟩:=p;simp only [Pr.cells] at hs hv1 hpl0 hco;obtain ⟨pl,rfl⟩:=Int.eq_ofNat_of_zero_le hpl0;simp only [Int.toNat_natCast] at hv1;have hpn:pl < Gc.length:=(List.getElem?_eq_some_iff.1 hv1).1;have done:∀(E:Env) (H':Heap),E=[(1,bx),(2,.box [.e0]),(3,.sl Fc.length Fc),(4,.sl Gc.length Gc),(5,.box [tbV H (cs++[R])]),(6,I ((i:Int)+1))]->H'=tbH H (cs++[R])->
  ∃s:Nat×List AV,(s.1<=ps.length/\SC s.2 (M.take s.1))/\ps.length - s.1 < ps.length - i/\E=[(1,bx),(2,.box [.e0]),(3,.sl Fc.length Fc),(4,.sl Gc.length Gc),(5,.box [tbV H s.2]),(6,I s.1)]/\H'=tbH H s.2:=fun E H' h1 h2=>
   ⟨(i+1,cs++[R]),⟨by simp only;omega,by
    simp only;rw [List.take_add_one,hMi];exact Aj hcs hr2⟩,by simp only;omega,by rw [h1];simp,h2⟩
 have hR:=aC hr2;clear hMi hcs hr2 kof kcc hlg hGg;have hvE:∀h,Gc[pl]'h=v:=fun h=>(List.getElem?_eq_some_iff.1 hv1).2;by_cases h0:cs=[]
 ·subst h0;simp only [tbV,tbH,if_true] at hco hcc;rcases aC ho2 with rfl | rfl<;>rcases aC hv2 with rfl | rfl<;>rcases hR with rfl | rfl;all_goals
   simp [bx,hil,hs,hll,h2,an,hco,hvE,hpn,tbV,tbH,hcc,aN,hro1,dG,w1];rw [ao];refine done _ _ ?_ ?_
   ·simp [bx,tbV]
   ·simp [tbH]
 ·simp only [tbV,tbH,if_neg h0] at hco hcc;rcases aC ho2 with rfl | rfl<;>rcases aC hv2 with rfl | rfl<;>rcases hR with rfl | rfl;all_goals
   simp [bx,hil,hs,hll,h2,an,hco,hvE,hpn,tbV,tbH,h0,hcc,aN,hro,dG,cS,eh,aR,hlk,w1];rw [ao];refine done _ _ ?_ ?_
   ·simp [bx,tbV]
   ·simp [tbH]

theorem Ci (y:List UInt8)(b:List (List UInt8))(x:List UInt8):ct (y::b) x=(x==y||ct b x):=rfl
theorem lG:∀(k:Nat) (a b:List (List UInt8)),Up a->Up b->a.length+b.length<=k->e9 k a b=a.find? fun x=>ct b x
 | 0,a,b,_,_,hk=>by
  have:a=[]:=List.eq_nil_of_length_eq_zero (by omega)
  subst this;rfl
 | k+1,[],b,_,_,_=>rfl
 | k+1,y::a,[],_,_,_=>by
  rw [List.find?_eq_none.2 fun x _=>by simp [ct]]
  rfl
 | k+1,y::a,z::b,ha,hb,hk=>by
  have ha2:=List.pairwise_cons.1 ha;have hb2:=List.pairwise_cons.1 hb;unfold e9;by_cases he:y=z
  ·subst he;rw [if_pos rfl,List.find?_cons_of_pos];simp [ct]
  ·rw [if_neg he];by_cases hl:Op.bytesLess y z=true
   ·rw [if_pos hl,lG k _ _ ha2.2 hb (by simp at hk |-;omega),List.find?_cons_of_neg]
    intro hh;rw [mz] at hh;rcases List.mem_cons.1 hh with h1 | h1
    ·exact he h1
    ·have h2:=fq hl;rw [hb2.1 y h1] at h2;cases h2
   ·rw [if_neg hl,lG k _ _ ha hb2.2 (by simp at hk |-;omega)]
    have hzl:Op.bytesLess z y=true:=by
     rcases fQ y z with h1 | h1 | h1
     ·exact absurd h1 hl
     ·exact absurd h1 he
     ·exact h1
    have hne:∀x∈y::a,ct (z::b) x=ct b x:=fun x hx=>by
     rw [Ci];have:(x==z)=false:=by
      rw [beq_eq_false_iff_ne];intro e;subst e;rcases List.mem_cons.1 hx with h1 | h1
      ·exact he h1.symm
      ·have h2:=fq hzl;rw [ha2.1 x h1] at h2;cases h2
     rw [this,Bool.false_or]
    have key:∀l:List (List UInt8),(∀x∈l,ct (z::b) x=ct b x)->l.find? (fun x=>ct b x)=l.find? (fun x=>ct (z::b) x):=by
     intro l;induction l with
     | nil=>intro _;rfl
     | cons c l ih=>
      intro h;simp only [List.find?_cons,h c (List.mem_cons_self ..),ih fun x hx=>h x (List.mem_cons_of_mem _ hx)]
    exact key _ hne
theorem zb {a b:List (List UInt8)}(ha:Up a)(hb:Up b):bK a b=a.find? fun x=>ct b x:=lG _ _ _ ha hb (Nat.le_refl _)
def d3 (S:Ss)(c:Nat->Bool)(a:Nat):List Nat->Option (Nat×List UInt8)
 | []=>none
 | b::r=>if (c a&&c b)=true then (match (S.getD a []).find? (fun x=>ct (S.getD b []) x) with
  | some x=>some (b,x)
  | none=>d3 S c a r) else d3 S c a r
def d2 (S:Ss)(c:Nat->Bool):List Nat->Option (Nat×Nat×List UInt8)
 | []=>none
 | a::r=>match d3 S c a r with
  | some (b,x)=>some (a,b,x)
  | none=>d2 S c r
def d1 (S:Ss)(ps:List Pr):Nat->Nat->Option (Nat×Nat×Nat×List UInt8)
 | 0,_=>none
 | k+1,left=>match d2 S (fun i=>decide ((ps.getD i ⟨0,[]⟩).l=left)) (List.range ps.length) with
  | some (a,b,x)=>some (left,a,b,x)
  | none=>d1 S ps k (left+1)
theorem Ku {S:Ss}(hS:∀i,Up (S.getD i [])){c:Nat->Bool}{a:Nat}(ha:c a=true):∀l:List Nat,eP S a (l.filter c)=d3 S c a l
 | []=>rfl
 | b::r=>by
  have ih:=Ku hS ha r;unfold d3;rw [ha,Bool.true_and];cases hb:c b with
  | true=>rw [List.filter_cons_of_pos hb,if_pos rfl,eP,zb (hS a) (hS b),ih];rfl
  | false=>rw [List.filter_cons_of_neg (by simp [hb]),if_neg (by simp),ih]
theorem Aq (S:Ss){c:Nat->Bool}{a:Nat}(ha:c a=false):∀l:List Nat,d3 S c a l=none
 | []=>rfl
 | b::r=>by
  unfold d3;rw [ha,Bool.false_and,if_neg (by simp),Aq S ha r]
theorem Kv {S:Ss}(hS:∀i,Up (S.getD i []))(c:Nat->Bool):∀l:List Nat,bM S (l.filter c)=d2 S c l
 | []=>rfl
 | a::r=>by
  have ih:=Kv hS c r;unfold d2;cases ha:c a with
  | true=>rw [List.filter_cons_of_pos ha,bM,Ku hS ha,ih];rfl
  | false=>rw [List.filter_cons_of_neg (by simp [ha]),Aq S ha,ih]
theorem Kw {S:Ss}(hS:∀i,Up (S.getD i []))(ps:List Pr):∀k left,en (ps.map unP) S k left=d1 S ps k left
 | 0,_=>rfl
 | k+1,left=>by
  unfold en d1;rw [mL,Kw hS ps k (left+1)];unfold ofN;rw [Kv hS];rfl
theorem I7 {g:Gm}(hg:GOk g)(i:Nat):Up ((aK g).getD i []):=by
 rw [List.getD_eq_getElem?_getD];cases h:(aK g)[i]? with
 | none=>exact List.Pairwise.nil
 | some l=>
  obtain ⟨p,hp,rfl⟩:=List.mem_map.1 (List.mem_of_getElem? h);exact (pp hg hp).up
end Go.Proofs.YtkllbcjanneppaaGreat
