import Derived.Test.YtkllbcjanneppaaGreatGK
import Derived.Test.YtkllbcjanneppaaGreatGN
set_option maxRecDepth 20000
set_option linter.all false
namespace Go.Proofs.YtkllbcjanneppaaGreat
open Go Go.Hm

theorem w6 {α:Type}{S T:List α}{i:Nat}(hS:i<S.length)(hT:i<T.length)(h:S=T↔S.drop i=T.drop i):(S[i]=T[i]->(S=T↔S.drop (i+1)=T.drop (i+1)))/\(S[i]≠T[i]->S≠T):=by
 rw[List.drop_eq_getElem_cons hS,List.drop_eq_getElem_cons hT,List.cons.injEq]at h;exact⟨fun e=>by rw[h];simp[e],fun e e2=>e (by simp only[e2])⟩
theorem w8 {α:Type}{S T:List α}(h:S=T↔S.drop S.length=T.drop S.length)(hl:S.length=T.length):S=T:=by
 rw[h,List.drop_length,hl,List.drop_length]
theorem uQ {lk lim:Nat}{H:Heap}{va vb:AV}{a b:List (List UInt8)}(hva:RV va a)(hvb:RV vb b)(hla:a.length<=1000000000):aj X A lk lim 62 [va,vb] H=some (Bo (decide (a=b)),H):=by
 refine ar [] rfl A62 rfl (by simp only[List.all_cons,List.all_nil,Fg hva,Fg hvb,Bool.and_self]) ?_
 unfold Oa;generalize aj X A=C;by_cases hl:a.length=b.length;case neg=>
  have hne:¬a=b:=fun e=>hl (by rw[e])
  have h1:¬(a.length:Int)=b.length:=by omega
  have h2:((a.length:Int) != b.length)=true:=by rw[bne_iff_ne];exact h1
  rcases hva with rfl | ⟨rfl,rfl⟩<;>rcases hvb with rfl | ⟨rfl,rfl⟩
  ·simp[h2,h1,hne]
  ·simp at h2 hl;simp[hl]
  ·have hb:¬b=[]:=fun e=>by subst e;simp at hl
   have h3:((0:Int) != b.length)=true:=by simpa using h2
   have hbn:¬[]=b:=fun e=>hb e.symm;simp[h3,hbn]
   trace_state
  ·simp at hl
 have h2:((a.length:Int) != b.length)=false:=by rw[bne_eq_false_iff_eq];omega
 obtain⟨r,hr⟩:∃r,decide (a=b)=r:=⟨_,rfl⟩;rw[hr];have main:∀E,ab [0,1,12,13] E=[(0,va),(1,vb),(12,I a.length),(13,I 0)]->WB ⟨C,lk,H.length,[]⟩ (.block 0 (.loop [0,1,12,13] EJ)) (Fol ⟨C,lk,H.length,[]⟩ (.seq (.regN [] [⟨some 4,none,.mv (.con (.val (.bool true))),0,false⟩]) .ret) (oO [.tmp 4] true H (Bo r,H))) E H:=by
  intro E hE;rw[ap];refine ax (σ:=Nat) (fun i=>[(0,va),(1,vb),(12,I a.length),(13,I i)]) (fun _=>H) (fun i=>i<=a.length/\(a=b↔a.drop i=b.drop i)) (fun i=>a.length-i) ?_ 0 ⟨Nat.zero_le _,by simp⟩ hE rfl
  rintro i ⟨hi,hinv⟩;unfold EJ;have w1:IntKind.i64.wrap ((i:Int)+1)=(i:Int)+1:=au (by omega) (by omega)
  by_cases hil:i<a.length;case neg=>
   obtain rfl:i=a.length:=by omega
   have:=w8 hinv hl;rw[decide_eq_true this]at hr;subst hr;rcases hva with rfl | ⟨rfl,rfl⟩<;>rcases hvb with rfl | ⟨rfl,rfl⟩<;>simp
  have hib:i<b.length:=by omega
  obtain⟨d1,d2⟩:=w6 hil hib hinv;have ga:=bE hil;have gb:=bE hib;rcases hva with rfl | ⟨rfl,rfl⟩;case inr=>simp at hil
  rcases hvb with rfl | ⟨rfl,rfl⟩;case inr=>simp at hib
  by_cases he:a[i]=b[i]
  ·have hq:=uz a[i] b[i];rw[show (!(a[i]==b[i]))=false by simp[he]]at hq
   simp[hil,hib,ga,gb,hq,w1,ao];exact⟨i+1,⟨by omega,d1 he⟩,by omega,by simp⟩
  ·have hq:=uz a[i] b[i];rw[show (!(a[i]==b[i]))=true by simp[he]]at hq
   rw[decide_eq_false (d2 he)]at hr;subst hr;simp[hil,hib,ga,gb,hq]
 have h3:(a.length:Int)=b.length:=by omega
 rcases hva with rfl | ⟨rfl,rfl⟩<;>rcases hvb with rfl | ⟨rfl,rfl⟩
 ·simp[-ap,<-h3];refine main _ ?_;simp
 ·have:a=[]:=List.eq_nil_of_length_eq_zero hl;subst this;simp[-ap];refine main _ ?_;simp
 ·have:b=[]:=List.eq_nil_of_length_eq_zero hl.symm;subst this;simp[-ap];refine main _ ?_;simp
 ·simp[-ap];refine main _ ?_;simp

theorem F4 {v:AV}{S:Ss}(h:TV v S):a7 v=true:=by
 rcases h with⟨rfl,_⟩ | ⟨cs,rfl,_⟩<;>rfl
theorem uR {S:Ss}{i:Nat}(h:i<S.length):S.getD i []=S[i]:=by
 rw[R3,R4 h];rfl
theorem za {lk lim:Nat}{H:Heap}{ta tb:AV}{S T:Ss}(hta:TV ta S)(htb:TV tb T)(hla:S.length<=1000000000)(hl1:∀l∈S,l.length<=1000000000):aj X A lk lim 61 [ta,tb,.fn 62 []] H=some (Bo (decide (S=T)),H):=by
 have ke:=fun (L:Nat) (va vb:AV) (a b:List (List UInt8)) (ha:RV va a) (hb:RV vb b) (h:a.length<=1000000000)=>uQ (lk:=lk) (lim:=L) (H:=H) ha hb h;refine ar [] rfl A61 rfl (by simp only[List.all_cons,List.all_nil,F4 hta,F4 htb,Bool.and_self];rfl) ?_
 unfold N9;generalize aj X A=C at ke |-;by_cases hl:S.length=T.length;case neg=>
  have hne:¬S=T:=fun e=>hl (by rw[e])
  have hne2:decide (S=T)=false:=decide_eq_false hne;rw[hne2];rcases hta.len with⟨rfl,h1⟩ | ⟨cs,rfl,h1⟩<;>rcases htb.len with⟨rfl,h2⟩ | ⟨ds,rfl,h2⟩
  ·omega
  ·have h3:((0:Int) != ds.length)=true:=by rw[bne_iff_ne];omega
   have h4:¬ds=[]:=fun e=>by subst e;simp at h2;omega
   simp[h3,h4]
  ·have h3:((cs.length:Int) != 0)=true:=by rw[bne_iff_ne];omega
   have h4:¬cs=[]:=fun e=>by subst e;simp at h1;omega
   simp[h3,h4]
  ·have h3:((cs.length:Int) != ds.length)=true:=by rw[bne_iff_ne];omega
   have h4:¬(cs.length:Int)=ds.length:=by omega
   simp[h3,h4]
 obtain⟨r,hr⟩:∃r,decide (S=T)=r:=⟨_,rfl⟩;rw[hr];have main:∀E,ab [1,2,15,16,17] E=[(1,tb),(2,.fn 62 []),(15,ta),(16,I S.length),(17,I 0)]->WB ⟨C,lk,H.length,[]⟩ (.block 0 (.loop [1,2,15,16,17] EI)) (Fol ⟨C,lk,H.length,[]⟩ (.seq (.regN [] [⟨some 6,none,.mv (.con (.val (.bool true))),0,false⟩]) .ret) (oO [.tmp 6] true H (Bo r,H))) E H:=by
  intro E hE;rw[ap];refine ax (σ:=Nat) (fun i=>[(1,tb),(2,.fn 62 []),(15,ta),(16,I S.length),(17,I i)]) (fun _=>H) (fun i=>i<=S.length/\(S=T↔S.drop i=T.drop i)) (fun i=>S.length-i) ?_ 0 ⟨Nat.zero_le _,by simp⟩ hE rfl
  rintro i ⟨hi,hinv⟩;unfold EI;have w1:IntKind.i64.wrap ((i:Int)+1)=(i:Int)+1:=au (by omega) (by omega)
  by_cases hil:i<S.length;case neg=>
   obtain rfl:i=S.length:=by omega
   have:=w8 hinv hl;rw[decide_eq_true this]at hr;subst hr;rcases hta.len with⟨rfl,h1⟩ | ⟨cs,rfl,h1⟩<;>rcases htb.len with⟨rfl,h2⟩ | ⟨ds,rfl,h2⟩<;>simp
  have hib:i<T.length:=by omega
  obtain⟨d1,d2⟩:=w6 hil hib hinv;rcases hta with⟨rfl,rfl⟩ | ⟨cs,rfl,hs⟩
  ·simp at hil
  rcases htb with⟨rfl,rfl⟩ | ⟨ds,rfl,ht⟩
  ·simp at hib
  obtain⟨va,ga,ra⟩:=hs.get hil;obtain⟨vb,gb,rb⟩:=ht.get hib;have hci:i<cs.length:=by rw[hs.1];exact hil
  have hdi:i<ds.length:=by rw[ht.1];exact hib
  rw[uR hil]at ra;rw[uR hib]at rb;have ke:=fun L=>ke L va vb _ _ ra rb (hl1 _ (List.getElem_mem hil));have gaE:∀h,cs[i]'h=va:=fun h=>(List.getElem?_eq_some_iff.1 ga).2;have gbE:∀h,ds[i]'h=vb:=fun h=>(List.getElem?_eq_some_iff.1 gb).2;by_cases he:S[i]=T[i]
  ·rw[decide_eq_true he]at ke;have d1:=d1 he;generalize S[i]=a at ra;generalize T[i]=b at rb;rcases aC ra with rfl | rfl<;>rcases aC rb with rfl | rfl;all_goals
    simp[hil,hci,hdi,gaE,gbE,ke,w1,ao];exact⟨i+1,⟨by omega,d1⟩,by omega,by simp⟩
  ·rw[decide_eq_false he]at ke;rw[decide_eq_false (d2 he)]at hr;subst hr;clear he d1 d2;generalize S[i]=a at ra;generalize T[i]=b at rb;rcases aC ra with rfl | rfl<;>rcases aC rb with rfl | rfl;all_goals
    simp[hil,hci,hdi,gaE,gbE,ke]
 rcases hta.len with⟨rfl,h1⟩ | ⟨cs,rfl,h1⟩<;>rcases htb.len with⟨rfl,h2⟩ | ⟨ds,rfl,h2⟩
 ·rw[h1]at main;simp[-ap];refine main _ ?_;simp
 ·have:ds=[]:=List.eq_nil_of_length_eq_zero (by omega)
  subst this;rw[h1]at main;simp[-ap];refine main _ ?_;simp
 ·have:cs=[]:=List.eq_nil_of_length_eq_zero (by omega)
  subst this;rw[<-h1]at main;simp[-ap];refine main _ ?_;simp
 ·have h3:(cs.length:Int)=ds.length:=by omega
  rw[<-h1]at main;simp[-ap,<-h3];refine main _ ?_;simp
theorem w9 {lk lim:Nat}{H:Heap}{ta tb:AV}{S T:Ss}(hta:TV ta S)(htb:TV tb T)(hla:S.length<=1000000000)(hl1:∀l∈S,l.length<=1000000000):aj X A lk lim 44 [.agg [ta],.agg [tb]] H=some (Bo (decide (S=T)),H):=by
 have ke:=fun (L:Nat)=>za (lk:=lk) (lim:=L) (H:=H) hta htb hla hl1;refine ar [2,3] rfl A44 rfl rfl ?_;unfold N8;generalize aj X A=C at ke |-;rcases hta.len with⟨rfl,h1⟩ | ⟨cs,rfl,h1⟩<;>rcases htb.len with⟨rfl,h2⟩ | ⟨ds,rfl,h2⟩;all_goals simp[ke]

theorem Qw {C:Orc}{Q:Ex->Kt}{E:Env}{lk L:Nat}{H:Heap}{cs ds:List AV}{j:Nat}{va vb:AV}{a b:List (List UInt8)}(ga:cs[j]?=some va)(gb:ds[j]?=some vb)(ra:RV va a)(rb:RV vb b)(hl:a.length=b.length)(hla:a.length<=1000000000)
  (hE:ab [2,3,5,6] E=[(2,.box [.sl cs.length cs]),(3,.box [.sl ds.length ds]),(5,I j),(6,I 0)])
  (hQ:a=b->∀E',ab [2,3,5] E'=[(2,.box [.sl cs.length cs]),(3,.box [.sl ds.length ds]),(5,I j)]->Q .nrm E' H) (hR:¬a=b->∀E',E'=[(4,Bo false)]->Q .ret E' H):
  WB ⟨C,lk,L,[2,3]⟩ (.block 2 (.loop [2,3,5,6] QW)) Q E H:=by
 have hci:j<cs.length:=(List.getElem?_eq_some_iff.1 ga).1;have hdi:j<ds.length:=(List.getElem?_eq_some_iff.1 gb).1;have gaE:∀h,cs[j]'h=va:=fun h=>(List.getElem?_eq_some_iff.1 ga).2;have gbE:∀h,ds[j]'h=vb:=fun h=>(List.getElem?_eq_some_iff.1 gb).2;rw[ap];refine ax (σ:=Nat) (fun i=>[(2,.box [.sl cs.length cs]),(3,.box [.sl ds.length ds]),(5,I j),(6,I i)]) (fun _=>H) (fun i=>i<=a.length/\(a=b↔a.drop i=b.drop i)) (fun i=>a.length-i) ?_ 0 ⟨Nat.zero_le _,by simp⟩ hE rfl
 rintro i ⟨hi,hinv⟩;unfold QW;have w1:IntKind.i64.wrap ((i:Int)+1)=(i:Int)+1:=au (by omega) (by omega)
 by_cases hil:i<a.length;case neg=>
  obtain rfl:i=a.length:=by omega
  have hab:=w8 hinv hl;have hQ1:=hQ hab;clear hQ hR hinv;rcases ra with rfl | ⟨rfl,rfl⟩<;>rcases rb with rfl | ⟨rfl,rfl⟩;all_goals
   simp[hci,hdi,gaE,gbE];refine hQ1 _ ?_;rfl
 have hib:i<b.length:=by omega
 obtain⟨d1,d2⟩:=w6 hil hib hinv;have xa:=bE hil;have xb:=bE hib;rcases ra with rfl | ⟨rfl,rfl⟩;case inr=>simp at hil
 rcases rb with rfl | ⟨rfl,rfl⟩;case inr=>simp at hib
 by_cases he:a[i]=b[i]
 ·have hq:=uz a[i] b[i];rw[show (!(a[i]==b[i]))=false by simp[he]]at hq
  have d1:=d1 he;simp[hil,hib,hci,hdi,gaE,gbE,xa,xb,hq,w1,ao];exact⟨i+1,⟨by omega,d1⟩,by omega,by simp⟩
 ·have hq:=uz a[i] b[i];rw[show (!(a[i]==b[i]))=true by simp[he]]at hq
  have hR:=hR (d2 he);simp[hil,hib,hci,hdi,gaE,gbE,xa,xb,hq];refine hR _ ?_;rfl
theorem QC {lk lim:Nat}{H:Heap}{ta tb:AV}{S T:Ss}(hta:TV ta S)(htb:TV tb T)(hla:S.length<=1000000000)(hl1:∀l∈S,l.length<=1000000000):aj X A lk lim 54 [.agg [ta],.agg [tb]] H=some (Bo (decide (S=T)),H):=by
 refine ar [2,3] rfl A54 rfl rfl ?_;unfold Rs;generalize aj X A=C;by_cases hl:S.length=T.length;case neg=>
  have hne:¬S=T:=fun e=>hl (by rw[e])
  have hne2:decide (S=T)=false:=decide_eq_false hne;rw[hne2];rcases hta.len with⟨rfl,h1⟩ | ⟨cs,rfl,h1⟩<;>rcases htb.len with⟨rfl,h2⟩ | ⟨ds,rfl,h2⟩
  ·omega
  ·have h3:((0:Int) != ds.length)=true:=by rw[bne_iff_ne];omega
   have h4:¬ds=[]:=fun e=>by subst e;simp at h2;omega
   simp[h3,h4]
  ·have h3:((cs.length:Int) != 0)=true:=by rw[bne_iff_ne];omega
   have h4:¬cs=[]:=fun e=>by subst e;simp at h1;omega
   simp[h3,h4]
  ·have h3:((cs.length:Int) != ds.length)=true:=by rw[bne_iff_ne];omega
   have h4:¬(cs.length:Int)=ds.length:=by omega
   simp[h3,h4]
 obtain⟨r,hr⟩:∃r,decide (S=T)=r:=⟨_,rfl⟩;rw[hr];have main:∀E,ab [2,3,5] E=[(2,.box [ta]),(3,.box [tb]),(5,I 0)]->WB ⟨C,lk,H.length,[2,3]⟩ (.block 0 (.loop [2,3,5] QX)) (Fol ⟨C,lk,H.length,[2,3]⟩ (.seq (.regN [] [⟨some 4,none,.mv (.con (.val (.bool true))),0,false⟩]) .ret) (oO [.tmp 4] true H (Bo r,H))) E H:=by
  intro E hE;rw[ap];refine ax (σ:=Nat) (fun i=>[(2,.box [ta]),(3,.box [tb]),(5,I i)]) (fun _=>H) (fun i=>i<=S.length/\(S=T↔S.drop i=T.drop i)) (fun i=>S.length-i) ?_ 0 ⟨Nat.zero_le _,by simp⟩ hE rfl
  rintro i ⟨hi,hinv⟩;unfold QX;have w1:IntKind.i64.wrap ((i:Int)+1)=(i:Int)+1:=au (by omega) (by omega)
  by_cases hil:i<S.length;case neg=>
   obtain rfl:i=S.length:=by omega
   have:=w8 hinv hl;rw[decide_eq_true this]at hr;subst hr;rcases hta.len with⟨rfl,h1⟩ | ⟨cs,rfl,h1⟩
   ·rw[h1];rcases htb.len with⟨rfl,h2⟩ | ⟨ds,rfl,h2⟩<;>simp
   ·rw[<-h1];rcases htb.len with⟨rfl,h2⟩ | ⟨ds,rfl,h2⟩<;>simp
  have hib:i<T.length:=by omega
  obtain⟨d1,d2⟩:=w6 hil hib hinv;rcases hta with⟨rfl,rfl⟩ | ⟨cs,rfl,hs⟩
  ·simp at hil
  rcases htb with⟨rfl,rfl⟩ | ⟨ds,rfl,ht⟩
  ·simp at hib
  obtain⟨va,ga,ra⟩:=hs.get hil;obtain⟨vb,gb,rb⟩:=ht.get hib;have hci:i<cs.length:=by rw[hs.1];exact hil
  have hdi:i<ds.length:=by rw[ht.1];exact hib
  rw[uR hil]at ra;rw[uR hib]at rb;have gaE:∀h,cs[i]'h=va:=fun h=>(List.getElem?_eq_some_iff.1 ga).2;have gbE:∀h,ds[i]'h=vb:=fun h=>(List.getElem?_eq_some_iff.1 gb).2;have hlsi:=hl1 _ (List.getElem_mem hil);generalize hSi:S[i]=a at ra d1 d2 hlsi;generalize hTi:T[i]=b at rb d1 d2;have ra':=ra;have rb':=rb;by_cases hab:a.length=b.length
  ·have hb2:((a.length:Int) != b.length)=false:=by rw[bne_eq_false_iff_eq];omega
   have h3:(a.length:Int)=b.length:=by omega
   rw[ai,ai,ae];simp[-ak,-af,-aB,-ae,hil,hs.1];rw[ak rfl,aA,ah,ai,ap,ai,ai,aB rfl];have hs1:cs.length=S.length:=hs.1;rcases ra with rfl | ⟨rfl,rfl⟩<;>rcases rb with rfl | ⟨rfl,rfl⟩;case inr.inl=>
    have hb0:b=[]:=List.eq_nil_of_length_eq_zero (by simpa using hab.symm)
    subst hb0;simp[-ak,-af,-ap,-ae,hil,hci,hdi,gaE,gbE,<-hs1];rw[af rfl,aA,ah,ai,ae];simp[-ap];refine Qw ga gb ra' rb' hab hlsi (by simp) (fun he E' h5=>?_) (fun he E' h5=>?_)
    ·simp only[a6,ah];rw[ae,h5];have d1:=d1 he;simp[w1,ao];exact⟨i+1,⟨by omega,d1⟩,by omega,by simp⟩
    ·exact absurd rfl he
   all_goals
    first
     | (have ha0:a=[]:=List.eq_nil_of_length_eq_zero (by simpa using hab);subst ha0)
     | skip
    simp[-ak,-af,-ap,-ae,hil,hci,hdi,gaE,gbE,hb2,<-hs1];rw[af rfl,aA,ah,ai,ae];simp[-ap];refine Qw ga gb ra' rb' hab hlsi (by simp) (fun he E' h5=>?_) (fun he E' h5=>?_)
    ·simp only[a6,ah];rw[ae,h5];have d1:=d1 he;simp[w1,ao];exact⟨i+1,⟨by omega,d1⟩,by omega,by simp⟩
    ·subst h5;rw[decide_eq_false (d2 he)]at hr;subst hr;simp
  ·have hb2:((a.length:Int) != b.length)=true:=by rw[bne_iff_ne];omega
   have hb3:¬(a.length:Int)=b.length:=by omega
   have hne:¬a=b:=fun e=>hab (by rw[e])
   rw[decide_eq_false (d2 hne)]at hr;subst hr;clear d1 d2 hinv;rcases ra with rfl | ⟨rfl,rfl⟩<;>rcases rb with rfl | ⟨rfl,rfl⟩
   ·simp[hil,hci,hdi,gaE,gbE,hb2,hb3]
   ·simp at hab;simp at hb2;simp[hil,hci,hdi,gaE,gbE,hab]
   ·have hbn:¬b=[]:=fun e=>hab (by rw[e])
    have h6:((0:Int) != b.length)=true:=by rw[bne_iff_ne];have:=List.length_pos_iff.2 hbn;omega
    simp[hil,hci,hdi,gaE,gbE,h6,hbn]
   ·simp at hab
 rcases hta.len with⟨rfl,h1⟩ | ⟨cs,rfl,h1⟩<;>rcases htb.len with⟨rfl,h2⟩ | ⟨ds,rfl,h2⟩
 ·simp[-ap,-ak,-af];rw[af rfl,aA,ah,ai,ai,ae];simp[-ap];refine main _ ?_;simp
 ·have:ds=[]:=List.eq_nil_of_length_eq_zero (by omega)
  subst this;simp[-ap,-ak,-af];rw[af rfl,aA,ah,ai,ai,ae];simp[-ap];refine main _ ?_;simp
 ·have:cs=[]:=List.eq_nil_of_length_eq_zero (by omega)
  subst this;simp[-ap,-ak,-af];rw[af rfl,aA,ah,ai,ai,ae];simp[-ap];refine main _ ?_;simp
 ·have h3:((cs.length:Int) != ds.length)=false:=by rw[bne_eq_false_iff_eq];omega
  simp[-ap,-ak,-af,h3];rw[af rfl,aA,ah,ai,ai,ae];simp[-ap];refine main _ ?_;simp

def A7 (c:Nat->Bool)(S:Ss)(row:List UInt8):List Nat->Int
 | []=>-1
 | i::r=>if (c i&&ct (S.getD i []) row)=true then i else A7 c S row r
theorem QG (c:Nat->Bool)(S:Ss)(row:List UInt8):∀l:List Nat,kK S row (l.filter c)=A7 c S row l
 | []=>rfl
 | i::r=>by
  have ih:=QG c S row r;unfold A7;cases hc:c i with
  | true=>rw[List.filter_cons_of_pos hc,Bool.true_and,kK,ih]
  | false=>rw[List.filter_cons_of_neg (by simp[hc]),Bool.false_and,if_neg (by simp),ih]
theorem w7 {lk lim:Nat}{H:Heap}(g:Gm)(hl:g.ps.length<=1000000)(hr:∀p∈g.ps,p.r.length<=1000000){tv:AV}{S:Ss}(hT:TV tv S)(hS:∀l∈S,l.length<=1000000000)(left:Int)(row:List UInt8):
  aj X A lk lim 55 [gV g,.agg [tv],I left,Sg row] H=some (I (qQ g S left row),H):=by
 have kc:=fun (L:Nat)=>bN (lk:=lk) (lim:=L) (H:=H) g hl hr;have kh:=fun (L:Nat) (v:AV) (l:List (List UInt8)) (hv:RV v l) (h:l.length<=1000000000)=>B5 (lk:=lk) (lim:=L) (H:=H) hv row h;refine ar [4,5] rfl A55 rfl rfl ?_;unfold Ru qQ;generalize chkE g=c at kc |-;obtain⟨t,n,k,ps⟩:=g;simp only[gV,Gm.cells]at kc |-;have hl:ps.length<=1000000:=hl;generalize aj X A=C at kc kh |-;by_cases hc:c=0;case neg=>
  have hc2:(c != 0)=true:=by simpa using hc
  have e:(if S.length≠ps.length then (-1:Int) else if c≠0 then -1 else kK S row (ofN ps left ps.length))= -1:=by
   split
   ·rfl
   ·rfl
  rw[e];simp[kc,hc,hc2]
 subst hc;by_cases hn:S.length=ps.length;case neg=>
  rw[if_pos hn];rcases hT.len with⟨rfl,h0⟩ | ⟨cs,rfl,h0⟩
  ·have h3:((0:Int) != (ps.length:Int))=true:=by rw[bne_iff_ne];omega
   have h5:¬ps=[]:=fun e=>by subst e;exact hn (by rw[h0];rfl)
   simp[kc,h3,h5]
  ·have h3:((cs.length:Int) != (ps.length:Int))=true:=by rw[bne_iff_ne];omega
   have h4:¬(cs.length:Int)=ps.length:=by omega
   simp[kc,h3,h4]
 rw[show (if S.length≠ps.length then (-1:Int) else if (0:Int)≠0 then -1 else kK S row (ofN ps left ps.length))=kK S row (ofN ps left ps.length) by rw[if_neg (fun h=>h hn),if_neg (by simp)]]
 unfold ofN;rw[QG];obtain⟨R,hR⟩:∃R,A7 (fun i=>decide ((ps.getD i ⟨0,[]⟩).l=left)) S row (List.range ps.length)=R:=⟨_,rfl⟩;rw[hR];have main:∀L E,ab [2,3,4,5,9] E=[(2,I left),(3,Sg row),(4,.box [I t,I n,I k,.sl ps.length (psC ps)]),(5,.box [tv]),(9,I 0)]->WB ⟨C,lk,L,[4,5]⟩ (.block 0 (.loop [2,3,4,5,9] QY)) (Fol ⟨C,lk,L,[4,5]⟩ (.seq (.regN [] [⟨some 8,none,.mv (.con (.val (.int .i64 (-1)))),0,false⟩]) .ret) (oO [.tmp 8] true H (I R,H))) E H:=by
  intro L E hE;rw[ap];refine ax (σ:=Nat) (fun i=>[(2,I left),(3,Sg row),(4,.box [I t,I n,I k,.sl ps.length (psC ps)]),(5,.box [tv]),(9,I i)]) (fun _=>H)
   (fun i=>i<=ps.length/\A7 (fun i=>decide ((ps.getD i ⟨0,[]⟩).l=left)) S row ((List.range ps.length).drop i)=R) (fun i=>ps.length-i) ?_ 0 ⟨Nat.zero_le _,hR⟩ hE rfl
  rintro i ⟨hi,hinv⟩;unfold QY;have w1:IntKind.i64.wrap ((i:Int)+1)=(i:Int)+1:=au (by omega) (by omega)
  by_cases hil:i<ps.length;case neg=>
   obtain rfl:i=ps.length:=by omega
   rw[List.drop_eq_nil_of_le (by simp)]at hinv
   simp only[A7]at hinv;subst hinv;rcases hT.len with⟨rfl,h0⟩ | ⟨cs,rfl,h0⟩<;>simp
  rw[List.drop_eq_getElem_cons (by simpa using hil),List.getElem_range]at hinv
  simp only[A7]at hinv;have hs:=Ae hil;have hll:=aY ps;have h2:i*2<2*ps.length:=by omega
  have hge:(ps.getD i ⟨0,[]⟩).l=ps[i].l:=by rw[R3,R4 hil];rfl
  have hq1:ps[i].l=left->ct (S.getD i []) row=true->(i:Int)=R:=fun h1 h2=>by rw[<-hinv,if_pos (by rw[hge,h2,decide_eq_true h1];rfl)]
  have hq2:ps[i].l=left->ct (S.getD i []) row=false->A7 (fun i=>decide ((ps.getD i ⟨0,[]⟩).l=left)) S row ((List.range ps.length).drop (i+1))=R:=fun h1 h2=>by rw[<-hinv,if_neg (by rw[hge,h2];simp)]
  have hq3:¬ps[i].l=left->A7 (fun i=>decide ((ps.getD i ⟨0,[]⟩).l=left)) S row ((List.range ps.length).drop (i+1))=R:=fun h1=>by rw[<-hinv,if_neg (by rw[hge,decide_eq_false h1];simp)]
  clear hinv;have hsE:∀h,(psC ps)[i*2]'h=I ps[i].l:=fun h=>(List.getElem?_eq_some_iff.1 hs).2;rcases hT with⟨rfl,rfl⟩ | ⟨cs,rfl,hs2⟩
  ·simp at hn;omega
  obtain⟨v,hv1,hv2⟩:=hs2.get (j:=i) (by omega)
  have kv:=fun L=>kh L v _ hv2 (hS _ (by rw[R3,R4 (by omega)];exact List.getElem_mem _))
  have hcl:i<cs.length:=by rw[hs2.1];omega
  have hvE:∀h,cs[i]'h=v:=fun h=>(List.getElem?_eq_some_iff.1 hv1).2;generalize S.getD i []=vl at hv2 kv hq1 hq2;generalize ps[i].l=pl at hs hsE hq1 hq2 hq3;by_cases hp:pl=left
  ·subst hp;cases hh:ct vl row with
   | true=>
    rw[hh]at kv;have hinv:=hq1 rfl hh;rcases aC hv2 with rfl | rfl;all_goals
     simp[hil,hsE,hll,h2,hvE,hcl,kv,<-hinv]
   | false=>
    rw[hh]at kv;have hinv:=hq2 rfl hh;rcases aC hv2 with rfl | rfl;all_goals
     simp[hil,hsE,hll,h2,hvE,hcl,kv,w1,ao];exact⟨i+1,⟨by omega,hinv⟩,by omega,by simp⟩
  ·have hinv:=hq3 hp;have hp2:(pl==left)=false:=by simpa using hp
   simp[hil,hsE,hll,h2,hp,hp2,w1,ao];exact⟨i+1,⟨by omega,hinv⟩,by omega,by simp⟩
 rcases hT.len with⟨rfl,h0⟩ | ⟨cs,rfl,h0⟩
 ·have h5:ps=[]:=List.eq_nil_of_length_eq_zero (by omega)
  subst h5;simp only[List.length_nil]at kc main;simp[-ap,-ak,-af,kc];rw[af rfl,aA,ah,ai,ai,ae];simp[-ap];refine main _ _ ?_;simp
 ·have h1:cs.length=ps.length:=by omega
  rw[h1]at main;simp[-ap,-ak,-af,kc,h1];rw[af rfl,aA,ah,ai,ai,ae];simp[-ap];refine main _ _ ?_;simp

structure LRw (l:List (List UInt8)):Prop where
 n:l.length<=9223372036854775807
 s:∀x∈l,x.length<=9223372036854775807
def f5 (S:Ss):List AV:=S.map rowsV
theorem Qx (S:Ss):SC (f5 S) S:=⟨by simp[f5],fun j v h=>by
 unfold f5 at h;rw[List.getElem?_map]at h;obtain⟨l,hl,rfl⟩:=Option.map_eq_some_iff.1 h;rw[R3,hl];exact .inl rfl⟩
theorem QZ (S:Ss):TV (.sl S.length (f5 S)) S:=.inr ⟨f5 S,by rw[(Qx S).1],Qx S⟩

theorem Qy {lk lim:Nat}{H:Heap}(hlk:lk<=H.length)(g:Gm)(hc:chkE g=0):
  ∃v h',aj X A lk lim 46 [gV g] H=some (v,h')/\h'=H/\∃cs,v= .agg [.sl cs.length cs]/\SC cs (aK g):=by
 have ok:=br hc;have hl:g.ps.length<=1000000:=Nat.le_trans ok.l2 (by decide)
 have hr:∀p∈g.ps,p.r.length<=1000000:=fun p hp=>Nat.le_trans (ok.p p hp).len (by decide)
 obtain⟨v1,g1,k1,e1,h1⟩:=qO (lim:=H.length) hlk g hl hr;rw[if_pos hc]at h1;obtain⟨Fc,rfl,hF⟩:=h1;rw[e1]at k1;obtain⟨v2,g2,k2,e2,h2⟩:=yR (lim:=H.length) hlk g hl hr;rw[if_pos hc]at h2;obtain⟨Gc,rfl,hG⟩:=h2;rw[e2]at k2;have ko:=fun (K L:Nat) (cs:List AV) (hK:K<=(tbH H cs).length) (p:Pr) (hp:p∈g.ps)=>
  sJ (lk:=K) (lim:=L) (H:=tbH H cs) hK g hl hr hF p.r (hr p hp) (by rw[(aJ ok).len];have:=ok.n2;omega)
   fun _=>⟨(cP ok (aJ ok) (ok.p p hp)).2.1,(cP ok (aJ ok) (ok.p p hp)).2.2⟩
 have kc:=fun (L:Nat) (cs:List AV) (va vb:AV) (a b:List (List UInt8)) (ha:RV va a) (hb:RV vb b) h3 h4 h5 h6=>j3 (lk:=lk) (lim:=L) (H:=tbH H cs) (Nat.le_trans hlk (Ak H cs)) g.k ha hb h3 h4 h5 h6;refine dD [1,2,5,7] rfl A46 rfl rfl ?_;unfold Nt;have hll:∀{p:Pr},p∈g.ps->(cQ g p).length<=1000000:=fun hp=>jE ok (List.mem_map.2 ⟨_,hp,rfl⟩);have hoo:∀p∈g.ps,OfOk g (setsM g) p.r:=fun p hp=>⟨hc,by rw[(aJ ok).len];have:=ok.n1;omega,by
  rw[List.any_eq_false];intro s hs;have:=(ok.p p hp).s s hs;simp only[du,Bool.or_eq_true,decide_eq_true_eq,not_or];omega⟩
 have kcc:∀(L:Nat) (cs:List AV) (p:Pr) (hp:p∈g.ps) (vb:AV),RV vb ((cM g).getD p.l.toNat [])->aj X A lk L 67 [I g.k,rV (ofM g (setsM g) p.r),vb] (tbH H cs)=some (rV (cat g.k.toNat (ofM g (setsM g) p.r) ((cM g).getD p.l.toNat [])),tbH H cs):=fun L cs p hp vb hv=>
  kc L cs _ _ _ _ (dE _) hv (by
   have:=(cP ok (aJ ok) (ok.p p hp)).2.1 p.r.length;rw[List.take_length]at this;exact this.1) (Nat.le_trans (((eV ok).get _).size ok) (by decide)) (by
   have:=(cP ok (aJ ok) (ok.p p hp)).2.1 p.r.length;rw[List.take_length]at this;exact this.2) (mG ok ((eV ok).get _))
 have hGl:Gc.length=g.n.toNat:=by rw[hG.1,(eV ok).len]
 have hGg:∀p∈g.ps,∃v,Gc[p.l.toNat]?=some v/\RV v ((cM g).getD p.l.toNat []):=fun p hp=>hG.get (by rw[(eV ok).len];have:=(ok.p p hp).l1;have:=(ok.p p hp).l0;omega)
 have hlk2:(aK g).length=g.ps.length:=fA g;have hlg:∀(i:Nat) (h:i<g.ps.length),(aK g)[i]?=some (cQ g g.ps[i]):=fun i h=>by simp[aK,h]
 have kof:∀(K L:Nat) (cs:List AV),K<=(tbH H cs).length->∀(p:Pr),p∈g.ps->aj X A K L 68 [gV g,.sl Fc.length Fc,.sl p.r.length (ints p.r)] (tbH H cs)=some (rV (ofM g (setsM g) p.r),tbH H cs):=fun K L cs hK p hp=>by
  have:=ko K L cs hK p hp
  rwa [if_pos (hoo p hp)]at this
 have hcv:∀p,RV (rV (cat g.k.toNat (ofM g (setsM g) p.r) ((cM g).getD p.l.toNat []))) (cQ g p):=fun p=>dE _;generalize aK g=M at hlk2 hlg |-;generalize hlp:(fun p:Pr=>cQ g p)=LP at *;clear ko kc hoo hll hG;obtain⟨t,n,k,ps⟩:=g;obtain⟨t1,t2,n1,n2,k1',k2',l1,l2,okp⟩:=ok;simp only at t1 t2 n1 n2 k1' k2' l1 l2 okp hGl hGg hlk2 hlg;simp only[gV,Gm.cells]at k1 k2 kof kcc;generalize aj X A=C at k1 k2 kof kcc |-;simp[k1,k2,Gm.cells]
 let bx:AV:=.box [I t,I n,I k,.sl ps.length (psC ps)]
 refine ax (σ:=Nat×List AV) (fun s=>[(1,bx),(2,.box [.e0]),(3,.sl Fc.length Fc),(4,.sl Gc.length Gc),(5,.box [tbV H s.2]),(6,I s.1)]) (fun s=>tbH H s.2)
  (fun s=>s.1<=ps.length/\SC s.2 (M.take s.1)) (fun s=>ps.length-s.1) ?_ (0,[]) ⟨Nat.zero_le _,rfl,fun j v h=>by simp at h⟩ (by simp[bx,tbV]) (by simp[tbH])
 rintro⟨i,cs⟩ ⟨hi,hcs⟩;simp only at hi hcs;have hcl:cs.length=i:=by rw[hcs.1];simp;omega
 unfold JM;have w1:IntKind.i64.wrap ((i:Int)+1)=(i:Int)+1:=au (by omega) (by omega)
 have hro1:24<=aM:=by unfold aM;omega
 have hro:(cs.length+1)*24<=aM:=by unfold aM;omega
 by_cases hil:i<ps.length;case neg=>
  obtain rfl:i=ps.length:=by omega
  rw[List.take_of_length_le (by omega)]at hcs
  have h0:¬cs=[]:=fun e=>by subst e;simp at hcl;omega
  have hfz:=fun d=>(iR H.length (H++[.cells cs]) d hcs).1;have hbl:=(iR H.length (H++[.cells cs]) 0 hcs).2;simp[bx,tbV,tbH,h0];simp[bt,hbl,hfz];exact⟨_,_,⟨rfl,rfl⟩,rfl,cs,rfl,hcs⟩
 have hs:=cd hil;have hll:=aY ps;have h2:i*2+2<=2*ps.length:=by omega
 have hpm:=List.getElem_mem hil;have hMi:=hlg i hil;obtain⟨v,hv1,hv2⟩:=hGg _ hpm;have hco:=fun K L hK=>kof K L cs hK _ hpm;have hcc:=fun L=>kcc L cs _ hpm v hv2;have hr2:=hcv ps[i];have ho2:=dE (ofM ⟨t,n,k,ps⟩ (setsM ⟨t,n,k,ps⟩) ps[i].r);have hpl0:=(okp _ hpm).l0;generalize rV (ofM ⟨t,n,k,ps⟩ (setsM ⟨t,n,k,ps⟩) ps[i].r)=O at hco hcc ho2;generalize rV (cat k.toNat (ofM ⟨t,n,k,ps⟩ (setsM ⟨t,n,k,ps⟩) ps[i].r) ((cM ⟨t,n,k,ps⟩).getD ps[i].l.toNat []))=R at hcc hr2;generalize ofM ⟨t,n,k,ps⟩ (setsM ⟨t,n,k,ps⟩) ps[i].r=oL at ho2;generalize (cM ⟨t,n,k,ps⟩).getD ps[i].l.toNat []=vL at hv2;generalize cQ ⟨t,n,k,ps⟩ ps[i]=rL at hr2 hMi;generalize ps[i]=p at hs hco hv1 hpl0 hpm;obtain⟨pl,pr⟩:=p;simp only[Pr.cells]at hs hv1 hpl0 hco;obtain⟨pl,rfl⟩:=Int.eq_ofNat_of_zero_le hpl0;simp only[Int.toNat_natCast]at hv1;have hpn:pl<Gc.length:=(List.getElem?_eq_some_iff.1 hv1).1;have done:∀(E:Env) (H':Heap),E=[(1,bx),(2,.box [.e0]),(3,.sl Fc.length Fc),(4,.sl Gc.length Gc),(5,.box [tbV H (cs++[R])]),(6,I ((i:Int)+1))]->H'=tbH H (cs++[R])->
  ∃s:Nat×List AV,(s.1<=ps.length/\SC s.2 (M.take s.1))/\ps.length-s.1<ps.length-i/\E=[(1,bx),(2,.box [.e0]),(3,.sl Fc.length Fc),(4,.sl Gc.length Gc),(5,.box [tbV H s.2]),(6,I s.1)]/\H'=tbH H s.2:=fun E H' h1 h2=>
   ⟨(i+1,cs++[R]),⟨by simp only;omega,by
    simp only;rw[List.take_add_one,hMi];exact Aj hcs hr2⟩,by simp only;omega,by rw[h1];simp,h2⟩
 have hR:=aC hr2;clear hMi hcs hr2 kof kcc hlg hGg;have hvE:∀h,Gc[pl]'h=v:=fun h=>(List.getElem?_eq_some_iff.1 hv1).2;by_cases h0:cs=[]
 ·subst h0;simp only[tbV,tbH,if_true]at hco hcc;rcases aC ho2 with rfl | rfl<;>rcases aC hv2 with rfl | rfl<;>rcases hR with rfl | rfl;all_goals
   simp[bx,hil,hs,hll,h2,an,hco,hvE,hpn,tbV,tbH,hcc,aN,hro1,dG,w1];rw[ao];refine done _ _ ?_ ?_
   ·simp[bx,tbV]
   ·simp[tbH]
 ·simp only[tbV,tbH,if_neg h0]at hco hcc;rcases aC ho2 with rfl | rfl<;>rcases aC hv2 with rfl | rfl<;>rcases hR with rfl | rfl;all_goals
   simp[bx,hil,hs,hll,h2,an,hco,hvE,hpn,tbV,tbH,h0,hcc,aN,hro,dG,cS,eh,aR,hlk,w1];rw[ao];refine done _ _ ?_ ?_
   ·simp[bx,tbV]
   ·simp[tbH]

theorem Ci (y:List UInt8)(b:List (List UInt8))(x:List UInt8):ct (y::b) x=(x==y||ct b x):=rfl
theorem lG:∀(k:Nat) (a b:List (List UInt8)),Up a->Up b->a.length+b.length<=k->e9 k a b=a.find? fun x=>ct b x
 | 0,a,b,_,_,hk=>by
  have:a=[]:=List.eq_nil_of_length_eq_zero (by omega)
  subst this;rfl
 | k+1,[],b,_,_,_=>rfl
 | k+1,y::a,[],_,_,_=>by
  rw[List.find?_eq_none.2 fun x _=>by simp[ct]]
  rfl
 | k+1,y::a,z::b,ha,hb,hk=>by
  have ha2:=List.pairwise_cons.1 ha;have hb2:=List.pairwise_cons.1 hb;unfold e9;by_cases he:y=z
  ·subst he;rw[if_pos rfl,List.find?_cons_of_pos];simp[ct]
  ·rw[if_neg he];by_cases hl:Op.bytesLess y z=true
   ·rw[if_pos hl,lG k _ _ ha2.2 hb (by simp at hk |-;omega),List.find?_cons_of_neg]
    intro hh;rw[mz]at hh;rcases List.mem_cons.1 hh with h1 | h1
    ·exact he h1
    ·have h2:=fq hl;rw[hb2.1 y h1]at h2;cases h2
   ·rw[if_neg hl,lG k _ _ ha hb2.2 (by simp at hk |-;omega)]
    have hzl:Op.bytesLess z y=true:=by
     rcases fQ y z with h1 | h1 | h1
     ·exact absurd h1 hl
     ·exact absurd h1 he
     ·exact h1
    have hne:∀x∈y::a,ct (z::b) x=ct b x:=fun x hx=>by
     rw[Ci];have:(x==z)=false:=by
      rw[beq_eq_false_iff_ne];intro e;subst e;rcases List.mem_cons.1 hx with h1 | h1
      ·exact he h1.symm
      ·have h2:=fq hzl;rw[ha2.1 x h1]at h2;cases h2
     rw[this,Bool.false_or]
    have key:∀l:List (List UInt8),(∀x∈l,ct (z::b) x=ct b x)->l.find? (fun x=>ct b x)=l.find? (fun x=>ct (z::b) x):=by
     intro l;induction l with
     | nil=>intro _;rfl
     | cons c l ih=>
      intro h;simp only[List.find?_cons,h c (List.mem_cons_self ..),ih fun x hx=>h x (List.mem_cons_of_mem _ hx)]
    exact key _ hne
theorem zb {a b:List (List UInt8)}(ha:Up a)(hb:Up b):bK a b=a.find? fun x=>ct b x:=lG _ _ _ ha hb (Nat.le_refl _)
def d3 (S:Ss)(c:Nat->Bool)(a:Nat):List Nat->Option (Nat×List UInt8)
 | []=>none
 | b::r=>if (c a&&c b)=true then (match (S.getD a []).find? (fun x=>ct (S.getD b []) x) with
  | some x=>some (b,x)
  | none=>d3 S c a r) else d3 S c a r
def d2 (S:Ss)(c:Nat->Bool):List Nat->Option (Nat×Nat×List UInt8)
 | []=>none
 | a::r=>match d3 S c a r with
  | some (b,x)=>some (a,b,x)
  | none=>d2 S c r
def d1 (S:Ss)(ps:List Pr):Nat->Nat->Option (Nat×Nat×Nat×List UInt8)
 | 0,_=>none
 | k+1,left=>match d2 S (fun i=>decide ((ps.getD i ⟨0,[]⟩).l=left)) (List.range ps.length) with
  | some (a,b,x)=>some (left,a,b,x)
  | none=>d1 S ps k (left+1)
theorem Ku {S:Ss}(hS:∀i,Up (S.getD i [])){c:Nat->Bool}{a:Nat}(ha:c a=true):∀l:List Nat,eP S a (l.filter c)=d3 S c a l
 | []=>rfl
 | b::r=>by
  have ih:=Ku hS ha r;unfold d3;rw[ha,Bool.true_and];cases hb:c b with
  | true=>rw[List.filter_cons_of_pos hb,if_pos rfl,eP,zb (hS a) (hS b),ih];rfl
  | false=>rw[List.filter_cons_of_neg (by simp[hb]),if_neg (by simp),ih]
theorem Aq (S:Ss){c:Nat->Bool}{a:Nat}(ha:c a=false):∀l:List Nat,d3 S c a l=none
 | []=>rfl
 | b::r=>by
  unfold d3;rw[ha,Bool.false_and,if_neg (by simp),Aq S ha r]
theorem Kv {S:Ss}(hS:∀i,Up (S.getD i []))(c:Nat->Bool):∀l:List Nat,bM S (l.filter c)=d2 S c l
 | []=>rfl
 | a::r=>by
  have ih:=Kv hS c r;unfold d2;cases ha:c a with
  | true=>rw[List.filter_cons_of_pos ha,bM,Ku hS ha,ih];rfl
  | false=>rw[List.filter_cons_of_neg (by simp[ha]),Aq S ha,ih]
theorem Kw {S:Ss}(hS:∀i,Up (S.getD i []))(ps:List Pr):∀k left,en (ps.map unP) S k left=d1 S ps k left
 | 0,_=>rfl
 | k+1,left=>by
  unfold en d1;rw[mL,Kw hS ps k (left+1)];unfold ofN;rw[Kv hS];rfl
theorem I7 {g:Gm}(hg:GOk g)(i:Nat):Up ((aK g).getD i []):=by
 rw[R3];cases h:(aK g)[i]? with
 | none=>exact List.Pairwise.nil
 | some l=>
  obtain⟨p,hp,rfl⟩:=List.mem_map.1 (List.mem_of_getElem? h);exact(pp hg hp).up

def cN (g:Gm):Int:=if chkE g≠0 then chkE g else if (redP g).2=false then 5 else if (leftR g).2=true then 4 else fX g
theorem jJ {lk lim:Nat}{H:Heap}(hlk:lk<=H.length)(g:Gm)(hl:g.ps.length<=1000000)(hr:∀p∈g.ps,p.r.length<=1000000):
  aj X A lk lim 31 [gV g] H=some (I (cN g),H):=by
 have kc:=fun (L:Nat)=>ck (lk:=lk) (lim:=L) (H:=H) g hl hr;have kr:=fun (L:Nat)=>FO (lk:=lk) (lim:=L) (H:=H) g hl hr hlk;have kl:=fun (L:Nat)=>wY (lk:=lk) (lim:=L) (H:=H) g hl hr hlk;obtain⟨tv,kb,hT⟩:=oz (lim:=H.length) hlk g hl hr;refine ar [1,8,9] rfl A31 rfl rfl ?_;unfold NA;unfold Cc at kr;unfold sT at kl;generalize eW g=T at hT;obtain⟨l,a,b,x,hx⟩:=RX (jF g);rw[hx]at kb;unfold cN;generalize fX g=e at kb |-;generalize chkE g=c at kc |-;generalize redP g=rp at kr |-;generalize leftR g=lr at kl |-;obtain⟨r1,r2⟩:=rp;obtain⟨l1,l2⟩:=lr;obtain⟨t,n,k,ps⟩:=g;simp only[gV,Gm.cells]at kb kc kr kl;generalize aj X A=C at kb kc kr kl |-;by_cases hc:c=0;case neg=>
  have hc2:(c != 0)=true:=by simpa using hc
  simp[Gm.cells,kc,hc2,hc]
 subst hc;cases r2 with
 | false=>simp[Gm.cells,kc,kr]
 | true=>
  cases l2 with
  | true=>simp[Gm.cells,kc,kr,kl]
  | false=>
   rcases hT with⟨rfl,_⟩ | ⟨cs,rfl,_⟩;all_goals
    simp[Gm.cells,kc,kr,kl,kb,an]

section
variable {C:Orc}{Q:Ex->Kt}{E:Env}{lk L:Nat}{H:Heap}{t k:Int}{n:Nat}{ps:List Pr}{cs:List AV}{S:Ss}
abbrev cV0:AV:=.box [I 0,I 0,I 0,Sg []]
def ee (t k:Int)(n:Nat)(ps:List Pr)(cs:List AV)(e:Env):Env:=(2,.box [I t,I n,I k,.sl ps.length (psC ps)])::(3,.box [.sl cs.length cs])::(4,cV0)::e
def xc (Q:Ex->Kt)(H:Heap)(left a b:Nat)(x:List UInt8):Prop:=∀E',find E' 4= .box [I left,I a,I b,Sg x]->find E' 5=Bo true->Q .ret E' H
theorem I8 (hs:SC cs S)(hn:S.length=ps.length)(hS:∀l∈S,l.length<=1000000){left a b:Nat}(ha:a<ps.length)(hb:b<ps.length)
  (kh:∀K M (v:AV) (l:List (List UInt8)) x,RV v l->l.length<=1000000->C K M 69 [v,Sg x] H=some (Bo (ct l x),H))
  (hE:ab [2,3,4,6,7,8,9] E=ee t k n ps cs [(6,I left),(7,I a),(8,I b),(9,I 0)])
  (hQ:(S.getD a []).find? (fun x=>ct (S.getD b []) x)=none->∀E',ab [2,3,4,6,7,8] E'=ee t k n ps cs [(6,I left),(7,I a),(8,I b)]->Q .nrm E' H)
  (hR:∀x,(S.getD a []).find? (fun x=>ct (S.getD b []) x)=some x->xc Q H left a b x):
  WB ⟨C,lk,L,[2,3,4]⟩ (.block 6 (.loop [2,3,4,6,7,8,9] Eo)) Q E H:=by
 obtain⟨va,ga,ra⟩:=hs.get (j:=a) (by omega)
 obtain⟨vb,gb,rb⟩:=hs.get (j:=b) (by omega)
 have hca:a<cs.length:=by rw[hs.1];omega
 have hcb:b<cs.length:=by rw[hs.1];omega
 have gaE:∀h,cs[a]'h=va:=fun h=>(List.getElem?_eq_some_iff.1 ga).2;have gbE:∀h,cs[b]'h=vb:=fun h=>(List.getElem?_eq_some_iff.1 gb).2;have hla:(S.getD a []).length<=1000000:=by rw[uR (by omega)];exact hS _ (List.getElem_mem _)
 have hlb:(S.getD b []).length<=1000000:=by rw[uR (by omega)];exact hS _ (List.getElem_mem _)
 have kh:=fun K M x=>kh K M vb _ x rb hlb;generalize S.getD a []=la at ra hla hQ hR;generalize S.getD b []=lb at rb hlb hQ hR kh;rw[ap];refine ax (σ:=Nat) (fun i=>ee t k n ps cs [(6,I left),(7,I a),(8,I b),(9,I i)]) (fun _=>H) (fun i=>i<=la.length/\la.find? (fun x=>ct lb x)=(la.drop i).find? (fun x=>ct lb x)) (fun i=>la.length-i) ?_ 0 ⟨Nat.zero_le _,rfl⟩ hE rfl;rintro i ⟨hi,hinv⟩;unfold Eo;have w1:IntKind.i64.wrap ((i:Int)+1)=(i:Int)+1:=au (by omega) (by omega)
 unfold ee at hQ |-;by_cases hil:i<la.length;case neg=>
  obtain rfl:i=la.length:=by omega
  have hQ1:=hQ (by rw[hinv,List.drop_length];rfl)
  clear hQ hR hinv;rcases aC ra with h0 | h0
  ·have he:la=[]:=by
    rcases ra with h1 | ⟨_,h1⟩
    ·rw[h0]at h1;cases h1
    ·exact h1
   subst he;rw[h0]at gaE;simp[hca,gaE];refine hQ1 _ ?_;rfl
  ·rw[h0]at gaE;simp[hca,gaE];refine hQ1 _ ?_;rfl
 have hd:=List.drop_eq_getElem_cons hil;rw[hd]at hinv;have xa:=bE hil;rcases ra with h0 | ⟨_,h0⟩;case inr=>subst h0;simp at hil
 rw[h0]at gaE;generalize la[i]=x at xa hinv;have kh:=fun K M=>kh K M x;cases hx:ct lb x with
 | true=>
  rw[List.find?_cons_of_pos (by simpa using hx)]at hinv
  have hR:=hR x hinv;rw[hx]at kh;unfold xc at hR;clear hQ hinv;rcases aC rb with h1 | h1;all_goals
   rw[h1]at gbE kh;simp[-ak,-af,-aB,-ae,hil,hca,gaE];rw[ae];simp[-ak,-af,-aB,-ae,hil,hca,gaE];rw[ak rfl,aA,ah,ai,ap,ai,aB rfl];simp[-ak,-af,-aB,-ae,hil,hca,hcb,gaE,gbE,xa,kh];rw[ak rfl,ai,ae];simp[-bd,hil,hca,gaE,xa,an,cV0];rw[bd];simp[an,cV0];refine hR _ ?_ ?_
   ·rfl
   ·rfl
 | false=>
  rw[List.find?_cons_of_neg (by simp[hx])]at hinv
  rw[hx]at kh;clear hQ hR;rcases aC rb with h1 | h1;all_goals
   rw[h1]at gbE kh;simp[-ak,-af,-aB,-ae,hil,hca,gaE];rw[ae];simp[-ak,-af,-aB,-ae,hil,hca,gaE];rw[ak rfl,aA,ah,ai,ap,ai,aB rfl];simp[-ak,-af,-aB,-ae,hil,hca,hcb,gaE,gbE,xa,kh];rw[af rfl,aA];simp[w1,ao];exact⟨i+1,⟨by omega,hinv⟩,by omega,by simp⟩
end

section
variable {C:Orc}{Q:Ex->Kt}{E:Env}{lk L:Nat}{H:Heap}{t k:Int}{n:Nat}{ps:List Pr}{cs:List AV}{S:Ss}
def mU (ps:List Pr)(left:Nat)(i:Nat):Bool:=decide ((ps.getD i ⟨0,[]⟩).l=left)
theorem Ar {ps:List Pr}{left i:Nat}(h:i<ps.length):mU ps left i=decide (ps[i].l=(left:Int)):=by
 unfold mU;rw[R3,R4 h];rfl
theorem rf {n i:Nat}(h:i<n):(List.range n).drop i=i::(List.range n).drop (i+1):=by
 rw[List.drop_eq_getElem_cons (by simpa using h),List.getElem_range]
theorem I9 (hs:SC cs S)(hn:S.length=ps.length)(hl:ps.length<=1000000)(hS:∀l∈S,l.length<=1000000){left a:Nat}(ha:a<ps.length)
  (kh:∀K M (v:AV) (l:List (List UInt8)) x,RV v l->l.length<=1000000->C K M 69 [v,Sg x] H=some (Bo (ct l x),H))
  (hE:ab [2,3,4,6,7,8] E=ee t k n ps cs [(6,I left),(7,I a),(8,I ((a:Int)+1))])
  (hQ:d3 S (mU ps left) a ((List.range ps.length).drop (a+1))=none->∀E',ab [2,3,4,6,7] E'=ee t k n ps cs [(6,I left),(7,I a)]->Q .nrm E' H)
  (hR:∀b x,d3 S (mU ps left) a ((List.range ps.length).drop (a+1))=some (b,x)->xc Q H left a b x):
  WB ⟨C,lk,L,[2,3,4]⟩ (.block 4 (.loop [2,3,4,6,7,8] Ep)) Q E H:=by
 rw[ap];refine ax (σ:=Nat) (fun b=>ee t k n ps cs [(6,I left),(7,I a),(8,I b)]) (fun _=>H) (fun b=>b<=ps.length/\d3 S (mU ps left) a ((List.range ps.length).drop (a+1))=d3 S (mU ps left) a ((List.range ps.length).drop b)) (fun b=>ps.length-b) ?_ (a+1) ⟨ha,rfl⟩ (by rw[hE];simp) rfl
 rintro b ⟨hi,hinv⟩;unfold Ep;have w1:IntKind.i64.wrap ((b:Int)+1)=(b:Int)+1:=au (by omega) (by omega)
 by_cases hib:b<ps.length;case neg=>
  obtain rfl:b=ps.length:=by omega
  have hQ1:=hQ (by rw[hinv,List.drop_eq_nil_of_le (by simp)];rfl)
  clear hQ hR hinv hE;unfold ee at hQ1 |-;simp;refine hQ1 _ ?_;rfl
 rw[rf hib,d3]at hinv;have hla:=Ar (left:=left) ha;have hlb:=Ar (left:=left) hib;have hsa:=Ae ha;have hsb:=Ae hib;have hll:=aY ps;have h2a:a*2<2*ps.length:=by omega
 have h2b:b*2<2*ps.length:=by omega
 have hsaE:∀h,(psC ps)[a*2]'h=I ps[a].l:=fun h=>(List.getElem?_eq_some_iff.1 hsa).2;have hsbE:∀h,(psC ps)[b*2]'h=I ps[b].l:=fun h=>(List.getElem?_eq_some_iff.1 hsb).2;rw[hla,hlb]at hinv;clear hla hlb hsa hsb
 have skip:(decide (ps[a].l=(left:Int))&&decide (ps[b].l=(left:Int)))=false->d3 S (mU ps left) a ((List.range ps.length).drop (a+1))=d3 S (mU ps left) a ((List.range ps.length).drop (b+1)):=fun h=>by rw[hinv,if_neg (by rw[h];simp)]
 have go:(decide (ps[a].l=(left:Int))&&decide (ps[b].l=(left:Int)))=true->d3 S (mU ps left) a ((List.range ps.length).drop (a+1))=(match (S.getD a []).find? (fun x=>ct (S.getD b []) x) with
  | some x=>some (b,x)
  | none=>d3 S (mU ps left) a ((List.range ps.length).drop (b+1))):=fun h=>by rw[hinv,if_pos h]<;>rfl
 clear hinv;generalize ps[a].l=pa at hsaE skip go;generalize ps[b].l=pb at hsbE skip go;by_cases h1:pa=left;case neg=>
  have e1:(pa != (left:Int))=true:=by simpa using h1
  have hk:=skip (by rw[decide_eq_false h1];rfl)
  clear hQ hR skip go hE;unfold ee;simp[-ak,-af,-ae,hib];rw[ae];simp[-ak,-af,-ae,hib];rw[ak rfl,aA,ah,ai,ap,ai,ai,ae];simp[-ak,-af,-ae,ha,hib,hll,h2a,h2b,hsaE,hsbE,e1,h1];rw[ak rfl];simp[w1,ao];exact⟨b+1,⟨by omega,hk⟩,by omega,by simp⟩
 have e1:(pa != (left:Int))=false:=by simpa using h1
 by_cases h2:pb=left;case neg=>
  have e2:(pb != (left:Int))=true:=by simpa using h2
  have hk:=skip (by rw[decide_eq_false h2];simp)
  clear hQ hR skip go hE;unfold ee;simp[-ak,-af,-ae,hib];rw[ae];simp[-ak,-af,-ae,hib];rw[ak rfl,aA,ah,ai,ap,ai,ai,ae];simp[-ak,-af,-ae,ha,hib,hll,h2a,h2b,hsaE,hsbE,e1,h1,e2,h2];rw[ak rfl];simp[w1,ao];exact⟨b+1,⟨by omega,hk⟩,by omega,by simp⟩
 have e2:(pb != (left:Int))=false:=by simpa using h2
 have go:=go (by rw[decide_eq_true h1,decide_eq_true h2];rfl)
 clear skip hE;have hst:ee t k n ps cs [(6,I left),(7,I a),(8,I b)]=[(2,.box [I t,I n,I k,.sl ps.length (psC ps)]),(3,.box [.sl cs.length cs]),(4,cV0),(6,I left),(7,I a),(8,I b)]:=rfl;rw[hst];simp[-ak,-af,-ae,hib];rw[ae];simp[-ak,-af,-ae,hib];rw[ak rfl,aA,ah,ai,ap,ai,ai,ae];simp[-ak,-af,-ae,-ap,ha,hib,hll,h2a,h2b,hsaE,hsbE,e1,h1,e2,h2];rw[af rfl,aA,ah,ai,ae];simp[-ap];refine I8 (left:=left) (a:=a) (b:=b) (t:=t) (k:=k) (n:=n) hs hn hS ha hib kh (by simp[ee]) (fun hnone E' h5=>?_) (fun x hx=>?_)
 ·rw[hnone]at go;simp only at go;unfold ee at h5;simp only[ah,a6];rw[ae,h5];simp[w1,ao];unfold ee;exact⟨b+1,⟨by omega,go⟩,by omega,by simp⟩
 ·rw[hx]at go;simp only at go;have hR:=hR b x go;intro E' h5 h6;have:=hR E' h5 h6;simpa using this
end

section
variable {C:Orc}{Q:Ex->Kt}{E:Env}{lk L:Nat}{H:Heap}{t k:Int}{n:Nat}{ps:List Pr}{cs:List AV}{S:Ss}
theorem Ja (hs:SC cs S)(hn:S.length=ps.length)(hl:ps.length<=1000000)(hS:∀l∈S,l.length<=1000000){left:Nat}
  (kh:∀K M (v:AV) (l:List (List UInt8)) x,RV v l->l.length<=1000000->C K M 69 [v,Sg x] H=some (Bo (ct l x),H))
  (hE:ab [2,3,4,6,7] E=ee t k n ps cs [(6,I left),(7,I 0)])
  (hQ:d2 S (mU ps left) (List.range ps.length)=none->∀E',ab [2,3,4,6] E'=ee t k n ps cs [(6,I left)]->Q .nrm E' H)
  (hR:∀a b x,d2 S (mU ps left) (List.range ps.length)=some (a,b,x)->xc Q H left a b x):
  WB ⟨C,lk,L,[2,3,4]⟩ (.block 2 (.loop [2,3,4,6,7] Er)) Q E H:=by
 rw[ap];refine ax (σ:=Nat) (fun a=>ee t k n ps cs [(6,I left),(7,I a)]) (fun _=>H) (fun a=>a<=ps.length/\d2 S (mU ps left) (List.range ps.length)=d2 S (mU ps left) ((List.range ps.length).drop a)) (fun a=>ps.length-a) ?_ 0 ⟨Nat.zero_le _,rfl⟩ (by rw[hE];simp) rfl
 rintro a ⟨hi,hinv⟩;unfold Er;have w1:IntKind.i64.wrap ((a:Int)+1)=(a:Int)+1:=au (by omega) (by omega)
 have hst:ee t k n ps cs [(6,I left),(7,I a)]=[(2,.box [I t,I n,I k,.sl ps.length (psC ps)]),(3,.box [.sl cs.length cs]),(4,cV0),(6,I left),(7,I a)]:=rfl;by_cases hia:a<ps.length;case neg=>
  obtain rfl:a=ps.length:=by omega
  have hQ1:=hQ (by rw[hinv,List.drop_eq_nil_of_le (by simp)];rfl)
  clear hQ hR hinv hE;unfold ee at hQ1;rw[hst];simp;refine hQ1 _ ?_;rfl
 rw[rf hia,d2]at hinv;rw[hst];simp[-ak,-af,-ae,hia];rw[ae];simp[-ak,-af,-ae,hia];rw[ak rfl,aA,ah,ai,ap,ai,ae];simp[-ap,w1];refine I9 (left:=left) (a:=a) (t:=t) (k:=k) (n:=n) hs hn hl hS hia kh (by simp[ee]) (fun hnone E' h5=>?_) (fun b x hx=>?_)
 ·rw[hnone]at hinv;simp only at hinv;unfold ee at h5;simp only[ah,a6];rw[ae,h5];simp[w1,ao];unfold ee;exact⟨a+1,⟨by omega,hinv⟩,by omega,by simp⟩
 ·rw[hx]at hinv;simp only at hinv;have hR:=hR a b x hinv;intro E' h5 h6;have:=hR E' h5 h6;simpa using this
theorem Jb (hs:SC cs S)(hn:S.length=ps.length)(hl:ps.length<=1000000)(hn16:n<=1000000)(hS:∀l∈S,l.length<=1000000)
  (kh:∀K M (v:AV) (l:List (List UInt8)) x,RV v l->l.length<=1000000->C K M 69 [v,Sg x] H=some (Bo (ct l x),H))
  (hE:ab [2,3,4,6] E=ee t k n ps cs [(6,I 0)])
  (hQ:d1 S ps n 0=none->∀E',ab [4] E'=[(4,cV0)]->Q .nrm E' H)
  (hR:∀l a b x,d1 S ps n 0=some (l,a,b,x)->xc Q H l a b x):
  WB ⟨C,lk,L,[2,3,4]⟩ (.block 0 (.loop [2,3,4,6] Es)) Q E H:=by
 rw[ap];refine ax (σ:=Nat) (fun l=>ee t k n ps cs [(6,I l)]) (fun _=>H) (fun l=>l<=n/\d1 S ps n 0=d1 S ps (n-l) l) (fun l=>n-l) ?_ 0 ⟨Nat.zero_le _,rfl⟩ (by rw[hE];simp) rfl
 rintro l ⟨hi,hinv⟩;unfold Es;have w1:IntKind.i64.wrap ((l:Int)+1)=(l:Int)+1:=au (by omega) (by omega)
 have hst:ee t k n ps cs [(6,I l)]=[(2,.box [I t,I n,I k,.sl ps.length (psC ps)]),(3,.box [.sl cs.length cs]),(4,cV0),(6,I l)]:=rfl;by_cases hil:l<n;case neg=>
  obtain rfl:l=n:=by omega
  have hQ1:=hQ (by rw[hinv,Nat.sub_self];rfl)
  clear hQ hR hinv hE;rw[hst];simp;refine hQ1 _ ?_;rfl
 obtain⟨m,hm⟩:∃m,n-l=m+1:=⟨n-l-1,by omega⟩
 rw[hm,d1]at hinv;rw[hst];simp[-ak,-af,-ae,hil];rw[ae];simp[-ak,-af,-ae,hil];rw[ak rfl,aA,ah,ai,ap,ai,ae];simp[-ap];refine Ja (left:=l) (t:=t) (k:=k) (n:=n) hs hn hl hS kh (by simp[ee]) (fun hnone E' h5=>?_) (fun a b x hx=>?_)
 ·rw[show d2 S (fun i=>decide ((ps.getD i ⟨0,[]⟩).l=l)) (List.range ps.length)=none from hnone]at hinv;simp only at hinv;unfold ee at h5;simp only[ah,a6];rw[ae,h5];simp[w1,ao];unfold ee;exact⟨l+1,⟨by omega,by rw[hinv];congr 1;omega⟩,by omega,by simp⟩
 ·rw[show d2 S (fun i=>decide ((ps.getD i ⟨0,[]⟩).l=l)) (List.range ps.length)=some (a,b,x) from hx]at hinv;simp only at hinv;have hR:=hR l a b x hinv;intro E' h5 h6;have:=hR E' h5 h6;simpa using this
end
theorem zc {lk lim:Nat}{H:Heap}(g:Gm)(hc:chkE g=0){cs:List AV}(hs:SC cs (aK g)):aj X A lk lim 47 [gV g,.agg [.sl cs.length cs]] H=some (oP (confM g),H):=by
 have ok:=br hc;have kh:=fun K M (v:AV) (l:List (List UInt8)) x (hv:RV v l) (h:l.length<=1000000)=>B5 (lk:=K) (lim:=M) (H:=H) hv x (Nat.le_trans h (by decide))
 refine ar [2,3,4] rfl A47 rfl rfl ?_;unfold Ny;have hd:confM g=d1 (aK g) g.ps g.n.toNat 0:=Kw (I7 ok) g.ps _ _;rw[hd];have hln:=fA g;have hll:∀l∈aK g,l.length<=1000000:=fun l h=>jE ok h;generalize aK g=S at hs hln hll |-;have l2:=ok.l2;have n2:=ok.n2;have n1:=ok.n1;obtain⟨t,n,k,ps⟩:=g;simp only at hln l2 n1 n2 |-;obtain⟨n,rfl⟩:=Int.eq_ofNat_of_zero_le (by omega:0<=n)
 simp only[gV,Gm.cells,Int.toNat_natCast];generalize aj X A=C at kh |-;simp[-ap,-ae];rw[ae];simp[-ap,-ae];rw[ae];simp[-ap];refine Jb (n:=n) (t:=t) (k:=k) hs hln (by omega) (by omega) hll kh (by simp[ee]) (fun hnone E' h5=>?_) (fun l a b x hx=>?_)
 ·rw[hnone];simp only[ah];rw[ai,ae,h5];simp[an,oP,cV0]
 ·rw[hx];intro E' h5 h6;simp[h5,h6,oP]

theorem xd {lk lim:Nat}{H:Heap}(hlk:lk<=H.length)(g:Gm)(hl:g.ps.length<=1000000)(hr:∀p∈g.ps,p.r.length<=1000000):
  ∃v h',aj X A lk lim 30 [gV g] H=some (v,h')/\h'=H/\cy g v:=by
 have kc:=fun (L:Nat)=>bN (lk:=lk) (lim:=L) (H:=H) g hl hr;refine dD [1,2,3,6,7] rfl A30 rfl rfl ?_;unfold Nr;by_cases hc:chkE g=0;case neg=>
  have fin:cy g (.tup [.agg [.e0],cfV none,I (chkE g)]):=by unfold cy;rw[if_neg hc]
  generalize cy g=Q at fin |-;generalize chkE g=e at kc hc fin;have hc2:(e != 0)=true:=by simpa using hc
  obtain⟨t,n,k,ps⟩:=g;simp only[gV,Gm.cells]at kc;generalize aj X A=C at kc |-;simp[Gm.cells,kc,hc2,hc,bt,an];exact⟨_,_,⟨rfl,rfl⟩,rfl,fin⟩
 rw[hc]at kc;obtain⟨v,h',kt,e1,cs,rfl,hs⟩:=Qy (lim:=H.length) hlk g hc;rw[e1]at kt;have kf:=zc (lk:=lk) (lim:=H.length) (H:=H) g hc hs;have fin:match confM g with
  | some c=>cy g (.tup [.agg [.e0],cfV (some c),I 9])
  | none=>cy g (.tup [.agg [.sl cs.length cs],cfV none,I 0]):=by
  cases hm:confM g with
  | none=>simp only;unfold cy;rw[if_pos hc,hm];exact⟨cs,rfl,hs⟩
  | some c=>simp only;unfold cy;rw[if_pos hc,hm]
 generalize cy g=Q at fin |-;generalize confM g=r at kf fin;obtain⟨t,n,k,ps⟩:=g;simp only[gV,Gm.cells]at kc kt kf;generalize aj X A=C at kc kt kf |-;cases r with
 | none=>
  simp only[oP]at kf fin;simp[Gm.cells,kc,kt,kf,bt,an];exact⟨_,_,⟨rfl,rfl⟩,rfl,fin⟩
 | some c=>
  obtain⟨l,a,b,x⟩:=c;simp only[oP]at kf fin;simp[Gm.cells,kc,kt,kf,bt,an];exact⟨_,_,⟨rfl,rfl⟩,rfl,fin⟩
theorem mV {lk lim:Nat}{H:Heap}(hlk:lk<=H.length)(g:Gm)(hl:g.ps.length<=1000000)(hr:∀p∈g.ps,p.r.length<=1000000):
  ∃tv,aj X A lk lim 30 [gV g] H=some (.tup [.agg [tv],cfV (jF g),I (fX g)],H)/\TV tv (eW g):=by
 obtain⟨v,h',h,rfl,hb⟩:=xd (lim:=lim) hlk g hl hr;rw[h];unfold cy at hb;unfold eW fX jF;by_cases hc:chkE g=0
 ·rw[if_pos hc]at hb |-;rw[if_pos hc];cases hm:confM g with
  | none=>
   rw[hm]at hb;obtain⟨cs,rfl,hs⟩:=hb;exact⟨_,rfl,.inr ⟨cs,rfl,hs⟩⟩
  | some c=>
   rw[hm]at hb;simp only at hb;subst hb;exact⟨_,rfl,.inl ⟨rfl,rfl⟩⟩
 ·rw[if_neg hc]at hb |-;subst hb;rw[if_neg hc,if_neg hc];exact⟨_,rfl,.inl ⟨rfl,rfl⟩⟩
theorem ef {lk lim:Nat}{H:Heap}(hlk:lk<=H.length)(g:Gm)(hl:g.ps.length<=1000000)(hr:∀p∈g.ps,p.r.length<=1000000):
  aj X A lk lim 24 [gV g] H=some (I (cN g),H):=by
 have kc:=fun (L:Nat)=>bN (lk:=lk) (lim:=L) (H:=H) g hl hr;have kr:=fun (L:Nat)=>Ce (lk:=lk) (lim:=L) (H:=H) g hl hr hlk;have kl:=fun (L:Nat)=>wZ (lk:=lk) (lim:=L) (H:=H) g hl hr hlk;obtain⟨tv,kb,hT⟩:=mV (lim:=H.length) hlk g hl hr;refine ar [1,8,9] rfl A24 rfl rfl ?_;unfold Oh;unfold Cc at kr;unfold sT at kl;generalize eW g=T at hT;obtain⟨l,a,b,x,hx⟩:=RX (jF g);rw[hx]at kb;unfold cN;generalize fX g=e at kb |-;generalize chkE g=c at kc |-;generalize redP g=rp at kr |-;generalize leftR g=lr at kl |-;obtain⟨r1,r2⟩:=rp;obtain⟨l1,l2⟩:=lr;obtain⟨t,n,k,ps⟩:=g;simp only[gV,Gm.cells]at kb kc kr kl;generalize aj X A=C at kb kc kr kl |-;by_cases hc:c=0;case neg=>
  have hc2:(c != 0)=true:=by simpa using hc
  simp[Gm.cells,kc,hc2,hc]
 subst hc;cases r2 with
 | false=>simp[Gm.cells,kc,kr]
 | true=>
  cases l2 with
  | true=>simp[Gm.cells,kc,kr,kl]
  | false=>
   rcases hT with⟨rfl,_⟩ | ⟨cs,rfl,_⟩;all_goals
    simp[Gm.cells,kc,kr,kl,kb,an]
end Go.Proofs.YtkllbcjanneppaaGreat
