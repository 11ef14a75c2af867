/- Parts of states put together. -/
import Derived.Test.YtnhennjliinplaaGS
import Derived.Test.YtnhennjliinplaaGE
set_option linter.all false
namespace Go.Proofs.Ytnhennjliinplaa
open Go Go.Hm
section
variable {s:List UInt8}{m:Nat}{S S1 S2:Bs}{P Q:Pl}{T T1 T2:TT}
theorem sem_cat (hm:m≤S1.rl.length)(w1:WfB S1)(fr:Frm S1 S2)(h1:Sem s m S1 P T1)(h2:Sem s S1.rl.length S2 Q T2)
  (hT:∀a b,a<s.length+1→b<s.length+1→(T a b=true↔∃c,c<s.length+1∧T1 a c=true∧T2 c b=true)):Sem s m (S2.join P.la Q.fi) (behP P Q) T:=by
 have hlen:=fr.len
 have w2:=fr.w
 have alk1:Alk s S1 S2 m S1.rl.length:=(fr.alk w1).sub (Nat.zero_le _) (Nat.le_refl _)
 have ej:∀q z,Rg m S2.rl.length q→(ed (S2.join P.la Q.fi) q z↔ed S2 q z∨(q∈P.la∧z∈Q.fi)):=fun q z hq=>ed_join (by rw[w2.2];have:=hq.1;have:=hq.2;omega) (by have:=hq.1;omega)
 have nla:∀q,Rg S1.rl.length S2.rl.length q→q∉P.la:=fun q hq h=>by
  have:=(h1.la q h).2
  have:=hq.1
  omega
 have nla2:∀q,Rg m S1.rl.length q→q∉Q.la:=fun q hq h=>by
  have:=(h2.la q h).1
  have:=hq.2
  omega
 have alk2:Alk s S2 (S2.join P.la Q.fi) S1.rl.length S2.rl.length:=fun q hq=>⟨fun z=>by
  rw[ej q z ⟨by have:=hq.1;omega,hq.2⟩]
  exact⟨.inl,fun h=>h.elim id fun h=>absurd h.1 (nla q hq)⟩,fun a=>Iff.rfl⟩
 have hcls:Cls (S2.join P.la Q.fi) m S2.rl.length:=fun q z hq hz=>by
  rcases (ej q z hq).1 hz with hz | ⟨_,hz⟩
  ·by_cases hlt:q<(S1.rl.length:Int)
   ·have hq1:Rg m S1.rl.length q:=⟨hq.1,hlt⟩
    have:=h1.cls q z hq1 (((alk1 q hq1).1 z).2 hz)
    exact⟨this.1,by have:=this.2;omega⟩
   ·have:=h2.cls q z ⟨by omega,hq.2⟩ hz
    exact⟨by have:=this.1;omega,this.2⟩
  ·have:=h2.fi z hz
   exact⟨by have:=this.1;omega,this.2⟩
 have hFo:∀q,Rg S1.rl.length S2.rl.length q→(q∈Q.la↔q∈(behP P Q).la):=fun q hq=>by
  unfold behP
  dsimp only
  split
  ·rw[mem_unI]
   exact⟨.inr,fun h=>h.resolve_left (nla q hq)⟩
  ·exact Iff.rfl
 have hFo1:∀q,Rg m S1.rl.length q→(q∈(behP P Q).la↔Q.em=true∧q∈P.la):=fun q hq=>by
  unfold behP
  dsimp only
  split
  ·rename_i he
   rw[mem_unI]
   exact⟨fun h=>⟨he,h.resolve_right (nla2 q hq)⟩,fun h=>.inl h.2⟩
  ·rename_i he
   exact⟨fun h=>absurd h (nla2 q hq),fun h=>absurd h.1 he⟩
 -- from the second part's states on
 have hp2:∀{q:Int} {a b:Nat},Rg S1.rl.length S2.rl.length q→(Pa s (S2.join P.la Q.fi) (·∈(behP P Q).la) q a b↔Pa s S2 (·∈Q.la) q a b):=fun hq=>(Pa.iff h2.cls alk2 hFo hq).symm
 have fi2:∀{a b:Nat},Fi s (S2.join P.la Q.fi) Q.fi (behP P Q).la a b↔Fi s S2 Q.fi Q.la a b:=fun {a b}=>(Fi.iff h2.cls alk2 h2.fi hFo).symm
 -- from the first part's
 have hp1:∀{q:Int} {a b:Nat},Rg m S1.rl.length q→(Pa s (S2.join P.la Q.fi) (·∈(behP P Q).la) q a b↔(∃c,Pa s S1 (·∈P.la) q a c∧Fi s S2 Q.fi Q.la c b)∨(Q.em=true∧Pa s S1 (·∈P.la) q a b)):=fun {q a b} hq=>by
  constructor
  ·intro h
   induction h with
   | nil h=>
    have:=(hFo1 _ hq).1 h
    exact .inr ⟨this.1,.nil this.2⟩
   | @cons q z a b e1 e2 e3 e4 ih=>
    rcases (ej q z ⟨hq.1,by have:=hq.2;omega⟩).1 e1 with e | ⟨el,ef⟩
    ·have e:=((alk1 q hq).1 z).2 e
     have hz:=h1.cls q z hq e
     have e3:=((alk1 z hz).2 a).2 e3
     rcases ih hz with⟨c,i1,i2⟩ | ⟨i1,i2⟩
     ·exact .inl ⟨c,.cons e e2 e3 i1,i2⟩
     ·exact .inr ⟨i1,.cons e e2 e3 i2⟩
    ·exact .inl ⟨a,.nil el,z,ef,e2,e3,(hp2 (h2.fi z ef)).1 e4⟩
  ·rintro (⟨c,i1,i2⟩ | ⟨i1,i2⟩)
   ·induction i1 with
    | @nil q a h=>
     obtain⟨z,z1,z2,z3,z4⟩:=i2
     exact .cons ((ej q z ⟨hq.1,by have:=hq.2;omega⟩).2 (.inr ⟨h,z1⟩)) z2 z3 ((hp2 (h2.fi z z1)).2 z4)
    | @cons q z a c e1 e2 e3 _ ih=>
     have hz:=h1.cls q z hq e1
     exact .cons ((ej q z ⟨hq.1,by have:=hq.2;omega⟩).2 (.inl (((alk1 q hq).1 z).1 e1))) e2 (((alk1 z hz).2 a).1 e3) (ih hz i2)
   ·induction i2 with
    | @nil q a h=>exact .nil ((hFo1 q hq).2 ⟨i1,h⟩)
    | @cons q z a c e1 e2 e3 _ ih=>
     have hz:=h1.cls q z hq e1
     exact .cons ((ej q z ⟨hq.1,by have:=hq.2;omega⟩).2 (.inl (((alk1 q hq).1 z).1 e1))) e2 (((alk1 z hz).2 a).1 e3) (ih hz)
 have fi1:∀{a b:Nat},Fi s (S2.join P.la Q.fi) P.fi (behP P Q).la a b↔(∃c,Fi s S1 P.fi P.la a c∧Fi s S2 Q.fi Q.la c b)∨(Q.em=true∧Fi s S1 P.fi P.la a b):=fun {a b}=>by
  constructor
  ·rintro⟨q,i1,i2,i3,i4⟩
   have hq:=h1.fi q i1
   have i3:=((alk1 q hq).2 a).2 i3
   rcases (hp1 hq).1 i4 with⟨c,j1,j2⟩ | ⟨j1,j2⟩
   ·exact .inl ⟨c,⟨q,i1,i2,i3,j1⟩,j2⟩
   ·exact .inr ⟨j1,q,i1,i2,i3,j2⟩
  ·rintro (⟨c,⟨q,i1,i2,i3,j1⟩,j2⟩ | ⟨j1,q,i1,i2,i3,j2⟩)
   ·have hq:=h1.fi q i1
    exact⟨q,i1,i2,((alk1 q hq).2 a).1 i3,(hp1 hq).2 (.inl ⟨c,j1,j2⟩)⟩
   ·have hq:=h1.fi q i1
    exact⟨q,i1,i2,((alk1 q hq).2 a).1 i3,(hp1 hq).2 (.inr ⟨j1,j2⟩)⟩
 refine⟨hcls,fun q hq=>?_,fun q hq=>?_,fun a b ha hb=>?_⟩
 ·have hq:q∈(if P.em=true then unI P.fi Q.fi else P.fi):=hq
  have hfi:q∈P.fi∨q∈Q.fi:=by
   split at hq
   ·exact mem_unI.1 hq
   ·exact .inl hq
  rcases hfi with h | h
  ·have:=h1.fi q h
   exact⟨this.1,by have:=this.2;show q<(S2.rl.length:Int);omega⟩
  ·have:=h2.fi q h
   exact⟨by have:=this.1;omega,this.2⟩
 ·have hq:q∈(if Q.em=true then unI P.la Q.la else Q.la):=hq
  have hla:q∈P.la∨q∈Q.la:=by
   split at hq
   ·exact mem_unI.1 hq
   ·exact .inr hq
  rcases hla with h | h
  ·have:=h1.la q h
   exact⟨this.1,by have:=this.2;show q<(S2.rl.length:Int);omega⟩
  ·have:=h2.la q h
   exact⟨by have:=this.1;omega,this.2⟩
 ·have hem:(behP P Q).em=(P.em&&Q.em):=rfl
  have hfi:Fi s (S2.join P.la Q.fi) (behP P Q).fi (behP P Q).la a b↔Fi s (S2.join P.la Q.fi) P.fi (behP P Q).la a b∨(P.em=true∧Fi s (S2.join P.la Q.fi) Q.fi (behP P Q).la a b):=by
   by_cases he:P.em=true
   ·have e:(behP P Q).fi=unI P.fi Q.fi:=if_pos he
    rw[e,Fi.or]
    exact⟨fun h=>h.imp id fun h=>⟨he,h⟩,fun h=>h.imp id And.right⟩
   ·have e:(behP P Q).fi=P.fi:=if_neg he
    rw[e]
    exact⟨.inl,fun h=>h.elim id fun h=>absurd h.1 he⟩
  rw[hT a b ha hb,hfi,fi1,fi2,hem,Bool.and_eq_true]
  constructor
  ·rintro⟨c,hc,t1,t2⟩
   rcases (h1.t a c ha hc).1 t1 with⟨e1,rfl⟩ | f1<;>rcases (h2.t _ b hc hb).1 t2 with⟨e2,rfl⟩ | f2
   ·exact .inl ⟨⟨e1,e2⟩,rfl⟩
   ·exact .inr (.inr ⟨e1,f2⟩)
   ·exact .inr (.inl (.inr ⟨e2,f1⟩))
   ·exact .inr (.inl (.inl ⟨c,f1,f2⟩))
  ·rintro (⟨⟨e1,e2⟩,rfl⟩ | (⟨c,f1,f2⟩ | ⟨e2,f1⟩) | ⟨e1,f2⟩)
   ·exact⟨a,ha,(h1.t a a ha ha).2 (.inl ⟨e1,rfl⟩),(h2.t a a ha ha).2 (.inl ⟨e2,rfl⟩)⟩
   ·have hc:c<s.length+1:=by have:=f1.lt.2;omega
    exact⟨c,hc,(h1.t a c ha hc).2 (.inr f1),(h2.t c b hc hb).2 (.inr f2)⟩
   ·exact⟨b,hb,(h1.t a b ha hb).2 (.inr f1),(h2.t b b hb hb).2 (.inl ⟨e2,rfl⟩)⟩
   ·exact⟨a,ha,(h1.t a a ha ha).2 (.inl ⟨e1,rfl⟩),(h2.t a b ha hb).2 (.inr f2)⟩
theorem sem_alt (hm:m≤S1.rl.length)(w1:WfB S1)(fr:Frm S1 S2)(h1:Sem s m S1 P T1)(h2:Sem s S1.rl.length S2 Q T2)
  (hT:∀a b,a<s.length+1→b<s.length+1→(T a b=true↔T1 a b=true∨T2 a b=true)):Sem s m S2 (altP P Q) T:=by
 have hlen:=fr.len
 have alk1:Alk s S1 S2 m S1.rl.length:=(fr.alk w1).sub (Nat.zero_le _) (Nat.le_refl _)
 have hF1:∀q,Rg m S1.rl.length q→(q∈P.la↔q∈(altP P Q).la):=fun q hq=>by
  show q∈P.la↔q∈unI P.la Q.la
  rw[mem_unI]
  exact⟨.inl,fun h=>h.resolve_right fun h=>by have:=(h2.la q h).1;have:=hq.2;omega⟩
 have hF2:∀q,Rg S1.rl.length S2.rl.length q→(q∈Q.la↔q∈(altP P Q).la):=fun q hq=>by
  show q∈Q.la↔q∈unI P.la Q.la
  rw[mem_unI]
  exact⟨.inr,fun h=>h.resolve_left fun h=>by have:=(h1.la q h).2;have:=hq.1;omega⟩
 have self:Alk s S2 S2 S1.rl.length S2.rl.length:=fun q _=>⟨fun _=>Iff.rfl,fun _=>Iff.rfl⟩
 have f1:∀{a b:Nat},Fi s S1 P.fi P.la a b↔Fi s S2 P.fi (altP P Q).la a b:=fun {a b}=>Fi.iff h1.cls alk1 h1.fi hF1
 have f2:∀{a b:Nat},Fi s S2 Q.fi Q.la a b↔Fi s S2 Q.fi (altP P Q).la a b:=fun {a b}=>Fi.iff h2.cls self h2.fi hF2
 refine⟨fun q z hq hz=>?_,fun q hq=>?_,fun q hq=>?_,fun a b ha hb=>?_⟩
 ·by_cases hlt:q<(S1.rl.length:Int)
  ·have hq1:Rg m S1.rl.length q:=⟨hq.1,hlt⟩
   have:=h1.cls q z hq1 (((alk1 q hq1).1 z).2 hz)
   exact⟨this.1,by have:=this.2;omega⟩
  ·have:=h2.cls q z ⟨by omega,hq.2⟩ hz
   exact⟨by have:=this.1;omega,this.2⟩
 ·rcases mem_unI.1 (show q∈unI P.fi Q.fi from hq) with h | h
  ·have:=h1.fi q h
   exact⟨this.1,by have:=this.2;omega⟩
  ·have:=h2.fi q h
   exact⟨by have:=this.1;omega,this.2⟩
 ·rcases mem_unI.1 (show q∈unI P.la Q.la from hq) with h | h
  ·have:=h1.la q h
   exact⟨this.1,by have:=this.2;omega⟩
  ·have:=h2.la q h
   exact⟨by have:=this.1;omega,this.2⟩
 ·have hem:(altP P Q).em=(P.em||Q.em):=rfl
  have hfi:Fi s S2 (altP P Q).fi (altP P Q).la a b↔Fi s S2 P.fi (altP P Q).la a b∨Fi s S2 Q.fi (altP P Q).la a b:=Fi.or
  rw[hT a b ha hb,h1.t a b ha hb,h2.t a b ha hb,hfi,←f1,←f2,hem,Bool.or_eq_true]
  constructor
  ·rintro ((⟨e,h⟩ | f) | (⟨e,h⟩ | f))
   ·exact .inl ⟨.inl e,h⟩
   ·exact .inr (.inl f)
   ·exact .inl ⟨.inr e,h⟩
   ·exact .inr (.inr f)
  ·rintro (⟨e | e,h⟩ | (f | f))
   ·exact .inl (.inl ⟨e,h⟩)
   ·exact .inr (.inl ⟨e,h⟩)
   ·exact .inl (.inr f)
   ·exact .inr (.inr f)
theorem sem_plus (w:WfB S)(h:Sem s m S P T){a b:Nat}(ha:a<s.length+1):Fi s (S.join P.la P.fi) P.fi P.la a b↔Tr (s.length+1) (Fi s S P.fi P.la) a b:=by
 have ej:∀q z,Rg m S.rl.length q→(ed (S.join P.la P.fi) q z↔ed S q z∨(q∈P.la∧z∈P.fi)):=fun q z hq=>ed_join (by rw[w.2];have:=hq.1;have:=hq.2;omega) (by have:=hq.1;omega)
 have hp:∀{q:Int} {a b:Nat},Rg m S.rl.length q→(Pa s (S.join P.la P.fi) (·∈P.la) q a b↔∃c,Pa s S (·∈P.la) q a c∧(c=b∨Tr (s.length+1) (Fi s S P.fi P.la) c b)):=fun {q a b} hq=>by
  constructor
  ·intro k
   induction k with
   | nil k=>exact⟨_,.nil k,.inl rfl⟩
   | @cons q z a b e1 e2 e3 e4 ih=>
    rcases (ej q z hq).1 e1 with e | ⟨el,ef⟩
    ·obtain⟨c,i1,i2⟩:=ih (h.cls q z hq e)
     exact⟨c,.cons e e2 e3 i1,i2⟩
    ·obtain⟨c,i1,i2⟩:=ih (h.fi z ef)
     have f1:Fi s S P.fi P.la a c:=⟨z,ef,e2,e3,i1⟩
     refine⟨a,.nil el,.inr ?_⟩
     rcases i2 with rfl | i2
     ·exact .one f1
     ·exact .step f1 (by have:=f1.lt.2;omega) i2
  ·rintro⟨c,i1,i2⟩
   -- what a row of such ways gives from an end on
   have tail:∀{c b:Nat},Tr (s.length+1) (Fi s S P.fi P.la) c b→∀q∈P.la,Pa s (S.join P.la P.fi) (·∈P.la) q c b:=fun {c b} k=>by
    have goes:∀{z:Int} {x y:Nat},Pa s S (·∈P.la) z x y→Rg m S.rl.length z→(∀q∈P.la,∀b,(y=b∨Pa s (S.join P.la P.fi) (·∈P.la) q y b)→True)→∀b,(∀q∈P.la,Pa s (S.join P.la P.fi) (·∈P.la) q y b)→Pa s (S.join P.la P.fi) (·∈P.la) z x b:=fun {z x y} k=>by
     induction k with
     | nil k=>exact fun _ _ b hb=>hb _ k
     | @cons z z' x y e1 e2 e3 _ ih=>exact fun hz _ b hb=>.cons ((ej z z' hz).2 (.inl e1)) e2 e3 (ih (h.cls z z' hz e1) (fun _ _ _ _=>trivial) b hb)
    induction k with
    | @one c b f=>
     intro q hq
     obtain⟨z,z1,z2,z3,z4⟩:=f
     refine .cons ((ej q z (h.la q hq)).2 (.inr ⟨hq,z1⟩)) z2 z3 (goes z4 (h.fi z z1) (fun _ _ _ _=>trivial) b fun q hq=>.nil hq)
    | @step c d b f _ _ ih=>
     intro q hq
     obtain⟨z,z1,z2,z3,z4⟩:=f
     exact .cons ((ej q z (h.la q hq)).2 (.inr ⟨hq,z1⟩)) z2 z3 (goes z4 (h.fi z z1) (fun _ _ _ _=>trivial) b ih)
   induction i1 with
   | @nil q a k=>
    rcases i2 with rfl | i2
    ·exact .nil k
    ·exact tail i2 q k
   | @cons q z a c e1 e2 e3 _ ih=>exact .cons ((ej q z hq).2 (.inl e1)) e2 e3 (ih (h.cls q z hq e1) i2)
 constructor
 ·rintro⟨q,i1,i2,i3,i4⟩
  obtain⟨c,j1,j2⟩:=(hp (h.fi q i1)).1 i4
  have f1:Fi s S P.fi P.la a c:=⟨q,i1,i2,i3,j1⟩
  rcases j2 with rfl | j2
  ·exact .one f1
  ·exact .step f1 (by have:=f1.lt.2;omega) j2
 ·intro k
  have split:∀{a b:Nat},Tr (s.length+1) (Fi s S P.fi P.la) a b→∃c,Fi s S P.fi P.la a c∧(c=b∨Tr (s.length+1) (Fi s S P.fi P.la) c b):=fun k=>by
   cases k with
   | one f=>exact⟨_,f,.inl rfl⟩
   | step f _ k=>exact⟨_,f,.inr k⟩
  obtain⟨c,⟨q,i1,i2,i3,i4⟩,j⟩:=split k
  exact⟨q,i1,i2,i3,(hp (h.fi q i1)).2 ⟨c,i4,j⟩⟩
end
end Go.Proofs.Ytnhennjliinplaa

namespace Go.Proofs.Ytnhennjliinplaa
open Go Go.Hm
def TE (N:Nat)(t u:TT):Prop:=∀a b,a<N→b<N→(t a b=true↔u a b=true)
theorem TE.refl {N:Nat}{t:TT}:TE N t t:=fun _ _ _ _=>Iff.rfl
theorem TE.trans {N:Nat}{t u v:TT}(h:TE N t u)(k:TE N u v):TE N t v:=fun a b ha hb=>(h a b ha hb).trans (k a b ha hb)
theorem thF_iff {f g:TT}{N a b:Nat}:thF f g N a b=true↔∃c,c<N∧f a c=true∧g c b=true:=by
 unfold thF
 rw[List.any_eq_true]
 constructor
 ·rintro⟨c,hc,h⟩
  rw[Bool.and_eq_true]at h
  exact⟨c,List.mem_range.1 hc,h.1,h.2⟩
 ·rintro⟨c,hc,h1,h2⟩
  exact⟨c,List.mem_range.2 hc,by rw[h1,h2];rfl⟩
theorem slF_iff {a b:Nat}:slF true a b=true↔a=b:=by
 unfold slF;simp
theorem slF_no {a b:Nat}:slF false a b=false:=by
 unfold slF;simp
theorem Sem.te {s:List UInt8}{m:Nat}{S:Bs}{P:Pl}{T U:TT}(h:Sem s m S P T)(k:TE (s.length+1) T U):Sem s m S P U:=⟨h.cls,h.fi,h.la,fun a b ha hb=>by rw[←k a b ha hb];exact h.t a b ha hb⟩
theorem waysM_app {N:Nat}{s:List UInt8}:∀(A B:List Nd) (ws:List TT),waysM N s (A++B) ws=waysM N s B (waysM N s A ws)
 | [],_,_=>rfl
 | x::A,B,ws=>waysM_app A B (ws++[nodeW N s ws x])
theorem waysM_old {N:Nat}{s:List UInt8}:∀(R:List Nd) (ws:List TT) (j:Nat),j<ws.length→(waysM N s R ws).getD j zT=ws.getD j zT
 | [],_,_,_=>rfl
 | x::R,ws,j,hj=>by
  show (waysM N s R (ws++[nodeW N s ws x])).getD j zT=_
  rw[waysM_old R _ j (by simp;omega)]
  rw[List.getD_eq_getElem?_getD,List.getD_eq_getElem?_getD,List.getElem?_append_left hj]
theorem fold_ws {N:Nat}{kd:Int}{ws ws':List TT}:∀(l:List Int) (t:TT),(∀q∈l,ws.getD q.toNat zT=ws'.getD q.toNat zT)→l.foldl (wKid N kd ws) t=l.foldl (wKid N kd ws') t
 | [],_,_=>rfl
 | q::l,t,h=>by
  have e:wKid N kd ws t q=wKid N kd ws' t q:=by unfold wKid;rw[h q List.mem_cons_self]
  show l.foldl (wKid N kd ws) (wKid N kd ws t q)=l.foldl (wKid N kd ws') (wKid N kd ws' t q)
  rw[e,fold_ws l _ fun q hq=>h q (List.mem_cons_of_mem _ hq)]
theorem waysM_at {N:Nat}{s:List UInt8}{R:List Nd}{j:Nat}{x:Nd}(hx:R[j]?=some x)(hk:∀q∈x.ks,q.toNat<j):(waysM N s R []).getD j zT=nodeW N s (waysM N s R []) x:=by
 have hj:j<R.length:=(List.getElem?_eq_some_iff.1 hx).1
 have e:R=R.take j++x::R.drop (j+1):=by
  have h:=List.take_append_drop j R
  rw[List.drop_eq_getElem_cons hj,get_some hx hj]at h
  exact h.symm
 obtain⟨ws,hws⟩:∃ws,ws=waysM N s (R.take j) []:=⟨_,rfl⟩
 have hl:ws.length=j:=by rw[hws,waysM_len];simp;omega
 have hw:waysM N s R []=waysM N s (R.drop (j+1)) (ws++[nodeW N s ws x]):=by
  conv=>lhs;rw[e]
  rw[waysM_app,←hws];rfl
 rw[hw,waysM_old _ _ j (by simp;omega)]
 have e1:(ws++[nodeW N s ws x]).getD j zT=nodeW N s ws x:=by
  rw[List.getD_eq_getElem?_getD,List.getElem?_append_right (by omega),hl,Nat.sub_self];rfl
 rw[e1]
 unfold nodeW
 congr 2
 refine fold_ws _ _ fun q hq=>?_
 have hq:=hk q hq
 rw[waysM_old _ _ _ (by simp;omega),List.getD_eq_getElem?_getD,List.getD_eq_getElem?_getD,List.getElem?_append_left (by omega)]
theorem chkR_e2 {R:List Nd}(h:chkR R=true):∀x∈R,x.kd=2→x.ks=[]:=fun x hx h1=>by
 obtain⟨_,_,u,hu,_⟩:=chkR_get h
 obtain⟨i,hi⟩:=List.getElem?_of_mem hx
 obtain⟨v,v',hv⟩:=chkL_at R 0 _ u hu i x hi
 obtain⟨h2,_⟩:=chkN_get hv
 unfold arOk at h2
 rw[if_pos (.inr h1)]at h2
 exact List.length_eq_zero_iff.1 (by simpa using h2)
theorem Tr.mono' {N:Nat}{f g:Nat→Nat→Prop}(h:∀a b,a<N→b<N→f a b→g a b){a b:Nat}(k:Tr N f a b):a<N→b<N→Tr N g a b:=by
 induction k with
 | one k=>exact fun ha hb=>.one (h _ _ ha hb k)
 | step k k2 _ ih=>exact fun ha hb=>.step (h _ _ ha k2 k) k2 (ih k2 hb)
theorem tr_or {N:Nat}{p:Prop}{f:Nat→Nat→Prop}{a b:Nat}:Tr N (fun a b=>(p∧a=b)∨f a b) a b↔(p∧a=b)∨Tr N f a b:=by
 constructor
 ·intro k
  induction k with
  | one k=>exact k.imp id .one
  | step k k2 _ ih=>
   rcases k with⟨_,rfl⟩ | k
   ·exact ih
   ·rcases ih with⟨_,rfl⟩ | ih
    ·exact .inr (.one k)
    ·exact .inr (.step k k2 ih)
 ·rintro (k | k)
  ·exact .one (.inl k)
  ·exact k.mono fun _ _ k=>.inr k
section
variable {s:List UInt8}{R:List Nd}{ws:List TT}{g:Int→Bs→Bs×Pl}
def KidS (s:List UInt8)(g:Int→Bs→Bs×Pl)(ws:List TT)(q:Int):Prop:=∀S,WfB S→Frm S (g q S).1∧Sem s S.rl.length (g q S).1 (g q S).2 (ws.getD q.toNat zT)
theorem cat_fold {S0:Bs}(w0:WfB S0):∀(l:List Int) (sp:Bs×Pl) (t:TT),(∀q∈l,KidS s g ws q)→Frm S0 sp.1→Sem s S0.rl.length sp.1 sp.2 t→
  Frm S0 (l.foldl (catS g) sp).1∧Sem s S0.rl.length (l.foldl (catS g) sp).1 (l.foldl (catS g) sp).2 (l.foldl (wKid (s.length+1) 3 ws) t)
 | [],_,_,_,h1,h2=>⟨h1,h2⟩
 | q::l,sp,t,hk,h1,h2=>by
  obtain⟨k1,k2⟩:=hk q List.mem_cons_self sp.1 h1.w
  have k3:=sem_cat (T:=wKid (s.length+1) 3 ws t q) h1.len h1.w k1 h2 k2 fun a b ha hb=>by
   unfold wKid
   rw[if_pos rfl,thF_iff]
  exact cat_fold w0 l (catS g sp q) _ (fun q hq=>hk q (List.mem_cons_of_mem _ hq)) (frm_join (h1.trans w0 k1) w0 fun q hq=>(h2.la q hq).1) k3
theorem alt_fold {S0:Bs}(w0:WfB S0):∀(l:List Int) (sp:Bs×Pl) (t:TT),(∀q∈l,KidS s g ws q)→Frm S0 sp.1→Sem s S0.rl.length sp.1 sp.2 t→
  Frm S0 (l.foldl (altS g) sp).1∧Sem s S0.rl.length (l.foldl (altS g) sp).1 (l.foldl (altS g) sp).2 (l.foldl (wKid (s.length+1) 4 ws) t)
 | [],_,_,_,h1,h2=>⟨h1,h2⟩
 | q::l,sp,t,hk,h1,h2=>by
  obtain⟨k1,k2⟩:=hk q List.mem_cons_self sp.1 h1.w
  have k3:=sem_alt (T:=wKid (s.length+1) 4 ws t q) h1.len h1.w k1 h2 k2 fun a b ha hb=>by
   unfold wKid
   rw[if_neg (by decide),Bool.or_eq_true]
  exact alt_fold w0 l (altS g sp q) _ (fun q hq=>hk q (List.mem_cons_of_mem _ hq)) (h1.trans w0 k1) k3
theorem fi_nil {S:Bs}{la:List Int}{a b:Nat}:¬Fi s S [] la a b:=fun⟨_,h,_⟩=>nomatch h
theorem cls_nil {S:Bs}{m:Nat}:Cls S m m:=fun q z hq _=>by have:=hq.1;have:=hq.2;omega
theorem sem_eps {S:Bs}:Sem s S.rl.length S ⟨true,[],[]⟩ (slF true):=⟨cls_nil,fun _ h=>(nomatch h),fun _ h=>(nomatch h),fun a b _ _=>by
 rw[slF_iff]
 exact⟨fun h=>.inl ⟨rfl,h⟩,fun h=>h.elim And.right fun h=>absurd h fi_nil⟩⟩
theorem sem_no {S:Bs}:Sem s S.rl.length S noP (slF false):=⟨cls_nil,fun _ h=>(nomatch h),fun _ h=>(nomatch h),fun a b _ _=>by
 rw[slF_no]
 exact⟨fun h=>Bool.noConfusion h,fun h=>h.elim (fun h=>Bool.noConfusion h.1) fun h=>absurd h fi_nil⟩⟩
theorem sem_cls {S:Bs}{cs:List AV}(w:WfB S)(hc:cs.length=4):Frm S (S.add cs)∧Sem s S.rl.length (S.add cs) ⟨false,[(S.rl.length:Int)],[(S.rl.length:Int)]⟩ (clS cs s s.length):=by
 have hn:(S.nx++[[]]).getD S.rl.length []=[]:=by
  rw[←w.2,List.getD_eq_getElem?_getD,List.getElem?_append_right (Nat.le_refl _),Nat.sub_self];rfl
 have hl:(S.add cs).rl.length=S.rl.length+1:=by simp[Bs.add]
 have ne:∀q z,Rg S.rl.length (S.rl.length+1) q→¬ed (S.add cs) q z:=fun q z hq h=>by
  obtain rfl:q=(S.rl.length:Int):=by have:=hq.1;have:=hq.2;omega
  unfold ed at h
  rw[Int.toNat_natCast]at h
  rw[show (S.add cs).nx=S.nx++[[]] from rfl,hn]at h
  exact nomatch h
 refine⟨⟨⟨?_,?_⟩,⟨cs,rfl⟩,⟨1,rfl⟩,fun j hj=>?_⟩,⟨?_,?_,?_,fun a b ha hb=>?_⟩⟩
 ·show (S.cl++cs).length=(S.rl++[-1]).length*4
  have:=w.1
  simp;omega
 ·show (S.nx++[[]]).length=(S.rl++[-1]).length
  have:=w.2
  simp;omega
 ·show (S.nx++[[]]).getD j []=_
  rw[List.getD_eq_getElem?_getD,List.getD_eq_getElem?_getD,List.getElem?_append_left hj]
 ·rw[hl]
  exact fun q z hq h=>absurd h (ne q z hq)
 ·rw[hl]
  intro q hq
  obtain rfl:q=(S.rl.length:Int):=by simpa using hq
  exact⟨by omega,by omega⟩
 ·rw[hl]
  intro q hq
  obtain rfl:q=(S.rl.length:Int):=by simpa using hq
  exact⟨by omega,by omega⟩
 ·have hlab:lab (S.add cs) s (S.rl.length:Int) a↔hasC cs (s.getD a 0).toNat=true:=by
   unfold lab
   rw[Int.toNat_natCast,show (S.add cs).cl=S.cl++cs from rfl,←w.1,List.drop_append,List.drop_length,Nat.sub_self,List.drop_zero,List.nil_append,List.take_of_length_le (by omega)]
  have hpa:∀{c:Nat},Pa s (S.add cs) (·∈[(S.rl.length:Int)]) (S.rl.length:Int) c b↔c=b:=fun {c}=>by
   constructor
   ·intro h
    cases h with
    | nil _=>rfl
    | cons h _ _ _=>exact absurd h (ne _ _ ⟨by omega,by omega⟩)
   ·rintro rfl
    exact .nil (by simp)
  unfold clS
  constructor
  ·intro h
   split at h
   ·rename_i h1
    exact .inr ⟨_,List.mem_cons_self,h1.1,hlab.2 h,hpa.2 h1.2.symm⟩
   ·exact Bool.noConfusion h
  ·rintro (⟨h,_⟩ | ⟨q,h1,h2,h3,h4⟩)
   ·exact Bool.noConfusion h
   ·obtain rfl:q=(S.rl.length:Int):=by simpa using h1
    have h5:=hpa.1 h4
    rw[if_pos ⟨h2,h5.symm⟩]
    exact hlab.1 h3
theorem sem_one {S0:Bs}{x:Nd}{sp:Bs×Pl}{t:TT}(w0:WfB S0)(hk:x.kd=5∨x.kd=6∨x.kd=7)(h1:Frm S0 sp.1)(h2:Sem s S0.rl.length sp.1 sp.2 t):
  Frm S0 (one1 x sp).1∧Sem s S0.rl.length (one1 x sp).1 (one1 x sp).2 (wT4 x.kd (wT3 (s.length+1) x.kd t)):=by
 have ag:∀{a b:Nat},a<s.length+1→b<s.length+1→(agM (s.length+1) (fun i k=>t i k||t i k) (s.length+1) a b=true↔(sp.2.em=true∧a=b)∨Fi s (sp.1.join sp.2.la sp.2.fi) sp.2.fi sp.2.la a b):=fun {a b} ha hb=>by
  rw[agM_iff ha hb,sem_plus h1.w h2 ha,←tr_or]
  constructor
  ·intro k
   exact k.mono' (fun a b ha hb k=>(h2.t a b ha hb).1 (by simpa using k)) ha hb
  ·intro k
   exact k.mono' (fun a b ha hb k=>by have:=(h2.t a b ha hb).2 k;simpa using this) ha hb
 have cj:Cls (sp.1.join sp.2.la sp.2.fi) S0.rl.length sp.1.rl.length:=fun q z hq hz=>by
  have hq1:=hq.1
  have hq2:=hq.2
  rcases (ed_join (by rw[h1.w.2];omega) (by omega)).1 hz with hz | hz
  ·exact h2.cls q z hq hz
  ·exact h2.fi z hz.2
 have fj:=frm_join h1 w0 (l:=sp.2.la) (v:=sp.2.fi) fun q hq=>(h2.la q hq).1
 unfold one1
 dsimp only
 rcases hk with hk | hk | hk
 ·rw[if_neg (by omega),hk]
  refine⟨fj,cj,h2.fi,h2.la,fun a b ha hb=>?_⟩
  unfold wT4 wT3
  rw[if_pos (.inl rfl),if_pos (.inl rfl),Bool.or_eq_true,ag ha hb,slF_iff]
  simp only[show (decide ((5:Int)≠6))=true from rfl,Bool.or_true,true_and]
  exact⟨fun h=>h.elim (fun h=>h.imp And.right id) .inl,fun h=>h.elim .inr fun h=>.inl (.inr h)⟩
 ·rw[if_neg (by omega),hk]
  refine⟨fj,cj,h2.fi,h2.la,fun a b ha hb=>?_⟩
  unfold wT4 wT3
  rw[if_neg (by decide),if_pos (.inr rfl),ag ha hb]
  simp only[show (decide ((6:Int)≠6))=false from rfl,Bool.or_false]
 ·rw[if_pos hk,hk]
  refine⟨h1,h2.cls,h2.fi,h2.la,fun a b ha hb=>?_⟩
  unfold wT4 wT3
  rw[if_pos (.inr rfl),if_neg (by decide),Bool.or_eq_true,h2.t a b ha hb,slF_iff]
  simp only[show (decide ((7:Int)≠6))=true from rfl,Bool.or_true,true_and]
  exact⟨fun h=>h.elim (fun h=>h.imp And.right id) .inl,fun h=>h.elim .inr fun h=>.inl (.inr h)⟩
theorem node_sem (hR:RxOk R)(h1:RxE R)(h2:∀x∈R,x.kd=2→x.ks=[]):∀(f j:Nat),j<f→j<R.length→KidS s (nodeM R f) (waysM (s.length+1) s R []) (j:Int)
 | 0,_,h,_=>absurd h (Nat.not_lt_zero _)
 | f+1,j,h,hj=>fun S w=>by
  have hx:R[j]?=some R[j]:=List.getElem?_eq_getElem hj
  obtain⟨hok,hks,hkd⟩:=hR j R[j] hx
  have e1:=h1 R[j] (List.getElem_mem hj)
  have e2:=h2 R[j] (List.getElem_mem hj)
  have kid:∀q∈R[j].ks,KidS s (nodeM R f) (waysM (s.length+1) s R []) q:=fun q hq=>by
   obtain⟨k1,k2⟩:=hks q hq
   obtain⟨q,rfl⟩:=Int.eq_ofNat_of_zero_le k1
   exact node_sem hR h1 h2 f q (by omega) (by omega)
  have hT:=waysM_at (N:=s.length+1) (s:=s) hx fun q hq=>by have:=hks q hq;omega
  simp only[nodeM,Int.toNat_natCast,hx,hT]
  generalize R[j]=x at hok hks hkd e1 e2 kid ⊢
  generalize waysM (s.length+1) s R []=ws at kid ⊢
  generalize nodeM R f=g at kid ⊢
  unfold nodeW
  by_cases k1:x.kd=1
  ·rw[if_pos k1,e1 k1,k1]
   exact⟨Frm.refl w,sem_eps⟩
  rw[if_neg k1]
  by_cases k2:x.kd=2
  ·rw[if_pos k2,e2 k2,k2]
   exact sem_cls w hok.1
  rw[if_neg k2]
  by_cases k3:x.kd=3
  ·rw[if_pos k3]
   obtain⟨q,l,hl⟩:∃q l,x.ks=q::l:=by
    cases hk:x.ks with
    | nil=>rw[hk]at hkd;simp at hkd;omega
    | cons a l=>exact⟨a,l,rfl⟩
   rw[hl]at kid ⊢
   rw[k3]
   obtain⟨i1,i2⟩:=kid q List.mem_cons_self S w
   have i3:TE (s.length+1) (ws.getD q.toNat zT) (wKid (s.length+1) 3 ws (wT1 s 3 x.cs) q):=fun a b ha hb=>by
    unfold wKid
    rw[if_pos rfl,thF_iff]
    have e:wT1 s 3 x.cs=slF true:=rfl
    rw[e]
    exact⟨fun h=>⟨a,ha,slF_iff.2 rfl,h⟩,fun⟨c,_,hc,h⟩=>by rw[slF_iff]at hc;rw[hc];exact h⟩
   exact cat_fold w l _ _ (fun q hq=>kid q (List.mem_cons_of_mem _ hq)) i1 (i2.te i3)
  rw[if_neg k3]
  by_cases k4:x.kd=4
  ·rw[if_pos k4,k4]
   exact alt_fold w x.ks (S,noP) _ kid (Frm.refl w) sem_no
  rw[if_neg k4]
  have k5:(x.kd=5∨x.kd=6∨x.kd=7)∧x.ks.length=1:=by
   rcases hkd with h | h | h | h
   ·exact absurd h k1
   ·exact absurd h k2
   ·rcases h.1 with h | h
    ·exact absurd h k3
    ·exact absurd h k4
   ·exact h
  obtain⟨k5,k6⟩:=k5
  obtain⟨q,hl⟩:∃q,x.ks=[q]:=by
   match hk:x.ks,k6 with
   | [q],_=>exact⟨q,rfl⟩
  rw[hl]at kid ⊢
  obtain⟨i1,i2⟩:=kid q List.mem_cons_self S w
  refine sem_one w k5 i1 (i2.te fun a b ha hb=>?_)
  show _↔wKid (s.length+1) x.kd ws (wT1 s x.kd x.cs) q a b=true
  unfold wKid wT1 wT0
  rw[if_neg k3,if_neg k2,decide_eq_false k1,decide_eq_false k3,Bool.or_eq_true]
  rw[show (false||false)=false from rfl,slF_no]
  exact⟨.inr,fun h=>h.elim (fun h=>Bool.noConfusion h) id⟩
end
end Go.Proofs.Ytnhennjliinplaa

namespace Go.Proofs.Ytnhennjliinplaa
open Go Go.Hm
def Ac (s:List UInt8)(S:Bs)(r:Int):Prop:=Pa s S (fun q=>S.rl.getD q.toNat (-1)=r) 0 0 s.length
def Be (s:List UInt8)(S:Bs)(b:Int):Prop:=(b= -1∧∀r,0≤r→¬Ac s S r)∨(0≤b∧Ac s S b∧∀r,0≤r→Ac s S r→b≤r)
structure Inv (S:Bs)(i:Nat):Prop where
 w:WfB S
 p:1≤S.rl.length
 e0:∀z,ed S 0 z→Rg 1 S.rl.length z
 c:Cls S 1 S.rl.length
 r:∀v∈S.rl,-1≤v∧v<(i:Int)
 z:S.cl.take 4=[U 0,U 0,U 0,U 0]
def matB (s:List UInt8)(R:List Nd):Bool:=(waysM (s.length+1) s R []).getD (R.length-1) zT 0 s.length
theorem Pa.fin {s:List UInt8}{S:Bs}{F:Int→Prop}{q:Int}{a b:Nat}(h:Pa s S F q a b):∃z,F z:=by
 induction h with
 | nil h=>exact⟨_,h⟩
 | cons _ _ _ _ ih=>exact ih
theorem fill_at (z:Int):∀(l cs:List Int) (j:Nat) (d:Int),(∀k∈l,0≤k)→j<cs.length→(fillI z l cs).getD j d=if (j:Int)∈l then z else cs.getD j d
 | [],cs,j,d,_,_=>by simp[fillI]
 | k::l,cs,j,d,h,hj=>by
  show (fillI z l (cs.set k.toNat z)).getD j d=_
  rw[fill_at z l _ j d (fun k hk=>h k (List.mem_cons_of_mem _ hk)) (by simpa using hj)]
  have hk:=h k List.mem_cons_self
  by_cases h1:(j:Int)∈l
  ·rw[if_pos h1,if_pos (List.mem_cons_of_mem _ h1)]
  rw[if_neg h1]
  by_cases h2:(j:Int)=k
  ·rw[if_pos (by rw[h2];exact List.mem_cons_self),List.getD_eq_getElem?_getD,show k.toNat=j by omega,List.getElem?_set_self hj];rfl
  ·rw[if_neg (fun h=>(List.mem_cons.1 h).elim h2 h1),List.getD_eq_getElem?_getD,List.getElem?_set_ne (by omega),←List.getD_eq_getElem?_getD]
theorem getD_mem {l:List Int}{j:Nat}{d:Int}:l.getD j d∈l∨l.getD j d=d:=by
 rw[List.getD_eq_getElem?_getD]
 cases h:l[j]? with
 | none=>exact .inr rfl
 | some x=>exact .inl (List.mem_of_getElem? h)
theorem Ac.lt {s:List UInt8}{S:Bs}{i:Nat}{r:Int}(I:Inv S i)(h:Ac s S r)(h0:0≤r):r<(i:Int):=by
 obtain⟨z,hz⟩:=h.fin
 rcases getD_mem (l:=S.rl) (j:=z.toNat) (d:=-1) with hm | hm
 ·rw[←hz];exact(I.r _ hm).2
 ·omega
theorem getD_app {l m:List Int}{j:Nat}{d:Int}(h:j<l.length):(l++m).getD j d=l.getD j d:=by
 rw[List.getD_eq_getElem?_getD,List.getD_eq_getElem?_getD,List.getElem?_append_left h]
theorem getD_rep {l:List Int}{k j:Nat}(h:l.length≤j):(l++List.replicate k (-1)).getD j (-1)= -1:=by
 rw[List.getD_eq_getElem?_getD,List.getElem?_append_right h]
 rcases Nat.lt_or_ge (j-l.length) k with h2 | h2
 ·rw[List.getElem?_replicate_of_lt h2];rfl
 ·rw[List.getElem?_eq_none (by simp;omega)];rfl
section
variable {s:List UInt8}{R:List Nd}{S:Bs}{i:Nat}
theorem one_inv (hch:chkR R=true)(hnd:∀x∈R,NdOk x)(I:Inv S i):Inv (oneB i R S) (i+1)∧∀b,Be s S b→Be s (oneB i R S) (if b<0 then (if matB s R=true then (i:Int) else -1) else b):=by
 have hR:=chkR_ok hch hnd
 have hlen:=(chkR_get hch).1
 obtain⟨fr,se⟩:=node_sem (s:=s) hR (chkR_e hch) (chkR_e2 hch) R.length (R.length-1) (by omega) (by omega) S I.w
 have hw2:=oneB_wf (fun x hx=>(hnd x hx).1) i I.w
 have hl2:=oneB_len i R S
 have hmat:matB s R=(waysM (s.length+1) s R []).getD (R.length-1) zT 0 s.length:=rfl
 unfold oneB at hw2 hl2 ⊢
 rw[Int.toNat_natCast]at se
 generalize (waysM (s.length+1) s R []).getD (R.length-1) zT=T at se hmat
 generalize nodeM R R.length ((R.length-1:Nat):Int) S=sp at fr se hw2 hl2 ⊢
 obtain⟨S1,P⟩:=sp
 dsimp only at fr se hw2 hl2 ⊢
 obtain⟨k,hk⟩:=fr.rl
 have hle:=fr.len
 have hp:=I.p
 have hla0:∀q∈P.la,0≤q:=fun q hq=>by have:=(se.la q hq).1;omega
 -- the rules
 obtain⟨r2,hr2⟩:∃r2,r2=if (P.em&&decide ((fillI i P.la S1.rl).getD 0 0<0))=true then (fillI i P.la S1.rl).set 0 i else fillI i P.la S1.rl:=⟨_,rfl⟩
 rw[←hr2]at hw2 hl2 ⊢
 have n0:((0:Nat):Int)∉P.la:=fun h=>by have:=(se.la _ h).1;omega
 have f0:∀d,(fillI i P.la S1.rl).getD 0 d=S.rl.getD 0 d:=fun d=>by
  rw[fill_at i P.la S1.rl 0 d hla0 (by omega),if_neg n0,hk,getD_app (by omega)]
 have g0:∀d,S.rl.getD 0 d=S.rl.getD 0 (-1):=fun d=>by
  rw[List.getD_eq_getElem?_getD,List.getD_eq_getElem?_getD,List.getElem?_eq_getElem (by omega)];rfl
 have q0:r2.getD 0 (-1)=if P.em=true∧S.rl.getD 0 (-1)<0 then (i:Int) else S.rl.getD 0 (-1):=by
  rw[hr2,f0,g0]
  by_cases h:P.em=true∧S.rl.getD 0 (-1)<0
  ·rw[if_pos (by rw[h.1,decide_eq_true h.2];rfl),if_pos h,List.getD_eq_getElem?_getD,List.getElem?_set_self (by simp;omega)];rfl
  ·rw[if_neg (by intro h2;simp only[Bool.and_eq_true,decide_eq_true_eq]at h2;exact h h2),if_neg h,f0]
 have q1:∀j,1≤j→j<S1.rl.length→r2.getD j (-1)=if (j:Int)∈P.la then (i:Int) else S1.rl.getD j (-1):=fun j h1 h2=>by
  rw[←fill_at i P.la S1.rl j (-1) hla0 h2,hr2]
  split
  ·rw[List.getD_eq_getElem?_getD,List.getElem?_set_ne (by omega),←List.getD_eq_getElem?_getD]
  ·rfl
 have qo:∀q,Rg 1 S.rl.length q→r2.getD q.toNat (-1)=S.rl.getD q.toNat (-1):=fun q hq=>by
  have h1:=hq.1
  have h2:=hq.2
  rw[q1 q.toNat (by omega) (by omega),if_neg (fun h=>by have:=(se.la _ h).1;omega),hk,getD_app (by omega)]
 have qn:∀q,Rg S.rl.length S1.rl.length q→r2.getD q.toNat (-1)=if q∈P.la then (i:Int) else -1:=fun q hq=>by
  have h1:=hq.1
  have h2:=hq.2
  rw[q1 q.toNat (by omega) (by omega),Int.toNat_of_nonneg (by omega),hk,getD_rep (by omega)]
 have hr2l:r2.length=S1.rl.length:=hl2
 obtain⟨S2,hS2⟩:∃S2:Bs,S2=⟨S1.cl,r2,joinM S1.nx [0] P.fi⟩:=⟨_,rfl⟩
 rw[←hS2]at hw2 ⊢
 have hrl:S2.rl=r2:=by rw[hS2]
 have hcl:S2.cl=S1.cl:=by rw[hS2]
 have ej:∀p q,0≤p→p<(S1.rl.length:Int)→(ed S2 p q↔ed S1 p q∨(p=0∧q∈P.fi)):=fun p q h0 h1=>by
  have:=ed_join (S:=S1) (l:=[0]) (v:=P.fi) (p:=p) (q:=q) (by rw[fr.w.2];omega) h0
  rw[hS2]
  refine this.trans ?_
  simp
 have hlab:∀q a,lab S2 s q a↔lab S1 s q a:=fun q a=>by unfold lab;rw[hcl]
 have ako:Alk s S S2 1 S.rl.length:=fun q hq=>by
  have h1:=hq.1
  have h2:=hq.2
  obtain⟨a1,a2⟩:=fr.alk (s:=s) I.w q ⟨by omega,h2⟩
  refine⟨fun z=>?_,fun a=>by rw[hlab];exact a2 a⟩
  rw[ej q z (by omega) (by omega),←a1 z]
  exact⟨.inl,fun h=>h.elim id fun h=>by omega⟩
 have akn:Alk s S1 S2 S.rl.length S1.rl.length:=fun q hq=>by
  have h1:=hq.1
  have h2:=hq.2
  refine⟨fun z=>?_,fun a=>(hlab q a).symm⟩
  rw[ej q z (by omega) (by omega)]
  exact⟨.inl,fun h=>h.elim id fun h=>by omega⟩
 have e0S:∀z,ed S2 0 z↔ed S 0 z∨z∈P.fi:=fun z=>by
  obtain⟨a1,_⟩:=fr.alk (s:=s) I.w 0 ⟨by omega,by omega⟩
  rw[ej 0 z (by omega) (by omega),←a1 z];simp
 have cn:=se.cls.alk akn
 have co:=I.c.alk ako
 refine⟨⟨hw2,by rw[hrl];omega,fun z hz=>?_,fun q z hq hz=>?_,fun v hv=>?_,?_⟩,?_⟩
 ·rw[hrl,hr2l]
  rcases (e0S z).1 hz with h | h
  ·have:=I.e0 z h
   exact⟨this.1,by have:=this.2;omega⟩
  ·have:=se.fi z h
   exact⟨by have:=this.1;omega,this.2⟩
 ·rw[hrl,hr2l]at hq ⊢
  by_cases h:q<(S.rl.length:Int)
  ·have:=co q z ⟨hq.1,h⟩ hz
   exact⟨this.1,by have:=this.2;omega⟩
  ·have:=cn q z ⟨by omega,hq.2⟩ hz
   exact⟨by have:=this.1;omega,this.2⟩
 ·rw[hrl]at hv
  obtain⟨j,hj⟩:=List.getElem?_of_mem hv
  have hj2:j<S1.rl.length:=by rw[←hr2l];exact(List.getElem?_eq_some_iff.1 hj).1
  have hv2:v=r2.getD j (-1):=by rw[List.getD_eq_getElem?_getD,hj];rfl
  have old:∀j,-1≤S.rl.getD j (-1)∧S.rl.getD j (-1)<((i+1:Nat):Int):=fun j=>by
   rcases getD_mem (l:=S.rl) (j:=j) (d:=-1) with h | h
   ·have:=I.r _ h;omega
   ·omega
  rw[hv2]
  by_cases h0:j=0
  ·rw[h0,q0]
   split
   ·omega
   ·exact old 0
  ·by_cases h1:j<S.rl.length
   ·have e:=qo (j:Int) ⟨by omega,by omega⟩
    rw[Int.toNat_natCast]at e
    rw[e];exact old j
   ·have e:=qn (j:Int) ⟨by omega,by omega⟩
    rw[Int.toNat_natCast]at e
    rw[e]
    split<;>omega
 ·obtain⟨c,hc⟩:=fr.cl
  have:=I.w.1
  rw[hcl,hc,List.take_append_of_le_length (by omega),I.z]
 ·-- what answers
  have hTm:=se.t 0 s.length (by omega) (by omega)
  rw[←hmat]at hTm
  by_cases hs:s.length=0
  ·have a0:∀(S:Bs) r,Ac s S r↔S.rl.getD 0 (-1)=r:=fun S r=>by
    unfold Ac
    rw[hs]
    constructor
    ·intro h
     cases h with
     | nil h=>exact h
     | cons _ h _ _=>omega
    ·intro h
     exact .nil h
   have hm:matB s R=true↔P.em=true:=by
    rw[hTm,hs]
    exact⟨fun h=>h.elim And.left fun h=>by have:=h.lt;omega,fun h=>.inl ⟨h,rfl⟩⟩
   intro b hb
   have hb1:S.rl.getD 0 (-1)=b∨(b= -1∧S.rl.getD 0 (-1)<0):=by
    rcases hb with⟨h1,h2⟩ | ⟨h1,h2,_⟩
    ·refine .inr ⟨h1,?_⟩
     have:=h2 (S.rl.getD 0 (-1))
     rw[a0]at this
     exact Int.not_le.1 fun h=>this h rfl
    ·exact .inl ((a0 _ _).1 h2)
   have hge: -1≤S.rl.getD 0 (-1):=by
    rcases getD_mem (l:=S.rl) (j:=0) (d:=-1) with h | h
    ·exact(I.r _ h).1
    ·omega
   have hb2:S.rl.getD 0 (-1)=b:=by omega
   have fin:∀c,-1≤c→r2.getD 0 (-1)=c→Be s S2 c:=fun c h1 h2=>by
    by_cases h3:c= -1
    ·exact .inl ⟨h3,fun r hr h=>by rw[a0,hrl,h2]at h;omega⟩
    ·exact .inr ⟨by omega,by rw[a0,hrl,h2],fun r hr h=>by rw[a0,hrl,h2]at h;omega⟩
   rw[hb2]at q0 hge
   by_cases h1:b<0
   ·rw[if_pos h1]
    by_cases h2:P.em=true
    ·rw[if_pos (hm.2 h2)]
     exact fin _ (by omega) (by rw[q0,if_pos ⟨h2,h1⟩])
    ·rw[if_neg fun h=>h2 (hm.1 h)]
     exact fin _ (by omega) (by rw[q0,if_neg fun h=>h2 h.1];omega)
   ·rw[if_neg h1]
    exact fin _ hge (by rw[q0,if_neg fun h=>h1 h.2])
  ·have hm:matB s R=true↔Fi s S1 P.fi P.la 0 s.length:=by
    rw[hTm]
    exact⟨fun h=>h.elim (fun h=>absurd h.2.symm hs) id,.inr⟩
   -- by the first step
   have a1:∀(S:Bs) r,Ac s S r↔∃z,ed S 0 z∧lab S s z 0∧Pa s S (fun q=>S.rl.getD q.toNat (-1)=r) z 1 s.length:=fun S r=>by
    unfold Ac
    constructor
    ·intro h
     obtain⟨n,hn⟩:∃n,n=s.length:=⟨_,rfl⟩
     rw[←hn]at h ⊢
     cases h with
     | nil h=>omega
     | cons h1 h2 h3 h4=>exact⟨_,h1,h3,h4⟩
    ·rintro⟨z,h1,h3,h4⟩
     exact .cons h1 (by omega) h3 h4
   have a2:∀r,0≤r→(Ac s S2 r↔Ac s S r∨(r=i∧matB s R=true)):=fun r h0=>by
    rw[a1 S2 r,a1 S r,hm]
    have po:∀z,Rg 1 S.rl.length z→(Pa s S2 (fun q=>S2.rl.getD q.toNat (-1)=r) z 1 s.length↔Pa s S (fun q=>S.rl.getD q.toNat (-1)=r) z 1 s.length):=fun z hz=>(Pa.iff I.c ako (fun q hq=>by rw[hrl,qo q hq]) hz).symm
    have pn:∀z,Rg S.rl.length S1.rl.length z→(Pa s S2 (fun q=>S2.rl.getD q.toNat (-1)=r) z 1 s.length↔r=i∧Pa s S1 (·∈P.la) z 1 s.length):=fun z hz=>by
     by_cases hi:r=i
     ·refine Iff.trans (Pa.iff se.cls akn (fun q hq=>?_) hz).symm ⟨fun h=>⟨hi,h⟩,And.right⟩
      rw[hrl,qn q hq,hi]
      split
      ·rename_i h;exact⟨fun _=>rfl,fun _=>h⟩
      ·rename_i h;exact⟨fun h2=>absurd h2 h,fun h2=>by omega⟩
     ·refine⟨fun h=>?_,fun h=>absurd h.1 hi⟩
      exact absurd (h.no cn (fun q hq=>by rw[hrl,qn q hq];split<;>omega) hz) id
    constructor
    ·rintro⟨z,h1,h2,h3⟩
     rcases (e0S z).1 h1 with h | h
     ·have hz:=I.e0 z h
      exact .inl ⟨z,h,((ako z hz).2 0).2 h2,(po z hz).1 h3⟩
     ·have hz:=se.fi z h
      obtain⟨h4,h5⟩:=(pn z hz).1 h3
      exact .inr ⟨h4,z,h,by omega,((akn z hz).2 0).2 h2,h5⟩
    ·rintro (⟨z,h1,h2,h3⟩ | ⟨h0,z,h1,h2,h3,h4⟩)
     ·have hz:=I.e0 z h1
      exact⟨z,(e0S z).2 (.inl h1),((ako z hz).2 0).1 h2,(po z hz).2 h3⟩
     ·have hz:=se.fi z h1
      exact⟨z,(e0S z).2 (.inr h1),((akn z hz).2 0).1 h3,(pn z hz).2 ⟨h0,h4⟩⟩
   rintro b (⟨rfl,h2⟩ | ⟨h1,h2,h3⟩)
   ·rw[if_pos (by decide)]
    by_cases h4:matB s R=true
    ·rw[if_pos h4]
     refine .inr ⟨by omega,(a2 _ (by omega)).2 (.inr ⟨rfl,h4⟩),fun r h0 h=>?_⟩
     rcases (a2 r h0).1 h with h | h
     ·exact absurd h (h2 r h0)
     ·omega
    ·rw[if_neg h4]
     refine .inl ⟨rfl,fun r h0 h=>?_⟩
     rcases (a2 r h0).1 h with h | h
     ·exact h2 r h0 h
     ·exact h4 h.2
   ·rw[if_neg (by omega)]
    refine .inr ⟨h1,(a2 _ h1).2 (.inl h2),fun r h0 h=>?_⟩
    rcases (a2 r h0).1 h with h | h
    ·exact h3 r h0 h
    ·have:=h2.lt I h1
     omega
end
def wantM (s:List UInt8):Nat→List (List Nd)→Int→Int
 | _,[],b=>b
 | i,R::r,b=>wantM s (i+1) r (if b<0 then (if matB s R=true then (i:Int) else -1) else b)
theorem build_be {s:List UInt8}:∀(Ls:List (List Nd)) (i:Nat) (S:Bs) (b:Int),(∀R∈Ls,chkR R=true∧∀x∈R,NdOk x)→Inv S i→Be s S b→Inv (buildM i Ls S) (i+Ls.length)∧Be s (buildM i Ls S) (wantM s i Ls b)
 | [],_,_,_,_,I,h=>⟨I,h⟩
 | R::r,i,S,b,hc,I,h=>by
  obtain⟨h1,h2⟩:=hc R List.mem_cons_self
  obtain⟨h3,h4⟩:=one_inv (s:=s) h1 h2 I
  have:=build_be r (i+1) (oneB i R S) _ (fun R hR=>hc R (List.mem_cons_of_mem _ hR)) h3 (h4 b h)
  rw[List.length_cons,show i+(r.length+1)=i+1+r.length by omega]
  exact this
theorem s00_inv:Inv s00 0:=⟨s00_wf,by decide,fun z h=>(nomatch h),fun q z hq h=>by
 have h1:=hq.1
 have h2:q<1:=hq.2
 omega,fun v hv=>by simp[s00]at hv;subst hv;decide,rfl⟩
theorem s00_be {s:List UInt8}:Be s s00 (-1):=.inl ⟨rfl,fun r h0 h=>by
 unfold Ac at h
 generalize s.length=n at h
 cases h with
 | nil h=>
  have h:(-1:Int)=r:=h
  omega
 | cons h _ _ _=>exact nomatch h⟩
end Go.Proofs.Ytnhennjliinplaa

namespace Go.Proofs.Ytnhennjliinplaa
open Go Go.Hm
def nfB (S:Bs):Nf:=⟨S.rl.length,S.cl,S.nx.map normI,S.rl⟩
theorem Pa.split {s:List UInt8}{S:Bs}{F:Int→Prop}{q:Int}{a b:Nat}:Pa s S F q a b↔∃z,F z∧Pa s S (fun y=>y=z) q a b:=by
 constructor
 ·intro h
  induction h with
  | nil h=>exact⟨_,h,.nil rfl⟩
  | cons h1 h2 h3 _ ih=>
   obtain⟨z,i1,i2⟩:=ih
   exact⟨z,i1,.cons h1 h2 h3 i2⟩
 ·rintro⟨z,h0,h⟩
  induction h with
  | nil h=>exact .nil (by rw[h];exact h0)
  | cons h1 h2 h3 _ ih=>exact .cons h1 h2 h3 ih
section
variable {s:List UInt8}{S:Bs}{i:Nat}
theorem Inv.cl0 (I:Inv S i):Cls S 0 S.rl.length:=fun q z hq hz=>by
 have h1:=hq.1
 have h2:=hq.2
 by_cases h:q=0
 ·have:=I.e0 z (by rw[←h];exact hz)
  exact⟨by have:=this.1;omega,this.2⟩
 ·have:=I.c q z ⟨by omega,h2⟩ hz
  exact⟨by have:=this.1;omega,this.2⟩
theorem hit_iff (w:WfB S){k q:Int}{a:Nat}(hk:Rg 0 S.rl.length k){b:UInt8}(hb:s.getD a 0=b):q∈hitS (nfB S) b.toNat [] k↔ed S k q∧lab S s q a:=by
 have h1:=hk.1
 have h2:=hk.2
 have w2:=w.2
 unfold hitS nfB ed lab
 dsimp only
 rw[if_pos ⟨by omega,by rw[List.length_map,w2];exact h2⟩,mem_hitI,hb]
 have e:(S.nx.map normI).getD k.toNat []=normI (S.nx.getD k.toNat []):=by
  rw[List.getD_eq_getElem?_getD,List.getD_eq_getElem?_getD,List.getElem?_map,List.getElem?_eq_getElem (by omega)];rfl
 rw[e,mem_normI]
 simp
theorem run_mem (I:Inv S i){z:Int}:∀(l:List UInt8) (a:Nat) (set:List Int),a≤s.length→s.drop a=l→(∀q∈set,Rg 0 S.rl.length q)→(z∈runM (nfB S) set l↔∃q∈set,Pa s S (fun y=>y=z) q a s.length)
 | [],a,set,ha,hl,hset=>by
  have hal:a=s.length:=by
   have:=congrArg List.length hl
   simp at this
   omega
  show z∈set↔_
  rw[hal]
  constructor
  ·exact fun h=>⟨z,h,.nil rfl⟩
  ·rintro⟨q,h1,h2⟩
   obtain⟨n,hn⟩:∃n,n=s.length:=⟨_,rfl⟩
   rw[←hn]at h2
   cases h2 with
   | nil h=>rw[←h];exact h1
   | cons _ h _ _=>omega
 | b::l,a,set,ha,hl,hset=>by
  have hal:a<s.length:=by
   have:=congrArg List.length hl
   simp at this
   omega
  rw[List.drop_eq_getElem_cons hal]at hl
  injection hl with hb hl
  have hg:s.getD a 0=b:=by rw[List.getD_eq_getElem?_getD,List.getElem?_eq_getElem hal,hb];rfl
  have hst:∀q,q∈stepM (nfB S) set b.toNat↔∃k∈set,ed S k q∧lab S s q a:=fun q=>by
   rw[mem_stepM]
   constructor
   ·rintro⟨k,h1,h2⟩
    exact⟨k,h1,(hit_iff I.w (hset k h1) hg).1 h2⟩
   ·rintro⟨k,h1,h2⟩
    exact⟨k,h1,(hit_iff I.w (hset k h1) hg).2 h2⟩
  show z∈runM (nfB S) (stepM (nfB S) set b.toNat) l↔_
  rw[run_mem I l (a+1) _ (by omega) hl fun q hq=>by
   obtain⟨k,h1,h2,_⟩:=(hst q).1 hq
   exact I.cl0 k q (hset k h1) h2]
  constructor
  ·rintro⟨q,h1,h2⟩
   obtain⟨k,h3,h4,h5⟩:=(hst q).1 h1
   exact⟨k,h3,.cons h4 hal h5 h2⟩
  ·rintro⟨k,h3,h2⟩
   obtain⟨n,hn⟩:∃n,n=s.length:=⟨_,rfl⟩
   rw[←hn]at h2 ⊢
   cases h2 with
   | nil _=>omega
   | cons h4 _ h5 h2=>exact⟨_,(hst _).2 ⟨k,h3,h4,h5⟩,h2⟩
theorem rule_least (rl:List Int):∀(set:List Int) (out:Int),(out= -1∨0≤out)→(∀k∈set,0≤k∧k<(rl.length:Int))→
  (set.foldl (ruleS rl) out= -1∧out= -1∧∀k∈set,rl.getD k.toNat (-1)<0)∨(0≤set.foldl (ruleS rl) out∧(set.foldl (ruleS rl) out=out∨∃k∈set,rl.getD k.toNat (-1)=set.foldl (ruleS rl) out)∧(0≤out→set.foldl (ruleS rl) out≤out)∧∀k∈set,0≤rl.getD k.toNat (-1)→set.foldl (ruleS rl) out≤rl.getD k.toNat (-1))
 | [],out,h,_=>by
  rcases h with h | h
  ·exact .inl ⟨h,h,fun k hk=>nomatch hk⟩
  ·exact .inr ⟨h,.inl rfl,fun _=>Int.le_refl _,fun k hk=>nomatch hk⟩
 | k::set,out,h,hk=>by
  obtain⟨k0,k1⟩:=hk k List.mem_cons_self
  have e:rl.getD k.toNat 0=rl.getD k.toNat (-1):=by
   rw[List.getD_eq_getElem?_getD,List.getD_eq_getElem?_getD,List.getElem?_eq_getElem (by omega)];rfl
  have hs:ruleS rl out k=if 0≤rl.getD k.toNat (-1)∧(out<0∨rl.getD k.toNat (-1)<out) then rl.getD k.toNat (-1) else out:=by
   unfold ruleS
   rw[if_pos ⟨k0,k1⟩,e]
  have hm:=rule_least rl set (ruleS rl out k) (by rw[hs];split<;>omega) fun q hq=>hk q (List.mem_cons_of_mem _ hq)
  show (set.foldl (ruleS rl) (ruleS rl out k)= -1∧_)∨(0≤set.foldl (ruleS rl) (ruleS rl out k)∧(set.foldl (ruleS rl) (ruleS rl out k)=out∨∃q∈k::set,rl.getD q.toNat (-1)=set.foldl (ruleS rl) (ruleS rl out k))∧(0≤out→set.foldl (ruleS rl) (ruleS rl out k)≤out)∧∀q∈k::set,0≤rl.getD q.toNat (-1)→set.foldl (ruleS rl) (ruleS rl out k)≤rl.getD q.toNat (-1))
  generalize set.foldl (ruleS rl) (ruleS rl out k)=t at hm ⊢
  rw[hs]at hm
  have hall:∀p:Int→Prop,(∀q∈k::set,p q)↔p k∧∀q∈set,p q:=fun p=>by simp
  rcases hm with⟨h1,h2,h3⟩ | ⟨h1,h2,h3,h4⟩
  ·left
   split at h2
   ·omega
   ·rename_i hn
    refine⟨h1,h2,(hall _).2 ⟨?_,h3⟩⟩
    omega
  ·right
   split at h2
   ·rename_i hn
    rw[if_pos hn]at h3
    refine⟨h1,?_,fun h=>by have:=h3 hn.1;omega,(hall _).2 ⟨h3,h4⟩⟩
    rcases h2 with h2 | ⟨q,h5,h6⟩
    ·exact .inr ⟨k,List.mem_cons_self,h2.symm⟩
    ·exact .inr ⟨q,List.mem_cons_of_mem _ h5,h6⟩
   ·rename_i hn
    rw[if_neg hn]at h3
    refine⟨h1,?_,h3,(hall _).2 ⟨fun h5=>by omega,h4⟩⟩
    rcases h2 with h2 | ⟨q,h5,h6⟩
    ·exact .inl h2
    ·exact .inr ⟨q,List.mem_cons_of_mem _ h5,h6⟩
theorem run_be (I:Inv S i){b:Int}(h:Be s S b):ruleM S.rl (runM (nfB S) [0] s)=b:=by
 have hp:=I.p
 have hrun:∀z,z∈runM (nfB S) [0] s↔Pa s S (fun y=>y=z) 0 0 s.length:=fun z=>by
  rw[run_mem I s 0 [0] (Nat.zero_le _) rfl fun q hq=>by
   obtain rfl:q=0:=by simpa using hq
   exact⟨by omega,by omega⟩]
  simp
 have hin:∀{q z:Int} {a c:Nat},Pa s S (fun y=>y=z) q a c→Rg 0 S.rl.length q→Rg 0 S.rl.length z:=fun h=>by
  induction h with
  | nil h=>exact fun hq=>by rw[←h];exact hq
  | cons h1 _ _ _ ih=>exact fun hq=>ih (I.cl0 _ _ hq h1)
 have hac:∀r,Ac s S r↔∃z∈runM (nfB S) [0] s,S.rl.getD z.toNat (-1)=r:=fun r=>by
  unfold Ac
  rw[Pa.split]
  constructor
  ·rintro⟨z,h1,h2⟩
   exact⟨z,(hrun z).2 h2,h1⟩
  ·rintro⟨z,h1,h2⟩
   exact⟨z,h2,(hrun z).1 h1⟩
 have hset:∀z∈runM (nfB S) [0] s,0≤z∧z<(S.rl.length:Int):=fun z hz=>by
  have:=hin ((hrun z).1 hz) ⟨by omega,by omega⟩
  exact⟨by have:=this.1;omega,this.2⟩
 unfold ruleM
 rcases rule_least S.rl (runM (nfB S) [0] s) (-1) (.inl rfl) hset with⟨h1,_,h2⟩ | ⟨h1,h2,_,h3⟩
 ·rw[h1]
  rcases h with⟨h4,_⟩ | ⟨h4,h5,_⟩
  ·exact h4.symm
  ·obtain⟨z,hz,h6⟩:=(hac b).1 h5
   have:=h2 z hz
   omega
 ·have hA:Ac s S ((runM (nfB S) [0] s).foldl (ruleS S.rl) (-1)):=by
   rcases h2 with h2 | ⟨z,hz,h2⟩
   ·omega
   ·exact(hac _).2 ⟨z,hz,h2⟩
  rcases h with⟨_,h4⟩ | ⟨h4,h5,h6⟩
  ·exact absurd hA (h4 _ h1)
  ·have:=h6 _ h1 hA
   obtain⟨z,hz,h7⟩:=(hac b).1 h5
   have:=h3 z hz (by omega)
   omega
theorem risK_up {k:Nat}:∀(l:List Int) (last:Int),UpI l→(∀z∈l,last<z∧z<(k:Int))→risK k last l=true
 | [],_,_,_=>rfl
 | t::r,last,hu,h=>by
  obtain⟨h1,h2⟩:=h t List.mem_cons_self
  have hu2:=List.pairwise_cons.1 hu
  simp only[risK,Bool.and_eq_true,decide_eq_true_eq]
  exact⟨h1,h2,risK_up r t hu2.2 fun z hz=>⟨hu2.1 z hz,(h z (List.mem_cons_of_mem _ hz)).2⟩⟩
theorem chkZ_ok {k:Nat}:∀(nx:List (List Int)) (rl:List Int),nx.length=rl.length→(∀l∈nx,risK k 0 l=true)→(∀v∈rl,-1≤v∧v<16)→chkZ k nx rl=true
 | [],[],_,_,_=>rfl
 | [],_::_,h,_,_=>by simp at h
 | _::_,[],h,_,_=>by simp at h
 | l::nx,r::rl,h,h1,h2=>by
  obtain⟨h3,h4⟩:=h2 r List.mem_cons_self
  simp only[chkZ,Bool.and_eq_true,decide_eq_true_eq]
  exact⟨h1 l List.mem_cons_self,h3,h4,chkZ_ok nx rl (by simpa using h) (fun l hl=>h1 l (List.mem_cons_of_mem _ hl)) fun v hv=>h2 v (List.mem_cons_of_mem _ hv)⟩
theorem chkF_ok (I:Inv S i)(hi:i≤16)(hk:S.rl.length≤1024):chkF (nfB S)=true:=by
 have hp:=I.p
 have w2:=I.w.2
 have hb:badH (nfB S)=false:=by
  unfold badH nfB
  dsimp only
  rw[decide_eq_false (by omega),decide_eq_false (by omega),decide_eq_false (by simp;omega),decide_eq_false (by simp),I.z]
  rfl
 have hz:chkZ (nfB S).k (nfB S).nx (nfB S).rl=true:=by
  refine chkZ_ok _ _ (by show (S.nx.map normI).length=S.rl.length;rw[List.length_map];exact w2) (fun l hl=>?_) fun v hv=>?_
  ·obtain⟨l0,hl0,rfl⟩:=List.mem_map.1 (show l∈S.nx.map normI from hl)
   obtain⟨j,hj⟩:=List.getElem?_of_mem hl0
   have hj2:j<S.rl.length:=by rw[←w2];exact(List.getElem?_eq_some_iff.1 hj).1
   refine risK_up _ 0 (up_normI _) fun z hz=>?_
   have hz:=mem_normI.1 hz
   have he:ed S (j:Int) z:=by
    unfold ed
    rw[Int.toNat_natCast,List.getD_eq_getElem?_getD,hj];exact hz
   by_cases h0:j=0
   ·subst h0
    have:=I.e0 z he
    exact⟨by have:=this.1;omega,this.2⟩
   ·have:=I.c j z ⟨by omega,by omega⟩ he
    exact⟨by have:=this.1;omega,this.2⟩
  ·have:=I.r v hv
   exact⟨this.1,by omega⟩
 unfold chkF
 rw[hb,hz];rfl
theorem build_len:∀(Ls:List (List Nd)) (i:Nat) (S:Bs),(buildM i Ls S).rl.length=S.rl.length+(Ls.map fun R=>lvC R R.length ((R.length-1:Nat):Int)).sum
 | [],_,_=>rfl
 | R::r,i,S=>by
  show (buildM (i+1) r (oneB i R S)).rl.length=_
  rw[build_len r,oneB_len,nodeM_len,List.map_cons,List.sum_cons];omega
end
end Go.Proofs.Ytnhennjliinplaa
