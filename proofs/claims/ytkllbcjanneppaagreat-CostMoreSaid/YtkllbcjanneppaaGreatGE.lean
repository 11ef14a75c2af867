import Derived.Test.YtkllbcjanneppaaGreatGB
set_option maxRecDepth 20000
set_option linter.unusedSimpArgs false
set_option linter.unusedVariables false
namespace Go.Proofs.YtkllbcjanneppaaGreat
open Go Go.Hm

theorem mB {g:Gm}(h:d8 g=true):g.ps.length<=1000000/\∀p∈g.ps,p.r.length<=1000000:=by
 unfold d8 at h;split at h
 ·cases h
 ·split at h
  ·cases h
  ·rename_i h1 h2;refine ⟨by omega,fun p hp=>?_⟩
   simp only [Bool.not_eq_true,List.any_eq_false,Bool.or_eq_true,decide_eq_true_eq,not_or] at h2;have:=(h2 p hp).2;omega

theorem dG (H:Heap)(a:AV):aN H (.sl 1 [a])=some (1,[a]):=rfl

theorem Fj {lk lim:Nat}{H:Heap}{g:Gm}{b:Nat}(hb:H[b]?=some (.cells g.cells))(hw:IntKind.i64.wrap (g.t+g.n)=g.t+g.n)(s:Int):aj X A lk lim 106 [I s,.hp b 4 0] H=some (Bo (du g s),H):=by
 refine ar [] rfl PL rfl rfl ?_;unfold Kb;unfold Gm.cells at hb;unfold du;by_cases h:s < 0
 ·simp [h]
 ·simp [h,hb,hw]
def OfOk (g:Gm)(S:Ss)(r:List Int):Prop:=chkE g=0/\(S.length:Int)=g.n/\r.any (du g)=false
instance (g:Gm) (S:Ss) (r:List Int):Decidable (OfOk g S r):=by unfold OfOk;exact inferInstance
theorem sE {lk lim:Nat}{H:Heap}(hlk:lk<=H.length)(g:Gm)(hl:g.ps.length<=1000000)(hr:∀p∈g.ps,p.r.length<=1000000){cs:List AV}{S:Ss}(hS:SC cs S)(r:List Int)(hrl:r.length<=1000000)(hSl:S.length<=1000000)
  (hO:OfOk g S r->(∀i,(ofM g S (r.take i)).length<=2000000/\∀x∈ofM g S (r.take i),x.length<=1000000)/\∀s∈r,(nxt g S s).length<=2000000/\∀x∈nxt g S s,x.length<=1000000):
  aj X A lk lim 86 [gV g,.sl cs.length cs,.sl r.length (ints r)] H=some (if OfOk g S r then ofV g S r else .e0,H):=by
 have kc:=fun (L:Nat)=>ck (lk:=lk) (lim:=L) (H:=H++[.cells g.cells]) g hl hr;have k49:=fun (L:Nat) (hw:IntKind.i64.wrap (g.t+g.n)=g.t+g.n)=>lx (lk:=lk) (lim:=L) (H:=H++[.cells g.cells]) (f:=106) (cap:=[.hp H.length 4 0]) r (du g) hrl rfl (fun s _=>Fj (by simp) hw s)
 have k45:=fun (L:Nat) h1 h2 h3 h4=>Fh (lk:=lk) (lim:=L) (H:=H++[.cells g.cells]) (by simp;omega) g (.sl g.ps.length (psC g.ps)) hS r h1 h2 hrl hSl h3 h4
 have hcl:=hS.1;refine ar [] rfl A86 rfl rfl ?_;unfold N2;by_cases hc:chkE g=0;case neg=>
  rw [if_neg (fun h:OfOk g S r=>hc h.1)];have hc2:(chkE g != 0)=true:=by simpa using hc
  generalize chkE g=e at kc hc2 hc;obtain ⟨t,n,k,ps⟩:=g;simp only [gV,Gm.cells] at kc;generalize aj X A=C at kc |-;simp [Gm.cells,kc,hc2,hc]
 have ok:=br hc;by_cases hn:(S.length:Int)=g.n;case neg=>
  rw [if_neg (fun h:OfOk g S r=>hn h.2.1)];rw [hc] at kc;obtain ⟨t,n,k,ps⟩:=g;simp only [gV,Gm.cells] at kc hn;have hn2:((cs.length:Int) != n)=true:=by rw [hcl];simpa using hn
  have hn3:¬(cs.length:Int)=n:=by rw [hcl];exact hn
  generalize aj X A=C at kc |-;simp [Gm.cells,kc,hn2,hn3]
 have hn2:((cs.length:Int) != g.n)=false:=by rw [hcl];simpa using hn
 have hn3:(cs.length:Int)=g.n:=by rw [hcl];exact hn
 have hw:IntKind.i64.wrap (g.t+g.n)=g.t+g.n:=by have:=ok.t1;have:=ok.t2;have:=ok.n1;have:=ok.n2;exact au (by omega) (by omega)
 have k49:=fun L=>k49 L hw;by_cases hb:r.any (du g)=false;case neg=>
  rw [if_neg (fun h:OfOk g S r=>hb h.2.2)];have hb:r.any (du g)=true:=by simpa using hb
  rw [hc] at kc;rw [hb] at k49;obtain ⟨t,n,k,ps⟩:=g;simp only [gV,Gm.cells] at kc k49 hn2 hn3;generalize aj X A=C at kc k49 |-;simp [Gm.cells,kc,hn2,hn3,k49]
 have hok:OfOk g S r:=⟨hc,hn,hb⟩;rw [if_pos hok];obtain ⟨o1,o2⟩:=hO hok;have k45:=fun L=>k45 L (fun s hs=>by
  have:=List.any_eq_false.1 hb s hs;simp only [du,Bool.or_eq_true,decide_eq_true_eq,not_or] at this;omega) ⟨by have:=ok.t1;omega,by have:=ok.t2;omega⟩ o1 o2
 rw [hc] at kc;rw [hb] at k49;have hov:=iQ g S r;generalize ofV g S r=ov at k45 hov |-;obtain ⟨t,n,k,ps⟩:=g;simp only [gV,Gm.cells] at kc k49 hn2 hn3 k45;generalize aj X A=C at kc k49 k45 |-;rcases aC hov with rfl | rfl;all_goals simp [Gm.cells,kc,hn2,hn3,k49,k45]
def rlV (B:Nat)(l:List (List UInt8)):AV:=if l=[] then .e0 else .hs B l.length 0 l.length 1
def rlG (l:List (List UInt8)):Heap:=if l=[] then [] else [.cells (ay l)]
def rV (l:List (List UInt8)):AV:=if l=[] then .e0 else rowsV l
theorem dE (l:List (List UInt8)):RV (rV l) l:=by
 unfold rV RV;split
 ·rename_i h;exact .inr ⟨rfl,h⟩
 ·exact .inl rfl

def ofN (ps:List Pr)(left:Int)(m:Nat):List Nat:=(List.range m).filter fun i=>decide ((ps.getD i ⟨0,[]⟩).l=left)
def slvN (o:List Nat):AV:=if o=[] then .e0 else .sl o.length (nts o)
def nL (g:Gm)(left:Int):AV:=if chkE g=0 then slvN (ofN g.ps left g.ps.length) else .e0
theorem wC (ps:List Pr)(left:Int)(m:Nat)(h:m < ps.length):ofN ps left (m+1)=if ps[m].l=left then ofN ps left m++[m] else ofN ps left m:=by
 unfold ofN;rw [List.range_succ,List.filter_append];have:ps.getD m ⟨0,[]⟩=ps[m]:=by rw [List.getD_eq_getElem?_getD,List.getElem?_eq_getElem h];rfl
 split
 ·rename_i h1;rw [List.filter_cons_of_pos (by rw [this,h1];simp)]
  rfl
 ·rename_i h1;rw [List.filter_cons_of_neg (by rw [this];simpa using h1)]
  simp
theorem j1 (ps:List Pr)(left:Int)(m:Nat):(ofN ps left m).length<=m:=by
 unfold ofN;have:=List.length_filter_le (fun i=>decide ((ps.getD i ⟨0,[]⟩).l=left)) (List.range m)
 rwa [List.length_range] at this
def oV (H:Heap)(o:List Nat):AV:=if o=[] then .e0 else .hs H.length o.length 0 o.length 1
def oH (H:Heap)(o:List Nat):Heap:=if o=[] then H else H++[.cells (nts o)]
theorem mC {Y:Orc}{lk lim:Nat}{H:Heap}(g:Gm)(left:Int)(hl:g.ps.length<=1000000)(hr:∀p∈g.ps,p.r.length<=1000000)(hlk:lk<=H.length)(hY:NoP Y:=by first | exact wx | exact mh):aj Y A lk lim 53 [gV g,I left] H=some (nL g left,H):=by
 have kc:=fun (L:Nat)=>ck (hY:=hY) (lk:=lk) (lim:=L) (H:=H) g hl hr;refine ar [2,6] (hY _ rfl _ _ _ _) A53 rfl rfl ?_;unfold NZ;unfold nL;by_cases hc:chkE g=0;case neg=>
  rw [if_neg hc];obtain ⟨t,n,k,ps⟩:=g;simp only [gV,Gm.cells] at kc;generalize aj Y A=C at kc |-;simp [Gm.cells,kc,hc]
 have ok:=br hc;rw [if_pos hc];rw [hc] at kc;obtain ⟨t,n,k,ps⟩:=g;obtain ⟨t1,t2,n1,n2,k1,k2,l1,l2,okp⟩:=ok;simp only at t1 t2 n1 n2 k1 k2 l1 l2 okp;simp only [gV,Gm.cells] at kc;simp [Gm.cells,kc];refine ax (σ:=Nat) (fun i=>[(1,I left),(4,oV H (ofN ps left i)),(11,.sl ps.length (psC ps)),(12,I ps.length),(13,I i)]) (fun i=>oH H (ofN ps left i))
  (fun i=>i<=ps.length) (fun i=>ps.length - i) ?_ 0 (by simp) (by simp [ofN,oV]) (by simp [ofN,oH])
 intro i hi;unfold Ka;have w1:IntKind.i64.wrap ((i:Int)+1)=(i:Int)+1:=au (by omega) (by omega)
 by_cases hil:i < ps.length;case neg=>
  obtain rfl:i=ps.length:=by omega
  have hon:=j1 ps left ps.length;generalize ofN ps left ps.length=o at hon |-;by_cases ho:o=[]
  ·subst ho;simp [oV,oH,slvN]
  ·simp [oV,oH,slvN,ho]
 have hs:=cd hil;have hll:=aY ps;have h2:i * 2+2<=2 * ps.length:=by omega
 have hnx:=wC ps left i hil;have hon:=j1 ps left i;generalize ps[i]=p at hs hnx;obtain ⟨pl,pr⟩:=p;simp only [Pr.cells] at hs;simp only at hnx;have done:∀(E:Env) (H':Heap),E=[(1,I left),(4,oV H (ofN ps left (i+1))),(11,.sl ps.length (psC ps)),(12,I ps.length),(13,I ((i:Int)+1))]->H'=oH H (ofN ps left (i+1))->
  ∃i':Nat,i'<=ps.length/\ps.length - i' < ps.length - i/\E=[(1,I left),(4,oV H (ofN ps left i')),(11,.sl ps.length (psC ps)),(12,I ps.length),(13,I i')]/\H'=oH H (ofN ps left i'):=fun E H' h1 h2=>⟨i+1,by omega,by omega,by rw [h1];simp,h2⟩
 generalize ofN ps left (i+1)=o' at hnx done;generalize ofN ps left i=o at hnx hon |-;have hro1:8<=aM:=by unfold aM;omega
 have hro:(o.length+1) * 8<=aM:=by unfold aM;omega
 simp [-bd,hil,hs,hll,h2];rw [bd];by_cases hpl:pl=left
 ·rw [if_pos hpl] at hnx;by_cases ho:o=[]
  ·subst ho;simp [an,oV,oH,hpl,w1,hro1,aN];rw [ao];refine done _ _ ?_ ?_
   ·simp [hnx,oV]
   ·simp [hnx,oH,nts]
  ·simp [an,oV,oH,hpl,w1,hro,ho,aN,aR,dW,hlk];rw [ao];refine done _ _ ?_ ?_
   ·simp [hnx,oV,eh]
   ·simp [hnx,oH,nts,cS]
 ·rw [if_neg hpl] at hnx;subst hnx;have hnr:fb 6 [(4,oV H o'),(11,.sl ps.length (psC ps)),(12,I ps.length),(13,I i)]=true:=by unfold oV;split<;>rfl
  simp [an,hpl,w1,hnr];rw [ao];refine done _ _ ?_ ?_
  ·simp
  ·rfl

end Go.Proofs.YtkllbcjanneppaaGreat
