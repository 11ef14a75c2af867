import Derived.Test.YtkllbcjanneppaaGreatGE
import Derived.Test.YtkllbcjanneppaaGreatGK
set_option maxRecDepth 20000
set_option linter.unusedSimpArgs false
set_option linter.unusedVariables false
namespace Go.Proofs.YtkllbcjanneppaaGreat
open Go Go.Hm

def cQ (g:Gm)(p:Pr):List (List UInt8):=cat g.k.toNat (ofM g (setsM g) p.r) ((cM g).getD p.l.toNat [])
def aK (g:Gm):Ss:=g.ps.map (cQ g)
theorem pp {g:Gm}(hg:GOk g){p:Pr}(hp:p∈g.ps):FOk g (cQ g p):=
 o6 hg (eD hg (aJ hg) fun s hs=>((hg.p p hp).s s hs).1) ((eV hg).get _)
theorem fA (g:Gm):(aK g).length=g.ps.length:=by simp [aK]
theorem jE {g:Gm}(hg:GOk g){l:List (List UInt8)}(h:l∈aK g):l.length<=1000000:=by
 obtain ⟨p,hp,rfl⟩:=List.mem_map.1 h;exact Nat.le_trans ((pp hg hp).size hg) (by decide)
theorem Aj {cs:List AV}{S:Ss}(h:SC cs S){v:AV}{l:List (List UInt8)}(hv:RV v l):SC (cs++[v]) (S++[l]):=by
 refine ⟨by simp [h.1],fun j u hu=>?_⟩
 by_cases hj:j < cs.length
 ·rw [List.getElem?_append_left hj] at hu;have:=h.2 j u hu
  rwa [List.getD_eq_getElem?_getD,List.getElem?_append_left (by rw [<-h.1];exact hj),<-List.getD_eq_getElem?_getD]
 ·rw [List.getElem?_append_right (by omega)] at hu
  have hj2:j - cs.length=0:=by
   rcases Nat.eq_zero_or_pos (j - cs.length) with h0 | h0
   ·exact h0
   ·rw [List.getElem?_eq_none (by simp;omega)] at hu;cases hu
  rw [hj2] at hu;simp only [List.getElem?_cons_zero,Option.some.injEq] at hu;subst hu;rw [List.getD_eq_getElem?_getD,List.getElem?_append_right (by rw [<-h.1];omega),<-h.1,hj2]
  exact hv
def tbV (H:Heap)(cs:List AV):AV:=if cs=[] then .e0 else .hs H.length cs.length 0 cs.length 1
def tbH (H:Heap)(cs:List AV):Heap:=if cs=[] then H else H++[.cells cs]
theorem Ak (H:Heap)(cs:List AV):H.length<=(tbH H cs).length:=by
 unfold tbH;split<;>simp
theorem yT {lk lim:Nat}{H:Heap}(hlk:lk<=H.length)(g:Gm)(hc:chkE g=0):
  ∃v h',aj X A lk lim 59 [gV g] H=some (v,h')/\h'=H/\∃cs,v= .agg [.sl cs.length cs]/\SC cs (aK g):=by
 have ok:=br hc;have hl:g.ps.length<=1000000:=Nat.le_trans ok.l2 (by decide)
 have hr:∀p∈g.ps,p.r.length<=1000000:=fun p hp=>Nat.le_trans (ok.p p hp).len (by decide)
 obtain ⟨v1,g1,k1,e1,h1⟩:=sD (lim:=H.length) hlk g hl hr;rw [if_pos hc] at h1;obtain ⟨Fc,rfl,hF⟩:=h1;rw [e1] at k1;obtain ⟨v2,g2,k2,e2,h2⟩:=yH (lim:=H.length) hlk g hl hr;rw [if_pos hc] at h2;obtain ⟨Gc,rfl,hG⟩:=h2;rw [e2] at k2;have ko:=fun (K L:Nat) (cs:List AV) (hK:K<=(tbH H cs).length) (p:Pr) (hp:p∈g.ps)=>
  sE (lk:=K) (lim:=L) (H:=tbH H cs) hK g hl hr hF p.r (hr p hp) (by rw [(aJ ok).len];have:=ok.n2;omega)
   fun _=>⟨(cP ok (aJ ok) (ok.p p hp)).2.1,(cP ok (aJ ok) (ok.p p hp)).2.2⟩
 have kc:=fun (L:Nat) (cs:List AV) (va vb:AV) (a b:List (List UInt8)) (ha:RV va a) (hb:RV vb b) h3 h4 h5 h6=>mw (lk:=lk) (lim:=L) (H:=tbH H cs) (Nat.le_trans hlk (Ak H cs)) g.k ha hb h3 h4 h5 h6;refine dD [1,2,6] rfl A59 rfl rfl ?_;unfold NW;have hll:∀{p:Pr},p∈g.ps->(cQ g p).length<=1000000:=fun hp=>jE ok (List.mem_map.2 ⟨_,hp,rfl⟩);have hoo:∀p∈g.ps,OfOk g (setsM g) p.r:=fun p hp=>⟨hc,by rw [(aJ ok).len];have:=ok.n1;omega,by
  rw [List.any_eq_false];intro s hs;have:=(ok.p p hp).s s hs;simp only [du,Bool.or_eq_true,decide_eq_true_eq,not_or];omega⟩
 have kcc:∀(L:Nat) (cs:List AV) (p:Pr) (hp:p∈g.ps) (vb:AV),RV vb ((cM g).getD p.l.toNat [])->aj X A lk L 85 [I g.k,ofV g (setsM g) p.r,vb] (tbH H cs)=some (catV g.k.toNat (ofM g (setsM g) p.r) ((cM g).getD p.l.toNat []),tbH H cs):=fun L cs p hp vb hv=>
  kc L cs _ _ _ _ (iQ ..) hv (by
   have:=(cP ok (aJ ok) (ok.p p hp)).2.1 p.r.length;rw [List.take_length] at this;exact this.1) (Nat.le_trans (((eV ok).get _).size ok) (by decide)) (by
   have:=(cP ok (aJ ok) (ok.p p hp)).2.1 p.r.length;rw [List.take_length] at this;exact this.2) (mG ok ((eV ok).get _))
 have hGl:Gc.length=g.n.toNat:=by rw [hG.1,(eV ok).len]
 have hGg:∀p∈g.ps,∃v,Gc[p.l.toNat]?=some v/\RV v ((cM g).getD p.l.toNat []):=fun p hp=>hG.get (by rw [(eV ok).len];have:=(ok.p p hp).l1;have:=(ok.p p hp).l0;omega)
 have hlk2:(aK g).length=g.ps.length:=fA g;have hlg:∀(i:Nat) (h:i < g.ps.length),(aK g)[i]?=some (cQ g g.ps[i]):=fun i h=>by simp [aK,h]
 have kof:∀(K L:Nat) (cs:List AV),K<=(tbH H cs).length->∀(p:Pr),p∈g.ps->aj X A K L 86 [gV g,.sl Fc.length Fc,.sl p.r.length (ints p.r)] (tbH H cs)=some (ofV g (setsM g) p.r,tbH H cs):=fun K L cs hK p hp=>by
  have:=ko K L cs hK p hp
  rwa [if_pos (hoo p hp)] at this
 have hcv:∀p,RV (catV g.k.toNat (ofM g (setsM g) p.r) ((cM g).getD p.l.toNat [])) (cQ g p):=fun p=>RV.cat _ _ _;generalize aK g=M at hlk2 hlg |-;generalize hlp:(fun p:Pr=>cQ g p)=LP at *;clear ko kc hoo hll hG;obtain ⟨t,n,k,ps⟩:=g;obtain ⟨t1,t2,n1,n2,k1',k2',l1,l2,okp⟩:=ok;simp only at t1 t2 n1 n2 k1' k2' l1 l2 okp hGl hGg hlk2 hlg;simp only [gV,Gm.cells] at k1 k2 kof kcc;generalize aj X A=C at k1 k2 kof kcc |-;simp [k1,k2,Gm.cells]
 let bx:AV:=.box [I t,I n,I k,.sl ps.length (psC ps)]
 refine ax (σ:=Nat×List AV) (fun s=>[(1,bx),(2,.box [tbV H s.2]),(3,.sl Fc.length Fc),(4,.sl Gc.length Gc),(12,.sl ps.length (psC ps)),(13,I ps.length),(14,I s.1)]) (fun s=>tbH H s.2)
  (fun s=>s.1<=ps.length/\SC s.2 (M.take s.1)) (fun s=>ps.length - s.1) ?_ (0,[]) ⟨Nat.zero_le _,rfl,fun j v h=>by simp at h⟩ (by simp [bx,tbV]) (by simp [tbH])
 rintro ⟨i,cs⟩ ⟨hi,hcs⟩;simp only at hi hcs;have hcl:cs.length=i:=by rw [hcs.1];simp;omega
 unfold J3;have w1:IntKind.i64.wrap ((i:Int)+1)=(i:Int)+1:=au (by omega) (by omega)
 have hro1:24<=aM:=by unfold aM;omega
 have hro:(cs.length+1) * 24<=aM:=by unfold aM;omega
 by_cases hil:i < ps.length;case neg=>
  obtain rfl:i=ps.length:=by omega
  rw [List.take_of_length_le (by omega)] at hcs
  have h0:¬cs=[]:=fun e=>by subst e;simp at hcl;omega
  have hfz:=fun d=>(iR H.length (H++[.cells cs]) d hcs).1;have hbl:=(iR H.length (H++[.cells cs]) 0 hcs).2;simp [bx,tbV,tbH,h0];simp [bt,hbl,hfz];exact ⟨_,_,⟨rfl,rfl⟩,rfl,cs,rfl,hcs⟩
 have hs:=cd hil;have hll:=aY ps;have h2:i * 2+2<=2 * ps.length:=by omega
 have hpm:=List.getElem_mem hil;have hMi:=hlg i hil;obtain ⟨v,hv1,hv2⟩:=hGg _ hpm;have hco:=fun K L hK=>kof K L cs hK _ hpm;have hcc:=fun L=>kcc L cs _ hpm v hv2;have hr2:=hcv ps[i];have ho2:=iQ ⟨t,n,k,ps⟩ (setsM ⟨t,n,k,ps⟩) ps[i].r;have hpl0:=(okp _ hpm).l0;generalize ofV ⟨t,n,k,ps⟩ (setsM ⟨t,n,k,ps⟩) ps[i].r=O at hco hcc ho2;generalize catV k.toNat (ofM ⟨t,n,k,ps⟩ (setsM ⟨t,n,k,ps⟩) ps[i].r) ((cM ⟨t,n,k,ps⟩).getD ps[i].l.toNat [])=R at hcc hr2;generalize ofM ⟨t,n,k,ps⟩ (setsM ⟨t,n,k,ps⟩) ps[i].r=oL at ho2;generalize (cM ⟨t,n,k,ps⟩).getD ps[i].l.toNat []=vL at hv2;generalize cQ ⟨t,n,k,ps⟩ ps[i]=rL at hr2 hMi;generalize ps[i]=p at hs hco hv1 hpl0 hpm;obtain ⟨pl,pr⟩:=p;simp only [Pr.cells] at hs hv1 hpl0 hco;obtain ⟨pl,rfl⟩:=Int.eq_ofNat_of_zero_le hpl0;simp only [Int.toNat_natCast] at hv1;have hpn:pl < Gc.length:=(List.getElem?_eq_some_iff.1 hv1).1;have done:∀(E:Env) (H':Heap),E=[(1,bx),(2,.box [tbV H (cs++[R])]),(3,.sl Fc.length Fc),(4,.sl Gc.length Gc),(12,.sl ps.length (psC ps)),(13,I ps.length),(14,I ((i:Int)+1))]->H'=tbH H (cs++[R])->
  ∃s:Nat×List AV,(s.1<=ps.length/\SC s.2 (M.take s.1))/\ps.length - s.1 < ps.length - i/\E=[(1,bx),(2,.box [tbV H s.2]),(3,.sl Fc.length Fc),(4,.sl Gc.length Gc),(12,.sl ps.length (psC ps)),(13,I ps.length),(14,I s.1)]/\H'=tbH H s.2:=fun E H' h1 h2=>
   ⟨(i+1,cs++[R]),⟨by simp only;omega,by
    simp only;rw [List.take_add_one,hMi];exact Aj hcs hr2⟩,by simp only;omega,by rw [h1];simp,h2⟩
 have hR:=aC hr2;clear hMi hcs hr2 kof kcc hlg hGg;have hvE:∀h,Gc[pl]'h=v:=fun h=>(List.getElem?_eq_some_iff.1 hv1).2;by_cases h0:cs=[]
 ·subst h0;simp only [tbV,tbH,if_true] at hco hcc;rcases aC ho2 with rfl | rfl<;>rcases aC hv2 with rfl | rfl<;>rcases hR with rfl | rfl;all_goals
   simp [bx,hil,hs,hll,h2,an,hco,hvE,hpn,tbV,tbH,hcc,aN,hro1,dG,w1];rw [ao];refine done _ _ ?_ ?_
   ·simp [bx,tbV]
   ·simp [tbH]
 ·simp only [tbV,tbH,if_neg h0] at hco hcc;rcases aC ho2 with rfl | rfl<;>rcases aC hv2 with rfl | rfl<;>rcases hR with rfl | rfl;all_goals
   simp [bx,hil,hs,hll,h2,an,hco,hvE,hpn,tbV,tbH,h0,hcc,aN,hro,dG,cS,eh,aR,hlk,w1];rw [ao];refine done _ _ ?_ ?_
   ·simp [bx,tbV]
   ·simp [tbH]

def unP (p:Pr):Int×List Int:=(p.l,p.r)
def confM (g:Gm):Option (Nat×Nat×Nat×List UInt8):=en (g.ps.map unP) (aK g) g.n.toNat 0
theorem IT {v:AV}{l:List (List UInt8)}(h:RV v l):Ej v=some l:=by
 rcases h with rfl | ⟨rfl,rfl⟩
 ·simp [Ej,qI]
 ·rfl
theorem wL:∀{cs:List AV} {S:Ss},SC cs S->qD cs=some S
 | [],S,h=>by rw [List.eq_nil_of_length_eq_zero (l:=S) h.1.symm];rfl
 | v::cs,[],h=>by have:=h.1;simp at this
 | v::cs,l::S,h=>by
  have h0:RV v l:=h.2 0 v rfl;have hs:SC cs S:=⟨by have:=h.1;simpa using this,fun j u hu=>h.2 (j+1) u (by simpa using hu)⟩
  simp only [qD,IT h0,wL hs]
theorem FH (r:List Int):kY (ints r)=some r:=qC r
theorem sK:∀ps:List Pr,gQ (psC ps)=some (ps.map unP)
 | []=>rfl
 | p::ps=>by
  show gQ (I p.l:: .sl p.r.length (ints p.r)::psC ps)=_;simp only [gQ,FH,sK ps,if_true];rfl
theorem Mc {g:Gm}(hg:GOk g):okA g.t g.n g.k (g.ps.map unP)=true:=by
 simp only [okA,Bool.and_eq_true,decide_eq_true_eq,List.all_eq_true,List.length_map,List.mem_map];refine ⟨⟨hg.t1,hg.t2,hg.n1,hg.n2,hg.k1,hg.k2,hg.l1,hg.l2⟩,?_⟩;rintro q ⟨p,hp,rfl⟩;have h:=hg.p p hp;exact ⟨⟨⟨h.l0,h.l1⟩,h.len⟩,h.s⟩
theorem FI:∀ps:List Pr,(psC ps).map nr0=psC ps
 | []=>rfl
 | p::ps=>by
  show I p.l:: .sl p.r.length (ints p.r)::(psC ps).map nr0=I p.l:: .sl p.r.length (ints p.r)::psC ps;rw [FI ps]
theorem Md (g:Gm):nrA (gV g)=gV g:=by
 show AV.agg [I g.t,I g.n,I g.k,.sl g.ps.length ((psC g.ps).map nr0)]=_;rw [FI];rfl
theorem IU {lk lim:Nat}{H:Heap}{g:Gm}(hc:chkE g=0){cs:List AV}(hs:SC cs (aK g)):aj X A lk lim 60 [gV g,.agg [.sl cs.length cs]] H=some (oP (confM g),H):=by
 have ok:=br hc;have h:fw [gV g,.agg [.sl cs.length cs]] H=some (oP (confM g)):=by
  show iL [nrA (gV g),nrA (.agg [.sl cs.length cs])] H=_;rw [Md];have hl:wl (.sl cs.length cs)=some (aK g):=by
   simp only [wl,wL hs];rw [if_pos hs.1.symm]
  show (match gQ (psC g.ps),wl (.sl cs.length cs) with
   | some ps,some look=>if ps.length=g.ps.length/\look.length=ps.length/\okA g.t g.n g.k ps=true/\look.all (fun l=>decide (l.length<=1000000))=true then some (oP (en ps look g.n.toNat 0)) else none
   | _,_=>none)=_
  rw [sK,hl];simp only;rw [if_pos ⟨by simp,by rw [fA];simp,Mc ok,List.all_eq_true.2 fun l h=>decide_eq_true (jE ok h)⟩]
  rfl
 exact eB (yh h)
def cfV:Option (Nat×Nat×Nat×List UInt8)->AV
 | none=>.agg [I 0,I 0,I 0,Sg []]
 | some (l,a,b,x)=>.agg [I l,I a,I b,Sg x]
def cy (g:Gm)(v:AV):Prop:=
 if chkE g=0 then (match confM g with
  | some c=>v= .tup [.agg [.e0],cfV (some c),I 9]
  | none=>∃cs,v= .tup [.agg [.sl cs.length cs],cfV none,I 0]/\SC cs (aK g))
 else v= .tup [.agg [.e0],cfV none,I (chkE g)]
theorem yU {lk lim:Nat}{H:Heap}(hlk:lk<=H.length)(g:Gm)(hl:g.ps.length<=1000000)(hr:∀p∈g.ps,p.r.length<=1000000):
  ∃v h',aj X A lk lim 43 [gV g] H=some (v,h')/\h'=H/\cy g v:=by
 have kc:=fun (L:Nat)=>ck (lk:=lk) (lim:=L) (H:=H) g hl hr;refine dD [1,2,3,6] rfl A43 rfl rfl ?_;unfold NV;by_cases hc:chkE g=0;case neg=>
  have fin:cy g (.tup [.agg [.e0],cfV none,I (chkE g)]):=by unfold cy;rw [if_neg hc]
  generalize cy g=Q at fin |-;generalize chkE g=e at kc hc fin;have hc2:(e != 0)=true:=by simpa using hc
  obtain ⟨t,n,k,ps⟩:=g;simp only [gV,Gm.cells] at kc;generalize aj X A=C at kc |-;simp [Gm.cells,kc,hc2,hc,bt,an];exact ⟨_,_,⟨rfl,rfl⟩,rfl,fin⟩
 rw [hc] at kc;obtain ⟨v,h',kt,e1,cs,rfl,hs⟩:=yT (lim:=H.length) hlk g hc;rw [e1] at kt;have kf:=IU (lk:=lk) (lim:=H.length) (H:=H) hc hs;have fin:match confM g with
  | some c=>cy g (.tup [.agg [.e0],cfV (some c),I 9])
  | none=>cy g (.tup [.agg [.sl cs.length cs],cfV none,I 0]):=by
  cases hm:confM g with
  | none=>simp only;unfold cy;rw [if_pos hc,hm];exact ⟨cs,rfl,hs⟩
  | some c=>simp only;unfold cy;rw [if_pos hc,hm]
 generalize cy g=Q at fin |-;generalize confM g=r at kf fin;obtain ⟨t,n,k,ps⟩:=g;simp only [gV,Gm.cells] at kc kt kf;generalize aj X A=C at kc kt kf |-;cases r with
 | none=>
  simp only [oP] at kf fin;simp [Gm.cells,kc,kt,kf,bt,an];exact ⟨_,_,⟨rfl,rfl⟩,rfl,fin⟩
 | some c=>
  obtain ⟨l,a,b,x⟩:=c;simp only [oP] at kf fin;simp [Gm.cells,kc,kt,kf,bt,an];exact ⟨_,_,⟨rfl,rfl⟩,rfl,fin⟩

def fX (g:Gm):Int:=if chkE g=0 then (match confM g with
 | some _=>9
 | none=>0) else chkE g
def jF (g:Gm):Option (Nat×Nat×Nat×List UInt8):=if chkE g=0 then confM g else none
def TV (tv:AV)(S:Ss):Prop:=(tv= .e0/\S=[])\/∃cs,tv= .sl cs.length cs/\SC cs S
def eW (g:Gm):Ss:=if fX g=0 then aK g else []
theorem oz {lk lim:Nat}{H:Heap}(hlk:lk<=H.length)(g:Gm)(hl:g.ps.length<=1000000)(hr:∀p∈g.ps,p.r.length<=1000000):
  ∃tv,aj X A lk lim 43 [gV g] H=some (.tup [.agg [tv],cfV (jF g),I (fX g)],H)/\TV tv (eW g):=by
 obtain ⟨v,h',h,rfl,hb⟩:=yU (lim:=lim) hlk g hl hr;rw [h];unfold cy at hb;unfold eW fX jF;by_cases hc:chkE g=0
 ·rw [if_pos hc] at hb |-;rw [if_pos hc];cases hm:confM g with
  | none=>
   rw [hm] at hb;obtain ⟨cs,rfl,hs⟩:=hb;exact ⟨_,rfl,.inr ⟨cs,rfl,hs⟩⟩
  | some c=>
   rw [hm] at hb;simp only at hb;subst hb;exact ⟨_,rfl,.inl ⟨rfl,rfl⟩⟩
 ·rw [if_neg hc] at hb |-;subst hb;rw [if_neg hc,if_neg hc];exact ⟨_,rfl,.inl ⟨rfl,rfl⟩⟩
theorem pq (c:Option (Nat×Nat×Nat×List UInt8)):∃(l a b:Nat) (x:List UInt8),cfV c= .agg [I l,I a,I b,Sg x]:=by
 cases c with
 | none=>exact ⟨0,0,0,[],rfl⟩
 | some c=>obtain ⟨l,a,b,x⟩:=c;exact ⟨l,a,b,x,rfl⟩

def kK (S:Ss)(row:List UInt8):List Nat->Int
 | []=>-1
 | i::r=>if ct (S.getD i []) row=true then i else kK S row r
def qQ (g:Gm)(S:Ss)(left:Int)(row:List UInt8):Int:=
 if S.length≠g.ps.length then -1 else if chkE g≠0 then -1 else kK S row (ofN g.ps left g.ps.length)
theorem Me {ps:List Pr}{left:Int}{i:Nat}(h:i∈ofN ps left ps.length):i < ps.length:=(d9.1 h).1
theorem TV.len {tv:AV}{S:Ss}(h:TV tv S):tv= .e0/\S.length=0\/∃cs,tv= .sl cs.length cs/\cs.length=S.length:=by
 rcases h with ⟨rfl,rfl⟩ | ⟨cs,rfl,hs⟩
 ·exact .inl ⟨rfl,rfl⟩
 ·exact .inr ⟨cs,rfl,hs.1⟩
theorem uF {lk lim:Nat}{H:Heap}(hlk:lk<=H.length)(g:Gm)(hl:g.ps.length<=1000000)(hr:∀p∈g.ps,p.r.length<=1000000){tv:AV}{S:Ss}(hT:TV tv S)(hS:∀l∈S,l.length<=1000000000)(left:Int)(row:List UInt8):
  aj X A lk lim 63 [gV g,.agg [tv],I left,Sg row] H=some (I (qQ g S left row),H):=by
 have ko:=fun (L:Nat)=>mC (lk:=lk) (lim:=L) (H:=H) g left hl hr hlk;have kh:=fun (L:Nat) (v:AV) (l:List (List UInt8)) (hv:RV v l) (h:l.length<=1000000000)=>Ff (lk:=lk) (lim:=L) (H:=H) hv row h;refine ar [4,5] rfl A63 rfl rfl ?_;unfold Oc qQ;unfold nL at ko;have hlt:∀j∈ofN g.ps left g.ps.length,j < g.ps.length:=fun j hj=>Me hj;have hol:(ofN g.ps left g.ps.length).length<=1000000:=Nat.le_trans (j1 ..) hl;generalize ofN g.ps left g.ps.length=o at ko hlt hol |-;obtain ⟨q,hq,hqlt,hql,hqv⟩:∃q:List Nat,(if chkE g=0 then slvN o else .e0)=slvN q/\(∀j∈q,j < g.ps.length)/\q.length<=1000000/\(if chkE g≠0 then -1 else kK S row o)=kK S row q:=by
  by_cases hc:chkE g=0
  ·exact ⟨o,by rw [if_pos hc],hlt,hol,by rw [if_neg (by omega)]⟩
  ·exact ⟨[],by rw [if_neg hc];rfl,by simp,by simp,by rw [if_pos hc];rfl⟩
 rw [hq] at ko;rw [hqv];clear hq hqv hlt hol;obtain ⟨t,n,k,ps⟩:=g;simp only [gV,Gm.cells] at ko hqlt |-;by_cases hn:S.length=ps.length;case neg=>
  rw [if_pos hn];generalize aj X A=C;rcases hT.len with ⟨rfl,h0⟩ | ⟨cs,rfl,h0⟩
  ·have h1:¬0=ps.length:=by rw [h0] at hn;exact hn
   have h2:(((0:Nat):Int) != (ps.length:Int))=true:=by rw [bne_iff_ne];omega
   have h3:((0:Int) != (ps.length:Int))=true:=by rw [bne_iff_ne];omega
   have h4:¬(0:Int)=ps.length:=by omega
   have h5:¬ps=[]:=fun e=>by subst e;exact h1 rfl
   simp [h2,h3,h4,h5]
  ·have h1:¬(cs.length:Int)=ps.length:=by omega
   have h2:((cs.length:Int) != (ps.length:Int))=true:=by rw [bne_iff_ne];exact h1
   simp [h2,h1]
 rw [show (if S.length≠ps.length then (-1:Int) else kK S row q)=kK S row q from if_neg (fun h=>h hn)];generalize aj X A=C at ko kh |-;obtain ⟨R,hR⟩:∃R,kK S row q=R:=⟨_,rfl⟩;rw [hR];have main:∀L E,ab [3,5,20,21,22] E=[(3,Sg row),(5,.box [tv]),(20,slvN q),(21,I q.length),(22,I 0)]->WB ⟨C,lk,L,[4,5]⟩ (.block 0 (.loop [3,5,20,21,22] EK)) (Fol ⟨C,lk,L,[4,5]⟩ (.seq (.regN [] [⟨some 8,none,.mv (.con (.val (.int .i64 (-1)))),0,false⟩]) .ret) (oO [.tmp 8] true H (I R,H))) E H:=by
  intro L E hE;rw [ap];refine ax (σ:=Nat) (fun i=>[(3,Sg row),(5,.box [tv]),(20,slvN q),(21,I q.length),(22,I i)]) (fun _=>H) (fun i=>i<=q.length/\kK S row (q.drop i)=R) (fun i=>q.length - i) ?_ 0 ⟨Nat.zero_le _,hR⟩ hE rfl;rintro i ⟨hi,hinv⟩;unfold EK;have w1:IntKind.i64.wrap ((i:Int)+1)=(i:Int)+1:=au (by omega) (by omega)
  by_cases hil:i < q.length;case neg=>
   obtain rfl:i=q.length:=by omega
   rw [List.drop_length] at hinv;simp only [kK] at hinv;subst hinv;by_cases hq0:q=[]
   ·simp [slvN,hq0]
   ·simp [slvN,hq0]
  have hq0:¬q=[]:=fun e=>by subst e;simp at hil
  have hsl:slvN q= .sl q.length (nts q):=by unfold slvN;rw [if_neg hq0]
  rw [List.drop_eq_getElem_cons hil] at hinv;have hjl:=hqlt _ (List.getElem_mem hil);generalize hj:q[i]=j at hinv hjl;simp only [kK] at hinv;rcases hT with ⟨rfl,rfl⟩ | ⟨cs,rfl,hs⟩
  ·simp at hn;omega
  obtain ⟨v,hv1,hv2⟩:=hs.get (j:=j) (by omega)
  have kv:=fun L=>kh L v _ hv2 (hS _ (by rw [List.getD_eq_getElem?_getD,List.getElem?_eq_getElem (by omega)];exact List.getElem_mem _))
  have hcl:j < cs.length:=by rw [hs.1];omega
  have hvE:∀h,cs[j]'h=v:=fun h=>(List.getElem?_eq_some_iff.1 hv1).2;rw [hsl];generalize S.getD j []=vl at hv2 kv hinv;cases hh:ct vl row with
  | true=>
   rw [hh] at kv;rw [if_pos hh] at hinv;rcases aC hv2 with rfl | rfl;all_goals
    simp [hil,hj,hvE,hcl,kv,<-hinv]
  | false=>
   rw [hh] at kv;rw [if_neg (by rw [hh];simp)] at hinv
   rcases aC hv2 with rfl | rfl;all_goals
    simp [hil,hj,hvE,hcl,kv,w1,ao];exact ⟨i+1,⟨by omega,hinv⟩,by omega,by simp⟩
 rcases hT.len with ⟨rfl,h0⟩ | ⟨cs,rfl,h0⟩
 ·have h5:ps=[]:=List.eq_nil_of_length_eq_zero (by omega)
  subst h5;have h6:q=[]:=by
   cases q with
   | nil=>rfl
   | cons j q=>have:=hqlt j (by simp);simp at this
  subst h6;have h7:slvN []= .e0:=rfl;rw [h7] at ko main;simp only [List.length_nil] at ko main;simp [-ap,ko];refine main _ _ ?_;simp
 ·have h1:cs.length=ps.length:=by omega
  have hh:∀L E,ab [3,5,20,21,22] E=[(3,Sg row),(5,.box [.sl ps.length cs]),(20,slvN q),(21,I q.length),(22,I 0)]->_:=fun L E hE=>main L E (by rw [h1];exact hE)
  clear main;by_cases hq0:q=[]
  ·have h7:slvN q= .e0:=if_pos hq0;have h8:q.length=0:=by rw [hq0];rfl
   rw [h7] at ko hh;rw [h8] at hh;simp [-ap,h1,ko];refine hh _ _ ?_;simp
  ·have h7:slvN q= .sl q.length (nts q):=if_neg hq0;rw [h7] at ko hh;simp [-ap,h1,ko];refine hh _ _ ?_;simp

theorem lA:∀(k:Nat) (a b:List (List UInt8)) (x:List UInt8),e9 k a b=some x->x∈a/\x∈b
 | 0,a,b,x,h=>by simp [e9] at h
 | k+1,[],b,x,h=>by simp [e9] at h
 | k+1,y::a,[],x,h=>by simp [e9] at h
 | k+1,y::a,z::b,x,h=>by
  unfold e9 at h;split at h
  ·rename_i e;simp only [Option.some.injEq] at h;subst h;subst e;exact ⟨List.mem_cons_self ..,List.mem_cons_self ..⟩
  ·split at h
   ·have:=lA k _ _ x h;exact ⟨List.mem_cons_of_mem _ this.1,this.2⟩
   ·have:=lA k _ _ x h;exact ⟨this.1,List.mem_cons_of_mem _ this.2⟩
theorem lB:∀(k:Nat) (a b:List (List UInt8)),Up a->Up b->a.length+b.length<=k->e9 k a b=none->∀x∈a,x∉b
 | 0,a,b,_,_,hk,_=>fun x hx=>by
  have:a=[]:=List.eq_nil_of_length_eq_zero (by omega)
  subst this;simp at hx
 | k+1,[],b,_,_,_,_=>fun x hx=>by simp at hx
 | k+1,y::a,[],_,_,_,_=>fun x _ hx=>by simp at hx
 | k+1,y::a,z::b,ha,hb,hk,h=>by
  have ha2:=List.pairwise_cons.1 ha;have hb2:=List.pairwise_cons.1 hb;unfold e9 at h;split at h
  ·cases h
  ·rename_i hne;split at h
   ·rename_i hl;have ih:=lB k _ _ ha2.2 hb (by simp at hk |-;omega) h
    intro x hx hxb;rcases List.mem_cons.1 hx with rfl | hx
    ·rcases List.mem_cons.1 hxb with rfl | hxb
     ·exact hne rfl
     ·have h2:=fq hl;rw [hb2.1 x hxb] at h2;cases h2
    ·exact ih x hx hxb
   ·rename_i hl;have hzl:Op.bytesLess z y=true:=by
     rcases fQ y z with h1 | h1 | h1
     ·exact absurd h1 hl
     ·exact absurd h1 hne
     ·exact h1
    have ih:=lB k _ _ ha hb2.2 (by simp at hk |-;omega) h
    intro x hx hxb;rcases List.mem_cons.1 hxb with rfl | hxb
    ·rcases List.mem_cons.1 hx with rfl | hx
     ·exact hne rfl
     ·have h2:=fq hzl;rw [ha2.1 x hx] at h2;cases h2
    ·exact ih x hx hxb
theorem yV {a b:List (List UInt8)}{x:List UInt8}(h:bK a b=some x):x∈a/\x∈b:=lA _ _ _ _ h
theorem yW {a b:List (List UInt8)}(ha:Up a)(hb:Up b)(h:bK a b=none):∀x∈a,x∉b:=lB _ _ _ ha hb (Nat.le_refl _) h
theorem qR {look:Ss}{a:Nat}:∀{l:List Nat} {b:Nat} {x:List UInt8},eP look a l=some (b,x)->b∈l/\bK (look.getD a []) (look.getD b [])=some x
 | [],b,x,h=>by simp [eP] at h
 | c::l,b,x,h=>by
  unfold eP at h;split at h
  ·rename_i y hy;simp only [Option.some.injEq,Prod.mk.injEq] at h;obtain ⟨rfl,rfl⟩:=h;exact ⟨List.mem_cons_self ..,hy⟩
  ·have:=qR h;exact ⟨List.mem_cons_of_mem _ this.1,this.2⟩
theorem qS {look:Ss}{a:Nat}:∀{l:List Nat},eP look a l=none->∀b∈l,bK (look.getD a []) (look.getD b [])=none
 | [],h,b,hb=>by simp at hb
 | c::l,h,b,hb=>by
  unfold eP at h;split at h
  ·cases h
  ·rename_i hy;rcases List.mem_cons.1 hb with rfl | hb
   ·exact hy
   ·exact qS h b hb
theorem oA {look:Ss}:∀{l:List Nat} {a b:Nat} {x:List UInt8},l.Pairwise (· < ·)->bM look l=some (a,b,x)->a∈l/\b∈l/\a < b/\bK (look.getD a []) (look.getD b [])=some x
 | [],a,b,x,_,h=>by simp [bM] at h
 | c::l,a,b,x,hp,h=>by
  have hp2:=List.pairwise_cons.1 hp;unfold bM at h;split at h
  ·rename_i b' x' hy;simp only [Option.some.injEq,Prod.mk.injEq] at h;obtain ⟨rfl,rfl,rfl⟩:=h;have:=qR hy;exact ⟨List.mem_cons_self ..,List.mem_cons_of_mem _ this.1,hp2.1 _ this.1,this.2⟩
  ·have:=oA hp2.2 h;exact ⟨List.mem_cons_of_mem _ this.1,List.mem_cons_of_mem _ this.2.1,this.2.2⟩
theorem oB {look:Ss}:∀{l:List Nat},bM look l=none->l.Pairwise fun a b=>bK (look.getD a []) (look.getD b [])=none
 | [],_=>List.Pairwise.nil
 | c::l,h=>by
  unfold bM at h;split at h
  ·cases h
  ·rename_i hy;exact List.pairwise_cons.2 ⟨qS hy,oB h⟩
theorem qT {ps:List (Int×List Int)}{look:Ss}:∀{k left:Nat} {l a b:Nat} {x:List UInt8},en ps look k left=some (l,a,b,x)->left<=l/\l < left+k/\bM look (cg ps l)=some (a,b,x)
 | 0,left,l,a,b,x,h=>by simp [en] at h
 | k+1,left,l,a,b,x,h=>by
  unfold en at h;split at h
  ·rename_i a' b' x' hy;simp only [Option.some.injEq,Prod.mk.injEq] at h;obtain ⟨rfl,rfl,rfl,rfl⟩:=h;exact ⟨Nat.le_refl _,by omega,hy⟩
  ·have:=qT h;exact ⟨by omega,by omega,this.2.2⟩
theorem qU {ps:List (Int×List Int)}{look:Ss}:∀{k left:Nat},en ps look k left=none->∀l,left<=l->l < left+k->bM look (cg ps l)=none
 | 0,left,h,l,h1,h2=>by omega
 | k+1,left,h,l,h1,h2=>by
  unfold en at h;split at h
  ·cases h
  ·rename_i hy;by_cases he:l=left
   ·subst he;exact hy
   ·exact qU h l (by omega) (by omega)
theorem mK (ps:List (Int×List Int))(left:Nat):(cg ps left).Pairwise (· < ·):=by
 unfold cg;exact List.Pairwise.filter _ List.pairwise_lt_range

theorem IW (ps:List Pr)(i:Nat):((ps.map unP).getD i (0,[])).1=(ps.getD i ⟨0,[]⟩).l:=by
 rw [List.getD_eq_getElem?_getD,List.getD_eq_getElem?_getD,List.getElem?_map];cases ps[i]?<;>rfl
theorem mL (ps:List Pr)(left:Nat):cg (ps.map unP) left=ofN ps left ps.length:=by
 unfold cg ofN;rw [List.length_map];congr 1;funext i;rw [IW]
theorem fY (g:Gm){i:Nat}(h:i < g.ps.length):(aK g).getD i []=cQ g g.ps[i]:=by
 rw [List.getD_eq_getElem?_getD];simp [aK,h]
theorem B6 {g:Gm}(hg:GOk g){l a b:Nat}{x:List UInt8}(h:confM g=some (l,a,b,x)):
  a < b/\∃(ha:a < g.ps.length) (hb:b < g.ps.length),g.ps[a].l=l/\g.ps[b].l=l/\x∈cQ g g.ps[a]/\x∈cQ g g.ps[b]:=by
 obtain ⟨_,_,h3⟩:=qT h;obtain ⟨h4,h5,h6,h7⟩:=oA (mK _ _) h3;rw [mL] at h4 h5;obtain ⟨ha,hla⟩:=d9.1 h4;obtain ⟨hb,hlb⟩:=d9.1 h5;obtain ⟨m1,m2⟩:=yV h7;rw [fY g ha] at m1;rw [fY g hb] at m2;exact ⟨h6,ha,hb,hla,hlb,m1,m2⟩
theorem j4 {g:Gm}(hg:GOk g):confM g=none↔∀(a b:Nat) (ha:a < g.ps.length) (hb:b < g.ps.length),a < b->g.ps[a].l=g.ps[b].l->∀x∈cQ g g.ps[a],x∉cQ g g.ps[b]:=by
 constructor
 ·intro h a b ha hb hab hl x hx;have hp:=hg.p _ (List.getElem_mem ha);have h1:=oB (qU h g.ps[a].l.toNat (Nat.zero_le _) (by have:=hp.l0;have:=hp.l1;omega))
  rw [mL] at h1;have hto:((g.ps[a].l.toNat:Nat):Int)=g.ps[a].l:=Int.toNat_of_nonneg hp.l0;rw [hto] at h1;have m1:a∈ofN g.ps g.ps[a].l g.ps.length:=d9.2 ⟨ha,rfl⟩;have m2:b∈ofN g.ps g.ps[a].l g.ps.length:=d9.2 ⟨hb,hl.symm⟩;have hs:(ofN g.ps g.ps[a].l g.ps.length).Pairwise (· < ·):=by
   have:=mK (g.ps.map unP) g.ps[a].l.toNat
   rwa [mL,hto] at this
  have key:∀(l:List Nat),l.Pairwise (· < ·)->l.Pairwise (fun a b=>bK ((aK g).getD a []) ((aK g).getD b [])=none)->a∈l->b∈l->bK ((aK g).getD a []) ((aK g).getD b [])=none:=by
   intro l;induction l with
   | nil=>intro _ _ h;simp at h
   | cons c l ih=>
    intro h1 h2 h3 h4;have h1:=List.pairwise_cons.1 h1;have h2:=List.pairwise_cons.1 h2;rcases List.mem_cons.1 h3 with e3 | e3
    ·rcases List.mem_cons.1 h4 with e4 | e4
     ·omega
     ·rw [e3];exact h2.1 _ e4
    ·rcases List.mem_cons.1 h4 with e4 | e4
     ·have:=h1.1 _ e3;omega
     ·exact ih h1.2 h2.2 e3 e4
  have hm:=key _ hs h1 m1 m2;rw [fY g ha,fY g hb] at hm;exact yW (pp hg (List.getElem_mem ha)).up (pp hg (List.getElem_mem hb)).up hm x hx
 ·intro h;cases hc:confM g with
  | none=>rfl
  | some c=>
   obtain ⟨l,a,b,x⟩:=c;obtain ⟨h1,ha,hb,h2,h3,h4,h5⟩:=B6 hg hc;exact absurd h5 (h a b ha hb h1 (by rw [h2,h3]) x h4)

def cnd (g:Gm)(left:Int)(row:List UInt8)(j:Nat):Bool:=decide ((g.ps.getD j ⟨0,[]⟩).l=left)&&ct ((aK g).getD j []) row
theorem B7 {g:Gm}(hc:chkE g=0)(left:Int)(row:List UInt8):qQ g (aK g) left row=kK (aK g) row (ofN g.ps left g.ps.length):=by
 unfold qQ;rw [if_neg (by rw [fA];simp),if_neg (by simp [hc])]
section
variable {g h:Gm}(hg:GOk g)(hh:GOk h)(ht:h.t=g.t)(hp:h.ps=g.ps)(hk:g.k<=h.k)
include hg hh ht hp hk
theorem Mf {p:Pr}(hpp:p∈g.ps){z:List UInt8}(hz:z∈ofM h (setsM h) p.r):z.take g.k.toNat∈ofM g (setsM g) p.r/\ju z:=by
 have hkn:g.k.toNat<=h.k.toNat:=by omega
 have hr:∀s∈p.r,0<=s:=fun s hs=>((hg.p p hpp).s s hs).1;have hne:ju z:=jv hh ((eD hh (aJ hh) hr).b z hz);refine ⟨?_,hne⟩;have hcut:=we hh hg ht.symm hp.symm hk;obtain ⟨t,ht2,rfl⟩:=(eG hh (aJ hh) hr z).1 hz;obtain ⟨u,hu,e⟩:=ii (g:=g) g.k.toNat _ _ _ ht2 (nxt g (setsM g)) fun s _ x hx=>by
  unfold nxt at hx |-;rw [ht] at hx;split at hx
  ·rename_i hs;rw [if_pos hs];exact ⟨x,hx,rfl⟩
  ·rename_i hs;rw [if_neg hs,<-hcut];exact ⟨x.take g.k.toNat,jX.2 ⟨x,hx,rfl⟩,by rw [List.take_take,Nat.min_self]⟩
 rw [List.take_take,Nat.min_eq_left hkn,<-e];exact (eG hg (aJ hg) hr _).2 ⟨u,hu,rfl⟩
theorem wM {p:Pr}(hpp:p∈g.ps){x:List UInt8}(hx:x∈cQ h p):x.take g.k.toNat∈cQ g p:=by
 have hkn:g.k.toNat<=h.k.toNat:=by omega
 obtain ⟨r,hr,s,hs,rfl⟩:=bA.1 hx;obtain ⟨h1,h2⟩:=Mf hg hh ht hp hk hpp hr;have hF:=Ix hh hg ht.symm hp.symm hk p.l.toNat;have hs2:s.take g.k.toNat∈(cM g).getD p.l.toNat []:=by rw [<-hF];exact jX.2 ⟨s,hs,rfl⟩
 refine bA.2 ⟨_,h1,_,hs2,?_⟩;have hne:ju (r.take g.k.toNat):=fun c hc=>h2 c (List.mem_of_mem_take hc);rw [bR h2,bR hne,List.take_take,Nat.min_eq_left hkn,<-dZ]
theorem wO (hc:confM g=none):confM h=none:=by
 rw [j4 hh];intro a b ha hb hab hl x hx hx2;have ha2:a < g.ps.length:=by rw [<-hp];exact ha
 have hb2:b < g.ps.length:=by rw [<-hp];exact hb
 have ea:h.ps[a]=g.ps[a]:=by simp [hp]
 have eb:h.ps[b]=g.ps[b]:=by simp [hp]
 rw [ea] at hx hl;rw [eb] at hx2 hl;exact (j4 hg).1 hc a b ha2 hb2 hab hl _ (wM hg hh ht hp hk (List.getElem_mem ha2) hx) (wM hg hh ht hp hk (List.getElem_mem hb2) hx2)
end
theorem OJ {g:Gm}(hc:chkE g=0){k:Int}(h1:1<=k)(h3:k<=3):chkE ⟨g.t,g.n,k,g.ps⟩=0:=by
 have ok:=br hc;unfold chkE at hc |-;have e:jz ⟨g.t,g.n,k,g.ps⟩=jz g:=by funext p;rfl
 have:=ok.t1;have:=ok.t2;have:=ok.n1;have:=ok.n2;have:=ok.k1;have:=ok.k2;have:=ok.l1;have:=ok.l2;rw [if_neg (by omega)] at hc
 rw [if_neg (show ¬(8 < g.t\/16 < g.n\/3 < k\/64 < g.ps.length) by omega)]
 simp only at hc |-;split at hc
 ·omega
 ·rename_i h5;rw [if_neg h5];rw [if_neg (by omega)] at hc
  rw [if_neg (show ¬(g.t < 1\/g.n < 1\/k < 1\/g.ps.length < 1) by omega),e]
  exact hc
theorem ip {g:Gm}(hc:chkE g=0):fX g=0↔confM g=none:=by
 unfold fX;rw [if_pos hc];cases confM g<;>simp
end Go.Proofs.YtkllbcjanneppaaGreat
