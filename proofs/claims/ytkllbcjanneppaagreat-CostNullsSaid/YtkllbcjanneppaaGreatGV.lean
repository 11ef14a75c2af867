import Derived.Test.YtkllbcjanneppaaGreatGE
import Derived.Test.YtkllbcjanneppaaGreatGK
set_option maxRecDepth 20000
set_option linter.unusedSimpArgs false
set_option linter.unusedVariables false
namespace Go.Proofs.YtkllbcjanneppaaGreat
open Go Go.Hm

def ii (g:Gm)(p:Pr):List (List UInt8):=cat g.k.toNat (ofM g (setsM g) p.r) ((dL g).getD p.l.toNat [])
def bD (g:Gm):Ss:=g.ps.map (ii g)
theorem xS {g:Gm}(hg:GOk g){p:Pr}(hp:p∈g.ps):FOk g (ii g p):=
 m4 hg (fO hg (bj hg) fun s hs=>((hg.p p hp).s s hs).1) ((ff hg).get _)
theorem gw (g:Gm):(bD g).length=g.ps.length:=by simp [bD]
theorem iS {g:Gm}(hg:GOk g){l:List (List UInt8)}(h:l∈bD g):l.length≤1000000:=by
 obtain ⟨p,hp,rfl⟩:=List.mem_map.1 h;exact Nat.le_trans ((xS hg hp).size hg) (by decide)
theorem xT {cs:List AV}{S:Ss}(h:SC cs S){v:AV}{l:List (List UInt8)}(hv:RV v l):SC (cs++[v]) (S++[l]):=by
 refine ⟨by simp [h.1],fun j u hu=>?_⟩
 by_cases hj:j < cs.length
 ·rw [List.getElem?_append_left hj] at hu;have:=h.2 j u hu
  rwa [List.getD_eq_getElem?_getD,List.getElem?_append_left (by rw [←h.1];exact hj),←List.getD_eq_getElem?_getD]
 ·rw [List.getElem?_append_right (by omega)] at hu
  have hj2:j - cs.length=0:=by
   rcases Nat.eq_zero_or_pos (j - cs.length) with h0 | h0
   ·exact h0
   ·rw [List.getElem?_eq_none (by simp;omega)] at hu;cases hu
  rw [hj2] at hu;simp only [List.getElem?_cons_zero,Option.some.injEq] at hu;subst hu;rw [List.getD_eq_getElem?_getD,List.getElem?_append_right (by rw [←h.1];omega),←h.1,hj2]
  exact hv
def tbV (H:Heap)(cs:List AV):AV:=if cs=[] then .e0 else .hs H.length cs.length 0 cs.length 1
def tbH (H:Heap)(cs:List AV):Heap:=if cs=[] then H else H++[.cells cs]
theorem xU (H:Heap)(cs:List AV):H.length≤(tbH H cs).length:=by
 unfold tbH;split<;>simp
theorem wI {lk lim:Nat}{H:Heap}(hlk:lk≤H.length)(g:Gm)(hc:chkE g=0):
  ∃v h',ah X A lk lim 59 [gV g] H=some (v,h')∧h'=H∧∃cs,v= .agg [.sl cs.length cs]∧SC cs (bD g):=by
 have ok:=br hc;have hl:g.ps.length≤1000000:=Nat.le_trans ok.l2 (by decide)
 have hr:∀p∈g.ps,p.r.length≤1000000:=fun p hp=>Nat.le_trans (ok.p p hp).len (by decide)
 obtain ⟨v1,g1,k1,e1,h1⟩:=qm (lim:=H.length) hlk g hl hr;rw [if_pos hc] at h1;obtain ⟨Fc,rfl,hF⟩:=h1;rw [e1] at k1;obtain ⟨v2,g2,k2,e2,h2⟩:=wA (lim:=H.length) hlk g hl hr;rw [if_pos hc] at h2;obtain ⟨Gc,rfl,hG⟩:=h2;rw [e2] at k2;have ko:=fun (K L:Nat) (cs:List AV) (hK:K≤(tbH H cs).length) (p:Pr) (hp:p∈g.ps)=>
  qn (lk:=K) (lim:=L) (H:=tbH H cs) hK g hl hr hF p.r (hr p hp) (by rw [(bj ok).len];have:=ok.n2;omega)
   fun _=>⟨(cD ok (bj ok) (ok.p p hp)).2.1,(cD ok (bj ok) (ok.p p hp)).2.2⟩
 have kc:=fun (L:Nat) (cs:List AV) (va vb:AV) (a b:List (List UInt8)) (ha:RV va a) (hb:RV vb b) h3 h4 h5 h6=>kT (lk:=lk) (lim:=L) (H:=tbH H cs) (Nat.le_trans hlk (xU H cs)) g.k ha hb h3 h4 h5 h6;refine dk [1,2,6] rfl A59 rfl rfl ?_;unfold KY;have hll:∀{p:Pr},p∈g.ps→(ii g p).length≤1000000:=fun hp=>iS ok (List.mem_map.2 ⟨_,hp,rfl⟩);have hoo:∀p∈g.ps,OfOk g (setsM g) p.r:=fun p hp=>⟨hc,by rw [(bj ok).len];have:=ok.n1;omega,by
  rw [List.any_eq_false];intro s hs;have:=(ok.p p hp).s s hs;simp only [cC,Bool.or_eq_true,decide_eq_true_eq,not_or];omega⟩
 have kcc:∀(L:Nat) (cs:List AV) (p:Pr) (hp:p∈g.ps) (vb:AV),RV vb ((dL g).getD p.l.toNat [])→ah X A lk L 85 [I g.k,ofV g (setsM g) p.r,vb] (tbH H cs)=some (catV g.k.toNat (ofM g (setsM g) p.r) ((dL g).getD p.l.toNat []),tbH H cs):=fun L cs p hp vb hv=>
  kc L cs _ _ _ _ (gR ..) hv (by
   have:=(cD ok (bj ok) (ok.p p hp)).2.1 p.r.length;rw [List.take_length] at this;exact this.1) (Nat.le_trans (((ff ok).get _).size ok) (by decide)) (by
   have:=(cD ok (bj ok) (ok.p p hp)).2.1 p.r.length;rw [List.take_length] at this;exact this.2) (kZ ok ((ff ok).get _))
 have hGl:Gc.length=g.n.toNat:=by rw [hG.1,(ff ok).len]
 have hGg:∀p∈g.ps,∃v,Gc[p.l.toNat]?=some v∧RV v ((dL g).getD p.l.toNat []):=fun p hp=>hG.get (by rw [(ff ok).len];have:=(ok.p p hp).l1;have:=(ok.p p hp).l0;omega)
 have hlk2:(bD g).length=g.ps.length:=gw g;have hlg:∀(i:Nat) (h:i < g.ps.length),(bD g)[i]?=some (ii g g.ps[i]):=fun i h=>by simp [bD,h]
 have kof:∀(K L:Nat) (cs:List AV),K≤(tbH H cs).length→∀(p:Pr),p∈g.ps→ah X A K L 86 [gV g,.sl Fc.length Fc,.sl p.r.length (ints p.r)] (tbH H cs)=some (ofV g (setsM g) p.r,tbH H cs):=fun K L cs hK p hp=>by
  have:=ko K L cs hK p hp
  rwa [if_pos (hoo p hp)] at this
 have hcv:∀p,RV (catV g.k.toNat (ofM g (setsM g) p.r) ((dL g).getD p.l.toNat [])) (ii g p):=fun p=>RV.cat _ _ _;generalize bD g=M at hlk2 hlg ⊢;generalize hlp:(fun p:Pr=>ii g p)=LP at *;clear ko kc hoo hll hG;obtain ⟨t,n,k,ps⟩:=g;obtain ⟨t1,t2,n1,n2,k1',k2',l1,l2,okp⟩:=ok;simp only at t1 t2 n1 n2 k1' k2' l1 l2 okp hGl hGg hlk2 hlg;simp only [gV,Gm.cells] at k1 k2 kof kcc;generalize ah X A=C at k1 k2 kof kcc ⊢;simp [k1,k2,Gm.cells]
 let bx:AV:=.box [I t,I n,I k,.sl ps.length (psC ps)]
 refine ax (σ:=Nat×List AV) (fun s=>[(1,bx),(2,.box [tbV H s.2]),(3,.sl Fc.length Fc),(4,.sl Gc.length Gc),(12,.sl ps.length (psC ps)),(13,I ps.length),(14,I s.1)]) (fun s=>tbH H s.2)
  (fun s=>s.1≤ps.length∧SC s.2 (M.take s.1)) (fun s=>ps.length - s.1) ?_ (0,[]) ⟨Nat.zero_le _,rfl,fun j v h=>by simp at h⟩ (by simp [bx,tbV]) (by simp [tbH])
 rintro ⟨i,cs⟩ ⟨hi,hcs⟩;simp only at hi hcs;have hcl:cs.length=i:=by rw [hcs.1];simp;omega
 unfold GW;have w1:IntKind.i64.wrap ((i:Int)+1)=(i:Int)+1:=aw (by omega) (by omega)
 have hro1:24≤aK:=by unfold aK;omega
 have hro:(cs.length+1) * 24≤aK:=by unfold aK;omega
 by_cases hil:i < ps.length;case neg=>
  obtain rfl:i=ps.length:=by omega
  rw [List.take_of_length_le (by omega)] at hcs
  have h0:¬cs=[]:=fun e=>by subst e;simp at hcl;omega
  have hfz:=fun d=>(gS H.length (H++[.cells cs]) d hcs).1;have hbl:=(gS H.length (H++[.cells cs]) 0 hcs).2;simp [bx,tbV,tbH,h0];simp [bm,hbl,hfz];exact ⟨_,_,⟨rfl,rfl⟩,rfl,cs,rfl,hcs⟩
 have hs:=bJ hil;have hll:=aU ps;have h2:i * 2+2≤2 * ps.length:=by omega
 have hpm:=List.getElem_mem hil;have hMi:=hlg i hil;obtain ⟨v,hv1,hv2⟩:=hGg _ hpm;have hco:=fun K L hK=>kof K L cs hK _ hpm;have hcc:=fun L=>kcc L cs _ hpm v hv2;have hr2:=hcv ps[i];have ho2:=gR ⟨t,n,k,ps⟩ (setsM ⟨t,n,k,ps⟩) ps[i].r;have hpl0:=(okp _ hpm).l0;generalize ofV ⟨t,n,k,ps⟩ (setsM ⟨t,n,k,ps⟩) ps[i].r=O at hco hcc ho2;generalize catV k.toNat (ofM ⟨t,n,k,ps⟩ (setsM ⟨t,n,k,ps⟩) ps[i].r) ((dL ⟨t,n,k,ps⟩).getD ps[i].l.toNat [])=R at hcc hr2;generalize ofM ⟨t,n,k,ps⟩ (setsM ⟨t,n,k,ps⟩) ps[i].r=oL at ho2;generalize (dL ⟨t,n,k,ps⟩).getD ps[i].l.toNat []=vL at hv2;generalize ii ⟨t,n,k,ps⟩ ps[i]=rL at hr2 hMi;generalize ps[i]=p at hs hco hv1 hpl0 hpm;obtain ⟨pl,pr⟩:=p;simp only [Pr.cells] at hs hv1 hpl0 hco;obtain ⟨pl,rfl⟩:=Int.eq_ofNat_of_zero_le hpl0;simp only [Int.toNat_natCast] at hv1;have hpn:pl < Gc.length:=(List.getElem?_eq_some_iff.1 hv1).1;have done:∀(E:Env) (H':Heap),E=[(1,bx),(2,.box [tbV H (cs++[R])]),(3,.sl Fc.length Fc),(4,.sl Gc.length Gc),(12,.sl ps.length (psC ps)),(13,I ps.length),(14,I ((i:Int)+1))]→H'=tbH H (cs++[R])→
  ∃s:Nat×List AV,(s.1≤ps.length∧SC s.2 (M.take s.1))∧ps.length - s.1 < ps.length - i∧E=[(1,bx),(2,.box [tbV H s.2]),(3,.sl Fc.length Fc),(4,.sl Gc.length Gc),(12,.sl ps.length (psC ps)),(13,I ps.length),(14,I s.1)]∧H'=tbH H s.2:=fun E H' h1 h2=>
   ⟨(i+1,cs++[R]),⟨by simp only;omega,by
    simp only;rw [List.take_add_one,hMi];exact xT hcs hr2⟩,by simp only;omega,by rw [h1];simp,h2⟩
 have hR:=aA hr2;clear hMi hcs hr2 kof kcc hlg hGg;have hvE:∀h,Gc[pl]'h=v:=fun h=>(List.getElem?_eq_some_iff.1 hv1).2;by_cases h0:cs=[]
 ·subst h0;simp only [tbV,tbH,if_true] at hco hcc;rcases aA ho2 with rfl | rfl<;>rcases aA hv2 with rfl | rfl<;>rcases hR with rfl | rfl;all_goals
   simp [bx,hil,hs,hll,h2,aj,hco,hvE,hpn,tbV,tbH,hcc,aM,hro1,dq,w1];rw [ao];refine done _ _ ?_ ?_
   ·simp [bx,tbV]
   ·simp [tbH]
 ·simp only [tbV,tbH,if_neg h0] at hco hcc;rcases aA ho2 with rfl | rfl<;>rcases aA hv2 with rfl | rfl<;>rcases hR with rfl | rfl;all_goals
   simp [bx,hil,hs,hll,h2,aj,hco,hvE,hpn,tbV,tbH,h0,hcc,aM,hro,dq,du,eD,aR,hlk,w1];rw [ao];refine done _ _ ?_ ?_
   ·simp [bx,tbV]
   ·simp [tbH]
end Go.Proofs.YtkllbcjanneppaaGreat

namespace Go.Proofs.YtkllbcjanneppaaGreat
open Go Go.Hm

def unP (p:Pr):Int×List Int:=(p.l,p.r)
def confM (g:Gm):Option (Nat×Nat×Nat×List UInt8):=gr (g.ps.map unP) (bD g) g.n.toNat 0
theorem FP {v:AV}{l:List (List UInt8)}(h:RV v l):BP v=some l:=by
 rcases h with rfl | ⟨rfl,rfl⟩
 ·simp [BP,oE]
 ·rfl
theorem uu:∀{cs:List AV} {S:Ss},SC cs S→oC cs=some S
 | [],S,h=>by rw [List.eq_nil_of_length_eq_zero (l:=S) h.1.symm];rfl
 | v::cs,[],h=>by have:=h.1;simp at this
 | v::cs,l::S,h=>by
  have h0:RV v l:=h.2 0 v rfl;have hs:SC cs S:=⟨by have:=h.1;simpa using this,fun j u hu=>h.2 (j+1) u (by simpa using hu)⟩
  simp only [oC,FP h0,uu hs]
theorem C4 (r:List Int):jz (ints r)=some r:=oB r
theorem qx:∀ps:List Pr,fQ (psC ps)=some (ps.map unP)
 | []=>rfl
 | p::ps=>by
  show fQ (I p.l:: .sl p.r.length (ints p.r)::psC ps)=_;simp only [fQ,C4,qx ps,if_true];rfl
theorem Jp {g:Gm}(hg:GOk g):okA g.t g.n g.k (g.ps.map unP)=true:=by
 simp only [okA,Bool.and_eq_true,decide_eq_true_eq,List.all_eq_true,List.length_map,List.mem_map];refine ⟨⟨hg.t1,hg.t2,hg.n1,hg.n2,hg.k1,hg.k2,hg.l1,hg.l2⟩,?_⟩;rintro q ⟨p,hp,rfl⟩;have h:=hg.p p hp;exact ⟨⟨⟨h.l0,h.l1⟩,h.len⟩,h.s⟩
theorem C5:∀ps:List Pr,(psC ps).map nr0=psC ps
 | []=>rfl
 | p::ps=>by
  show I p.l:: .sl p.r.length (ints p.r)::(psC ps).map nr0=I p.l:: .sl p.r.length (ints p.r)::psC ps;rw [C5 ps]
theorem Jq (g:Gm):nrA (gV g)=gV g:=by
 show AV.agg [I g.t,I g.n,I g.k,.sl g.ps.length ((psC g.ps).map nr0)]=_;rw [C5];rfl
theorem FQ {lk lim:Nat}{H:Heap}{g:Gm}(hc:chkE g=0){cs:List AV}(hs:SC cs (bD g)):ah X A lk lim 60 [gV g,.agg [.sl cs.length cs]] H=some (mU (confM g),H):=by
 have ok:=br hc;have h:gu [gV g,.agg [.sl cs.length cs]] H=some (mU (confM g)):=by
  show gN [nrA (gV g),nrA (.agg [.sl cs.length cs])] H=_;rw [Jq];have hl:t8 (.sl cs.length cs)=some (bD g):=by
   simp only [t8,uu hs];rw [if_pos hs.1.symm]
  show (match fQ (psC g.ps),t8 (.sl cs.length cs) with
   | some ps,some look=>if ps.length=g.ps.length∧look.length=ps.length∧okA g.t g.n g.k ps=true∧look.all (fun l=>decide (l.length≤1000000))=true then some (mU (gr ps look g.n.toNat 0)) else none
   | _,_=>none)=_
  rw [qx,hl];simp only;rw [if_pos ⟨by simp,by rw [gw];simp,Jp ok,List.all_eq_true.2 fun l h=>decide_eq_true (iS ok h)⟩]
  rfl
 exact d8 (vV h)
def cfV:Option (Nat×Nat×Nat×List UInt8)→AV
 | none=>.agg [I 0,I 0,I 0,Sg []]
 | some (l,a,b,x)=>.agg [I l,I a,I b,Sg x]
def b9 (g:Gm)(v:AV):Prop:=
 if chkE g=0 then (match confM g with
  | some c=>v= .tup [.agg [.e0],cfV (some c),I 9]
  | none=>∃cs,v= .tup [.agg [.sl cs.length cs],cfV none,I 0]∧SC cs (bD g))
 else v= .tup [.agg [.e0],cfV none,I (chkE g)]
theorem wJ {lk lim:Nat}{H:Heap}(hlk:lk≤H.length)(g:Gm)(hl:g.ps.length≤1000000)(hr:∀p∈g.ps,p.r.length≤1000000):
  ∃v h',ah X A lk lim 43 [gV g] H=some (v,h')∧h'=H∧b9 g v:=by
 have kc:=fun (L:Nat)=>check_code (lk:=lk) (lim:=L) (H:=H) g hl hr;refine dk [1,2,3,6] rfl A43 rfl rfl ?_;unfold KX;by_cases hc:chkE g=0;case neg=>
  have fin:b9 g (.tup [.agg [.e0],cfV none,I (chkE g)]):=by unfold b9;rw [if_neg hc]
  generalize b9 g=Q at fin ⊢;generalize chkE g=e at kc hc fin;have hc2:(e != 0)=true:=by simpa using hc
  obtain ⟨t,n,k,ps⟩:=g;simp only [gV,Gm.cells] at kc;generalize ah X A=C at kc ⊢;simp [Gm.cells,kc,hc2,hc,bm,aj];exact ⟨_,_,⟨rfl,rfl⟩,rfl,fin⟩
 rw [hc] at kc;obtain ⟨v,h',kt,e1,cs,rfl,hs⟩:=wI (lim:=H.length) hlk g hc;rw [e1] at kt;have kf:=FQ (lk:=lk) (lim:=H.length) (H:=H) hc hs;have fin:match confM g with
  | some c=>b9 g (.tup [.agg [.e0],cfV (some c),I 9])
  | none=>b9 g (.tup [.agg [.sl cs.length cs],cfV none,I 0]):=by
  cases hm:confM g with
  | none=>simp only;unfold b9;rw [if_pos hc,hm];exact ⟨cs,rfl,hs⟩
  | some c=>simp only;unfold b9;rw [if_pos hc,hm]
 generalize b9 g=Q at fin ⊢;generalize confM g=r at kf fin;obtain ⟨t,n,k,ps⟩:=g;simp only [gV,Gm.cells] at kc kt kf;generalize ah X A=C at kc kt kf ⊢;cases r with
 | none=>
  simp only [mU] at kf fin;simp [Gm.cells,kc,kt,kf,bm,aj];exact ⟨_,_,⟨rfl,rfl⟩,rfl,fin⟩
 | some c=>
  obtain ⟨l,a,b,x⟩:=c;simp only [mU] at kf fin;simp [Gm.cells,kc,kt,kf,bm,aj];exact ⟨_,_,⟨rfl,rfl⟩,rfl,fin⟩
end Go.Proofs.YtkllbcjanneppaaGreat

namespace Go.Proofs.YtkllbcjanneppaaGreat
open Go Go.Hm

def fi (g:Gm):Int:=if chkE g=0 then (match confM g with
 | some _=>9
 | none=>0) else chkE g
def iT (g:Gm):Option (Nat×Nat×Nat×List UInt8):=if chkE g=0 then confM g else none
def TV (tv:AV)(S:Ss):Prop:=(tv= .e0∧S=[])∨∃cs,tv= .sl cs.length cs∧SC cs S
def fR (g:Gm):Ss:=if fi g=0 then bD g else []
theorem mM {lk lim:Nat}{H:Heap}(hlk:lk≤H.length)(g:Gm)(hl:g.ps.length≤1000000)(hr:∀p∈g.ps,p.r.length≤1000000):
  ∃tv,ah X A lk lim 43 [gV g] H=some (.tup [.agg [tv],cfV (iT g),I (fi g)],H)∧TV tv (fR g):=by
 obtain ⟨v,h',h,rfl,hb⟩:=wJ (lim:=lim) hlk g hl hr;rw [h];unfold b9 at hb;unfold fR fi iT;by_cases hc:chkE g=0
 ·rw [if_pos hc] at hb ⊢;rw [if_pos hc];cases hm:confM g with
  | none=>
   rw [hm] at hb;obtain ⟨cs,rfl,hs⟩:=hb;exact ⟨_,rfl,.inr ⟨cs,rfl,hs⟩⟩
  | some c=>
   rw [hm] at hb;simp only at hb;subst hb;exact ⟨_,rfl,.inl ⟨rfl,rfl⟩⟩
 ·rw [if_neg hc] at hb ⊢;subst hb;rw [if_neg hc,if_neg hc];exact ⟨_,rfl,.inl ⟨rfl,rfl⟩⟩
theorem nc (c:Option (Nat×Nat×Nat×List UInt8)):∃(l a b:Nat) (x:List UInt8),cfV c= .agg [I l,I a,I b,Sg x]:=by
 cases c with
 | none=>exact ⟨0,0,0,[],rfl⟩
 | some c=>obtain ⟨l,a,b,x⟩:=c;exact ⟨l,a,b,x,rfl⟩
end Go.Proofs.YtkllbcjanneppaaGreat

namespace Go.Proofs.YtkllbcjanneppaaGreat
open Go Go.Hm

def l6 (S:Ss)(row:List UInt8):List Nat→Int
 | []=>-1
 | i::r=>if ce (S.getD i []) row=true then i else l6 S row r
def uw (g:Gm)(S:Ss)(left:Int)(row:List UInt8):Int:=
 if S.length≠g.ps.length then -1 else if chkE g≠0 then -1 else l6 S row (ofN g.ps left g.ps.length)
theorem Jr {ps:List Pr}{left:Int}{i:Nat}(h:i∈ofN ps left ps.length):i < ps.length:=(gU.1 h).1
theorem TV.len {tv:AV}{S:Ss}(h:TV tv S):tv= .e0∧S.length=0∨∃cs,tv= .sl cs.length cs∧cs.length=S.length:=by
 rcases h with ⟨rfl,rfl⟩ | ⟨cs,rfl,hs⟩
 ·exact .inl ⟨rfl,rfl⟩
 ·exact .inr ⟨cs,rfl,hs.1⟩
theorem sj {lk lim:Nat}{H:Heap}(hlk:lk≤H.length)(g:Gm)(hl:g.ps.length≤1000000)(hr:∀p∈g.ps,p.r.length≤1000000){tv:AV}{S:Ss}(hT:TV tv S)(hS:∀l∈S,l.length≤1000000000)(left:Int)(row:List UInt8):
  ah X A lk lim 63 [gV g,.agg [tv],I left,Sg row] H=some (I (uw g S left row),H):=by
 have ko:=fun (L:Nat)=>gof_code (lk:=lk) (lim:=L) (H:=H) g left hl hr hlk;have kh:=fun (L:Nat) (v:AV) (l:List (List UInt8)) (hv:RV v l) (h:l.length≤1000000000)=>CB (lk:=lk) (lim:=L) (H:=H) hv row h;refine aq [4,5] rfl A63 rfl rfl ?_;unfold Lf uw;unfold lZ at ko;have hlt:∀j∈ofN g.ps left g.ps.length,j < g.ps.length:=fun j hj=>Jr hj;have hol:(ofN g.ps left g.ps.length).length≤1000000:=Nat.le_trans (fH ..) hl;generalize ofN g.ps left g.ps.length=o at ko hlt hol ⊢;obtain ⟨q,hq,hqlt,hql,hqv⟩:∃q:List Nat,(if chkE g=0 then slvN o else .e0)=slvN q∧(∀j∈q,j < g.ps.length)∧q.length≤1000000∧(if chkE g≠0 then -1 else l6 S row o)=l6 S row q:=by
  by_cases hc:chkE g=0
  ·exact ⟨o,by rw [if_pos hc],hlt,hol,by rw [if_neg (by omega)]⟩
  ·exact ⟨[],by rw [if_neg hc];rfl,by simp,by simp,by rw [if_pos hc];rfl⟩
 rw [hq] at ko;rw [hqv];clear hq hqv hlt hol;obtain ⟨t,n,k,ps⟩:=g;simp only [gV,Gm.cells] at ko hqlt ⊢;by_cases hn:S.length=ps.length;case neg=>
  rw [if_pos hn];generalize ah X A=C;rcases hT.len with ⟨rfl,h0⟩ | ⟨cs,rfl,h0⟩
  ·have h1:¬0=ps.length:=by rw [h0] at hn;exact hn
   have h2:(((0:Nat):Int) != (ps.length:Int))=true:=by rw [bne_iff_ne];omega
   have h3:((0:Int) != (ps.length:Int))=true:=by rw [bne_iff_ne];omega
   have h4:¬(0:Int)=ps.length:=by omega
   have h5:¬ps=[]:=fun e=>by subst e;exact h1 rfl
   simp [h2,h3,h4,h5]
  ·have h1:¬(cs.length:Int)=ps.length:=by omega
   have h2:((cs.length:Int) != (ps.length:Int))=true:=by rw [bne_iff_ne];exact h1
   simp [h2,h1]
 rw [show (if S.length≠ps.length then (-1:Int) else l6 S row q)=l6 S row q from if_neg (fun h=>h hn)];generalize ah X A=C at ko kh ⊢;obtain ⟨R,hR⟩:∃R,l6 S row q=R:=⟨_,rfl⟩;rw [hR];have main:∀L E,ab [3,5,20,21,22] E=[(3,Sg row),(5,.box [tv]),(20,slvN q),(21,I q.length),(22,I 0)]→WB ⟨C,lk,L,[4,5]⟩ (.block 0 (.loop [3,5,20,21,22] Cj)) (Fol ⟨C,lk,L,[4,5]⟩ (.seq (.regN [] [⟨some 8,none,.mv (.con (.val (.int .i64 (-1)))),0,false⟩]) .ret) (rD [.tmp 8] true H (I R,H))) E H:=by
  intro L E hE;rw [ar];refine ax (σ:=Nat) (fun i=>[(3,Sg row),(5,.box [tv]),(20,slvN q),(21,I q.length),(22,I i)]) (fun _=>H) (fun i=>i≤q.length∧l6 S row (q.drop i)=R) (fun i=>q.length - i) ?_ 0 ⟨Nat.zero_le _,hR⟩ hE rfl;rintro i ⟨hi,hinv⟩;unfold Cj;have w1:IntKind.i64.wrap ((i:Int)+1)=(i:Int)+1:=aw (by omega) (by omega)
  by_cases hil:i < q.length;case neg=>
   obtain rfl:i=q.length:=by omega
   rw [List.drop_length] at hinv;simp only [l6] at hinv;subst hinv;by_cases hq0:q=[]
   ·simp [slvN,hq0]
   ·simp [slvN,hq0]
  have hq0:¬q=[]:=fun e=>by subst e;simp at hil
  have hsl:slvN q= .sl q.length (nts q):=by unfold slvN;rw [if_neg hq0]
  rw [List.drop_eq_getElem_cons hil] at hinv;have hjl:=hqlt _ (List.getElem_mem hil);generalize hj:q[i]=j at hinv hjl;simp only [l6] at hinv;rcases hT with ⟨rfl,rfl⟩ | ⟨cs,rfl,hs⟩
  ·simp at hn;omega
  obtain ⟨v,hv1,hv2⟩:=hs.get (j:=j) (by omega)
  have kv:=fun L=>kh L v _ hv2 (hS _ (by rw [List.getD_eq_getElem?_getD,List.getElem?_eq_getElem (by omega)];exact List.getElem_mem _))
  have hcl:j < cs.length:=by rw [hs.1];omega
  have hvE:∀h,cs[j]'h=v:=fun h=>(List.getElem?_eq_some_iff.1 hv1).2;rw [hsl];generalize S.getD j []=vl at hv2 kv hinv;cases hh:ce vl row with
  | true=>
   rw [hh] at kv;rw [if_pos hh] at hinv;rcases aA hv2 with rfl | rfl;all_goals
    simp [hil,hj,hvE,hcl,kv,←hinv]
  | false=>
   rw [hh] at kv;rw [if_neg (by rw [hh];simp)] at hinv
   rcases aA hv2 with rfl | rfl;all_goals
    simp [hil,hj,hvE,hcl,kv,w1,ao];exact ⟨i+1,⟨by omega,hinv⟩,by omega,by simp⟩
 rcases hT.len with ⟨rfl,h0⟩ | ⟨cs,rfl,h0⟩
 ·have h5:ps=[]:=List.eq_nil_of_length_eq_zero (by omega)
  subst h5;have h6:q=[]:=by
   cases q with
   | nil=>rfl
   | cons j q=>have:=hqlt j (by simp);simp at this
  subst h6;have h7:slvN []= .e0:=rfl;rw [h7] at ko main;simp only [List.length_nil] at ko main;simp [-ar,ko];refine main _ _ ?_;simp
 ·have h1:cs.length=ps.length:=by omega
  have hh:∀L E,ab [3,5,20,21,22] E=[(3,Sg row),(5,.box [.sl ps.length cs]),(20,slvN q),(21,I q.length),(22,I 0)]→_:=fun L E hE=>main L E (by rw [h1];exact hE)
  clear main;by_cases hq0:q=[]
  ·have h7:slvN q= .e0:=if_pos hq0;have h8:q.length=0:=by rw [hq0];rfl
   rw [h7] at ko hh;rw [h8] at hh;simp [-ar,h1,ko];refine hh _ _ ?_;simp
  ·have h7:slvN q= .sl q.length (nts q):=if_neg hq0;rw [h7] at ko hh;simp [-ar,h1,ko];refine hh _ _ ?_;simp
end Go.Proofs.YtkllbcjanneppaaGreat

namespace Go.Proofs.YtkllbcjanneppaaGreat
open Go Go.Hm

theorem FS (ps:List Pr)(i:Nat):((ps.map unP).getD i (0,[])).1=(ps.getD i ⟨0,[]⟩).l:=by
 rw [List.getD_eq_getElem?_getD,List.getD_eq_getElem?_getD,List.getElem?_map];cases ps[i]?<;>rfl
theorem C6 (ps:List Pr)(left:Nat):cV (ps.map unP) left=ofN ps left ps.length:=by
 unfold cV ofN;rw [List.length_map];congr 1;funext i;rw [FS]
def cnd (g:Gm)(left:Int)(row:List UInt8)(j:Nat):Bool:=decide ((g.ps.getD j ⟨0,[]⟩).l=left)&&ce ((bD g).getD j []) row
section
variable {g h:Gm}(hg:GOk g)(hh:GOk h)(ht:h.t=g.t)(hp:h.ps=g.ps)(hk:g.k≤h.k)
include hg hh ht hp hk
end
theorem k8 {g:Gm}(hc:chkE g=0):fi g=0↔confM g=none:=by
 unfold fi;rw [if_pos hc];cases confM g<;>simp
end Go.Proofs.YtkllbcjanneppaaGreat
