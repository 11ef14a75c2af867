import Derived.Test.YtkllbcjanneppaaGreatGV
import Derived.Test.YtkllbcjanneppaaGreatGS
import Derived.Test.YtkllbcjanneppaaGreatHA
set_option maxRecDepth 20000
set_option linter.unusedSimpArgs false
set_option linter.unusedVariables false
namespace Go.Proofs.YtkllbcjanneppaaGreat
open Go Go.Hm

def cN (g:Gm):Int:=if chkE g≠0 then chkE g else if (redP g).2=false then 5 else if (leftR g).2=true then 4 else fX g
theorem jJ {lk lim:Nat}{H:Heap}(hlk:lk<=H.length)(g:Gm)(hl:g.ps.length<=1000000)(hr:∀p∈g.ps,p.r.length<=1000000):
  aj X A lk lim 31 [gV g] H=some (I (cN g),H):=by
 have kc:=fun (L:Nat)=>ck (lk:=lk) (lim:=L) (H:=H) g hl hr;have kr:=fun (L:Nat)=>FO (lk:=lk) (lim:=L) (H:=H) g hl hr hlk;have kl:=fun (L:Nat)=>wY (lk:=lk) (lim:=L) (H:=H) g hl hr hlk;obtain ⟨tv,kb,hT⟩:=oz (lim:=H.length) hlk g hl hr;refine ar [1,8,9] rfl A31 rfl rfl ?_;unfold NA;unfold Cc at kr;unfold sT at kl;generalize eW g=T at hT;obtain ⟨l,a,b,x,hx⟩:=pq (jF g);rw [hx] at kb;unfold cN;generalize fX g=e at kb |-;generalize chkE g=c at kc |-;generalize redP g=rp at kr |-;generalize leftR g=lr at kl |-;obtain ⟨r1,r2⟩:=rp;obtain ⟨l1,l2⟩:=lr;obtain ⟨t,n,k,ps⟩:=g;simp only [gV,Gm.cells] at kb kc kr kl;generalize aj X A=C at kb kc kr kl |-;by_cases hc:c=0;case neg=>
  have hc2:(c != 0)=true:=by simpa using hc
  simp [Gm.cells,kc,hc2,hc]
 subst hc;cases r2 with
 | false=>simp [Gm.cells,kc,kr]
 | true=>
  cases l2 with
  | true=>simp [Gm.cells,kc,kr,kl]
  | false=>
   rcases hT with ⟨rfl,_⟩ | ⟨cs,rfl,_⟩;all_goals
    simp [Gm.cells,kc,kr,kl,kb,an]

section
variable {C:Orc}{Q:Ex->Kt}{E:Env}{lk L:Nat}{H:Heap}{t k:Int}{n:Nat}{ps:List Pr}{cs:List AV}{S:Ss}
abbrev cV0:AV:=.box [I 0,I 0,I 0,Sg []]
def ee (t k:Int)(n:Nat)(ps:List Pr)(cs:List AV)(e:Env):Env:=(2,.box [I t,I n,I k,.sl ps.length (psC ps)])::(3,.box [.sl cs.length cs])::(4,cV0)::e
def xc (Q:Ex->Kt)(H:Heap)(left a b:Nat)(x:List UInt8):Prop:=∀E',find E' 4= .box [I left,I a,I b,Sg x]->find E' 5=Bo true->Q .ret E' H
theorem I8 (hs:SC cs S)(hn:S.length=ps.length)(hS:∀l∈S,l.length<=1000000){left a b:Nat}(ha:a < ps.length)(hb:b < ps.length)
  (kh:∀K M (v:AV) (l:List (List UInt8)) x,RV v l->l.length<=1000000->C K M 69 [v,Sg x] H=some (Bo (ct l x),H))
  (hE:ab [2,3,4,6,7,8,9] E=ee t k n ps cs [(6,I left),(7,I a),(8,I b),(9,I 0)])
  (hQ:(S.getD a []).find? (fun x=>ct (S.getD b []) x)=none->∀E',ab [2,3,4,6,7,8] E'=ee t k n ps cs [(6,I left),(7,I a),(8,I b)]->Q .nrm E' H)
  (hR:∀x,(S.getD a []).find? (fun x=>ct (S.getD b []) x)=some x->xc Q H left a b x):
  WB ⟨C,lk,L,[2,3,4]⟩ (.block 6 (.loop [2,3,4,6,7,8,9] Eo)) Q E H:=by
 obtain ⟨va,ga,ra⟩:=hs.get (j:=a) (by omega)
 obtain ⟨vb,gb,rb⟩:=hs.get (j:=b) (by omega)
 have hca:a < cs.length:=by rw [hs.1];omega
 have hcb:b < cs.length:=by rw [hs.1];omega
 have gaE:∀h,cs[a]'h=va:=fun h=>(List.getElem?_eq_some_iff.1 ga).2;have gbE:∀h,cs[b]'h=vb:=fun h=>(List.getElem?_eq_some_iff.1 gb).2;have hla:(S.getD a []).length<=1000000:=by rw [uR (by omega)];exact hS _ (List.getElem_mem _)
 have hlb:(S.getD b []).length<=1000000:=by rw [uR (by omega)];exact hS _ (List.getElem_mem _)
 have kh:=fun K M x=>kh K M vb _ x rb hlb;generalize S.getD a []=la at ra hla hQ hR;generalize S.getD b []=lb at rb hlb hQ hR kh;rw [ap];refine ax (σ:=Nat) (fun i=>ee t k n ps cs [(6,I left),(7,I a),(8,I b),(9,I i)]) (fun _=>H) (fun i=>i<=la.length/\la.find? (fun x=>ct lb x)=(la.drop i).find? (fun x=>ct lb x)) (fun i=>la.length - i) ?_ 0 ⟨Nat.zero_le _,rfl⟩ hE rfl;rintro i ⟨hi,hinv⟩;unfold Eo;have w1:IntKind.i64.wrap ((i:Int)+1)=(i:Int)+1:=au (by omega) (by omega)
 unfold ee at hQ |-;by_cases hil:i < la.length;case neg=>
  obtain rfl:i=la.length:=by omega
  have hQ1:=hQ (by rw [hinv,List.drop_length];rfl)
  clear hQ hR hinv;rcases aC ra with h0 | h0
  ·have he:la=[]:=by
    rcases ra with h1 | ⟨_,h1⟩
    ·rw [h0] at h1;cases h1
    ·exact h1
   subst he;rw [h0] at gaE;simp [hca,gaE];refine hQ1 _ ?_;rfl
  ·rw [h0] at gaE;simp [hca,gaE];refine hQ1 _ ?_;rfl
 have hd:=List.drop_eq_getElem_cons hil;rw [hd] at hinv;have xa:=bE hil;rcases ra with h0 | ⟨_,h0⟩;case inr=>subst h0;simp at hil
 rw [h0] at gaE;generalize la[i]=x at xa hinv;have kh:=fun K M=>kh K M x;cases hx:ct lb x with
 | true=>
  rw [List.find?_cons_of_pos (by simpa using hx)] at hinv
  have hR:=hR x hinv;rw [hx] at kh;unfold xc at hR;clear hQ hinv;rcases aC rb with h1 | h1;all_goals
   rw [h1] at gbE kh;simp [-ak,-af,-aB,-ae,hil,hca,gaE];rw [ae];simp [-ak,-af,-aB,-ae,hil,hca,gaE];rw [ak rfl,aA,ah,ai,ap,ai,aB rfl];simp [-ak,-af,-aB,-ae,hil,hca,hcb,gaE,gbE,xa,kh];rw [ak rfl,ai,ae];simp [-bd,hil,hca,gaE,xa,an,cV0];rw [bd];simp [an,cV0];refine hR _ ?_ ?_
   ·rfl
   ·rfl
 | false=>
  rw [List.find?_cons_of_neg (by simp [hx])] at hinv
  rw [hx] at kh;clear hQ hR;rcases aC rb with h1 | h1;all_goals
   rw [h1] at gbE kh;simp [-ak,-af,-aB,-ae,hil,hca,gaE];rw [ae];simp [-ak,-af,-aB,-ae,hil,hca,gaE];rw [ak rfl,aA,ah,ai,ap,ai,aB rfl];simp [-ak,-af,-aB,-ae,hil,hca,hcb,gaE,gbE,xa,kh];rw [af rfl,aA];simp [w1,ao];exact ⟨i+1,⟨by omega,hinv⟩,by omega,by simp⟩
end

section
variable {C:Orc}{Q:Ex->Kt}{E:Env}{lk L:Nat}{H:Heap}{t k:Int}{n:Nat}{ps:List Pr}{cs:List AV}{S:Ss}
def mU (ps:List Pr)(left:Nat)(i:Nat):Bool:=decide ((ps.getD i ⟨0,[]⟩).l=left)
theorem Ar {ps:List Pr}{left i:Nat}(h:i < ps.length):mU ps left i=decide (ps[i].l=(left:Int)):=by
 unfold mU;rw [List.getD_eq_getElem?_getD,List.getElem?_eq_getElem h];rfl
theorem rf {n i:Nat}(h:i < n):(List.range n).drop i=i::(List.range n).drop (i+1):=by
 rw [List.drop_eq_getElem_cons (by simpa using h),List.getElem_range]
theorem I9 (hs:SC cs S)(hn:S.length=ps.length)(hl:ps.length<=1000000)(hS:∀l∈S,l.length<=1000000){left a:Nat}(ha:a < ps.length)
  (kh:∀K M (v:AV) (l:List (List UInt8)) x,RV v l->l.length<=1000000->C K M 69 [v,Sg x] H=some (Bo (ct l x),H))
  (hE:ab [2,3,4,6,7,8] E=ee t k n ps cs [(6,I left),(7,I a),(8,I ((a:Int)+1))])
  (hQ:d3 S (mU ps left) a ((List.range ps.length).drop (a+1))=none->∀E',ab [2,3,4,6,7] E'=ee t k n ps cs [(6,I left),(7,I a)]->Q .nrm E' H)
  (hR:∀b x,d3 S (mU ps left) a ((List.range ps.length).drop (a+1))=some (b,x)->xc Q H left a b x):
  WB ⟨C,lk,L,[2,3,4]⟩ (.block 4 (.loop [2,3,4,6,7,8] Ep)) Q E H:=by
 rw [ap];refine ax (σ:=Nat) (fun b=>ee t k n ps cs [(6,I left),(7,I a),(8,I b)]) (fun _=>H) (fun b=>b<=ps.length/\d3 S (mU ps left) a ((List.range ps.length).drop (a+1))=d3 S (mU ps left) a ((List.range ps.length).drop b)) (fun b=>ps.length - b) ?_ (a+1) ⟨ha,rfl⟩ (by rw [hE];simp) rfl
 rintro b ⟨hi,hinv⟩;unfold Ep;have w1:IntKind.i64.wrap ((b:Int)+1)=(b:Int)+1:=au (by omega) (by omega)
 by_cases hib:b < ps.length;case neg=>
  obtain rfl:b=ps.length:=by omega
  have hQ1:=hQ (by rw [hinv,List.drop_eq_nil_of_le (by simp)];rfl)
  clear hQ hR hinv hE;unfold ee at hQ1 |-;simp;refine hQ1 _ ?_;rfl
 rw [rf hib,d3] at hinv;have hla:=Ar (left:=left) ha;have hlb:=Ar (left:=left) hib;have hsa:=Ae ha;have hsb:=Ae hib;have hll:=aY ps;have h2a:a * 2 < 2 * ps.length:=by omega
 have h2b:b * 2 < 2 * ps.length:=by omega
 have hsaE:∀h,(psC ps)[a * 2]'h=I ps[a].l:=fun h=>(List.getElem?_eq_some_iff.1 hsa).2;have hsbE:∀h,(psC ps)[b * 2]'h=I ps[b].l:=fun h=>(List.getElem?_eq_some_iff.1 hsb).2;rw [hla,hlb] at hinv;clear hla hlb hsa hsb
 -- the two lefts
 have skip:(decide (ps[a].l=(left:Int))&&decide (ps[b].l=(left:Int)))=false->d3 S (mU ps left) a ((List.range ps.length).drop (a+1))=d3 S (mU ps left) a ((List.range ps.length).drop (b+1)):=fun h=>by rw [hinv,if_neg (by rw [h];simp)]
 have go:(decide (ps[a].l=(left:Int))&&decide (ps[b].l=(left:Int)))=true->d3 S (mU ps left) a ((List.range ps.length).drop (a+1))=(match (S.getD a []).find? (fun x=>ct (S.getD b []) x) with
  | some x=>some (b,x)
  | none=>d3 S (mU ps left) a ((List.range ps.length).drop (b+1))):=fun h=>by rw [hinv,if_pos h];rfl
 clear hinv;generalize ps[a].l=pa at hsaE skip go;generalize ps[b].l=pb at hsbE skip go;by_cases h1:pa=left;case neg=>
  have e1:(pa != (left:Int))=true:=by simpa using h1
  have hk:=skip (by rw [decide_eq_false h1];rfl)
  clear hQ hR skip go hE;unfold ee;simp [-ak,-af,-ae,hib];rw [ae];simp [-ak,-af,-ae,hib];rw [ak rfl,aA,ah,ai,ap,ai,ai,ae];simp [-ak,-af,-ae,ha,hib,hll,h2a,h2b,hsaE,hsbE,e1,h1];rw [ak rfl];simp [w1,ao];exact ⟨b+1,⟨by omega,hk⟩,by omega,by simp⟩
 have e1:(pa != (left:Int))=false:=by simpa using h1
 by_cases h2:pb=left;case neg=>
  have e2:(pb != (left:Int))=true:=by simpa using h2
  have hk:=skip (by rw [decide_eq_false h2];simp)
  clear hQ hR skip go hE;unfold ee;simp [-ak,-af,-ae,hib];rw [ae];simp [-ak,-af,-ae,hib];rw [ak rfl,aA,ah,ai,ap,ai,ai,ae];simp [-ak,-af,-ae,ha,hib,hll,h2a,h2b,hsaE,hsbE,e1,h1,e2,h2];rw [ak rfl];simp [w1,ao];exact ⟨b+1,⟨by omega,hk⟩,by omega,by simp⟩
 have e2:(pb != (left:Int))=false:=by simpa using h2
 have go:=go (by rw [decide_eq_true h1,decide_eq_true h2];rfl)
 clear skip hE;have hst:ee t k n ps cs [(6,I left),(7,I a),(8,I b)]=[(2,.box [I t,I n,I k,.sl ps.length (psC ps)]),(3,.box [.sl cs.length cs]),(4,cV0),(6,I left),(7,I a),(8,I b)]:=rfl;rw [hst];simp [-ak,-af,-ae,hib];rw [ae];simp [-ak,-af,-ae,hib];rw [ak rfl,aA,ah,ai,ap,ai,ai,ae];simp [-ak,-af,-ae,-ap,ha,hib,hll,h2a,h2b,hsaE,hsbE,e1,h1,e2,h2];rw [af rfl,aA,ah,ai,ae];simp [-ap];refine I8 (left:=left) (a:=a) (b:=b) (t:=t) (k:=k) (n:=n) hs hn hS ha hib kh (by simp [ee]) (fun hnone E' h5=>?_) (fun x hx=>?_)
 ·rw [hnone] at go;simp only at go;unfold ee at h5;simp only [ah,a6];rw [ae,h5];simp [w1,ao];unfold ee;exact ⟨b+1,⟨by omega,go⟩,by omega,by simp⟩
 ·rw [hx] at go;simp only at go;have hR:=hR b x go;intro E' h5 h6;have:=hR E' h5 h6;simpa using this
end

section
variable {C:Orc}{Q:Ex->Kt}{E:Env}{lk L:Nat}{H:Heap}{t k:Int}{n:Nat}{ps:List Pr}{cs:List AV}{S:Ss}
theorem Ja (hs:SC cs S)(hn:S.length=ps.length)(hl:ps.length<=1000000)(hS:∀l∈S,l.length<=1000000){left:Nat}
  (kh:∀K M (v:AV) (l:List (List UInt8)) x,RV v l->l.length<=1000000->C K M 69 [v,Sg x] H=some (Bo (ct l x),H))
  (hE:ab [2,3,4,6,7] E=ee t k n ps cs [(6,I left),(7,I 0)])
  (hQ:d2 S (mU ps left) (List.range ps.length)=none->∀E',ab [2,3,4,6] E'=ee t k n ps cs [(6,I left)]->Q .nrm E' H)
  (hR:∀a b x,d2 S (mU ps left) (List.range ps.length)=some (a,b,x)->xc Q H left a b x):
  WB ⟨C,lk,L,[2,3,4]⟩ (.block 2 (.loop [2,3,4,6,7] Er)) Q E H:=by
 rw [ap];refine ax (σ:=Nat) (fun a=>ee t k n ps cs [(6,I left),(7,I a)]) (fun _=>H) (fun a=>a<=ps.length/\d2 S (mU ps left) (List.range ps.length)=d2 S (mU ps left) ((List.range ps.length).drop a)) (fun a=>ps.length - a) ?_ 0 ⟨Nat.zero_le _,rfl⟩ (by rw [hE];simp) rfl
 rintro a ⟨hi,hinv⟩;unfold Er;have w1:IntKind.i64.wrap ((a:Int)+1)=(a:Int)+1:=au (by omega) (by omega)
 have hst:ee t k n ps cs [(6,I left),(7,I a)]=[(2,.box [I t,I n,I k,.sl ps.length (psC ps)]),(3,.box [.sl cs.length cs]),(4,cV0),(6,I left),(7,I a)]:=rfl;by_cases hia:a < ps.length;case neg=>
  obtain rfl:a=ps.length:=by omega
  have hQ1:=hQ (by rw [hinv,List.drop_eq_nil_of_le (by simp)];rfl)
  clear hQ hR hinv hE;unfold ee at hQ1;rw [hst];simp;refine hQ1 _ ?_;rfl
 rw [rf hia,d2] at hinv;rw [hst];simp [-ak,-af,-ae,hia];rw [ae];simp [-ak,-af,-ae,hia];rw [ak rfl,aA,ah,ai,ap,ai,ae];simp [-ap,w1];refine I9 (left:=left) (a:=a) (t:=t) (k:=k) (n:=n) hs hn hl hS hia kh (by simp [ee]) (fun hnone E' h5=>?_) (fun b x hx=>?_)
 ·rw [hnone] at hinv;simp only at hinv;unfold ee at h5;simp only [ah,a6];rw [ae,h5];simp [w1,ao];unfold ee;exact ⟨a+1,⟨by omega,hinv⟩,by omega,by simp⟩
 ·rw [hx] at hinv;simp only at hinv;have hR:=hR a b x hinv;intro E' h5 h6;have:=hR E' h5 h6;simpa using this
theorem Jb (hs:SC cs S)(hn:S.length=ps.length)(hl:ps.length<=1000000)(hn16:n<=1000000)(hS:∀l∈S,l.length<=1000000)
  (kh:∀K M (v:AV) (l:List (List UInt8)) x,RV v l->l.length<=1000000->C K M 69 [v,Sg x] H=some (Bo (ct l x),H))
  (hE:ab [2,3,4,6] E=ee t k n ps cs [(6,I 0)])
  (hQ:d1 S ps n 0=none->∀E',ab [4] E'=[(4,cV0)]->Q .nrm E' H)
  (hR:∀l a b x,d1 S ps n 0=some (l,a,b,x)->xc Q H l a b x):
  WB ⟨C,lk,L,[2,3,4]⟩ (.block 0 (.loop [2,3,4,6] Es)) Q E H:=by
 rw [ap];refine ax (σ:=Nat) (fun l=>ee t k n ps cs [(6,I l)]) (fun _=>H) (fun l=>l<=n/\d1 S ps n 0=d1 S ps (n - l) l) (fun l=>n - l) ?_ 0 ⟨Nat.zero_le _,rfl⟩ (by rw [hE];simp) rfl
 rintro l ⟨hi,hinv⟩;unfold Es;have w1:IntKind.i64.wrap ((l:Int)+1)=(l:Int)+1:=au (by omega) (by omega)
 have hst:ee t k n ps cs [(6,I l)]=[(2,.box [I t,I n,I k,.sl ps.length (psC ps)]),(3,.box [.sl cs.length cs]),(4,cV0),(6,I l)]:=rfl;by_cases hil:l < n;case neg=>
  obtain rfl:l=n:=by omega
  have hQ1:=hQ (by rw [hinv,Nat.sub_self];rfl)
  clear hQ hR hinv hE;rw [hst];simp;refine hQ1 _ ?_;rfl
 obtain ⟨m,hm⟩:∃m,n - l=m+1:=⟨n - l - 1,by omega⟩
 rw [hm,d1] at hinv;rw [hst];simp [-ak,-af,-ae,hil];rw [ae];simp [-ak,-af,-ae,hil];rw [ak rfl,aA,ah,ai,ap,ai,ae];simp [-ap];refine Ja (left:=l) (t:=t) (k:=k) (n:=n) hs hn hl hS kh (by simp [ee]) (fun hnone E' h5=>?_) (fun a b x hx=>?_)
 ·rw [show d2 S (fun i=>decide ((ps.getD i ⟨0,[]⟩).l=l)) (List.range ps.length)=none from hnone] at hinv;simp only at hinv;unfold ee at h5;simp only [ah,a6];rw [ae,h5];simp [w1,ao];unfold ee;exact ⟨l+1,⟨by omega,by rw [hinv];congr 1;omega⟩,by omega,by simp⟩
 ·rw [show d2 S (fun i=>decide ((ps.getD i ⟨0,[]⟩).l=l)) (List.range ps.length)=some (a,b,x) from hx] at hinv;simp only at hinv;have hR:=hR l a b x hinv;intro E' h5 h6;have:=hR E' h5 h6;simpa using this
end
theorem zc {lk lim:Nat}{H:Heap}(g:Gm)(hc:chkE g=0){cs:List AV}(hs:SC cs (aK g)):aj X A lk lim 47 [gV g,.agg [.sl cs.length cs]] H=some (oP (confM g),H):=by
 have ok:=br hc;have kh:=fun K M (v:AV) (l:List (List UInt8)) x (hv:RV v l) (h:l.length<=1000000)=>B5 (lk:=K) (lim:=M) (H:=H) hv x (Nat.le_trans h (by decide))
 refine ar [2,3,4] rfl A47 rfl rfl ?_;unfold Ny;have hd:confM g=d1 (aK g) g.ps g.n.toNat 0:=Kw (I7 ok) g.ps _ _;rw [hd];have hln:=fA g;have hll:∀l∈aK g,l.length<=1000000:=fun l h=>jE ok h;generalize aK g=S at hs hln hll |-;have l2:=ok.l2;have n2:=ok.n2;have n1:=ok.n1;obtain ⟨t,n,k,ps⟩:=g;simp only at hln l2 n1 n2 |-;obtain ⟨n,rfl⟩:=Int.eq_ofNat_of_zero_le (by omega:0<=n)
 simp only [gV,Gm.cells,Int.toNat_natCast];generalize aj X A=C at kh |-;simp [-ap,-ae];rw [ae];simp [-ap,-ae];rw [ae];simp [-ap];refine Jb (n:=n) (t:=t) (k:=k) hs hln (by omega) (by omega) hll kh (by simp [ee]) (fun hnone E' h5=>?_) (fun l a b x hx=>?_)
 ·rw [hnone];simp only [ah];rw [ai,ae,h5];simp [an,oP,cV0]
 ·rw [hx];intro E' h5 h6;simp [h5,h6,oP]

theorem xd {lk lim:Nat}{H:Heap}(hlk:lk<=H.length)(g:Gm)(hl:g.ps.length<=1000000)(hr:∀p∈g.ps,p.r.length<=1000000):
  ∃v h',aj X A lk lim 30 [gV g] H=some (v,h')/\h'=H/\cy g v:=by
 have kc:=fun (L:Nat)=>bN (lk:=lk) (lim:=L) (H:=H) g hl hr;refine dD [1,2,3,6,7] rfl A30 rfl rfl ?_;unfold Nr;by_cases hc:chkE g=0;case neg=>
  have fin:cy g (.tup [.agg [.e0],cfV none,I (chkE g)]):=by unfold cy;rw [if_neg hc]
  generalize cy g=Q at fin |-;generalize chkE g=e at kc hc fin;have hc2:(e != 0)=true:=by simpa using hc
  obtain ⟨t,n,k,ps⟩:=g;simp only [gV,Gm.cells] at kc;generalize aj X A=C at kc |-;simp [Gm.cells,kc,hc2,hc,bt,an];exact ⟨_,_,⟨rfl,rfl⟩,rfl,fin⟩
 rw [hc] at kc;obtain ⟨v,h',kt,e1,cs,rfl,hs⟩:=xb (lim:=H.length) hlk g hc;rw [e1] at kt;have kf:=zc (lk:=lk) (lim:=H.length) (H:=H) g hc hs;have fin:match confM g with
  | some c=>cy g (.tup [.agg [.e0],cfV (some c),I 9])
  | none=>cy g (.tup [.agg [.sl cs.length cs],cfV none,I 0]):=by
  cases hm:confM g with
  | none=>simp only;unfold cy;rw [if_pos hc,hm];exact ⟨cs,rfl,hs⟩
  | some c=>simp only;unfold cy;rw [if_pos hc,hm]
 generalize cy g=Q at fin |-;generalize confM g=r at kf fin;obtain ⟨t,n,k,ps⟩:=g;simp only [gV,Gm.cells] at kc kt kf;generalize aj X A=C at kc kt kf |-;cases r with
 | none=>
  simp only [oP] at kf fin;simp [Gm.cells,kc,kt,kf,bt,an];exact ⟨_,_,⟨rfl,rfl⟩,rfl,fin⟩
 | some c=>
  obtain ⟨l,a,b,x⟩:=c;simp only [oP] at kf fin;simp [Gm.cells,kc,kt,kf,bt,an];exact ⟨_,_,⟨rfl,rfl⟩,rfl,fin⟩
theorem mV {lk lim:Nat}{H:Heap}(hlk:lk<=H.length)(g:Gm)(hl:g.ps.length<=1000000)(hr:∀p∈g.ps,p.r.length<=1000000):
  ∃tv,aj X A lk lim 30 [gV g] H=some (.tup [.agg [tv],cfV (jF g),I (fX g)],H)/\TV tv (eW g):=by
 obtain ⟨v,h',h,rfl,hb⟩:=xd (lim:=lim) hlk g hl hr;rw [h];unfold cy at hb;unfold eW fX jF;by_cases hc:chkE g=0
 ·rw [if_pos hc] at hb |-;rw [if_pos hc];cases hm:confM g with
  | none=>
   rw [hm] at hb;obtain ⟨cs,rfl,hs⟩:=hb;exact ⟨_,rfl,.inr ⟨cs,rfl,hs⟩⟩
  | some c=>
   rw [hm] at hb;simp only at hb;subst hb;exact ⟨_,rfl,.inl ⟨rfl,rfl⟩⟩
 ·rw [if_neg hc] at hb |-;subst hb;rw [if_neg hc,if_neg hc];exact ⟨_,rfl,.inl ⟨rfl,rfl⟩⟩
theorem ef {lk lim:Nat}{H:Heap}(hlk:lk<=H.length)(g:Gm)(hl:g.ps.length<=1000000)(hr:∀p∈g.ps,p.r.length<=1000000):
  aj X A lk lim 24 [gV g] H=some (I (cN g),H):=by
 have kc:=fun (L:Nat)=>bN (lk:=lk) (lim:=L) (H:=H) g hl hr;have kr:=fun (L:Nat)=>Ce (lk:=lk) (lim:=L) (H:=H) g hl hr hlk;have kl:=fun (L:Nat)=>wZ (lk:=lk) (lim:=L) (H:=H) g hl hr hlk;obtain ⟨tv,kb,hT⟩:=mV (lim:=H.length) hlk g hl hr;refine ar [1,8,9] rfl A24 rfl rfl ?_;unfold Oh;unfold Cc at kr;unfold sT at kl;generalize eW g=T at hT;obtain ⟨l,a,b,x,hx⟩:=pq (jF g);rw [hx] at kb;unfold cN;generalize fX g=e at kb |-;generalize chkE g=c at kc |-;generalize redP g=rp at kr |-;generalize leftR g=lr at kl |-;obtain ⟨r1,r2⟩:=rp;obtain ⟨l1,l2⟩:=lr;obtain ⟨t,n,k,ps⟩:=g;simp only [gV,Gm.cells] at kb kc kr kl;generalize aj X A=C at kb kc kr kl |-;by_cases hc:c=0;case neg=>
  have hc2:(c != 0)=true:=by simpa using hc
  simp [Gm.cells,kc,hc2,hc]
 subst hc;cases r2 with
 | false=>simp [Gm.cells,kc,kr]
 | true=>
  cases l2 with
  | true=>simp [Gm.cells,kc,kr,kl]
  | false=>
   rcases hT with ⟨rfl,_⟩ | ⟨cs,rfl,_⟩;all_goals
    simp [Gm.cells,kc,kr,kl,kb,an]
end Go.Proofs.YtkllbcjanneppaaGreat
