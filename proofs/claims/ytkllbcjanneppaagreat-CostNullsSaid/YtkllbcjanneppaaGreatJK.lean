import Derived.Test.YtkllbcjanneppaaGreatJG
import Derived.Test.YtkllbcjanneppaaGreatJF
import Derived.Test.YtkllbcjanneppaaGreatJM
set_option maxRecDepth 20000
set_option linter.unusedSimpArgs false
set_option linter.unusedVariables false
namespace Go.Proofs.YtkllbcjanneppaaGreat
open Go Go.Hm

def nsI (t:Int)(nl dp:List Int)(is:List Bool):List Int->Int->Bool->Int->Int×Int
 | [],sum,_,m=>(sum,m)
 | x::r,sum,b,m=>
  if x < t then (-1,m) else
  if nl.getD (x - t).toNat 0 < 0 then
   (if (b&&is.getD (x - t).toNat false)=true then nsI t nl dp is r (-1) true (if b=true then max m (dp.getD (x - t).toNat 0+1) else m) else (-1,if b=true then max m (dp.getD (x - t).toNat 0+1) else m))
  else nsI t nl dp is r (if 0 < sum then sum+nl.getD (x - t).toNat 0 else sum) (b&&is.getD (x - t).toNat false) (if b=true then max m (dp.getD (x - t).toNat 0+1) else m)
def nsO (g:Gm)(nl dp:List Int)(is:List Bool):List Nat->Int->Int->Int×Int
 | [],least,m=>(least,m)
 | j::l,least,m=>
  nsO g nl dp is l (if 0 < (nsI g.t nl dp is (g.ps.getD j ⟨0,[]⟩).r 1 true m).1/\(least < 0\/(nsI g.t nl dp is (g.ps.getD j ⟨0,[]⟩).r 1 true m).1 < least) then (nsI g.t nl dp is (g.ps.getD j ⟨0,[]⟩).r 1 true m).1 else least) (nsI g.t nl dp is (g.ps.getD j ⟨0,[]⟩).r 1 true m).2
def mS (dp:List Int)(l:List Nat)(m:Int):Int:=l.foldl (fun m s=>max m (dp.getD s 0+1)) m
theorem MA (dp:List Int)(l l':List Nat)(m:Int):mS dp (l++l') m=mS dp l' (mS dp l m):=List.foldl_append
theorem uZ (t:Int)(nl dp:List Int)(is:List Bool):∀(r:List Int) (b:Bool) (m:Int),(nsI t nl dp is r (-1) b m).1= -1
 | [],_,_=>rfl
 | x::r,b,m=>by
  simp only [nsI];split
  ·rfl
  split
  ·split
   ·exact uZ t nl dp is r _ _
   ·rfl
  ·rw [if_neg (by omega)]
   exact uZ t nl dp is r _ _
theorem AG (t:Int)(nl dp:List Int)(is:List Bool):∀(r:List Int) (sum:Int) (b:Bool) (m:Int),0 < sum->(nsI t nl dp is r sum b m).1=(bq t nl r sum).getD (-1)
 | [],_,_,_,_=>rfl
 | x::r,sum,b,m,h=>by
  simp only [nsI,bq];by_cases h1:x < t
  ·have hc:x < t\/nl.getD (x - t).toNat 0 < 0:=.inl h1;rw [if_pos h1,if_pos hc];rfl
  rw [if_neg h1];by_cases h2:nl.getD (x - t).toNat 0 < 0
  ·have hc:x < t\/nl.getD (x - t).toNat 0 < 0:=.inr h2;rw [if_pos h2,if_pos hc];split
   ·exact uZ t nl dp is r _ _
   ·rfl
  have hc:¬(x < t\/nl.getD (x - t).toNat 0 < 0):=fun h=>h.elim h1 h2;rw [if_neg h2,if_neg hc,if_pos h];exact AG t nl dp is r _ _ _ (by omega)
theorem s8 (t:Int)(nl dp:List Int)(is:List Bool):∀(r:List Int) (sum:Int) (m:Int),(nsI t nl dp is r sum false m).2=m
 | [],_,_=>rfl
 | x::r,sum,m=>by
  simp only [nsI,Bool.false_and,Bool.false_eq_true,if_false];split
  ·rfl
  split
  ·rfl
  ·exact s8 t nl dp is r _ m
theorem ru (t:Int)(nl dp:List Int)(is:List Bool):∀(r:List Int) (sum:Int) (m:Int),(nsI t nl dp is r sum true m).2=mS dp (bgL t is r) m
 | [],_,_=>rfl
 | x::r,sum,m=>by
  simp only [nsI,bgL,Bool.true_and,if_true];by_cases h1:x < t
  ·rw [if_pos h1,if_pos h1];rfl
  rw [if_neg h1,if_neg h1];show _=mS dp (if is.getD (x - t).toNat false=true then bgL t is r else []) (max m (dp.getD (x - t).toNat 0+1));by_cases h3:is.getD (x - t).toNat false=true
  ·simp only [h3,if_true];split
   ·exact ru t nl dp is r _ _
   ·exact ru t nl dp is r _ _
  ·have h4:is.getD (x - t).toNat false=false:=by simpa using h3
   simp only [h4,Bool.false_eq_true,if_false];split
   ·rfl
   ·exact s8 t nl dp is r _ _
theorem xq (g:Gm)(nl dp:List Int)(is:List Bool):∀(l:List Nat) (least m:Int),(nsO g nl dp is l least m).2=mS dp (l.flatMap fun j=>bgL g.t is (g.ps.getD j ⟨0,[]⟩).r) m
 | [],_,_=>rfl
 | j::l,least,m=>by
  simp only [nsO,List.flatMap_cons,MA];rw [xq g nl dp is l,ru]
theorem s9 (g:Gm)(nl dp:List Int)(is:List Bool)(hnn:∀j v,bq g.t nl (g.ps.getD j ⟨0,[]⟩).r 1=some v->0 < v):∀(l:List Nat) (least m:Int),
  (∀j∈l,∀v,bq g.t nl (g.ps.getD j ⟨0,[]⟩).r 1=some v->0<=(nsO g nl dp is l least m).1/\(nsO g nl dp is l least m).1<=v)/\
  (0<=least->0<=(nsO g nl dp is l least m).1/\(nsO g nl dp is l least m).1<=least)/\
  ((nsO g nl dp is l least m).1=least\/∃j∈l,bq g.t nl (g.ps.getD j ⟨0,[]⟩).r 1=some (nsO g nl dp is l least m).1)
 | [],least,m=>⟨fun j h=>absurd h List.not_mem_nil,fun h=>⟨h,Int.le_refl _⟩,.inl rfl⟩
 | j::l,least,m=>by
  simp only [nsO];have e1:=AG g.t nl dp is (g.ps.getD j ⟨0,[]⟩).r 1 true m (by omega)
  generalize nsI g.t nl dp is (g.ps.getD j ⟨0,[]⟩).r 1 true m=q at *;obtain ⟨i1,i2,i3⟩:=s9 g nl dp is hnn l (if 0 < q.1/\(least < 0\/q.1 < least) then q.1 else least) q.2;generalize nsO g nl dp is l (if 0 < q.1/\(least < 0\/q.1 < least) then q.1 else least) q.2=z at *;have hv:=hnn j;cases hn:bq g.t nl (g.ps.getD j ⟨0,[]⟩).r 1 with
  | none=>
   rw [hn] at e1;have e1:q.1= -1:=e1;rw [if_neg (by omega)] at i2 i3
   refine ⟨fun j' hj v hv'=>?_,i2,?_⟩
   ·rcases List.mem_cons.1 hj with rfl | hj
    ·rw [hn] at hv';cases hv'
    ·exact i1 j' hj v hv'
   ·rcases i3 with h | ⟨j',hj,h⟩
    ·exact .inl h
    ·exact .inr ⟨j',List.mem_cons_of_mem _ hj,h⟩
  | some v0=>
   rw [hn] at e1;have e1:q.1=v0:=e1;have hp:=hv v0 hn;rw [e1] at i2 i3;by_cases hc:0 < v0/\(least < 0\/v0 < least)
   ·rw [if_pos hc] at i2 i3;have k2:=i2 (by omega)
    refine ⟨fun j' hj v hv'=>?_,fun h=>⟨k2.1,by omega⟩,?_⟩
    ·rcases List.mem_cons.1 hj with rfl | hj
     ·rw [hn] at hv';simp only [Option.some.injEq] at hv';subst hv';exact k2
     ·exact i1 j' hj v hv'
    ·rcases i3 with h | ⟨j',hj,h⟩
     ·exact .inr ⟨j,List.mem_cons_self ..,by rw [hn,h]⟩
     ·exact .inr ⟨j',List.mem_cons_of_mem _ hj,h⟩
   ·rw [if_neg hc] at i2 i3;have hl:0<=least/\least<=v0:=by omega
    have k2:=i2 hl.1;refine ⟨fun j' hj v hv'=>?_,fun h=>k2,?_⟩
    ·rcases List.mem_cons.1 hj with rfl | hj
     ·rw [hn] at hv';simp only [Option.some.injEq] at hv';subst hv';exact ⟨k2.1,by omega⟩
     ·exact i1 j' hj v hv'
    ·rcases i3 with h | ⟨j',hj,h⟩
     ·exact .inl h
     ·exact .inr ⟨j',List.mem_cons_of_mem _ hj,h⟩
theorem MB (dp:List Int)(l:List Nat)(m:Int):mS dp l (m+1)=dpS dp l m+1:=by
 induction l generalizing m with
 | nil=>rfl
 | cons s l ih=>
  show mS dp l (max (m+1) (dp.getD s 0+1))=dpS dp l (max m (dp.getD s 0))+1;rw [<-ih];congr 1;omega
theorem AH (g:Gm):∀(l:List Nat) (m:Nat),(∀s∈l,s < g.n.toNat)->dpS (bL g) l m=mxl (dptM g) l m
 | [],m,_=>rfl
 | s::l,m,h=>by
  show dpS (bL g) l (max (m:Int) ((bL g).getD s 0))=mxl (dptM g) l (max m (dptM g s));rw [nU g (h s (by simp)),show max (m:Int) (dptM g s:Int)=((max m (dptM g s):Nat):Int) by omega]
  exact AH g l _ fun x hx=>h x (by simp [hx])
theorem Gp {g:Gm}(ha:AOk g){a:Nat}(h:a < g.n.toNat):
  nsO g (nullM g) (bL g) (derM g false) (ofN g.ps a g.ps.length) (-1) 1=((nullM g).getD a 0,(dptM g a:Int))/\(0 < (nullM g).getD a 0↔tr (derM g false) a):=by
 have hg:=ha.ok;have hb:∀r v,(∀s∈r,(s - g.t).toNat < (nullM g).length)->bq g.t (nullM g) r 1=some v->0 < v:=fun r v hs hv=>by
  have:=(dh ((bn hg).hi2 hg) (by omega) r 1 v hs hv).1
  omega
 have hps:∀j,j < g.ps.length->∀s∈(g.ps.getD j ⟨0,[]⟩).r,(s - g.t).toNat < (nullM g).length:=fun j hj=>eE hg (bn hg).len (hg.p _ (bW hj));have hnn:∀j v,bq g.t (nullM g) (g.ps.getD j ⟨0,[]⟩).r 1=some v->0 < v:=fun j v hv=>by
  by_cases hj:j < g.ps.length
  ·exact hb _ v (hps j hj) hv
  ·rw [List.getD_eq_getElem?_getD,List.getElem?_eq_none (by omega)] at hv
   simp [bq] at hv;omega
 obtain ⟨i1,-,i3⟩:=s9 g (nullM g) (bL g) (derM g false) hnn (ofN g.ps a g.ps.length) (-1) 1;have hlo:=(bn hg).lo _ (fT (o:=nullM g) (i:=a) (by rw [(bn hg).len];exact h))
 have hfn:=iu hg a h;have hpos:0<=(nullM g).getD a 0->0 < (nullM g).getD a 0:=fun h0=>by
  obtain ⟨p,hp,-,v,hv,hle⟩:=hfn h0;have:=(dh ((bn hg).hi2 hg) (by omega) p.r 0 v (eE hg (bn hg).len (hg.p p hp)) hv).1
  omega
 have hidx:∀p∈g.ps,p.l.toNat=a->∃j∈ofN g.ps a g.ps.length,g.ps.getD j ⟨0,[]⟩=p:=fun p hp hl=>by
  obtain ⟨j,hj,rfl⟩:=List.getElem_of_mem hp;have e:g.ps.getD j ⟨0,[]⟩=g.ps[j]:=by rw [List.getD_eq_getElem?_getD,List.getElem?_eq_getElem hj];rfl
  refine ⟨j,fj.2 ⟨hj,?_⟩,e⟩;rw [show (g.ps.getD j ⟨0,[]⟩).l=(g.ps[j]).l from congrArg Pr.l e];have:=(hg.p _ hp).l0;omega
 refine ⟨Prod.ext ?_ ?_,⟨fun h0=>(rj hg h).1 (by omega),fun ht=>hpos ((rj hg h).2 ht)⟩⟩
 ·show (nsO g (nullM g) (bL g) (derM g false) (ofN g.ps a g.ps.length) (-1) 1).1=(nullM g).getD a 0;generalize (nsO g (nullM g) (bL g) (derM g false) (ofN g.ps a g.ps.length) (-1) 1).1=z at *;have up:0<=(nullM g).getD a 0->0<=z/\z<=(nullM g).getD a 0:=fun h0=>by
   obtain ⟨p,hp,hpl,v,hv,hle⟩:=hfn h0;obtain ⟨j,hj,rfl⟩:=hidx p hp hpl;have hv1:=jK g.t (nullM g) (g.ps.getD j ⟨0,[]⟩).r 0 1;rw [hv] at hv1;have:=i1 j hj (v+1) hv1;omega
  rcases i3 with e | ⟨j,hj,hz⟩
  ·by_cases h0:0<=(nullM g).getD a 0
   ·have:=up h0;omega
   ·omega
  ·have hjl:=fj.1 hj;have hv1:=jK g.t (nullM g) (g.ps.getD j ⟨0,[]⟩).r 0 1;rw [show (0:Int)+1=1 from rfl,hz] at hv1;cases hv:bq g.t (nullM g) (g.ps.getD j ⟨0,[]⟩).r 0 with
   | none=>rw [hv] at hv1;cases hv1
   | some v=>
    rw [hv] at hv1;have hv2:z=v+1:=by simpa using hv1
    have low:=kA hg (bW hjl.1) hv;rw [hjl.2] at low;simp only [Int.toNat_natCast] at low;have:=up low.1;omega
 ·show (nsO g (nullM g) (bL g) (derM g false) (ofN g.ps a g.ps.length) (-1) 1).2=(dptM g a:Int);rw [xq,mX ha];show mS (bL g) (scM g a) (0+1)=_;rw [MB];have:=AH g (scM g a) 0 fun s hs=>(uT hg ((j9 hg).1 hs)).2;rw [show ((0:Nat):Int)=0 from rfl] at this;rw [this];omega

def v7 (t gn k:Int)(ps:List Pr)(nl dp:List Int)(bs:List Bool)(ol:List Nat)(a:Nat)(le mo:Int)(i:Nat)(r:Env):Env:=
 (1,.box [I t,I gn,I k,.sl ps.length (psC ps)])::(3,.sl nl.length (ints nl))::(4,.sl dp.length (ints dp))::(5,.sl bs.length (bools bs))::(6,I a)::(7,.sl ol.length (nts ol))::(8,I le)::(9,I mo)::(10,I i)::r
abbrev q12:List Nat:=[1,3,4,5,6,7,8,9,10,11,12,13]
abbrev q13:List Nat:=[1,3,4,5,6,7,8,9,10,11,12,13,14]
section
variable {C:Orc}{Q:Ex->Kt}{E:Env}{lk L:Nat}{H:Heap}{t gn k:Int}{ps:List Pr}{nl dp:List Int}{bs:List Bool}{ol:List Nat}{a i j q kk:Nat}{le mo sum x:Int}{b c:Bool}{r:List Int}
theorem u58 (hi:i < ol.length)(hj:∀h,(nts ol)[i]'h=I (j:Nat))(hjl:j < ps.length)(hr:∀h,(psC ps)[j * 2+1]'h= .sl r.length (ints r))
  (hE:ab q12 E=v7 t gn k ps nl dp bs ol a le mo i [(11,I sum),(12,Bo b),(13,I kk)])
  (hQ:∀E',find E' 69=Bo (decide (kk < r.length))->ab q12 E'=v7 t gn k ps nl dp bs ol a le mo i [(11,I sum),(12,Bo b),(13,I kk)]->ab [1,3,4,5,6,7,8,9,10,11] E'=v7 t gn k ps nl dp bs ol a le mo i [(11,I sum)]->Q .nrm E' H):
  WB ⟨C,lk,L,[1]⟩ (.regD [1,3,4,5,6,7,8,9,10,11,12,13] 0 [ kM 58 13,kF 59 3 1,kS 60 1 59,kM 61 7,kM 62 10,kI 63 1 61 62,kL 64 63,kI 65 2 60 64,kF 66 1 65,kL 67 66,kN 68 67,kT 69 58 68]) Q E H:=by
 have hll:=aY ps;have hol:=dW ol;have h2:j * 2+1 < 2 * ps.length:=by omega
 unfold v7 at *;rw [aB rfl,hE];simp [hi,hj,hjl,hr,hll,hol,h2];refine hQ _ ?_ ?_ ?_
 ·simp [find]
 ·rfl
 ·rfl
theorem u14 (hi:i < ol.length)(hj:∀h,(nts ol)[i]'h=I (j:Nat))(hjl:j < ps.length)(hr:∀h,(psC ps)[j * 2+1]'h= .sl r.length (ints r))(hk:kk < r.length)(hx:∀h,(ints r)[kk]'h=I x)(hw:IntKind.i64.wrap (x - t)=x - t)
  (hE:ab q12 E=v7 t gn k ps nl dp bs ol a le mo i [(11,I sum),(12,Bo b),(13,I kk)])
  (hQ:∀E',ab q13 E'=v7 t gn k ps nl dp bs ol a le mo i [(11,I sum),(12,Bo b),(13,I kk),(14,I (x - t))]->Q .nrm E' H):
  WB ⟨C,lk,L,[1]⟩ (.regD [1,3,4,5,6,7,8,9,10,11,12,13] 0 [ kF 72 3 1,kS 73 1 72,kM 74 7,kM 75 10,kI 76 1 74 75,kL 77 76,kI 78 2 73 77,kF 79 1 78,kL 80 79,kM 81 13,kI 82 1 80 81,kL 83 82,kF 84 0 1,kS 85 1 84,kx 86 (.bini .sub (ux 83) (ux 85)),kM 14 86]) Q E H:=by
 have hll:=aY ps;have hol:=dW ol;have hrl:=aV r;have h2:j * 2+1 < 2 * ps.length:=by omega
 unfold v7 at *;rw [aB rfl,hE];simp [hi,hj,hjl,hr,hll,hol,h2,hrl,hk,hx,hw];refine hQ _ ?_;rfl
theorem u91 (hE:ab q13 E=v7 t gn k ps nl dp bs ol a le mo i [(11,I sum),(12,Bo b),(13,I kk),(14,I x)])
  (hQ:∀E',find E' 91=Bo (b&&decide (0<=x))->ab q13 E'=v7 t gn k ps nl dp bs ol a le mo i [(11,I sum),(12,Bo b),(13,I kk),(14,I x)]->Q .nrm E' H):
  WB ⟨C,lk,L,[1]⟩ (.regN [1,3,4,5,6,7,8,9,10,11,12,13,14] [ kM 87 12,kM 88 87,yM 89 88 14,ky 90 88 (.bini .geq (ux 89) c0),kx 91 (.pick (ux 88) (ux 90) cF)]) Q E H:=by
 unfold v7 at *;rw [ae,hE];cases b;all_goals
  simp;refine hQ _ ?_ ?_
  ·simp [find]
  ·rfl
theorem u9 {d m:Int}(hq:q < dp.length)(hd:∀h,(ints dp)[q]'h=I d)(hw:IntKind.i64.wrap (d+1)=d+1)(hm:max mo (d+1)=m)
  (hE:ab q13 E=v7 t gn k ps nl dp bs ol a le mo i [(11,I sum),(12,Bo b),(13,I kk),(14,I (q:Nat))])
  (hQ:∀E',ab q13 E'=v7 t gn k ps nl dp bs ol a le m i [(11,I sum),(12,Bo b),(13,I kk),(14,I (q:Nat))]->Q .nrm E' H):
  WB ⟨C,lk,L,[1]⟩ (.regN [1,3,4,5,6,7,8,9,10,11,12,13,14] [ kM 92 9,kM 93 4,kM 94 14,kI 95 1 93 94,kL 96 95,kU 97 96,kx 98 (.mm true [(ux 92),(ux 97)]),kM 9 98]) Q E H:=by
 have hl:=aV dp;have hmx:(if mo < d+1 then d+1 else mo)=m:=by rw [<-hm,Int.max_def];split<;>split<;>omega
 unfold v7 at *;rw [ae,hE];simp [hq,hd,hw,hl,bZ,hmx];refine hQ _ ?_;rfl
theorem P3 (hE:ab q13 E=v7 t gn k ps nl dp bs ol a le mo i [(11,I sum),(12,Bo b),(13,I kk),(14,I x)])(hx:x < 0)
  (hQ:∀E',ab q13 E'=v7 t gn k ps nl dp bs ol a le mo i [(11,I sum),(12,Bo false),(13,I kk),(14,I x)]->Q .nrm E' H):
  WB ⟨C,lk,L,[1]⟩ (.regN [1,3,4,5,6,7,8,9,10,11,12,13,14] [ kM 99 12,kM 100 99,yM 101 100 14,ky 102 100 (.bini .geq (ux 101) c0),kx 103 (.pick (ux 100) (ux 102) cF),kM 104 103,yM 105 104 5,yM 106 104 14,yI 107 104 1 105 106,yL 108 104 107,kx 109 (.pick (ux 104) (ux 108) cF),kM 12 109]) Q E H:=by
 have h0:¬0<=x:=by omega
 unfold v7 at *;rw [ae,hE];cases b;all_goals
  simp [h0];refine hQ _ ?_;rfl
theorem P4 (hq:q < bs.length)(hb:∀h,(bools bs)[q]'h=Bo c)(hE:ab q13 E=v7 t gn k ps nl dp bs ol a le mo i [(11,I sum),(12,Bo b),(13,I kk),(14,I (q:Nat))])
  (hQ:∀E',ab q13 E'=v7 t gn k ps nl dp bs ol a le mo i [(11,I sum),(12,Bo (b&&c)),(13,I kk),(14,I (q:Nat))]->Q .nrm E' H):
  WB ⟨C,lk,L,[1]⟩ (.regN [1,3,4,5,6,7,8,9,10,11,12,13,14] [ kM 99 12,kM 100 99,yM 101 100 14,ky 102 100 (.bini .geq (ux 101) c0),kx 103 (.pick (ux 100) (ux 102) cF),kM 104 103,yM 105 104 5,yM 106 104 14,yI 107 104 1 105 106,yL 108 104 107,kx 109 (.pick (ux 104) (ux 108) cF),kM 12 109]) Q E H:=by
 have hl:=aH bs;have h0:(0:Int)<=(q:Nat):=by omega
 unfold v7 at *;rw [ae,hE];cases b;all_goals
  simp [h0,hq,hb,hl];refine hQ _ ?_;rfl
theorem Pb (hE:ab q13 E=v7 t gn k ps nl dp bs ol a le mo i [(11,I sum),(12,Bo b),(13,I kk),(14,I x)])(hx:x < 0)
  (hQ:∀E',find E' 118=Bo true->ab [1,3,4,5,6,7,8,9,10,12,13] E'=v7 t gn k ps nl dp bs ol a le mo i [(12,Bo b),(13,I kk)]->Q .nrm E' H):
  WB ⟨C,lk,L,[1]⟩ (.regN [1,3,4,5,6,7,8,9,10,11,12,13,14] [ kM 110 14,kx 111 (.bini .lss (ux 110) c0),kM 112 111,zM 113 112 3,zM 114 112 14,zI 115 112 1 113 114,zL 116 112 115,kz 117 112 (.bini .lss (ux 116) c0),kO 118 112 117]) Q E H:=by
 unfold v7 at *;rw [ae,hE];simp [hx];refine hQ _ ?_ ?_
 ·simp [find]
 ·rfl
theorem Pc {y:Int}(hq:q < nl.length)(hy:∀h,(ints nl)[q]'h=I y)(hE:ab q13 E=v7 t gn k ps nl dp bs ol a le mo i [(11,I sum),(12,Bo b),(13,I kk),(14,I (q:Nat))])
  (hQ:∀E',find E' 118=Bo (decide (y < 0))->ab [1,3,4,5,6,7,8,9,10,12,13] E'=v7 t gn k ps nl dp bs ol a le mo i [(12,Bo b),(13,I kk)]->ab q13 E'=v7 t gn k ps nl dp bs ol a le mo i [(11,I sum),(12,Bo b),(13,I kk),(14,I (q:Nat))]->Q .nrm E' H):
  WB ⟨C,lk,L,[1]⟩ (.regN [1,3,4,5,6,7,8,9,10,11,12,13,14] [ kM 110 14,kx 111 (.bini .lss (ux 110) c0),kM 112 111,zM 113 112 3,zM 114 112 14,zI 115 112 1 113 114,zL 116 112 115,kz 117 112 (.bini .lss (ux 116) c0),kO 118 112 117]) Q E H:=by
 have hl:=aV nl;have h0:¬(q:Int) < 0:=by omega
 unfold v7 at *;rw [ae,hE];simp [h0,hq,hy,hl];refine hQ _ ?_ ?_ ?_
 ·simp [find]
 ·rfl
 ·rfl
theorem u11 (hE:ab [1,3,4,5,6,7,8,9,10,12,13] E=v7 t gn k ps nl dp bs ol a le mo i [(12,Bo b),(13,I kk)])
  (hQ:∀E',ab q12 E'=v7 t gn k ps nl dp bs ol a le mo i [(11,I (-1)),(12,Bo b),(13,I kk)]->Q .nrm E' H):
  WB ⟨C,lk,L,[1]⟩ (.regN [1,3,4,5,6,7,8,9,10,12,13] [kx 11 (.mv (.con (.val (.int .i64 (-1)))))]) Q E H:=by
 unfold v7 at *;rw [ae,hE];simp;refine hQ _ ?_;rfl
theorem Pd (hE:ab q12 E=v7 t gn k ps nl dp bs ol a le mo i [(11,I sum),(12,Bo b),(13,I kk)])
  (hQ:∀E',find E' 120=Bo (!b)->ab q12 E'=v7 t gn k ps nl dp bs ol a le mo i [(11,I sum),(12,Bo b),(13,I kk)]->ab [1,3,4,5,6,7,8,9,10,11] E'=v7 t gn k ps nl dp bs ol a le mo i [(11,I sum)]->Q .nrm E' H):
  WB ⟨C,lk,L,[1]⟩ (.regN [1,3,4,5,6,7,8,9,10,11,12,13] [ kM 119 12,kx 120 (.not (ux 119))]) Q E H:=by
 unfold v7 at *;rw [ae,hE];cases b;all_goals
  simp;refine hQ _ ?_ ?_ ?_
  ·simp [find]
  ·rfl
  ·rfl
theorem P5 (hE:ab q13 E=v7 t gn k ps nl dp bs ol a le mo i [(11,I sum),(12,Bo b),(13,I kk),(14,I x)])
  (hQ:∀E',find E' 122=Bo (decide (0 < sum))->ab q13 E'=v7 t gn k ps nl dp bs ol a le mo i [(11,I sum),(12,Bo b),(13,I kk),(14,I x)]->ab q12 E'=v7 t gn k ps nl dp bs ol a le mo i [(11,I sum),(12,Bo b),(13,I kk)]->Q .nrm E' H):
  WB ⟨C,lk,L,[1]⟩ (.regN [1,3,4,5,6,7,8,9,10,11,12,13,14] [ kM 121 11,kx 122 (.bini .gtr (ux 121) c0)]) Q E H:=by
 unfold v7 at *;rw [ae,hE];simp;refine hQ _ ?_ ?_ ?_
 ·simp [find]
 ·rfl
 ·rfl
theorem P6 {y:Int}(hq:q < nl.length)(hy:∀h,(ints nl)[q]'h=I y)(hw:IntKind.i64.wrap (sum+y)=sum+y)(hE:ab q13 E=v7 t gn k ps nl dp bs ol a le mo i [(11,I sum),(12,Bo b),(13,I kk),(14,I (q:Nat))])
  (hQ:∀E',ab q12 E'=v7 t gn k ps nl dp bs ol a le mo i [(11,I (sum+y)),(12,Bo b),(13,I kk)]->Q .nrm E' H):
  WB ⟨C,lk,L,[1]⟩ (.regN [1,3,4,5,6,7,8,9,10,11,12,13,14] [ kM 123 11,kM 124 3,kM 125 14,kI 126 1 124 125,kL 127 126,kx 128 (.bini .add (ux 123) (ux 127)),kM 11 128]) Q E H:=by
 have hl:=aV nl;unfold v7 at *;rw [ae,hE];simp [hq,hy,hl,hw];refine hQ _ ?_;rfl
theorem u70 (hk:kk<=1000)(hE:ab q12 E=v7 t gn k ps nl dp bs ol a le mo i [(11,I sum),(12,Bo b),(13,I kk)])
  (hQ:∀E',ab q12 E'=v7 t gn k ps nl dp bs ol a le mo i [(11,I sum),(12,Bo b),(13,I (kk+1:Nat))]->Q .nrm E' H):
  WB ⟨C,lk,L,[1]⟩ (.regN [1,3,4,5,6,7,8,9,10,11,12,13] [ kM 70 13,kU 71 70,kM 13 71]) Q E H:=by
 have w1:IntKind.i64.wrap ((kk:Int)+1)=(kk:Int)+1:=au (by omega) (by omega)
 unfold v7 at *;rw [ae,hE];simp [w1];refine hQ _ ?_;simp
end

def J71 (t:Int)(nl dp:List Int)(bs:List Bool)(r:List Int)(res:Int×Int)(s:Nat×Int×Bool×Int):Prop:=s.1<=r.length/\nsI t nl dp bs (r.drop s.1) s.2.1 s.2.2.1 s.2.2.2=res∧-1<=s.2.1/\s.2.1<=1+(s.1:Int) * 40210710958665
def F71 (t gn k:Int)(ps:List Pr)(nl dp:List Int)(bs:List Bool)(ol:List Nat)(a:Nat)(le:Int)(i:Nat)(s:Nat×Int×Bool×Int):Env:=v7 t gn k ps nl dp bs ol a le s.2.2.2 i [(11,I s.2.1),(12,Bo s.2.2.1),(13,I s.1)]
section
variable {C:Orc}{Q:Ex->Kt}{E:Env}{lk L:Nat}{H:Heap}{t gn k:Int}{ps:List Pr}{nl dp:List Int}{bs:List Bool}{ol:List Nat}{a i j n:Nat}{le mo:Int}{r:List Int}
theorem Gq (hi:i < ol.length)(hj:∀h,(nts ol)[i]'h=I (j:Nat))(hjl:j < ps.length)(hr:∀h,(psC ps)[j * 2+1]'h= .sl r.length (ints r))(hrl:r.length<=8)
  (ht:1<=t/\t<=8) (hx:∀x∈r,0<=x/\x < t+n) (hn16:n<=16) (hnl:nl.length=n) (hdl:dp.length=n) (hbl:bs.length=n) (hnb:∀y∈nl,y<=40210710958665) (hdb:∀y∈dp,0<=y/\y<=17)
  (hE:ab q12 E=v7 t gn k ps nl dp bs ol a le mo i [(11,I 1),(12,Bo true),(13,I (0:Nat))])
  (hQ:∀E',ab [1,3,4,5,6,7,8,9,10,11] E'=v7 t gn k ps nl dp bs ol a le (nsI t nl dp bs r 1 true mo).2 i [(11,I (nsI t nl dp bs r 1 true mo).1)]->Q .nrm E' H):
  WB ⟨C,lk,L,[1]⟩ (.block 4 (.loop q12 LZ)) Q E H:=by
 rw [ap];refine ax (σ:=Nat×Int×Bool×Int) (F71 t gn k ps nl dp bs ol a le i) (fun _=>H)
  (J71 t nl dp bs r (nsI t nl dp bs r 1 true mo)) (fun s=>r.length - s.1) ?_ (0,1,true,mo) ⟨Nat.zero_le _,rfl,by simp only;omega,by simp only;omega⟩ hE rfl
 rintro ⟨kk,sum,b,m⟩ ⟨hk,hinv,hs1,hs2⟩;simp only at hk hinv hs1 hs2;generalize nsI t nl dp bs r 1 true mo=res at *;unfold LZ;rw [ai,ai];refine u58 hi hj hjl hr rfl fun E1 g1 h1 h1'=>?_;rw [ah];by_cases hkl:kk < r.length;case neg=>
  rw [decide_eq_false hkl] at g1;rw [af (aI g1),bT,a8,bQ,aG,if_pos rfl];obtain rfl:kk=r.length:=by omega
  rw [List.drop_length] at hinv;simp only [nsI] at hinv;subst hinv;exact hQ _ h1'
 rw [decide_eq_true hkl] at g1;rw [ak (aI g1),aA,ah,ai,ap,ai];rw [List.drop_eq_getElem_cons hkl] at hinv;have hxm:=hx _ (List.getElem_mem hkl);have hxe:∀h,(ints r)[kk]'h=I r[kk]:=fun h=>bv hkl h;generalize r[kk]=x at *;have hw:IntKind.i64.wrap (x - t)=x - t:=au (by omega) (by omega)
 refine u14 hi hj hjl hr hkl hxe hw h1 fun E2 h2=>?_;rw [ah,ai,ai];refine u91 h2 fun E3 g3 h3=>?_;rw [ah];simp only [nsI] at hinv;by_cases hxt:x < t
 ·-- a token
  rw [if_pos hxt] at hinv;rw [decide_eq_false (by omega:¬0<=x - t),Bool.and_false] at g3
  rw [af (aI g3),aA,ah,ai];refine P3 h3 (by omega) fun E4 h4=>?_
  rw [ah,ai,ai];refine Pb h4 (by omega) fun E5 g5 h5=>?_
  rw [ah,ak (aI g5),ai];refine u11 h5 fun E6 h6=>?_;rw [ah,ai,ai];refine Pd h6 fun E7 g7 h7 h7'=>?_;rw [ah,ak (aI g7),bT,a8,a8,aG,if_neg (by decide),a8,bQ,aG,if_pos rfl]
  subst hinv;exact hQ _ h7'
 rw [if_neg hxt] at hinv;obtain ⟨q,hq⟩:∃q:Nat,x - t=q:=⟨(x - t).toNat,by omega⟩
 rw [hq] at hinv h3 g3;rw [Int.toNat_natCast] at hinv;rw [decide_eq_true (by omega:(0:Int)<=(q:Nat)),Bool.and_true] at g3
 have hqn:q < n:=by omega
 have hdq:dp.getD q 0∈dp:=fT (by omega)
 have hnq:nl.getD q 0∈nl:=fT (by omega)
 have hd1:=hdb _ hdq;have hn1:=hnb _ hnq;have hde:∀h,(ints dp)[q]'h=I (dp.getD q 0):=fun h=>by rw [List.getD_eq_getElem?_getD,List.getElem?_eq_getElem (by omega:q < dp.length)];exact bv (by omega) h
 have hne:∀h,(ints nl)[q]'h=I (nl.getD q 0):=fun h=>by rw [List.getD_eq_getElem?_getD,List.getElem?_eq_getElem (by omega:q < nl.length)];exact bv (by omega) h
 have hbe:∀h,(bools bs)[q]'h=Bo (bs.getD q false):=fun h=>by rw [List.getD_eq_getElem?_getD,List.getElem?_eq_getElem (by omega:q < bs.length)];exact lI (by omega) h
 generalize dp.getD q 0=d at *;generalize nl.getD q 0=y at *;generalize bs.getD q false=c at *;obtain ⟨m',hm'⟩:∃m',(if b=true then max m (d+1) else m)=m':=⟨_,rfl⟩;rw [hm'] at hinv;have go:∀E',ab q13 E'=v7 t gn k ps nl dp bs ol a le m' i [(11,I sum),(12,Bo b),(13,I kk),(14,I (q:Nat))]->WB ⟨C,lk,L,[1]⟩ (.seq (.regN [1,3,4,5,6,7,8,9,10,11,12,13,14] [ kM 99 12,kM 100 99,yM 101 100 14,ky 102 100 (.bini .geq (ux 101) c0),kx 103 (.pick (ux 100) (ux 102) cF),kM 104 103,yM 105 104 5,yM 106 104 14,yI 107 104 1 105 106,yL 108 104 107,kx 109 (.pick (ux 104) (ux 108) cF),kM 12 109]) (.seq (.seq (.regN [1,3,4,5,6,7,8,9,10,11,12,13,14] [ kM 110 14,kx 111 (.bini .lss (ux 110) c0),kM 112 111,zM 113 112 3,zM 114 112 14,zI 115 112 1 113 114,zL 116 112 115,kz 117 112 (.bini .lss (ux 116) c0),kO 118 112 117]) (.cond (ux 118) (.seq (.regN [1,3,4,5,6,7,8,9,10,12,13] [ kx 11 (.mv (.con (.val (.int .i64 (-1)))))]) (.seq (.seq (.regN [1,3,4,5,6,7,8,9,10,11,12,13] [ kM 119 12,kx 120 (.not (ux 119))]) (.cond (ux 120) (.exit 4) .skip)) (.exit 5))) .skip)) (.seq (.regN [1,3,4,5,6,7,8,9,10,11,12,13,14] [ kM 121 11,kx 122 (.bini .gtr (ux 121) c0)]) (.cond (ux 122) (.regN [1,3,4,5,6,7,8,9,10,11,12,13,14] [ kM 123 11,kM 124 3,kM 125 14,kI 126 1 124 125,kL 127 126,kx 128 (.bini .add (ux 123) (ux 127)),kM 11 128]) .skip)))) (tP 5 (Fol ⟨C,lk,L,[1]⟩ (.regN [1,3,4,5,6,7,8,9,10,11,12,13] [ kM 70 13,kU 71 70,kM 13 71]) (Rnd q12 (F71 t gn k ps nl dp bs ol a le i) (fun _=>H)
  (J71 t nl dp bs r res) (fun s=>r.length - s.1) (kk,sum,b,m) (tP 4 Q)))) E' H:=by
  intro E4 h4;rw [ai];refine P4 (by omega) hbe h4 fun E5 h5=>?_
  rw [ah,ai,ai];refine Pc (by omega) hne h5 fun E6 g6 h6 h6'=>?_
  rw [ah];have fin:∀E' sum' b',ab q12 E'=v7 t gn k ps nl dp bs ol a le m' i [(11,I sum'),(12,Bo b'),(13,I kk)]->nsI t nl dp bs (r.drop (kk+1)) sum' b' m'=res->-1<=sum'->sum'<=1+(kk+1:Nat) * 40210710958665->WB ⟨C,lk,L,[1]⟩ (.regN [1,3,4,5,6,7,8,9,10,11,12,13] [ kM 70 13,kU 71 70,kM 13 71]) (Rnd q12 (F71 t gn k ps nl dp bs ol a le i) (fun _=>H)
   (J71 t nl dp bs r res) (fun s=>r.length - s.1) (kk,sum,b,m) (tP 4 Q)) E' H:=by
   intro E' sum' b' hE' e1 e2 e3;refine u70 (by omega) hE' fun E8 h8=>?_
   rw [ao];exact ⟨(kk+1,sum',b',m'),⟨hkl,e1,e2,e3⟩,by simp only;omega,h8,rfl⟩
  by_cases hy:y < 0
  ·rw [if_pos hy] at hinv;rw [decide_eq_true hy] at g6;rw [ak (aI g6),ai];refine u11 h6 fun E7 h7=>?_;rw [ah,ai,ai];refine Pd h7 fun E8 g8 h8 h8'=>?_;rw [ah];cases hbc:(b&&c) with
   | false=>
    rw [hbc] at hinv g8;rw [ak (aI g8),bT,a8,a8,aG,if_neg (by decide),a8,bQ,aG,if_pos rfl]
    have hinv:((-1:Int),m')=res:=hinv;subst hinv;exact hQ _ h8'
   | true=>
    rw [hbc] at hinv g8 h8;rw [af (aI g8),aA,ah,bT,a8,aG,if_pos rfl,ah];exact fin _ _ _ h8 hinv (by omega) (by omega)
  ·rw [if_neg hy] at hinv;rw [decide_eq_false hy] at g6;rw [af (aI g6),aA,ah,ai];refine P5 h6' fun E7 g7 h7 h7'=>?_;rw [ah];by_cases hs:0 < sum
   ·rw [if_pos hs] at hinv;rw [decide_eq_true hs] at g7;rw [ak (aI g7)];refine P6 (by omega) hne (au (by omega) (by omega)) h7 fun E8 h8=>?_
    rw [a6,ah];exact fin _ _ _ h8 hinv (by omega) (by omega)
   ·rw [if_neg hs] at hinv;rw [decide_eq_false hs] at g7;rw [af (aI g7),aA,a6,ah];exact fin _ _ _ h7' hinv (by omega) (by omega)
 cases b with
 | true=>
  rw [ak (aI g3)];refine u9 (by omega) hde (au (by omega) (by omega)) (by simpa using hm') h3 fun E4 h4=>?_
  rw [ah];exact go _ h4
 | false=>
  rw [af (aI g3),aA,ah];have hm2:m=m':=by simpa using hm'
  subst hm2;exact go _ h3
theorem u55 (hE:ab [1,3,4,5,6,7,8,9,10] E=v7 t gn k ps nl dp bs ol a le mo i [])
  (hQ:∀E',find E' 55=Bo (decide (i < ol.length))->ab [1,3,4,5,6,7,8,9,10] E'=v7 t gn k ps nl dp bs ol a le mo i []->ab [1,3,4,5,6,8,9] E'=[(1,.box [I t,I gn,I k,.sl ps.length (psC ps)]),(3,.sl nl.length (ints nl)),(4,.sl dp.length (ints dp)),(5,.sl bs.length (bools bs)),(6,I a),(8,I le),(9,I mo)]->Q .nrm E' H):
  WB ⟨C,lk,L,[1]⟩ (.regN [1,3,4,5,6,7,8,9,10] [ kM 52 10,kM 53 7,kN 54 53,kT 55 52 54]) Q E H:=by
 unfold v7 at *;rw [ae,hE];simp;refine hQ _ ?_ ?_ ?_
 ·simp [find]
 ·rfl
 ·rfl
theorem P7 (hE:ab [1,3,4,5,6,7,8,9,10] E=v7 t gn k ps nl dp bs ol a le mo i [])
  (hQ:∀E',ab [1,3,4,5,6,7,8,9,10,11] E'=v7 t gn k ps nl dp bs ol a le mo i [(11,I 1)]->Q .nrm E' H):
  WB ⟨C,lk,L,[1]⟩ (.regN [1,3,4,5,6,7,8,9,10] [kx 11 (.mv c1)]) Q E H:=by
 unfold v7 at *;rw [ae,hE];simp;refine hQ _ ?_;rfl
theorem P8 (hE:ab [1,3,4,5,6,7,8,9,10,11] E=v7 t gn k ps nl dp bs ol a le mo i [(11,I 1)])
  (hQ:∀E',ab [1,3,4,5,6,7,8,9,10,11,12] E'=v7 t gn k ps nl dp bs ol a le mo i [(11,I 1),(12,Bo true)]->Q .nrm E' H):
  WB ⟨C,lk,L,[1]⟩ (.regN [1,3,4,5,6,7,8,9,10,11] [kx 12 (.mv cT)]) Q E H:=by
 unfold v7 at *;rw [ae,hE];simp;refine hQ _ ?_;rfl
theorem P9 (hE:ab [1,3,4,5,6,7,8,9,10,11,12] E=v7 t gn k ps nl dp bs ol a le mo i [(11,I 1),(12,Bo true)])
  (hQ:∀E',ab q12 E'=v7 t gn k ps nl dp bs ol a le mo i [(11,I 1),(12,Bo true),(13,I (0:Nat))]->Q .nrm E' H):
  WB ⟨C,lk,L,[1]⟩ (.regN [1,3,4,5,6,7,8,9,10,11,12] [kx 13 (.mv c0)]) Q E H:=by
 unfold v7 at *;rw [ae,hE];simp;refine hQ _ ?_;rfl
theorem Qa {z:Int}(hE:ab [1,3,4,5,6,7,8,9,10,11] E=v7 t gn k ps nl dp bs ol a le mo i [(11,I z)])
  (hQ:∀E',find E' 139=Bo (decide (0 < z/\(le < 0\/z < le)))->ab [1,3,4,5,6,7,8,9,10] E'=v7 t gn k ps nl dp bs ol a le mo i []->ab [1,3,4,5,6,7,9,10,11] E'=[(1,.box [I t,I gn,I k,.sl ps.length (psC ps)]),(3,.sl nl.length (ints nl)),(4,.sl dp.length (ints dp)),(5,.sl bs.length (bools bs)),(6,I a),(7,.sl ol.length (nts ol)),(9,I mo),(10,I i),(11,I z)]->Q .nrm E' H):
  WB ⟨C,lk,L,[1]⟩ (.regN [1,3,4,5,6,7,8,9,10,11] [ kM 129 11,kx 130 (.bini .gtr (ux 129) c0),kM 131 130,yM 132 131 8,ky 133 131 (.bini .lss (ux 132) c0),yM 134 131 133,zM 135 134 11,zM 136 134 8,kz 137 134 (.bini .lss (ux 135) (ux 136)),ky 138 131 (.pick (ux 134) cT (ux 137)),kx 139 (.pick (ux 131) (ux 138) cF)]) Q E H:=by
 unfold v7 at *;rw [ae,hE];by_cases h1:0 < z<;>by_cases h2:le < 0<;>by_cases h3:z < le;all_goals
  simp [h1,h2,h3];refine hQ _ ?_ ?_ ?_
  ·simp [find,h1,h2,h3]
  ·rfl
  ·rfl
theorem Qb {z:Int}(hE:ab [1,3,4,5,6,7,9,10,11] E=[(1,.box [I t,I gn,I k,.sl ps.length (psC ps)]),(3,.sl nl.length (ints nl)),(4,.sl dp.length (ints dp)),(5,.sl bs.length (bools bs)),(6,I a),(7,.sl ol.length (nts ol)),(9,I mo),(10,I i),(11,I z)])
  (hQ:∀E',ab [1,3,4,5,6,7,8,9,10] E'=v7 t gn k ps nl dp bs ol a z mo i []->Q .nrm E' H):
  WB ⟨C,lk,L,[1]⟩ (.regN [1,3,4,5,6,7,9,10,11] [kx 140 (um 11),kx 8 (um 140)]) Q E H:=by
 unfold v7 at *;rw [ae,hE];simp;refine hQ _ ?_;rfl
theorem u56 (hk:i<=1000)(hE:ab [1,3,4,5,6,7,8,9,10] E=v7 t gn k ps nl dp bs ol a le mo i [])
  (hQ:∀E',ab [1,3,4,5,6,7,8,9,10] E'=v7 t gn k ps nl dp bs ol a le mo (i+1) []->Q .nrm E' H):
  WB ⟨C,lk,L,[1]⟩ (.regN [1,3,4,5,6,7,8,9,10] [ kM 56 10,kU 57 56,kM 10 57]) Q E H:=by
 have w1:IntKind.i64.wrap ((i:Int)+1)=(i:Int)+1:=au (by omega) (by omega)
 unfold v7 at *;rw [ae,hE];simp [w1];refine hQ _ ?_;simp
theorem Gr (hol:ol.length<=64)(hop:∀j∈ol,j < ps.length)(hrl:∀p∈ps,p.r.length<=8/\∀x∈p.r,0<=x/\x < t+n)
  (ht:1<=t/\t<=8) (hn16:n<=16) (hnl:nl.length=n) (hdl:dp.length=n) (hbl:bs.length=n) (hnb:∀y∈nl,y<=40210710958665) (hdb:∀y∈dp,0<=y/\y<=17)
  (hE:ab [1,3,4,5,6,7,8,9,10] E=v7 t gn k ps nl dp bs ol a (-1) 1 0 [])
  (hQ:∀E',ab [1,3,4,5,6,8,9] E'=[(1,.box [I t,I gn,I k,.sl ps.length (psC ps)]),(3,.sl nl.length (ints nl)),(4,.sl dp.length (ints dp)),(5,.sl bs.length (bools bs)),(6,I a),(8,I (nsO ⟨t,gn,k,ps⟩ nl dp bs ol (-1) 1).1),(9,I (nsO ⟨t,gn,k,ps⟩ nl dp bs ol (-1) 1).2)]->Q .nrm E' H):
  WB ⟨C,lk,L,[1]⟩ (.block 2 (.loop [1,3,4,5,6,7,8,9,10] L0)) Q E H:=by
 rw [ap];refine ax (σ:=Nat×Int×Int) (fun s=>v7 t gn k ps nl dp bs ol a s.2.1 s.2.2 s.1 []) (fun _=>H)
  (fun s=>s.1<=ol.length/\nsO ⟨t,gn,k,ps⟩ nl dp bs (ol.drop s.1) s.2.1 s.2.2=nsO ⟨t,gn,k,ps⟩ nl dp bs ol (-1) 1) (fun s=>ol.length - s.1) ?_ (0,-1,1) ⟨Nat.zero_le _,rfl⟩ hE rfl
 rintro ⟨i,le,mo⟩ ⟨hi,hinv⟩;simp only at hi hinv;generalize nsO ⟨t,gn,k,ps⟩ nl dp bs ol (-1) 1=res at *;unfold L0;rw [ai,ai];refine u55 rfl fun E1 g1 h1 h1'=>?_;rw [ah];by_cases hil:i < ol.length;case neg=>
  rw [decide_eq_false hil] at g1;rw [af (aI g1),bT,a8,bQ,aG,if_pos rfl];obtain rfl:i=ol.length:=by omega
  rw [List.drop_length] at hinv;simp only [nsO] at hinv;subst hinv;exact hQ _ h1'
 rw [decide_eq_true hil] at g1;rw [ak (aI g1),aA,ah,ai,ap];rw [List.drop_eq_getElem_cons hil] at hinv;have hj:=hop _ (List.getElem_mem hil);have hje:∀h,(nts ol)[i]'h=I (ol[i]:Nat):=fun h=>yd ol i h;generalize ol[i]=j at *;have hpm:=bW hj;have hrE:∀h,(psC ps)[j * 2+1]'h= .sl (ps.getD j ⟨0,[]⟩).r.length (ints (ps.getD j ⟨0,[]⟩).r):=fun h=>by
  rw [List.getD_eq_getElem?_getD,List.getElem?_eq_getElem hj];exact (List.getElem?_eq_some_iff.1 (qF hj)).2
 obtain ⟨r1,r2⟩:=hrl _ hpm;simp only [nsO] at hinv;generalize (ps.getD j ⟨0,[]⟩).r=r at *;rw [ai];refine P7 h1 fun E2 h2=>?_;rw [ah,ai];refine P8 h2 fun E2 h2=>?_;rw [ah,ai,ai];refine P9 h2 fun E2 h2=>?_;rw [ah];refine Gq (r:=r) (j:=j) (n:=n) hil hje hj hrE r1 ht r2 hn16 hnl hdl hbl hnb hdb h2 fun E3 h3=>?_;generalize nsI t nl dp bs r 1 true mo=z at *;rw [ah,ai];refine Qa h3 fun E4 g4 h4 h4'=>?_;rw [ah];by_cases hc:0 < z.1/\(le < 0\/z.1 < le)
 ·rw [if_pos hc] at hinv;rw [decide_eq_true hc] at g4;rw [ak (aI g4)];refine Qb h4' fun E5 h5=>?_;rw [a6,ah];refine u56 (by omega) h5 fun E6 h6=>?_
  rw [ao];exact ⟨(i+1,z.1,z.2),⟨hil,hinv⟩,by simp only;omega,h6,rfl⟩
 ·rw [if_neg hc] at hinv;rw [decide_eq_false hc] at g4;rw [af (aI g4),aA,a6,ah];refine u56 (by omega) h4 fun E6 h6=>?_
  rw [ao];exact ⟨(i+1,le,z.2),⟨hil,hinv⟩,by simp only;omega,h6,rfl⟩
end

def w7 (t gn k:Int)(ps:List Pr)(nl dp:List Int)(bs:List Bool)(a:Nat)(r:Env):Env:=
 (1,.box [I t,I gn,I k,.sl ps.length (psC ps)])::(3,.sl nl.length (ints nl))::(4,.sl dp.length (ints dp))::(5,.sl bs.length (bools bs))::(6,I a)::r
section
variable {C:Orc}{Q:Ex->Kt}{E:Env}{lk L:Nat}{H:Heap}{t gn k:Int}{ps:List Pr}{nl dp:List Int}{bs:List Bool}{ol:List Nat}{a n:Nat}{le mo:Int}{b:Bool}
theorem u46 (hE:ab [1,3,4,5,6] E=w7 t gn k ps nl dp bs a [])
  (hQ:∀E',find E' 46=Bo (decide ((a:Int) < gn))->ab [1,3,4,5,6] E'=w7 t gn k ps nl dp bs a []->ab [1] E'=[(1,.box [I t,I gn,I k,.sl ps.length (psC ps)])]->Q .nrm E' H):
  WB ⟨C,lk,L,[1]⟩ (.regN [1,3,4,5,6] [ kM 43 6,kF 44 1 1,kS 45 1 44,kT 46 43 45]) Q E H:=by
 unfold w7 at *;rw [ae,hE];simp;refine hQ _ ?_ ?_ ?_
 ·simp [find]
 ·rfl
 ·rfl
theorem u51 (kc:C lk L 26 [.agg [I t,I gn,I k,.sl ps.length (psC ps)],I (a:Nat)] H=some (.sl ol.length (nts ol),H))(hE:ab [1,3,4,5,6] E=w7 t gn k ps nl dp bs a [])
  (hQ:∀E',ab [1,3,4,5,6,7] E'=w7 t gn k ps nl dp bs a [(7,.sl ol.length (nts ol))]->Q .nrm E' H):
  WB ⟨C,lk,L,[1]⟩ (.regN [1,3,4,5,6] [ kP 49 1 4 1,kM 50 6,kx 51 (.call 26 [(ux 49),(ux 50)]),kM 7 51]) Q E H:=by
 unfold w7 at *;rw [ae,hE];simp [kc];refine hQ _ ?_;rfl
theorem u8 (hE:ab [1,3,4,5,6,7] E=w7 t gn k ps nl dp bs a [(7,.sl ol.length (nts ol))])
  (hQ:∀E',ab [1,3,4,5,6,7,8,9] E'=w7 t gn k ps nl dp bs a [(7,.sl ol.length (nts ol)),(8,I (-1)),(9,I 1)]->Q .nrm E' H):
  WB ⟨C,lk,L,[1]⟩ (.regN [1,3,4,5,6,7] [kx 8 (.mv (.con (.val (.int .i64 (-1))))),kx 9 (.mv c1)]) Q E H:=by
 unfold w7 at *;rw [ae,hE];simp;refine hQ _ ?_;rfl
theorem u10 (hE:ab [1,3,4,5,6,7,8,9] E=w7 t gn k ps nl dp bs a [(7,.sl ol.length (nts ol)),(8,I (-1)),(9,I 1)])
  (hQ:∀E',ab [1,3,4,5,6,7,8,9,10] E'=v7 t gn k ps nl dp bs ol a (-1) 1 0 []->Q .nrm E' H):
  WB ⟨C,lk,L,[1]⟩ (.regN [1,3,4,5,6,7,8,9] [kx 10 (.mv c0)]) Q E H:=by
 unfold w7 at *;rw [ae,hE];simp;refine hQ _ ?_;rfl
theorem Qc (h1:a < nl.length)(h2:a < dp.length)(h3:a < bs.length)(e1:∀h,(ints nl)[a]'h=I le)(e2:∀h,(ints dp)[a]'h=I mo)(e3:∀h,(bools bs)[a]'h=Bo (decide (0 < le)))
  (hE:ab [1,3,4,5,6,8,9] E=w7 t gn k ps nl dp bs a [(8,I le),(9,I mo)])
  (hQ:∀E',find E' 166=Bo false->ab [1,3,4,5,6] E'=w7 t gn k ps nl dp bs a []->Q .nrm E' H):
  WB ⟨C,lk,L,[1]⟩ (.regD [1,3,4,5,6,8,9] 0 [ kM 141 3,kM 142 6,kI 143 1 141 142,kL 144 143,kM 145 8,kx 146 (.bini .neq (ux 144) (ux 145)),kM 147 146,zM 148 147 3,zM 149 147 6,zI 150 147 1 148 149,zL 151 147 150,kz 152 147 (.bini .gtr (ux 151) c0),zM 153 147 5,zM 154 147 6,zI 155 147 1 153 154,zL 156 147 155,kz 157 147 (.eqb true (ux 152) (ux 156)),kO 158 147 157,kM 159 158,zM 160 159 4,zM 161 159 6,zI 162 159 1 160 161,zL 163 159 162,zM 164 159 9,kz 165 159 (.bini .neq (ux 163) (ux 164)),kO 166 159 165]) Q E H:=by
 have l1:=aV nl;have l2:=aV dp;have l3:=aH bs;unfold w7 at *;rw [aB rfl,hE];simp [h1,h2,h3,e1,e2,e3,l1,l2,l3];refine hQ _ ?_ ?_
 ·simp [find]
 ·rfl
theorem u47 (hk:a<=1000)(hE:ab [1,3,4,5,6] E=w7 t gn k ps nl dp bs a [])
  (hQ:∀E',ab [1,3,4,5,6] E'=w7 t gn k ps nl dp bs (a+1) []->Q .nrm E' H):
  WB ⟨C,lk,L,[1]⟩ (.regN [1,3,4,5,6] [ kM 47 6,kU 48 47,kM 6 48]) Q E H:=by
 have w1:IntKind.i64.wrap ((a:Int)+1)=(a:Int)+1:=au (by omega) (by omega)
 unfold w7 at *;rw [ae,hE];simp [w1];refine hQ _ ?_;simp
theorem Gs (hgn:gn=n)(hps:ps.length<=64)(ko:∀a,a < n->∃ol:List Nat,C lk L 26 [.agg [I t,I gn,I k,.sl ps.length (psC ps)],I (a:Nat)] H=some (.sl ol.length (nts ol),H)/\ol.length<=64/\(∀j∈ol,j < ps.length)/\nsO ⟨t,gn,k,ps⟩ nl dp bs ol (-1) 1=(nl.getD a 0,dp.getD a 0))
  (hrl:∀p∈ps,p.r.length<=8/\∀x∈p.r,0<=x/\x < t+n)
  (ht:1<=t/\t<=8) (hn16:n<=16) (hnl:nl.length=n) (hdl:dp.length=n) (hbl:bs.length=n) (hnb:∀y∈nl,y<=40210710958665) (hdb:∀y∈dp,0<=y/\y<=17) (hbn:∀a,a < n->bs.getD a false=decide (0 < nl.getD a 0))
  (hE:ab [1,3,4,5,6] E=w7 t gn k ps nl dp bs 0 [])
  (hQ:∀E',ab [1] E'=[(1,.box [I t,I gn,I k,.sl ps.length (psC ps)])]->Q .nrm E' H):
  WB ⟨C,lk,L,[1]⟩ (.block 0 (.loop [1,3,4,5,6] L1)) Q E H:=by
 rw [ap];refine ax (σ:=Nat) (fun a=>w7 t gn k ps nl dp bs a []) (fun _=>H) (fun a=>a<=n) (fun a=>n - a) ?_ 0 (Nat.zero_le _) hE rfl;intro a ha;unfold L1;rw [ai,ai];refine u46 rfl fun E1 g1 h1 h1'=>?_;rw [ah];by_cases han:a < n;case neg=>
  rw [decide_eq_false (by omega)] at g1
  rw [af (aI g1),bT,a8,bQ,aG,if_pos rfl];exact hQ _ h1'
 rw [decide_eq_true (by omega)] at g1
 rw [ak (aI g1),aA,ah,ai,ap,ai];obtain ⟨ol,kc,o1,o2,o3⟩:=ko a han;refine u51 kc h1 fun E2 h2=>?_;rw [ah,ai];refine u8 h2 fun E3 h3=>?_;rw [ah,ai,ai];refine u10 h3 fun E4 h4=>?_;rw [ah];refine Gr (n:=n) o1 o2 hrl ht hn16 hnl hdl hbl hnb hdb h4 fun E5 h5=>?_;rw [o3] at h5;rw [ah,ai];have e1:∀h,(ints nl)[a]'h=I (nl.getD a 0):=fun h=>by rw [List.getD_eq_getElem?_getD,List.getElem?_eq_getElem (by omega:a < nl.length)];exact bv (by omega) h
 have e2:∀h,(ints dp)[a]'h=I (dp.getD a 0):=fun h=>by rw [List.getD_eq_getElem?_getD,List.getElem?_eq_getElem (by omega:a < dp.length)];exact bv (by omega) h
 have e3:∀h,(bools bs)[a]'h=Bo (decide (0 < nl.getD a 0)):=fun h=>by rw [<-hbn a han,List.getD_eq_getElem?_getD,List.getElem?_eq_getElem (by omega:a < bs.length)];exact lI (by omega) h
 refine Qc (by omega) (by omega) (by omega) e1 e2 e3 h5 fun E6 g6 h6=>?_
 rw [ah,af (aI g6),aA,a6,ah];refine u47 (by omega) h6 fun E7 h7=>?_
 rw [ao];exact ⟨a+1,by omega,by omega,h7,rfl⟩
end
theorem zh (g:Gm):aj X A 0 0 7 [gV g] []=some (Bo true,[]):=by
 have kl:=fun (L:Nat)=>mZ (lim:=L);have kg:=fun (L:Nat)=>fU (lk:=0) (lim:=L) (H:=[]) g;refine ar [1] rfl A7 rfl rfl ?_;unfold t7B;cases hlt:d8 g with
 | false=>
  rw [hlt] at kg;obtain ⟨t,n,k,ps⟩:=g;simp only [gV,Gm.cells] at kg;generalize aj X A=C at kl kg |-;simp [Gm.cells,kl,kg]
 | true=>
  rw [hlt] at kg;obtain ⟨hl,hr⟩:=mB hlt;have ka:=fun (L:Nat)=>ef (lk:=0) (lim:=L) (H:=[]) (Nat.le_refl _) g hl hr;by_cases hacc:cN g=0;case neg=>
   have hx:(cN g != 0)=true:=by simpa using hacc
   generalize cN g=e at *;obtain ⟨t,n,k,ps⟩:=g;simp only [gV,Gm.cells] at kg ka;generalize aj X A=C at kl kg ka |-;simp [Gm.cells,kl,kg,ka,hx]
  have ha:=jL hacc;have hg:=ha.ok;have kn:=fun (L:Nat)=>oE (lk:=0) (lim:=L) (H:=[]) (Nat.le_refl _) g hl hr;have kd:=fun (L:Nat)=>oG (lk:=0) (lim:=L) (H:=[]) (Nat.le_refl _) g hl hr;have kb:=fun (L:Nat)=>qV (lk:=0) (lim:=L) (H:=[]) (g:=g) hl hr (Nat.le_refl _);have kc:=fun (L:Nat)=>cG (lk:=0) (lim:=L) (H:=[]) (Nat.le_refl _) g hl hr;simp only [Au,if_pos hacc] at kn;simp only [Ax,if_pos hacc] at kd;simp only [jG,if_pos ha.chk] at kb;simp only [oW,if_pos hacc] at kc;have hcp:=AA ha;have ko:∀L a,a < g.n.toNat->∃ol:List Nat,aj X A 0 L 26 [gV g,I (a:Nat)] []=some (.sl ol.length (nts ol),[])/\ol.length<=64/\(∀j∈ol,j < g.ps.length)/\nsO g (nullM g) (bL g) (derM g false) ol (-1) 1=((nullM g).getD a 0,(bL g).getD a 0):=fun L a h=>by
   have:=rm (lk:=0) (lim:=L) (H:=[]) g (a:Nat) hl hr (Nat.le_refl _);obtain ⟨p,hp,hpl⟩:=ri ha h;have hne:ofN g.ps (a:Nat) g.ps.length≠[]:=fun e=>by
    obtain ⟨j,hj,rfl⟩:=List.getElem_of_mem hp;have hm:j∈ofN g.ps (a:Nat) g.ps.length:=fj.2 ⟨hj,by
     rw [List.getD_eq_getElem?_getD,List.getElem?_eq_getElem hj];have:=(hg.p _ hp).l0;show (g.ps[j]).l=_;omega⟩
    rw [e] at hm;exact absurd hm List.not_mem_nil
   simp only [nL,if_pos ha.chk,slvN,if_neg hne] at this;refine ⟨_,this,?_,fun j hj=>(fj.1 hj).1,?_⟩
   ·have:(ofN g.ps (a:Nat) g.ps.length).length<=g.ps.length:=by unfold ofN;exact Nat.le_trans (List.length_filter_le ..) (by simp)
    have:=hg.l2;omega
   ·rw [(Gp ha h).1,nU g h]
  have hbn:∀a,a < g.n.toNat->(derM g false).getD a false=decide (0 < (nullM g).getD a 0):=fun a h=>by
   have:=(Gp ha h).2;by_cases h0:0 < (nullM g).getD a 0
   ·rw [decide_eq_true h0];exact this.1 h0
   ·rw [decide_eq_false h0];have h1:¬tr (derM g false) a:=fun h=>h0 (this.2 h);simpa using h1
  have hnl:(nullM g).length=g.n.toNat:=(bn hg).len;have hdl:(bL g).length=g.n.toNat:=by simp [bL]
  have hbl:(derM g false).length=g.n.toNat:=fZ g false;have hnb:=(bn hg).hi2 hg;have hdb:∀y∈bL g,0<=y/\y<=17:=fun y hy=>by
   unfold bL at hy;obtain ⟨i,_,rfl⟩:=List.mem_map.1 hy;have:=uU ha i;omega
  have hrl:∀p∈g.ps,p.r.length<=8/\∀x∈p.r,0<=x/\x < g.t+(g.n.toNat:Nat):=fun p hp=>⟨(hg.p p hp).len,fun x hx=>by
   have:=(hg.p p hp).s x hx;have:=hg.n1;omega⟩
  have ht:1<=g.t/\g.t<=8:=⟨hg.t1,hg.t2⟩;have hps:=hg.l2;have hn1:=hg.n1;have hn2:=hg.n2;have hmain:=fun (C:Orc) (Q:Ex->Kt) E=>Gs (C:=C) (lk:=0) (L:=0) (H:=[]) (Q:=Q) (E:=E) (t:=g.t) (gn:=g.n) (k:=g.k) (ps:=g.ps) (n:=g.n.toNat) (nl:=nullM g) (dp:=bL g) (bs:=derM g false) (by omega) hps
  have hmain:=fun (Q:Ex->Kt) E=>hmain (aj X A) Q E (ko 0) hrl ht (by omega) hnl hdl hbl hnb hdb hbn
  have hgn:((g.n.toNat:Nat):Int)=g.n:=by omega
  unfold w7 at hmain;rw [hbl,hnl,hdl] at hmain;rw [hnl] at kn;rw [hdl] at kd;clear ko hbn hnl hdl hbl hnb hdb hrl ht;generalize ce g=cm at *;generalize nullM g=nl at *;generalize bL g=dp at *;generalize derM g false=bs at *;rw [hacc] at ka;obtain ⟨t,gn,k,ps⟩:=g;simp only [gV,Gm.cells] at kg ka kn kd kb kc hmain hgn hn1 |-;generalize gn.toNat=n at *;generalize aj X A=C at *;subst hgn;simp [-ak,-af,-ap,-ae,-aB];rw [ae];simp [-ak,-af,-ap,-ae,-aB];rw [ae];simp [-ak,-af,-ap,-ae,-aB,kl];rw [af rfl,aA,ah,ai,ai,ae];simp [-ak,-af,-ap,-ae,-aB,kg,ka];rw [af rfl,aA,ah,ai,aB rfl];simp [-ak,-af,-ap,-ae,-aB,kn,kd,kb];rw [ae];simp [-ak,-af,-ap,-ae,-aB];rw [af rfl,aA,ah,ai,ai,ae];simp [-ak,-af,-ap,-ae,-aB];refine hmain _ _ (by simp) fun E1 h1=>?_
  rw [ah,ai,ae,h1];simp [kc,hcp]
end Go.Proofs.YtkllbcjanneppaaGreat
