import Derived.Test.YtkllbcjanneppaaGreatJL
import Derived.Test.YtkllbcjanneppaaGreatHA
set_option maxRecDepth 20000
set_option linter.unusedSimpArgs false
set_option linter.unusedVariables false
namespace Go.Proofs.YtkllbcjanneppaaGreat
open Go Go.Hm

def iW (l:List Int):AV:=if l=[] then .e0 else .sl l.length (ints l)
def zN (g:Gm)(tv:AV)(o:Option (List Int×Nat))(v:AV):Prop:=match o with
 | none=>v= .val (.pointer none)
 | some (l,n)=>v= .rop [I g.t,I g.n,I g.k,.sl g.ps.length (psC g.ps),tv,Sg [],.sl 0 [],iW l,I n] 0
def jY (g:Gm)(T:Ss)(o:Option (List Int×Nat)):Option (List Int×Nat):=if dU g=0∧sJ g≤65536∧bD g=T then o else none
theorem JI {tv:AV}{T:Ss}(h:TV tv T)(lim:Nat)(H:Heap)(d:Nat):frz lim H d tv=some tv∧Hm.below 0 tv=true:=by
 rcases h with ⟨rfl,_⟩ | ⟨cs,rfl,hs⟩
 ·exact ⟨vQ ..,rfl⟩
 ·exact ⟨vR ..,by simp [Hm.below,(gS lim H 0 hs).2]⟩
theorem Gi {H:Heap}{S:List AV}{t n k:Int}{ps:List Pr}{tv:AV}{T:Ss}(hT:TV tv T){pv:AV}{l:List Int}{steps:Nat}{G:Heap}(hp:PV H.length l pv G)(hl:l.length≤1000000000):
  frz H.length (dH H S (dC t n k ps tv [] H.length S.length 0 pv steps) G) 8 (.hp (H.length+1) 9 0)=some (.rop [I t,I n,I k,.sl ps.length (psC ps),tv,Sg [],.sl 0 [],iW l,I steps] 0)∧below H.length (.rop [I t,I n,I k,.sl ps.length (psC ps),tv,Sg [],.sl 0 [],iW l,I steps] 0)=true:=by
 obtain ⟨h1,h2⟩:=JI hT H.length (dH H S (dC t n k ps tv [] H.length S.length 0 pv steps) G) 7;have hlt:¬(H.length+1 < H.length):=by omega
 have hps:belowL 0 (psC ps)=true:=by
  clear h1;induction ps with
  | nil=>rfl
  | cons p ps ih=>
   have e:psC (p::ps)=I p.l:: .sl p.r.length (ints p.r)::psC ps:=rfl;rw [e];simp [belowL,Hm.below,ih]
 have hdc:dC t n k ps tv [] H.length S.length 0 pv steps=[I t,I n,I k,.sl ps.length (psC ps),tv,Sg [],.hs H.length S.length 0 0 1,pv,I steps]:=rfl;have hst:frz H.length (dH H S (dC t n k ps tv [] H.length S.length 0 pv steps) G) 7 (.hs H.length S.length 0 0 1)=some (.sl 0 []):=by
  simp [frz,bh,dH0,eh,belowL]
 have hpv:frz H.length (dH H S (dC t n k ps tv [] H.length S.length 0 pv steps) G) 7 pv=some (iW l)∧Hm.below 0 (iW l)=true:=by
  unfold iW;rcases hp with ⟨rfl,rfl⟩ | ⟨j,rfl,hj,hne⟩
  ·exact ⟨by rw [if_pos rfl];exact vQ ..,by rw [if_pos rfl];rfl⟩
  ·rw [if_neg hne];have hlt2:¬(H.length+2+j < H.length):=by omega
   refine ⟨?_,by simp [Hm.below]⟩
   simp [frz,bh,dHG,hj,hlt2]
 refine ⟨?_,?_⟩
 ·rw [frz,if_neg hlt,dH1];simp only;rw [if_pos ⟨rfl,by omega⟩,List.drop_zero,hdc]
  rw [hdc] at hst hpv h1;generalize dH H S [I t,I n,I k,.sl ps.length (psC ps),tv,Sg [],.hs H.length S.length 0 0 1,pv,I steps] G=Z at *;have hm:eh (frz H.length Z 7) [I t,I n,I k,.sl ps.length (psC ps),tv,Sg [],.hs H.length S.length 0 0 1,pv,I steps]=some [I t,I n,I k,.sl ps.length (psC ps),tv,Sg [],.sl 0 [],iW l,I steps]:=by
   simp only [eh,gI,vR,h1,hst,hpv.1]
  rw [hm];simp only;rw [if_pos (by simp [belowL,Hm.below,h2,hps,hpv.2])]
 ·have up:∀v:AV,Hm.below 0 v=true→Hm.below H.length v=true:=fun v h=>cJ (Nat.zero_le _) v h;have hw:=up _ hpv.2;have ht:=up _ h2;have hp2:belowL H.length (psC ps)=true:=dA (Nat.zero_le _) _ hps;simp [belowL,Hm.below,hw,ht,hp2]
end Go.Proofs.YtkllbcjanneppaaGreat

namespace Go.Proofs.YtkllbcjanneppaaGreat
open Go Go.Hm

def j29 (H:Heap):Env:=[(10,.hp (H.length+1) 9 0),(36,.hp (H.length+1) 9 0)]
structure J29 (H:Heap)(g:Gm)(tv:AV)(T:Ss)(F:Nat)(o:Option (List Int×Nat))(x:Heap×List UInt8×List Int×List Int×Nat×Nat):Prop where
 z:∃S pv G,x.1=dH H S (dC g.t g.n g.k g.ps tv x.2.1 H.length S.length x.2.2.1.length pv x.2.2.2.2.1) G∧DM H.length S x.2.2.1 x.2.2.2.1 pv G
 r:runM g T x.2.2.2.2.2 x.2.1 x.2.2.1≠none∧∀o',runM g T x.2.2.2.2.2 x.2.1 x.2.2.1=some o'→o=o'.map fun y=>(x.2.2.2.1++y.1,x.2.2.2.2.1+y.2)
 f:x.2.2.2.2.1+x.2.2.2.2.2≤F
 st:x.2.2.1.length≤1+8 * x.2.2.2.2.1
 l:x.2.2.2.1.length≤x.2.2.2.2.1
 s:∀y∈x.2.2.1,0≤y∧y < g.t+g.n
 rest:x.2.1.length≤1000000
theorem w6 {g:Gm}(hg:GOk g){T:Ss}{rest rest':List UInt8}{x:Int}{st st' q:List Int}(h:qQ g T rest (x::st)=some (rest',st',q))(hs:∀y∈x::st,0≤y∧y < g.t+g.n):
  st'.length≤st.length+8∧q.length≤1∧(∀y∈st',0≤y∧y < g.t+g.n)∧rest'.length≤rest.length:=by
 have hst:∀y∈st,0≤y∧y < g.t+g.n:=fun y hy=>hs y (List.mem_cons_of_mem _ hy);simp only [qQ] at h;split at h
 ·split at h
  ·cases h
  ·split at h
   ·simp only [Option.some.injEq,Prod.mk.injEq] at h;obtain ⟨rfl,rfl,rfl⟩:=h;exact ⟨by omega,by simp,hst,by simp⟩
   ·cases h
 ·rcases pj (g:=g) T (x - g.t) (rwK rest g.k) with hneg | ⟨i,hi,hpi,-,-⟩
  ·rw [hneg,if_pos (by omega)] at h
   cases h
  ·rw [hpi,if_neg (by omega),Int.toNat_natCast] at h
   simp only [Option.some.injEq,Prod.mk.injEq] at h;obtain ⟨rfl,rfl,rfl⟩:=h;have hp:=hg.p _ (lx hi);have h8:=hp.len;exact ⟨by rw [List.length_append];omega,by simp,fun y hy=>by
    rcases List.mem_append.1 hy with hy | hy
    ·exact hp.s y hy
    ·exact hst y hy,Nat.le_refl _⟩
section
variable {C:Orc}{Q:Ex→Kt}{E:Env}{lk:Nat}{H Z:Heap}{g:Gm}{tv pv:AV}{T:Ss}{rest:List UInt8}{st l:List Int}{steps:Nat}{S:List AV}{G:Heap}
theorem r42 (hE:ab [10,36] E=j29 H)
  (hQ:∀E',find E' 42=Bo (decide (0 < st.length))→ab [10,36] E'=j29 H→Q .nrm E' (dH H S (dC g.t g.n g.k g.ps tv rest H.length S.length st.length pv steps) G)):
  WB ⟨C,lk,H.length,[3,4,7,8]⟩ (.regN [10,36] [ kx 37 (um 10),kx 38 (.nilc (ux 37)),kx 39 (.fldA 6 (ux 38)),kx 40 (.ld1 none (ux 39)),kx 41 (.len false (ux 40)),kx 42 (.bini .gtr (ux 41) c0)]) Q E (dH H S (dC g.t g.n g.k g.ps tv rest H.length S.length st.length pv steps) G):=by
 have hd:=dH1 (H:=H) (S:=S) (D:=dC g.t g.n g.k g.ps tv rest H.length S.length st.length pv steps) (G:=G);generalize dH H S (dC g.t g.n g.k g.ps tv rest H.length S.length st.length pv steps) G=Z at *;unfold dC at hd;unfold j29 at *;rw [ae,hE];simp [hd];refine hQ _ ?_ ?_
 ·simp [find]
 ·rfl
theorem r45 {b:Bool}{Z':Heap}(kc:C lk H.length 45 [.hp (H.length+1) 9 0] Z=some (Bo b,Z'))(hE:ab [10,36] E=j29 H)
  (hQ:∀E',find E' 45=Bo (!b)→ab [10,36] E'=j29 H→Q .nrm E' Z'):
  WB ⟨C,lk,H.length,[3,4,7,8]⟩ (.regN [10,36] [ kx 43 (um 10),kx 44 (.call 45 [.tmp 43]),kx 45 (.not (ux 44))]) Q E Z:=by
 unfold j29 at *;rw [ae,hE];simp [kc];refine hQ _ ?_ ?_
 ·simp [find]
 ·rfl
theorem r50 (hE:ab [10,36] E=j29 H)
  (hQ:∀E',find E' 50=Bo (!(rest==[]))→ab [10,36] E'=j29 H→Q .nrm E' (dH H S (dC g.t g.n g.k g.ps tv rest H.length S.length st.length pv steps) G)):
  WB ⟨C,lk,H.length,[3,4,7,8]⟩ (.regN [10,36] [ kx 46 (um 10),kx 47 (.nilc (ux 46)),kx 48 (.fldA 5 (ux 47)),kx 49 (.ld1 none (ux 48)),kx 50 (.bins .neq (ux 49) (.con (.val (.string ⟨#[]⟩))))]) Q E (dH H S (dC g.t g.n g.k g.ps tv rest H.length S.length st.length pv steps) G):=by
 have hd:=dH1 (H:=H) (S:=S) (D:=dC g.t g.n g.k g.ps tv rest H.length S.length st.length pv steps) (G:=G);generalize dH H S (dC g.t g.n g.k g.ps tv rest H.length S.length st.length pv steps) G=Z at *;unfold dC at hd;have h0:=kP rest;unfold j29 at *;rw [ae,hE];simp [hd,h0];refine hQ _ ?_ ?_
 ·simp [find]
 ·rfl
end
theorem sO {H Y:Heap}{g:Gm}{tv:AV}{o:Option (List Int×Nat)}{E:Env}(hE:ab [6] E=[(6,.val (.pointer none))])(ho:o=none):ui [.tmp 6] true H (fun v h=>h=H∧zN g tv o v) .ret E (H++Y):=by
 have h2:find E 6= .val (.pointer none):=by
  have:=congrArg (fun e=>find e 6) hE;simpa using this
 subst ho;rw [bm];simp [ck,h2,Hm.below];exact ⟨_,_,⟨rfl,rfl⟩,rfl,rfl⟩
theorem JJ {H:Heap}{g:Gm}{tv:AV}{T:Ss}(hT:TV tv T){S:List AV}{pv:AV}{l:List Int}{steps:Nat}{G:Heap}(hp:PV H.length l pv G)(hl:l.length≤1000000000){o:Option (List Int×Nat)}{E:Env}(hE:ab [6] E=[(6,.hp (H.length+1) 9 0)])(ho:o=some (l,steps)):
  ui [.tmp 6] true H (fun v h=>h=H∧zN g tv o v) .ret E (dH H S (dC g.t g.n g.k g.ps tv [] H.length S.length 0 pv steps) G):=by
 have h2:find E 6= .hp (H.length+1) 9 0:=by
  have:=congrArg (fun e=>find e 6) hE;simpa using this
 subst ho;obtain ⟨f1,f2⟩:=Gi (H:=H) (S:=S) (t:=g.t) (n:=g.n) (k:=g.k) (ps:=g.ps) hT hp (steps:=steps) hl;rw [bm];refine ⟨_,_,?_,rfl,rfl⟩;have htk:(dH H S (dC g.t g.n g.k g.ps tv [] H.length S.length 0 pv steps) G).take H.length=H:=by simp [dH]
 generalize dH H S (dC g.t g.n g.k g.ps tv [] H.length S.length 0 pv steps) G=Z at *;have hres:pH E Z [.tmp 6]=some (.hp (H.length+1) 9 0):=by simp [pH,fu,h2]
 unfold ck;simp only [hres];rw [if_pos trivial,f1];simp only;rw [if_pos f2,htk]
theorem DD {lk:Nat}{H:Heap}(hlk:lk≤H.length){g:Gm}(hg:GOk g){tv:AV}{T:Ss}(hT:TV tv T)(hTl:∀l∈T,l.length≤1000000000){F:Nat}(hF:F≤1000000){o:Option (List Int×Nat)}{E:Env}{s:List UInt8}(hs:s.length≤1000000)(hr:runM g T F s [g.t]=some o)
  (hE:ab [10,36] E=j29 H):
  WB ⟨ah X A,lk,H.length,[3,4,7,8]⟩ (.seq (.block 0 (.loop [10,36] B0)) (.seq (.seq (.regN [10,36] [ kx 46 (um 10),kx 47 (.nilc (ux 46)),kx 48 (.fldA 5 (ux 47)),kx 49 (.ld1 none (ux 48)),kx 50 (.bins .neq (ux 49) (.con (.val (.string ⟨#[]⟩))))]) (.cond (ux 50) (.seq (.regN [] [ kx 6 (.mv (.con (.val (.pointer none))))]) .ret) .skip)) (.seq (.regN [10,36] [ kx 51 (um 10),kx 6 (um 51)]) .ret))) (ui [.tmp 6] true H fun v h=>h=H∧zN g tv o v) E (dH H [I g.t] (dC g.t g.n g.k g.ps tv s H.length 1 1 .e0 0) []):=by
 rw [an,ar];refine ax (σ:=Heap×List UInt8×List Int×List Int×Nat×Nat) (fun _=>j29 H) (fun x=>x.1) (J29 H g tv T F o) (fun x=>x.2.2.2.2.2) ?_ (_,s,[g.t],[],0,F) ?_ hE rfl
 ·rintro ⟨Z,rest,st,l,steps,f⟩ hJ;obtain ⟨⟨S,pv,G,e,hm⟩,⟨r1,r2⟩,hf,hst,hl,hsy,hrest⟩:=hJ;simp only at e hm r1 r2 hf hst hl hsy hrest ⊢;subst e;unfold B0;rw [an,an];refine r42 rfl fun E1 g1 h1=>?_;rw [ak];cases st with
  | nil=>
   rw [decide_eq_false (by simp)] at g1
   rw [af (aW g1),dn,bG,cP,aI,if_pos rfl,ak,an,an];have r3:=r2 _ (by rw [runM])
   refine r50 h1 fun E2 g2 h2=>?_;rw [ak];by_cases hre:rest=[]
   ·subst hre;rw [if_pos rfl] at r3;rw [af (aW (by simpa using g2)),aC,ak,an,ae,h2]
    simp [j29,-ae];exact JJ hT hm.pv (by omega) rfl (by simpa using r3)
   ·rw [if_neg hre] at r3;have hb:(!(rest==[]))=true:=by simpa using hre
    rw [hb] at g2;rw [ai (aW g2),an,ae];simp [-ae];exact sO rfl (by simpa using r3)
  | cons x st=>
   rw [decide_eq_true (by simp)] at g1
   rw [ai (aW g1),aC,ak,ar,an];have hx:=hsy x (List.mem_cons_self ..);have hln:st.length≤10000000:=by simp only [List.length_cons] at hst;omega
   obtain ⟨v,Z',kc,hP⟩:=vc (lk:=lk) (L:=H.length) hlk (Nat.le_refl _) hg hT hTl hrest hx hln (l:=l) (by omega) (steps:=steps) (by omega) hm
   cases f with
   | zero=>exact absurd rfl (by rw [runM] at r1;exact r1)
   | succ f=>
    simp only [runM] at r1 r2;cases hq:qQ g T rest (x::st) with
    | none=>
     rw [hq] at hP r1 r2;obtain ⟨rfl,Y,rfl⟩:=hP;have r3:=r2 _ rfl;refine r45 kc h1 fun E2 g2 h2=>?_;rw [ak,ai (aW g2),an,ae];simp [-ae];exact sO rfl (by simpa using r3)
    | some y=>
     obtain ⟨rest',st',q⟩:=y;have hk:=w6 hg hq hsy;rw [hq] at hP r1 r2;obtain ⟨rfl,S',pv',G',rfl,hm'⟩:=hP;refine r45 kc h1 fun E2 g2 h2=>?_;rw [ak,af (aW g2),aC,bi,ao];refine ⟨(_,rest',st',l++q,steps+1,f),⟨⟨S',pv',G',rfl,hm'⟩,⟨?_,?_⟩,?_,?_,?_,hk.2.2.1,?_⟩,?_,h2,rfl⟩
     ·intro e;simp only at e r1;rw [e] at r1;exact r1 rfl
     ·intro o' e;simp only at e r2;have:=r2 _ (by rw [e];rfl)
      rw [this];cases o' with
      | none=>rfl
      | some y=>simp;omega
     ·simp only;omega
     ·simp only;have:=hk.1;simp only [List.length_cons] at hst;omega
     ·simp only [List.length_append];have:=hk.2.1;omega
     ·simp only;have:=hk.2.2.2;omega
     ·simp only;omega
 ·refine ⟨⟨[I g.t],.e0,[],rfl,⟨by simp,rfl,.inl ⟨rfl,rfl⟩⟩⟩,⟨?_,?_⟩,?_,?_,?_,?_,hs⟩
  ·simp only;rw [hr];simp
  ·intro o' e;simp only at e;rw [hr] at e;simp only [Option.some.injEq] at e;subst e;cases o with
   | none=>rfl
   | some y=>simp
  ·simp only;omega
  ·simp
  ·simp
  ·intro y hy;have:=hg.t1;have:=hg.n1;simp only [List.mem_singleton] at hy;subst hy;omega
end Go.Proofs.YtkllbcjanneppaaGreat

namespace Go.Proofs.YtkllbcjanneppaaGreat
open Go Go.Hm

section
variable {C:Orc}{Q:Ex→Kt}{E:Env}{lk L:Nat}{H:Heap}{t gn k:Int}{ps:List Pr}{tv tw:AV}{s:List UInt8}{e:Int}{c:Int}{b:Bool}
abbrev g29 (t gn k:Int)(ps:List Pr)(tv:AV)(s:List UInt8):Env:=[(2,Sg s),(3,.box [I t,I gn,I k,.sl ps.length (psC ps)]),(4,.box [tv])]
theorem k18 (htv:tv= .e0∨∃m cs,tv= .sl m cs)(ka:C lk L 31 [.agg [I t,I gn,I k,.sl ps.length (psC ps)]] H=some (I e,H))(kc:C lk L 16 [.agg [I t,I gn,I k,.sl ps.length (psC ps)]] H=some (I c,H))
  (hE:ab [2,3,4] E=g29 t gn k ps tv s)
  (hQ:∀E',find E' 18=Bo (!(decide (e=0∧c≤65536)))→ab [2,3,4] E'=g29 t gn k ps tv s→Q .nrm E' H):
  WB ⟨C,lk,L,[3,4,7,8]⟩ (.regN [2,3,4] [ kx 11 (.ldA (some 3) 4 (ux 3)),kx 12 (.call 31 [.tmp 11]),kx 13 (.bini .neq (ux 12) c0),kx 14 (um 13),kz 15 14 (.ldA (some 3) 4 (ux 3)),kz 16 14 (.call 16 [.tmp 15]),kz 17 14 (.bini .gtr (ux 16) (.con (.val (.int .i64 65536)))),kx 18 (.pick (ux 14) cT (ux 17))]) Q E H:=by
 rw [ae,hE];rcases htv with rfl | ⟨m,cs,rfl⟩;all_goals
  by_cases he:e=0
  ·subst he;by_cases hc:c≤65536
   ·have hc2:¬65536 < c:=by omega
    simp [ka,kc,hc2];refine hQ _ ?_ ?_
    ·simp [find,hc,hc2]
    ·rfl
   ·have hc2:65536 < c:=by omega
    simp [ka,kc,hc2];refine hQ _ ?_ ?_
    ·simp [find,hc,hc2]
    ·rfl
  ·have he2:(e != 0)=true:=by simpa using he
   simp [ka,he2];refine hQ _ ?_ ?_
   ·simp [find,he,he2]
   ·rfl
theorem k9 {w x y z:AV}(htv:tv= .e0∨∃m cs,tv= .sl m cs)(htw:tw= .e0∨∃m cs,tw= .sl m cs){l a b':Nat}{xr:List UInt8}(kb:C lk L 43 [.agg [I t,I gn,I k,.sl ps.length (psC ps)]] H=some (.tup [.agg [tw],.agg [I l,I a,I b',Sg xr],I e],H))
  (hE:ab [2,3,4] E=g29 t gn k ps tv s)
  (hQ:∀E',ab [2,3,4,7] E'=g29 t gn k ps tv s++[(7,.box [tw])]→Q .nrm E' H):
  WB ⟨C,lk,L,[3,4,7,8]⟩ (.regN [2,3,4] [ kx 20 (.ldA (some 3) 4 (ux 3)),kx 21 (.call 43 [.tmp 20]),kx 19 (um 21),kx 22 (.ext (ux 19) 0),kx 23 (.ext (ux 19) 1),kx 24 (.ext (ux 19) 2),kx 7 (.allocR [.e0]),kx 8 (.allocR [(.val (.int .i64 0)),(.val (.int .i64 0)),(.val (.int .i64 0)),(.val (.string ⟨#[]⟩))]),kn (.st (some 7) 1 (ux 7) (ux 22)),kn (.st (some 8) 4 (ux 8) (ux 23)),kx 9 (um 24)]) Q E H:=by
 rw [ae,hE];rcases htv with rfl | ⟨m,cs,rfl⟩;all_goals
  rcases htw with rfl | ⟨m2,cs2,rfl⟩;all_goals
   simp [kb,aj];refine hQ _ ?_;rfl
theorem k28 (htv:tv= .e0∨∃m cs,tv= .sl m cs)(htw:tw= .e0∨∃m cs,tw= .sl m cs)(ks:C lk L 44 [.agg [tw],.agg [tv]] H=some (Bo b,H))
  (hE:ab [2,3,4,7] E=g29 t gn k ps tv s++[(7,.box [tw])])
  (hQ:∀E',find E' 28=Bo (!b)→ab [2,3,4] E'=g29 t gn k ps tv s→Q .nrm E' H):
  WB ⟨C,lk,L,[3,4,7,8]⟩ (.regN [2,3,4,7] [ kx 25 (.ldA (some 7) 1 (ux 7)),kx 26 (.ldA (some 4) 1 (ux 4)),kx 27 (.call 44 [(ux 25),(ux 26)]),kx 28 (.not (ux 27))]) Q E H:=by
 rw [ae,hE];rcases htv with rfl | ⟨m,cs,rfl⟩;all_goals
  rcases htw with rfl | ⟨m2,cs2,rfl⟩;all_goals
   simp [ks];refine hQ _ ?_ ?_
   ·simp [find]
   ·rfl
theorem k10 (htv:tv= .e0∨∃m cs,tv= .sl m cs)(hE:ab [2,3,4] E=g29 t gn k ps tv s)
  (hQ:∀E',ab [10,36] E'=j29 H→Q .nrm E' (dH H [I t] (dC t gn k ps tv s H.length 1 1 .e0 0) [])):
  WB ⟨C,lk,L,[3,4,7,8]⟩ (.regN [2,3,4] [ kx 29 (.ldA (some 3) 4 (ux 3)),kx 30 (.ldA (some 4) 1 (ux 4)),kx 31 (um 2),kx 32 (.fldA 0 (ux 3)),kx 33 (.ld1 (some 3) (ux 32)),kx 34 (.buildH 1 1 [(.val (.int .i64 0))] [(0,1,(ux 33))]),kx 35 (.build [(.val (.int .i64 0)),(.val (.int .i64 0)),(.val (.int .i64 0)),.e0,.e0,(.val (.string ⟨#[]⟩)),.e0,.e0,(.val (.int .i64 0))] [(0,4,(ux 29)),(4,1,(ux 30)),(5,1,(ux 31)),(6,1,(ux 34))]),kx 36 (.boxH 9 (ux 35)),kx 10 (um 36)]) Q E H:=by
 have e1:dH H [I t] (dC t gn k ps tv s H.length 1 1 .e0 0) []=H++[.cells [I t],.cells [I t,I gn,I k,.sl ps.length (psC ps),tv,Sg s,.hs H.length 1 0 1 1,.e0,I 0]]:=rfl;rw [e1] at hQ;unfold j29 at hQ;rw [ae,hE];rcases htv with rfl | ⟨m,cs,rfl⟩;all_goals
  simp [aj];refine hQ _ ?_;rfl
end
theorem pn {lk lim:Nat}{H:Heap}(hlk:lk≤H.length)(g:Gm)(hl:g.ps.length≤1000000)(hr:∀p∈g.ps,p.r.length≤1000000){tv:AV}{T:Ss}(hT:TV tv T)(s:List UInt8)(hs:s.length≤1000000){F:Nat}(hF:F≤1000000){o:Option (List Int×Nat)}
  (hrun:dU g=0→runM g (bD g) F s [g.t]=some o):
  ∃v,ah X A lk lim 29 [gV g,.agg [tv],Sg s] H=some (v,H)∧zN g tv (jY g T o) v:=by
 have main:∃v h',ah X A lk lim 29 [gV g,.agg [tv],Sg s] H=some (v,h')∧(h'=H∧zN g tv (jY g T o) v):=by
  have ka:=fun (L:Nat)=>iZ (lk:=lk) (lim:=L) hlk g hl hr;have kc:=fun (L:Nat)=>hU (lk:=lk) (lim:=L) hlk g hl hr;obtain ⟨tw,kb,hTw⟩:=mM (lim:=H.length) hlk g hl hr;obtain ⟨l,a,b,x,hx⟩:=nc (iT g);rw [hx] at kb;have nz:∀{v:AV} {S:Ss},TV v S→v= .e0∨∃m cs,v= .sl m cs:=fun h=>by
   rcases h with ⟨rfl,_⟩ | ⟨cs,rfl,_⟩
   ·exact .inl rfl
   ·exact .inr ⟨_,_,rfl⟩
  have n1:=nz hT;have n2:=nz hTw;refine dk [3,4,7,8] rfl A29 rfl rfl ?_;show WB ⟨ah X A,lk,H.length,[3,4,7,8]⟩ IT (ui [.tmp 6] true H fun v h=>h=H∧zN g tv (jY g T o) v) (aZ 0 [gV g,.agg [tv],Sg s]) H;unfold IT;rw [an];have hstart:∀(Q:Ex→Kt),(∀E',ab [2,3,4] E'=g29 g.t g.n g.k g.ps tv s→Q .nrm E' H)→WB ⟨ah X A,lk,H.length,[3,4,7,8]⟩ (.regN [0,1,2] [ kx 3 (.boxR 4 (ux 0)),kx 4 (.boxR 1 (ux 1)),kx 6 (.mv (.con (.val (.pointer none))))]) Q (aZ 0 [gV g,.agg [tv],Sg s]) H:=by
   intro Q hQ;generalize ah X A=C at *;rcases n1 with rfl | ⟨m,cs,rfl⟩;all_goals
    rw [ae];simp [gV,Gm.cells];refine hQ _ ?_;rfl
  refine hstart _ fun E1 h1=>?_;rw [ak,an,an];refine k18 n1 (ka _) (kc _) h1 fun E2 g2 h2=>?_;rw [ak];by_cases hacc:dU g=0∧wX g≤65536;case neg=>
   rw [decide_eq_false hacc] at g2;rw [ai (aW g2),an,ae];simp [-ae];have ho:jY g T o=none:=by
    unfold jY;rw [if_neg];rintro ⟨q1,q2,-⟩;exact hacc ⟨q1,by rw [show wX g=sJ g from if_pos q1];exact q2⟩
   have:=sO (H:=H) (Y:=[]) (g:=g) (tv:=tv) (o:=jY g T o) (E:=[(6,.val (.pointer none))]) rfl ho;rw [List.append_nil] at this;exact this
  rw [decide_eq_true hacc] at g2;rw [af (aW g2),aC,ak,an,an];have ha:=pf hacc.1;have hg:=ha.ok;have hbt:fR g=bD g:=if_pos ((k8 ha.chk).2 ha.conf);rw [hbt] at hTw;have hlk2:∀l∈bD g,l.length≤1000000000:=fun l h=>Nat.le_trans (iS hg h) (by decide)
  have ks:=uL (lk:=lk) (lim:=H.length) (H:=H) hTw hT (by rw [gw];omega) hlk2
  refine k9 (w:=.e0) (x:=.e0) (y:=.e0) (z:=.e0) n1 n2 kb h2 fun E3 h3=>?_;rw [ak,an];refine k28 n1 n2 ks h3 fun E4 g4 h4=>?_;rw [ak];by_cases hTT:bD g=T;case neg=>
   rw [decide_eq_false hTT] at g4;rw [ai (aW g4),an,ae];simp [-ae];have ho:jY g T o=none:=by
    unfold jY;rw [if_neg];rintro ⟨q1,q2,q3⟩;exact hTT q3
   have:=sO (H:=H) (Y:=[]) (g:=g) (tv:=tv) (o:=jY g T o) (E:=[(6,.val (.pointer none))]) rfl ho;rw [List.append_nil] at this;exact this
  rw [decide_eq_true hTT] at g4;rw [af (aW g4),aC,ak,an];have ho:jY g T o=o:=if_pos ⟨hacc.1,by rw [←show wX g=sJ g from if_pos hacc.1];exact hacc.2,hTT⟩
  rw [ho];subst hTT;refine k10 n1 h4 fun E5 h5=>?_;rw [ak];exact DD hlk hg hT hlk2 hF hs (hrun hacc.1) h5
 obtain ⟨v,h',h1,rfl,h2⟩:=main;exact ⟨v,h1,h2⟩
end Go.Proofs.YtkllbcjanneppaaGreat

namespace Go.Proofs.YtkllbcjanneppaaGreat
open Go Go.Hm

def Gj (o:Option (List Int×Nat)):AV:=match o with
 | none=>.tup [.e0,Bo false]
 | some (l,_)=>.tup [iW l,Bo true]
def Gk (o:Option (List Int×Nat)):AV:=match o with
 | none=>.tup [I 0,Bo false]
 | some (_,n)=>.tup [I n,Bo true]
theorem L7:xe (.val (.pointer none)) (.val (.pointer none))=some true:=rfl
theorem JK (cs:List AV):xe (.rop cs 0) (.val (.pointer none))=some false:=rfl
theorem L8 (l:List Int):iW l= .e0∨∃cs,iW l= .sl cs.length cs∧belowL 0 cs=true:=by
 unfold iW;split
 ·exact .inl rfl
 ·exact .inr ⟨ints l,by simp,by simp⟩
section
variable {lk lim:Nat}{H:Heap}(hlk:lk≤H.length)(g:Gm)(hl:g.ps.length≤1000000)(hr:∀p∈g.ps,p.r.length≤1000000){tv:AV}{T:Ss}(hT:TV tv T)(s:List UInt8)(hs:s.length≤1000000){F:Nat}(hF:F≤1000000){o:Option (List Int×Nat)}
 (hrun:dU g=0→runM g (bD g) F s [g.t]=some o)
include hlk hl hr hT hs hF hrun
theorem pF:ah X A lk lim 11 [gV g,.agg [tv],Sg s] H=some (Gj (jY g T o),H):=by
 obtain ⟨v,k,hv⟩:=pn (lim:=H.length) hlk g hl hr hT s hs hF hrun;refine aq [3,4] rfl A11 rfl rfl ?_;unfold KD;generalize jY g T o=r at *;generalize ah X A=C at *;have n1:tv= .e0∨∃m cs,tv= .sl m cs:=by
  rcases hT with ⟨rfl,_⟩ | ⟨cs,rfl,_⟩
  ·exact .inl rfl
  ·exact .inr ⟨_,_,rfl⟩
 obtain ⟨t,n,kk,ps⟩:=g;simp only [gV,Gm.cells] at k ⊢;rcases r with _ | ⟨l,m⟩
 ·have hv:v= .val (.pointer none):=hv;subst hv;rcases n1 with rfl | ⟨m,cs,rfl⟩;all_goals
   simp [k,Gj,L7]
 ·have hv:v= .rop [I t,I n,I kk,.sl ps.length (psC ps),tv,Sg [],.sl 0 [],iW l,I m] 0:=hv;subst hv;have hw:=L8 l;simp only [Gj];generalize iW l=w at *;rcases n1 with rfl | ⟨m,cs,rfl⟩;all_goals
   rcases hw with rfl | ⟨ds,rfl,hb⟩
   ·simp [k,JK]
   ·simp [k,JK,hb,Hm.below]
theorem sP:ah X A lk lim 19 [gV g,.agg [tv],Sg s] H=some (Gk (jY g T o),H):=by
 obtain ⟨v,k,hv⟩:=pn (lim:=H.length) hlk g hl hr hT s hs hF hrun;refine aq [3,4] rfl A19 rfl rfl ?_;unfold Lh;generalize jY g T o=r at *;generalize ah X A=C at *;have n1:tv= .e0∨∃m cs,tv= .sl m cs:=by
  rcases hT with ⟨rfl,_⟩ | ⟨cs,rfl,_⟩
  ·exact .inl rfl
  ·exact .inr ⟨_,_,rfl⟩
 obtain ⟨t,n,kk,ps⟩:=g;simp only [gV,Gm.cells] at k ⊢;rcases r with _ | ⟨l,m⟩
 ·have hv:v= .val (.pointer none):=hv;subst hv;rcases n1 with rfl | ⟨m,cs,rfl⟩;all_goals
   simp [k,Gk,L7]
 ·have hv:v= .rop [I t,I n,I kk,.sl ps.length (psC ps),tv,Sg [],.sl 0 [],iW l,I m] 0:=hv;subst hv;simp only [Gk];generalize iW l=w at *;rcases n1 with rfl | ⟨m,cs,rfl⟩;all_goals
   simp [k,JK]
end
end Go.Proofs.YtkllbcjanneppaaGreat

namespace Go.Proofs.YtkllbcjanneppaaGreat
open Go Go.Hm

theorem yg:dU exC=0:=F9.2 wY
theorem yh:runM exC (bD exC) 10 [0,0] [exC.t]=some (some ([0,0,1],5)):=by decide+kernel
theorem DE {lim:Nat}:ah X A 0 lim 9 [] []=some (Bo true,[]):=by
 have hl:exC.ps.length≤1000000:=by show 2≤1000000;omega
 have hr:∀p∈exC.ps,p.r.length≤1000000:=fun p hp=>by
  simp [exC] at hp;rcases hp with rfl | rfl<;>simp
 have k10:=fun (L:Nat)=>zK (lk:=0) (lim:=L) (H:=[]);obtain ⟨tv,k12,hT⟩:=sK (lk:=0) (lim:=0) (H:=[]) (Nat.le_refl _) exC hl hr;have hbt:fR exC=bD exC:=if_pos ((k8 wY.chk).2 wY.conf);rw [hbt] at hT;have ho:jY exC (bD exC) (some ([0,0,1],5))=some ([0,0,1],5):=if_pos ⟨yg,by rw [yc];decide,rfl⟩
 have k11:=pF (lk:=0) (lim:=0) (H:=[]) (Nat.le_refl _) exC hl hr hT [0,0] (by decide) (F:=10) (by decide) fun _=>yh
 have k19:=sP (lk:=0) (lim:=0) (H:=[]) (Nat.le_refl _) exC hl hr hT [0,0] (by decide) (F:=10) (by decide) fun _=>yh
 have k16:=hU (lk:=0) (lim:=0) (H:=[]) (Nat.le_refl _) exC hl hr;have k13:=u5 (lk:=0) (lim:=0) (H:=[]) (a:=[0,0,1]) (b:=[0,0,1]) (.inl rfl) (.inl rfl) (by decide)
 rw [ho] at k11 k19;rw [show wX exC=4 from (if_pos yg).trans yc] at k16;rw [show Gj (some ([0,0,1],5))= .tup [.sl 3 [I 0,I 0,I 1],Bo true] from rfl] at k11;rw [show Gk (some ([0,0,1],5))= .tup [I 5,Bo true] from rfl] at k19;rw [show iV [0,0,1]= .sl 3 [I 0,I 0,I 1] from rfl,decide_eq_true rfl] at k13;have n1:tv= .e0∨∃m cs,tv= .sl m cs:=by
  rcases hT with ⟨rfl,_⟩ | ⟨cs,rfl,_⟩
  ·exact .inl rfl
  ·exact .inr ⟨_,_,rfl⟩
 refine aq [] rfl A9 rfl rfl ?_;unfold t9B;clear hT ho hl hr hbt;have k10:=k10 0;simp only [gV,Gm.cells] at k10 k12 k11 k19 k16;generalize exC=g at *;obtain ⟨t,n,kk,ps⟩:=g;simp only at k10 k12 k11 k19 k16;generalize ah X A=C at *;have e0:(⟨#[0,0]⟩:ByteArray)=⟨⟨[0,0]⟩⟩:=rfl;simp only [Sg] at k11 k19;rw [e0];clear e0;generalize (⟨⟨[0,0]⟩⟩:ByteArray)=sb at *;rcases n1 with rfl | ⟨m,cs,rfl⟩;all_goals
  rw [an,ae];simp [-ae];rw [ae];simp [-ae,k10,k12,k11];rw [ae];simp [-ae,k10,k12,k19];rw [ae];simp [k10,k16,k13,aj]
end Go.Proofs.YtkllbcjanneppaaGreat
