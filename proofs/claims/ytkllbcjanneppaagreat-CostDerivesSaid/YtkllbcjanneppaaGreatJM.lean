import Derived.Test.YtkllbcjanneppaaGreatJL
import Derived.Test.YtkllbcjanneppaaGreatHA
set_option maxRecDepth 20000
set_option linter.unusedSimpArgs false
set_option linter.unusedVariables false
namespace Go.Proofs.YtkllbcjanneppaaGreat
open Go Go.Hm

def iW (l:List Int):AV:=if l=[] then .e0 else .sl l.length (ints l)
def Cq (g:Gm)(tv:AV)(o:Option (List Int×Nat))(v:AV):Prop:=match o with
 | none=>v= .val (.pointer none)
 | some (l,n)=>v= .rop [I g.t,I g.n,I g.k,.sl g.ps.length (psC g.ps),tv,Sg [],.sl 0 [],iW l,I n] 0
def jN (g:Gm)(T:Ss)(o:Option (List Int×Nat)):Option (List Int×Nat):=if cN g=0/\ce g<=65536/\aK g=T then o else none
theorem Mw {tv:AV}{T:Ss}(h:TV tv T)(lim:Nat)(H:Heap)(d:Nat):frz lim H d tv=some tv/\Hm.below 0 tv=true:=by
 rcases h with ⟨rfl,_⟩ | ⟨cs,rfl,hs⟩
 ·exact ⟨tV ..,rfl⟩
 ·exact ⟨tW ..,by simp [Hm.below,(iR lim H 0 hs).2]⟩
theorem Jj {H:Heap}{S:List AV}{t n k:Int}{ps:List Pr}{tv:AV}{T:Ss}(hT:TV tv T){pv:AV}{l:List Int}{steps:Nat}{G:Heap}(hp:PV H.length l pv G)(hl:l.length<=1000000000):
  frz H.length (dH H S (dC t n k ps tv [] H.length S.length 0 pv steps) G) 8 (.hp (H.length+1) 9 0)=some (.rop [I t,I n,I k,.sl ps.length (psC ps),tv,Sg [],.sl 0 [],iW l,I steps] 0)/\below H.length (.rop [I t,I n,I k,.sl ps.length (psC ps),tv,Sg [],.sl 0 [],iW l,I steps] 0)=true:=by
 obtain ⟨h1,h2⟩:=Mw hT H.length (dH H S (dC t n k ps tv [] H.length S.length 0 pv steps) G) 7;have hlt:¬(H.length+1 < H.length):=by omega
 have hps:belowL 0 (psC ps)=true:=by
  clear h1;induction ps with
  | nil=>rfl
  | cons p ps ih=>
   have e:psC (p::ps)=I p.l:: .sl p.r.length (ints p.r)::psC ps:=rfl;rw [e];simp [belowL,Hm.below,ih]
 have hdc:dC t n k ps tv [] H.length S.length 0 pv steps=[I t,I n,I k,.sl ps.length (psC ps),tv,Sg [],.hs H.length S.length 0 0 1,pv,I steps]:=rfl;have hst:frz H.length (dH H S (dC t n k ps tv [] H.length S.length 0 pv steps) G) 7 (.hs H.length S.length 0 0 1)=some (.sl 0 []):=by
  simp [frz,bh,dH0,ep,belowL]
 have hpv:frz H.length (dH H S (dC t n k ps tv [] H.length S.length 0 pv steps) G) 7 pv=some (iW l)/\Hm.below 0 (iW l)=true:=by
  unfold iW;rcases hp with ⟨rfl,rfl⟩ | ⟨j,rfl,hj,hne⟩
  ·exact ⟨by rw [if_pos rfl];exact tV ..,by rw [if_pos rfl];rfl⟩
  ·rw [if_neg hne];have hlt2:¬(H.length+2+j < H.length):=by omega
   refine ⟨?_,by simp [Hm.below]⟩
   simp [frz,bh,dHG,hj,hlt2]
 refine ⟨?_,?_⟩
 ·rw [frz,if_neg hlt,dH1];simp only;rw [if_pos ⟨rfl,by omega⟩,List.drop_zero,hdc]
  rw [hdc] at hst hpv h1;generalize dH H S [I t,I n,I k,.sl ps.length (psC ps),tv,Sg [],.hs H.length S.length 0 0 1,pv,I steps] G=Z at *;have hm:ep (frz H.length Z 7) [I t,I n,I k,.sl ps.length (psC ps),tv,Sg [],.hs H.length S.length 0 0 1,pv,I steps]=some [I t,I n,I k,.sl ps.length (psC ps),tv,Sg [],.sl 0 [],iW l,I steps]:=by
   simp only [ep,gC,tW,h1,hst,hpv.1]
  rw [hm];simp only;rw [if_pos (by simp [belowL,Hm.below,h2,hps,hpv.2])]
 ·have up:∀v:AV,Hm.below 0 v=true->Hm.below H.length v=true:=fun v h=>cY (Nat.zero_le _) v h;have hw:=up _ hpv.2;have ht:=up _ h2;have hp2:belowL H.length (psC ps)=true:=dP (Nat.zero_le _) _ hps;simp [belowL,Hm.below,hw,ht,hp2]

def j29 (H:Heap):Env:=[(10,.hp (H.length+1) 9 0),(36,.hp (H.length+1) 9 0)]
structure J29 (H:Heap)(g:Gm)(tv:AV)(T:Ss)(F:Nat)(o:Option (List Int×Nat))(x:Heap×List UInt8×List Int×List Int×Nat×Nat):Prop where
 z:∃S pv G,x.1=dH H S (dC g.t g.n g.k g.ps tv x.2.1 H.length S.length x.2.2.1.length pv x.2.2.2.2.1) G/\DM H.length S x.2.2.1 x.2.2.2.1 pv G
 r:runM g T x.2.2.2.2.2 x.2.1 x.2.2.1≠none/\∀o',runM g T x.2.2.2.2.2 x.2.1 x.2.2.1=some o'->o=o'.map fun y=>(x.2.2.2.1++y.1,x.2.2.2.2.1+y.2)
 f:x.2.2.2.2.1+x.2.2.2.2.2<=F
 st:x.2.2.1.length<=1+8 * x.2.2.2.2.1
 l:x.2.2.2.1.length<=x.2.2.2.2.1
 s:∀y∈x.2.2.1,0<=y/\y < g.t+g.n
 rest:x.2.1.length<=1000000
theorem zf {g:Gm}(hg:GOk g){T:Ss}{rest rest':List UInt8}{x:Int}{st st' q:List Int}(h:stepM g T rest (x::st)=some (rest',st',q))(hs:∀y∈x::st,0<=y/\y < g.t+g.n):
  st'.length<=st.length+8/\q.length<=1/\(∀y∈st',0<=y/\y < g.t+g.n)/\rest'.length<=rest.length:=by
 have hst:∀y∈st,0<=y/\y < g.t+g.n:=fun y hy=>hs y (List.mem_cons_of_mem _ hy);simp only [stepM] at h;split at h
 ·split at h
  ·cases h
  ·split at h
   ·simp only [Option.some.injEq,Prod.mk.injEq] at h;obtain ⟨rfl,rfl,rfl⟩:=h;exact ⟨by omega,by simp,hst,by simp⟩
   ·cases h
 ·rcases iZ (g:=g) T (x - g.t) (rwK rest g.k) with hneg | ⟨i,hi,hpi,-,-⟩
  ·rw [hneg,if_pos (by omega)] at h
   cases h
  ·rw [hpi,if_neg (by omega),Int.toNat_natCast] at h
   simp only [Option.some.injEq,Prod.mk.injEq] at h;obtain ⟨rfl,rfl,rfl⟩:=h;have hp:=hg.p _ (bW hi);have h8:=hp.len;exact ⟨by rw [List.length_append];omega,by simp,fun y hy=>by
    rcases List.mem_append.1 hy with hy | hy
    ·exact hp.s y hy
    ·exact hst y hy,Nat.le_refl _⟩
section
variable {C:Orc}{Q:Ex->Kt}{E:Env}{lk:Nat}{H Z:Heap}{g:Gm}{tv pv:AV}{T:Ss}{rest:List UInt8}{st l:List Int}{steps:Nat}{S:List AV}{G:Heap}
theorem r42 (hE:ab [10,36] E=j29 H)
  (hQ:∀E',find E' 42=Bo (decide (0 < st.length))->ab [10,36] E'=j29 H->Q .nrm E' (dH H S (dC g.t g.n g.k g.ps tv rest H.length S.length st.length pv steps) G)):
  WB ⟨C,lk,H.length,[3,4,7,8]⟩ (.regN [10,36] [ kM 37 10,kx 38 (.nilc (ux 37)),kF 39 6 38,kL 40 39,kN 41 40,kx 42 (.bini .gtr (ux 41) c0)]) Q E (dH H S (dC g.t g.n g.k g.ps tv rest H.length S.length st.length pv steps) G):=by
 have hd:=dH1 (H:=H) (S:=S) (D:=dC g.t g.n g.k g.ps tv rest H.length S.length st.length pv steps) (G:=G);generalize dH H S (dC g.t g.n g.k g.ps tv rest H.length S.length st.length pv steps) G=Z at *;unfold dC at hd;unfold j29 at *;rw [ae,hE];simp [hd];refine hQ _ ?_ ?_
 ·simp [find]
 ·rfl
theorem r45 {b:Bool}{Z':Heap}(kc:C lk H.length 45 [.hp (H.length+1) 9 0] Z=some (Bo b,Z'))(hE:ab [10,36] E=j29 H)
  (hQ:∀E',find E' 45=Bo (!b)->ab [10,36] E'=j29 H->Q .nrm E' Z'):
  WB ⟨C,lk,H.length,[3,4,7,8]⟩ (.regN [10,36] [ kM 43 10,kC 44 45 43,kx 45 (.not (ux 44))]) Q E Z:=by
 unfold j29 at *;rw [ae,hE];simp [kc];refine hQ _ ?_ ?_
 ·simp [find]
 ·rfl
theorem r50 (hE:ab [10,36] E=j29 H)
  (hQ:∀E',find E' 50=Bo (!(rest==[]))->ab [10,36] E'=j29 H->Q .nrm E' (dH H S (dC g.t g.n g.k g.ps tv rest H.length S.length st.length pv steps) G)):
  WB ⟨C,lk,H.length,[3,4,7,8]⟩ (.regN [10,36] [ kM 46 10,kx 47 (.nilc (ux 46)),kF 48 5 47,kL 49 48,kx 50 (.bins .neq (ux 49) (.con (.val (.string ⟨#[]⟩))))]) Q E (dH H S (dC g.t g.n g.k g.ps tv rest H.length S.length st.length pv steps) G):=by
 have hd:=dH1 (H:=H) (S:=S) (D:=dC g.t g.n g.k g.ps tv rest H.length S.length st.length pv steps) (G:=G);generalize dH H S (dC g.t g.n g.k g.ps tv rest H.length S.length st.length pv steps) G=Z at *;unfold dC at hd;have h0:=ml rest;unfold j29 at *;rw [ae,hE];simp [hd,h0];refine hQ _ ?_ ?_
 ·simp [find]
 ·rfl
end
theorem uY {H Y:Heap}{g:Gm}{tv:AV}{o:Option (List Int×Nat)}{E:Env}(hE:ab [6] E=[(6,.val (.pointer none))])(ho:o=none):wB [.tmp 6] true H (fun v h=>h=H/\Cq g tv o v) .ret E (H++Y):=by
 have h2:find E 6= .val (.pointer none):=by
  have:=congrArg (fun e=>find e 6) hE;simpa using this
 subst ho;rw [bt];simp [cB,h2,Hm.below];exact ⟨_,_,⟨rfl,rfl⟩,rfl,rfl⟩
theorem My {H:Heap}{g:Gm}{tv:AV}{T:Ss}(hT:TV tv T){S:List AV}{pv:AV}{l:List Int}{steps:Nat}{G:Heap}(hp:PV H.length l pv G)(hl:l.length<=1000000000){o:Option (List Int×Nat)}{E:Env}(hE:ab [6] E=[(6,.hp (H.length+1) 9 0)])(ho:o=some (l,steps)):
  wB [.tmp 6] true H (fun v h=>h=H/\Cq g tv o v) .ret E (dH H S (dC g.t g.n g.k g.ps tv [] H.length S.length 0 pv steps) G):=by
 have h2:find E 6= .hp (H.length+1) 9 0:=by
  have:=congrArg (fun e=>find e 6) hE;simpa using this
 subst ho;obtain ⟨f1,f2⟩:=Jj (H:=H) (S:=S) (t:=g.t) (n:=g.n) (k:=g.k) (ps:=g.ps) hT hp (steps:=steps) hl;rw [bt];refine ⟨_,_,?_,rfl,rfl⟩;have htk:(dH H S (dC g.t g.n g.k g.ps tv [] H.length S.length 0 pv steps) G).take H.length=H:=by simp [dH]
 generalize dH H S (dC g.t g.n g.k g.ps tv [] H.length S.length 0 pv steps) G=Z at *;have hres:rI E Z [.tmp 6]=some (.hp (H.length+1) 9 0):=by simp [rI,gu,h2]
 unfold cB;simp only [hres];rw [if_pos trivial,f1];simp only;rw [if_pos f2,htk]
theorem Gl {lk:Nat}{H:Heap}(hlk:lk<=H.length){g:Gm}(hg:GOk g){tv:AV}{T:Ss}(hT:TV tv T)(hTl:∀l∈T,l.length<=1000000000){F:Nat}(hF:F<=1000000){o:Option (List Int×Nat)}{E:Env}{s:List UInt8}(hs:s.length<=1000000)(hr:runM g T F s [g.t]=some o)
  (hE:ab [10,36] E=j29 H):
  WB ⟨aj X A,lk,H.length,[3,4,7,8]⟩ (.seq (.block 0 (.loop [10,36] Eu)) (.seq (.seq (.regN [10,36] [ kx 46 (um 10),kx 47 (.nilc (ux 46)),kx 48 (.fldA 5 (ux 47)),kx 49 (.ld1 none (ux 48)),kx 50 (.bins .neq (ux 49) (.con (.val (.string ⟨#[]⟩))))]) (.cond (ux 50) (.seq (.regN [] [ kx 6 (.mv (.con (.val (.pointer none))))]) .ret) .skip)) (.seq (.regN [10,36] [ kx 51 (um 10),kx 6 (um 51)]) .ret))) (wB [.tmp 6] true H fun v h=>h=H/\Cq g tv o v) E (dH H [I g.t] (dC g.t g.n g.k g.ps tv s H.length 1 1 .e0 0) []):=by
 rw [ai,ap];refine ax (σ:=Heap×List UInt8×List Int×List Int×Nat×Nat) (fun _=>j29 H) (fun x=>x.1) (J29 H g tv T F o) (fun x=>x.2.2.2.2.2) ?_ (_,s,[g.t],[],0,F) ?_ hE rfl
 ·rintro ⟨Z,rest,st,l,steps,f⟩ hJ;obtain ⟨⟨S,pv,G,e,hm⟩,⟨r1,r2⟩,hf,hst,hl,hsy,hrest⟩:=hJ;simp only at e hm r1 r2 hf hst hl hsy hrest |-;subst e;unfold Eu;rw [ai,ai];refine r42 rfl fun E1 g1 h1=>?_;rw [ah];cases st with
  | nil=>
   rw [decide_eq_false (by simp)] at g1
   rw [af (aI g1),bT,a8,bQ,aG,if_pos rfl,ah,ai,ai];have r3:=r2 _ (by rw [runM])
   refine r50 h1 fun E2 g2 h2=>?_;rw [ah];by_cases hre:rest=[]
   ·subst hre;rw [if_pos rfl] at r3;rw [af (aI (by simpa using g2)),aA,ah,ai,ae,h2]
    simp [j29,-ae];exact My hT hm.pv (by omega) rfl (by simpa using r3)
   ·rw [if_neg hre] at r3;have hb:(!(rest==[]))=true:=by simpa using hre
    rw [hb] at g2;rw [ak (aI g2),ai,ae];simp [-ae];exact uY rfl (by simpa using r3)
  | cons x st=>
   rw [decide_eq_true (by simp)] at g1
   rw [ak (aI g1),aA,ah,ap,ai];have hx:=hsy x (List.mem_cons_self ..);have hln:st.length<=10000000:=by simp only [List.length_cons] at hst;omega
   obtain ⟨v,Z',kc,hP⟩:=xp (lk:=lk) (L:=H.length) hlk (Nat.le_refl _) hg hT hTl hrest hx hln (l:=l) (by omega) (steps:=steps) (by omega) hm
   cases f with
   | zero=>exact absurd rfl (by rw [runM] at r1;exact r1)
   | succ f=>
    simp only [runM] at r1 r2;cases hq:stepM g T rest (x::st) with
    | none=>
     rw [hq] at hP r1 r2;obtain ⟨rfl,Y,rfl⟩:=hP;have r3:=r2 _ rfl;refine r45 kc h1 fun E2 g2 h2=>?_;rw [ah,ak (aI g2),ai,ae];simp [-ae];exact uY rfl (by simpa using r3)
    | some y=>
     obtain ⟨rest',st',q⟩:=y;have hk:=zf hg hq hsy;rw [hq] at hP r1 r2;obtain ⟨rfl,S',pv',G',rfl,hm'⟩:=hP;refine r45 kc h1 fun E2 g2 h2=>?_;rw [ah,af (aI g2),aA,a6,ao];refine ⟨(_,rest',st',l++q,steps+1,f),⟨⟨S',pv',G',rfl,hm'⟩,⟨?_,?_⟩,?_,?_,?_,hk.2.2.1,?_⟩,?_,h2,rfl⟩
     ·intro e;simp only at e r1;rw [e] at r1;exact r1 rfl
     ·intro o' e;simp only at e r2;have:=r2 _ (by rw [e];rfl)
      rw [this];cases o' with
      | none=>rfl
      | some y=>simp;omega
     ·simp only;omega
     ·simp only;have:=hk.1;simp only [List.length_cons] at hst;omega
     ·simp only [List.length_append];have:=hk.2.1;omega
     ·simp only;have:=hk.2.2.2;omega
     ·simp only;omega
 ·refine ⟨⟨[I g.t],.e0,[],rfl,⟨by simp,rfl,.inl ⟨rfl,rfl⟩⟩⟩,⟨?_,?_⟩,?_,?_,?_,?_,hs⟩
  ·simp only;rw [hr];simp
  ·intro o' e;simp only at e;rw [hr] at e;simp only [Option.some.injEq] at e;subst e;cases o with
   | none=>rfl
   | some y=>simp
  ·simp only;omega
  ·simp
  ·simp
  ·intro y hy;have:=hg.t1;have:=hg.n1;simp only [List.mem_singleton] at hy;subst hy;omega

section
variable {C:Orc}{Q:Ex->Kt}{E:Env}{lk L:Nat}{H:Heap}{t gn k:Int}{ps:List Pr}{tv tw:AV}{s:List UInt8}{e:Int}{c:Int}{b:Bool}
abbrev g29 (t gn k:Int)(ps:List Pr)(tv:AV)(s:List UInt8):Env:=[(2,Sg s),(3,.box [I t,I gn,I k,.sl ps.length (psC ps)]),(4,.box [tv])]
theorem k18 (htv:tv= .e0\/∃m cs,tv= .sl m cs)(ka:C lk L 31 [.agg [I t,I gn,I k,.sl ps.length (psC ps)]] H=some (I e,H))(kc:C lk L 16 [.agg [I t,I gn,I k,.sl ps.length (psC ps)]] H=some (I c,H))
  (hE:ab [2,3,4] E=g29 t gn k ps tv s)
  (hQ:∀E',find E' 18=Bo (!(decide (e=0/\c<=65536)))->ab [2,3,4] E'=g29 t gn k ps tv s->Q .nrm E' H):
  WB ⟨C,lk,L,[3,4,7,8]⟩ (.regN [2,3,4] [ kP 11 3 4 3,kC 12 31 11,kx 13 (.bini .neq (ux 12) c0),kM 14 13,kz 15 14 (.ldA (some 3) 4 (ux 3)),kz 16 14 (.call 16 [.tmp 15]),kz 17 14 (.bini .gtr (ux 16) (.con (.val (.int .i64 65536)))),kO 18 14 17]) Q E H:=by
 rw [ae,hE];rcases htv with rfl | ⟨m,cs,rfl⟩;all_goals
  by_cases he:e=0
  ·subst he;by_cases hc:c<=65536
   ·have hc2:¬65536 < c:=by omega
    simp [ka,kc,hc2];refine hQ _ ?_ ?_
    ·simp [find,hc,hc2]
    ·rfl
   ·have hc2:65536 < c:=by omega
    simp [ka,kc,hc2];refine hQ _ ?_ ?_
    ·simp [find,hc,hc2]
    ·rfl
  ·have he2:(e != 0)=true:=by simpa using he
   simp [ka,he2];refine hQ _ ?_ ?_
   ·simp [find,he,he2]
   ·rfl
theorem k9 {w x y z:AV}(htv:tv= .e0\/∃m cs,tv= .sl m cs)(htw:tw= .e0\/∃m cs,tw= .sl m cs){l a b':Nat}{xr:List UInt8}(kb:C lk L 43 [.agg [I t,I gn,I k,.sl ps.length (psC ps)]] H=some (.tup [.agg [tw],.agg [I l,I a,I b',Sg xr],I e],H))
  (hE:ab [2,3,4] E=g29 t gn k ps tv s)
  (hQ:∀E',ab [2,3,4,7] E'=g29 t gn k ps tv s++[(7,.box [tw])]->Q .nrm E' H):
  WB ⟨C,lk,L,[3,4,7,8]⟩ (.regN [2,3,4] [ kP 20 3 4 3,kC 21 43 20,kM 19 21,kE 22 19 0,kE 23 19 1,kE 24 19 2,kx 7 (.allocR [.e0]),kx 8 (.allocR [(.val (.int .i64 0)),(.val (.int .i64 0)),(.val (.int .i64 0)),(.val (.string ⟨#[]⟩))]),kn (.st (some 7) 1 (ux 7) (ux 22)),kn (.st (some 8) 4 (ux 8) (ux 23)),kM 9 24]) Q E H:=by
 rw [ae,hE];rcases htv with rfl | ⟨m,cs,rfl⟩;all_goals
  rcases htw with rfl | ⟨m2,cs2,rfl⟩;all_goals
   simp [kb,an];refine hQ _ ?_;rfl
theorem k28 (htv:tv= .e0\/∃m cs,tv= .sl m cs)(htw:tw= .e0\/∃m cs,tw= .sl m cs)(ks:C lk L 44 [.agg [tw],.agg [tv]] H=some (Bo b,H))
  (hE:ab [2,3,4,7] E=g29 t gn k ps tv s++[(7,.box [tw])])
  (hQ:∀E',find E' 28=Bo (!b)->ab [2,3,4] E'=g29 t gn k ps tv s->Q .nrm E' H):
  WB ⟨C,lk,L,[3,4,7,8]⟩ (.regN [2,3,4,7] [ kP 25 7 1 7,kP 26 4 1 4,kx 27 (.call 44 [(ux 25),(ux 26)]),kx 28 (.not (ux 27))]) Q E H:=by
 rw [ae,hE];rcases htv with rfl | ⟨m,cs,rfl⟩;all_goals
  rcases htw with rfl | ⟨m2,cs2,rfl⟩;all_goals
   simp [ks];refine hQ _ ?_ ?_
   ·simp [find]
   ·rfl
theorem k10 (htv:tv= .e0\/∃m cs,tv= .sl m cs)(hE:ab [2,3,4] E=g29 t gn k ps tv s)
  (hQ:∀E',ab [10,36] E'=j29 H->Q .nrm E' (dH H [I t] (dC t gn k ps tv s H.length 1 1 .e0 0) [])):
  WB ⟨C,lk,L,[3,4,7,8]⟩ (.regN [2,3,4] [ kP 29 3 4 3,kP 30 4 1 4,kM 31 2,kF 32 0 3,kS 33 3 32,kx 34 (.buildH 1 1 [(.val (.int .i64 0))] [(0,1,(ux 33))]),kx 35 (.build [(.val (.int .i64 0)),(.val (.int .i64 0)),(.val (.int .i64 0)),.e0,.e0,(.val (.string ⟨#[]⟩)),.e0,.e0,(.val (.int .i64 0))] [(0,4,(ux 29)),(4,1,(ux 30)),(5,1,(ux 31)),(6,1,(ux 34))]),kx 36 (.boxH 9 (ux 35)),kM 10 36]) Q E H:=by
 have e1:dH H [I t] (dC t gn k ps tv s H.length 1 1 .e0 0) []=H++[.cells [I t],.cells [I t,I gn,I k,.sl ps.length (psC ps),tv,Sg s,.hs H.length 1 0 1 1,.e0,I 0]]:=rfl;rw [e1] at hQ;unfold j29 at hQ;rw [ae,hE];rcases htv with rfl | ⟨m,cs,rfl⟩;all_goals
  simp [an];refine hQ _ ?_;rfl
end
theorem rq {lk lim:Nat}{H:Heap}(hlk:lk<=H.length)(g:Gm)(hl:g.ps.length<=1000000)(hr:∀p∈g.ps,p.r.length<=1000000){tv:AV}{T:Ss}(hT:TV tv T)(s:List UInt8)(hs:s.length<=1000000){F:Nat}(hF:F<=1000000){o:Option (List Int×Nat)}
  (hrun:cN g=0->ce g<=65536->runM g (aK g) F s [g.t]=some o):
  ∃v,aj X A lk lim 29 [gV g,.agg [tv],Sg s] H=some (v,H)/\Cq g tv (jN g T o) v:=by
 have main:∃v h',aj X A lk lim 29 [gV g,.agg [tv],Sg s] H=some (v,h')/\(h'=H/\Cq g tv (jN g T o) v):=by
  have ka:=fun (L:Nat)=>jJ (lk:=lk) (lim:=L) hlk g hl hr;have kc:=fun (L:Nat)=>cG (lk:=lk) (lim:=L) hlk g hl hr;obtain ⟨tw,kb,hTw⟩:=oz (lim:=H.length) hlk g hl hr;obtain ⟨l,a,b,x,hx⟩:=pq (jF g);rw [hx] at kb;have nz:∀{v:AV} {S:Ss},TV v S->v= .e0\/∃m cs,v= .sl m cs:=fun h=>by
   rcases h with ⟨rfl,_⟩ | ⟨cs,rfl,_⟩
   ·exact .inl rfl
   ·exact .inr ⟨_,_,rfl⟩
  have n1:=nz hT;have n2:=nz hTw;refine dD [3,4,7,8] rfl A29 rfl rfl ?_;show WB ⟨aj X A,lk,H.length,[3,4,7,8]⟩ LJ (wB [.tmp 6] true H fun v h=>h=H/\Cq g tv (jN g T o) v) (aP 0 [gV g,.agg [tv],Sg s]) H;unfold LJ;rw [ai];have hstart:∀(Q:Ex->Kt),(∀E',ab [2,3,4] E'=g29 g.t g.n g.k g.ps tv s->Q .nrm E' H)->WB ⟨aj X A,lk,H.length,[3,4,7,8]⟩ (.regN [0,1,2] [ kB 3 4 0,kB 4 1 1,kx 6 (.mv (.con (.val (.pointer none))))]) Q (aP 0 [gV g,.agg [tv],Sg s]) H:=by
   intro Q hQ;generalize aj X A=C at *;rcases n1 with rfl | ⟨m,cs,rfl⟩;all_goals
    rw [ae];simp [gV,Gm.cells];refine hQ _ ?_;rfl
  refine hstart _ fun E1 h1=>?_;rw [ah,ai,ai];refine k18 n1 (ka _) (kc _) h1 fun E2 g2 h2=>?_;rw [ah];by_cases hacc:cN g=0/\oW g<=65536;case neg=>
   rw [decide_eq_false hacc] at g2;rw [ak (aI g2),ai,ae];simp [-ae];have ho:jN g T o=none:=by
    unfold jN;rw [if_neg];rintro ⟨q1,q2,-⟩;exact hacc ⟨q1,by rw [show oW g=ce g from if_pos q1];exact q2⟩
   have:=uY (H:=H) (Y:=[]) (g:=g) (tv:=tv) (o:=jN g T o) (E:=[(6,.val (.pointer none))]) rfl ho;rw [List.append_nil] at this;exact this
  rw [decide_eq_true hacc] at g2;rw [af (aI g2),aA,ah,ai,ai];have ha:=jL hacc.1;have hg:=ha.ok;have hbt:eW g=aK g:=if_pos ((ip ha.chk).2 ha.conf);rw [hbt] at hTw;have hlk2:∀l∈aK g,l.length<=1000000000:=fun l h=>Nat.le_trans (jE hg h) (by decide)
  have ks:=w9 (lk:=lk) (lim:=H.length) (H:=H) hTw hT (by rw [fA];omega) hlk2
  refine k9 (w:=.e0) (x:=.e0) (y:=.e0) (z:=.e0) n1 n2 kb h2 fun E3 h3=>?_;rw [ah,ai];refine k28 n1 n2 ks h3 fun E4 g4 h4=>?_;rw [ah];by_cases hTT:aK g=T;case neg=>
   rw [decide_eq_false hTT] at g4;rw [ak (aI g4),ai,ae];simp [-ae];have ho:jN g T o=none:=by
    unfold jN;rw [if_neg];rintro ⟨q1,q2,q3⟩;exact hTT q3
   have:=uY (H:=H) (Y:=[]) (g:=g) (tv:=tv) (o:=jN g T o) (E:=[(6,.val (.pointer none))]) rfl ho;rw [List.append_nil] at this;exact this
  rw [decide_eq_true hTT] at g4;rw [af (aI g4),aA,ah,ai];have ho:jN g T o=o:=if_pos ⟨hacc.1,by rw [<-show oW g=ce g from if_pos hacc.1];exact hacc.2,hTT⟩
  rw [ho];subst hTT;refine k10 n1 h4 fun E5 h5=>?_;rw [ah];exact Gl hlk hg hT hlk2 hF hs (hrun hacc.1 (by rw [<-show oW g=ce g from if_pos hacc.1];exact hacc.2)) h5
 obtain ⟨v,h',h1,rfl,h2⟩:=main;exact ⟨v,h1,h2⟩

def zg (o:Option (List Int×Nat)):AV:=match o with
 | none=>.tup [.e0,Bo false]
 | some (l,_)=>.tup [iW l,Bo true]
def Cr (o:Option (List Int×Nat)):AV:=match o with
 | none=>.tup [I 0,Bo false]
 | some (_,n)=>.tup [I n,Bo true]
theorem Pa:zq (.val (.pointer none)) (.val (.pointer none))=some true:=rfl
theorem Mz (cs:List AV):zq (.rop cs 0) (.val (.pointer none))=some false:=rfl
theorem Gn (l:List Int):iW l= .e0\/∃cs,iW l= .sl cs.length cs/\belowL 0 cs=true:=by
 unfold iW;split
 ·exact .inl rfl
 ·exact .inr ⟨ints l,by simp,by simp⟩
section
variable {lk lim:Nat}{H:Heap}(hlk:lk<=H.length)(g:Gm)(hl:g.ps.length<=1000000)(hr:∀p∈g.ps,p.r.length<=1000000){tv:AV}{T:Ss}(hT:TV tv T)(s:List UInt8)(hs:s.length<=1000000){F:Nat}(hF:F<=1000000){o:Option (List Int×Nat)}
 (hrun:cN g=0->ce g<=65536->runM g (aK g) F s [g.t]=some o)
include hlk hl hr hT hs hF hrun
theorem gS:aj X A lk lim 11 [gV g,.agg [tv],Sg s] H=some (zg (jN g T o),H):=by
 obtain ⟨v,k,hv⟩:=rq (lim:=H.length) hlk g hl hr hT s hs hF hrun;refine ar [3,4] rfl A11 rfl rfl ?_;unfold Nz;generalize jN g T o=r at *;generalize aj X A=C at *;have n1:tv= .e0\/∃m cs,tv= .sl m cs:=by
  rcases hT with ⟨rfl,_⟩ | ⟨cs,rfl,_⟩
  ·exact .inl rfl
  ·exact .inr ⟨_,_,rfl⟩
 obtain ⟨t,n,kk,ps⟩:=g;simp only [gV,Gm.cells] at k |-;rcases r with _ | ⟨l,m⟩
 ·have hv:v= .val (.pointer none):=hv;subst hv;rcases n1 with rfl | ⟨m,cs,rfl⟩;all_goals
   simp [k,zg,Pa]
 ·have hv:v= .rop [I t,I n,I kk,.sl ps.length (psC ps),tv,Sg [],.sl 0 [],iW l,I m] 0:=hv;subst hv;have hw:=Gn l;simp only [zg];generalize iW l=w at *;rcases n1 with rfl | ⟨m,cs,rfl⟩;all_goals
   rcases hw with rfl | ⟨ds,rfl,hb⟩
   ·simp [k,Mz]
   ·simp [k,Mz,hb,Hm.below]
theorem mY:aj X A lk lim 19 [gV g,.agg [tv],Sg s] H=some (Cr (jN g T o),H):=by
 obtain ⟨v,k,hv⟩:=rq (lim:=H.length) hlk g hl hr hT s hs hF hrun;refine ar [3,4] rfl A19 rfl rfl ?_;unfold Oe;generalize jN g T o=r at *;generalize aj X A=C at *;have n1:tv= .e0\/∃m cs,tv= .sl m cs:=by
  rcases hT with ⟨rfl,_⟩ | ⟨cs,rfl,_⟩
  ·exact .inl rfl
  ·exact .inr ⟨_,_,rfl⟩
 obtain ⟨t,n,kk,ps⟩:=g;simp only [gV,Gm.cells] at k |-;rcases r with _ | ⟨l,m⟩
 ·have hv:v= .val (.pointer none):=hv;subst hv;rcases n1 with rfl | ⟨m,cs,rfl⟩;all_goals
   simp [k,Cr,Pa]
 ·have hv:v= .rop [I t,I n,I kk,.sl ps.length (psC ps),tv,Sg [],.sl 0 [],iW l,I m] 0:=hv;subst hv;simp only [Cr];generalize iW l=w at *;rcases n1 with rfl | ⟨m,cs,rfl⟩;all_goals
   simp [k,Mz]
end

theorem AE:cN exC=0:=mW.2 ze
theorem AF:runM exC (aK exC) 10 [0,0] [exC.t]=some (some ([0,0,1],5)):=by decide+kernel
theorem mZ {lim:Nat}:aj X A 0 lim 9 [] []=some (Bo true,[]):=by
 have hl:exC.ps.length<=1000000:=by show 2<=1000000;omega
 have hr:∀p∈exC.ps,p.r.length<=1000000:=fun p hp=>by
  simp [exC] at hp;rcases hp with rfl | rfl<;>simp
 have k10:=fun (L:Nat)=>Co (lk:=0) (lim:=L) (H:=[]);obtain ⟨tv,k12,hT⟩:=iY (lk:=0) (lim:=0) (H:=[]) (Nat.le_refl _) exC hl hr;have hbt:eW exC=aK exC:=if_pos ((ip ze.chk).2 ze.conf);rw [hbt] at hT;have ho:jN exC (aK exC) (some ([0,0,1],5))=some ([0,0,1],5):=if_pos ⟨AE,by rw [Az];decide,rfl⟩
 have k11:=gS (lk:=0) (lim:=0) (H:=[]) (Nat.le_refl _) exC hl hr hT [0,0] (by decide) (F:=10) (by decide) fun _ _=>AF
 have k19:=mY (lk:=0) (lim:=0) (H:=[]) (Nat.le_refl _) exC hl hr hT [0,0] (by decide) (F:=10) (by decide) fun _ _=>AF
 have k16:=cG (lk:=0) (lim:=0) (H:=[]) (Nat.le_refl _) exC hl hr;have k13:=jM (lk:=0) (lim:=0) (H:=[]) (a:=[0,0,1]) (b:=[0,0,1]) (.inl rfl) (.inl rfl) (by decide)
 rw [ho] at k11 k19;rw [show oW exC=4 from (if_pos AE).trans Az] at k16;rw [show zg (some ([0,0,1],5))= .tup [.sl 3 [I 0,I 0,I 1],Bo true] from rfl] at k11;rw [show Cr (some ([0,0,1],5))= .tup [I 5,Bo true] from rfl] at k19;rw [show iV [0,0,1]= .sl 3 [I 0,I 0,I 1] from rfl,decide_eq_true rfl] at k13;have n1:tv= .e0\/∃m cs,tv= .sl m cs:=by
  rcases hT with ⟨rfl,_⟩ | ⟨cs,rfl,_⟩
  ·exact .inl rfl
  ·exact .inr ⟨_,_,rfl⟩
 refine ar [] rfl A9 rfl rfl ?_;unfold t9B;clear hT ho hl hr hbt;have k10:=k10 0;simp only [gV,Gm.cells] at k10 k12 k11 k19 k16;generalize exC=g at *;obtain ⟨t,n,kk,ps⟩:=g;simp only at k10 k12 k11 k19 k16;generalize aj X A=C at *;have e0:(⟨#[0,0]⟩:ByteArray)=⟨⟨[0,0]⟩⟩:=rfl;simp only [Sg] at k11 k19;rw [e0];clear e0;generalize (⟨⟨[0,0]⟩⟩:ByteArray)=sb at *;rcases n1 with rfl | ⟨m,cs,rfl⟩;all_goals
  rw [ai,ae];simp [-ae];rw [ae];simp [-ae,k10,k12,k11];rw [ae];simp [-ae,k10,k12,k19];rw [ae];simp [k10,k16,k13,an]
end Go.Proofs.YtkllbcjanneppaaGreat
