import Derived.Test.YtkllbcjanneppaaGreatJP
set_option maxRecDepth 20000
set_option linter.unusedSimpArgs false
set_option linter.unusedVariables false
namespace Go.Proofs.YtkllbcjanneppaaGreat
open Go Go.Hm

section
variable {C:Orc}{Q:Ex->Kt}{E:Env}{t gn k k' e c c':Int}{ps:List Pr}{s:List UInt8}{tv v v':AV}{b b' b1 b2 b3:Bool}
def x8 (t gn k k':Int)(ps:List Pr)(s:List UInt8)(r:Env):Env:=(1,Sg s)::(2,.box [I t,I gn,I k,.sl ps.length (psC ps)])::(5,.box [I t,I gn,I k',.sl ps.length (psC ps)])::r
theorem y52 (htv:tv= .e0\/∃m cs,tv= .sl m cs)(hv:v= .e0\/∃cs,v= .sl cs.length cs/\belowL 0 cs=true)(kt:C 0 0 12 [.agg [I t,I gn,I k,.sl ps.length (psC ps)]] []=some (.agg [tv],[]))(kd:C 0 0 11 [.agg [I t,I gn,I k,.sl ps.length (psC ps)],.agg [tv],Sg s] []=some (.tup [v,Bo b],[]))
  (hE:ab [1,2,5] E=x8 t gn k k' ps s [])
  (hQ:∀E',ab [1,2,5,6,7] E'=x8 t gn k k' ps s [(6,v),(7,Bo b)]->Q .nrm E' []):
  WB ⟨C,0,0,[2,5]⟩ (.regD [1,2,5] 0 [ kP 46 2 4 2,kP 47 2 4 2,kf 48 (.call 12 [.tmp 47]),kM 49 1,kf 50 (.call 11 [(ux 46),(ux 48),(ux 49)]),kM 45 50,kE 51 45 0,kE 52 45 1,kM 6 51,kM 7 52]) Q E []:=by
 unfold x8 at *;rw [aB rfl,hE];rcases htv with rfl | ⟨m,cs,rfl⟩;all_goals
  rcases hv with rfl | ⟨ds,rfl,_⟩;all_goals
   simp [kt,kd];refine hQ _ ?_;rfl
theorem y60 (htv:tv= .e0\/∃m cs,tv= .sl m cs)(hv:v= .e0\/∃cs,v= .sl cs.length cs/\belowL 0 cs=true)(hv':v'= .e0\/∃cs,v'= .sl cs.length cs/\belowL 0 cs=true)(kt:C 0 0 12 [.agg [I t,I gn,I k',.sl ps.length (psC ps)]] []=some (.agg [tv],[]))(kd:C 0 0 11 [.agg [I t,I gn,I k',.sl ps.length (psC ps)],.agg [tv],Sg s] []=some (.tup [v',Bo b'],[]))
  (hE:ab [1,2,5,6,7] E=x8 t gn k k' ps s [(6,v),(7,Bo b)])
  (hQ:∀E',ab [2,5,6,7,8,9] E'=[(2,.box [I t,I gn,I k,.sl ps.length (psC ps)]),(5,.box [I t,I gn,I k',.sl ps.length (psC ps)]),(6,v),(7,Bo b),(8,v'),(9,Bo b')]->Q .nrm E' []):
  WB ⟨C,0,0,[2,5]⟩ (.regD [1,2,5,6,7] 0 [ kP 54 5 4 5,kP 55 5 4 5,kf 56 (.call 12 [.tmp 55]),kM 57 1,kf 58 (.call 11 [(ux 54),(ux 56),(ux 57)]),kM 53 58,kE 59 53 0,kE 60 53 1,kM 8 59,kM 9 60]) Q E []:=by
 unfold x8 at *;rw [aB rfl,hE];rcases htv with rfl | ⟨m,cs,rfl⟩;all_goals
  rcases hv with rfl | ⟨ds,rfl,_⟩;all_goals
   rcases hv' with rfl | ⟨ds',rfl,_⟩;all_goals
    simp [kt,kd];refine hQ _ ?_;rfl
theorem y4 (hv:v= .e0\/∃cs,v= .sl cs.length cs/\belowL 0 cs=true)(ka:C 0 0 24 [.agg [I t,I gn,I k',.sl ps.length (psC ps)]] []=some (I 0,[]))(kc:C 0 0 16 [.agg [I t,I gn,I k,.sl ps.length (psC ps)]] []=some (I c,[]))(kc':C 0 0 16 [.agg [I t,I gn,I k',.sl ps.length (psC ps)]] []=some (I c,[]))
  (ks:C 0 0 13 [v,v] []=some (Bo true,[]))
  (hE:ab [2,5,6,7,8,9] E=[(2,.box [I t,I gn,I k,.sl ps.length (psC ps)]),(5,.box [I t,I gn,I k',.sl ps.length (psC ps)]),(6,v),(7,Bo b),(8,v),(9,Bo b)])
  (hQ:∀E',ab [4] E'=[(4,Bo true)]->Q .nrm E' []):
  WB ⟨C,0,0,[2,5]⟩ (.regD [2,5,6,7,8,9] 0 [ kP 61 5 4 5,kf 62 (.call 24 [.tmp 61]),kx 63 (.bini .eql (ux 62) c0),kM 64 63,ky 65 64 (.ldA (some 5) 4 (ux 5)),⟨some 66,some (64,true),.call 16 [.tmp 65],0,true⟩,ky 67 64 (.ldA (some 2) 4 (ux 2)),⟨some 68,some (64,true),.call 16 [.tmp 67],0,true⟩,ky 69 64 (.bini .eql (ux 66) (ux 68)),kx 70 (.pick (ux 64) (ux 69) cF),kM 71 70,yM 72 71 7,yM 73 71 9,ky 74 71 (.eqb false (ux 72) (ux 73)),kx 75 (.pick (ux 71) (ux 74) cF),kM 76 75,yM 77 76 6,yM 78 76 8,⟨some 79,some (76,true),.call 13 [(ux 77),(ux 78)],0,true⟩,kx 80 (.pick (ux 76) (ux 79) cF),kM 4 80]) Q E []:=by
 rw [aB rfl,hE];rcases hv with rfl | ⟨ds,rfl,_⟩;all_goals
  cases b;all_goals
   simp [ka,kc,kc',ks];refine hQ _ ?_;rfl
end
section
variable {C:Orc}{Q:Ex->Kt}{E:Env}{t gn k k':Int}{ps:List Pr}{s:List UInt8}
theorem z2 (hE:ab [0,1] E=[(0,.agg [I t,I gn,I k,.sl ps.length (psC ps)]),(1,Sg s)])
  (hQ:∀E',ab [1,2] E'=[(1,Sg s),(2,.box [I t,I gn,I k,.sl ps.length (psC ps)])]->Q .nrm E' []):
  WB ⟨C,0,0,[2,5]⟩ (.regN [0,1] [ kB 2 4 0,kx 4 (.mv cF)]) Q E []:=by
 rw [ae,hE];simp;refine hQ _ ?_;rfl
theorem z11 (kl:C 0 0 9 [] []=some (Bo true,[]))(hE:ab [1,2] E=[(1,Sg s),(2,.box [I t,I gn,I k,.sl ps.length (psC ps)])])
  (hQ:∀E',find E' 11=Bo false->ab [1,2] E'=[(1,Sg s),(2,.box [I t,I gn,I k,.sl ps.length (psC ps)])]->Q .nrm E' []):
  WB ⟨C,0,0,[2,5]⟩ (.regN [1,2] [ kx 10 (.call 9 []),kx 11 (.not (ux 10))]) Q E []:=by
 rw [ae,hE];simp [kl];refine hQ _ ?_ ?_
 ·simp [find]
 ·rfl
theorem z12 (hE:ab [1,2] E=[(1,Sg s),(2,.box [I t,I gn,I k,.sl ps.length (psC ps)])])
  (hQ:∀E',ab [1,2,5] E'=x8 t gn k k ps s []->Q .nrm E' []):
  WB ⟨C,0,0,[2,5]⟩ (.regN [1,2] [ kP 12 2 4 2,kx 5 (.allocR [(.val (.int .i64 0)),(.val (.int .i64 0)),(.val (.int .i64 0)),.e0]),kn (.st (some 5) 4 (ux 5) (ux 12))]) Q E []:=by
 unfold x8 at hQ;rw [ae,hE];simp [-bd];rw [bd];simp [an];refine hQ _ ?_;rfl
theorem z13 (hk':IntKind.i64.wrap (k+1)=k')(hE:ab [1,2,5] E=x8 t gn k k ps s [])
  (hQ:∀E',ab [1,2,5] E'=x8 t gn k k' ps s []->Q .nrm E' []):
  WB ⟨C,0,0,[2,5]⟩ (.regN [1,2,5] [ kF 13 2 2,kS 14 2 13,kU 15 14,kF 16 2 5,kn (.st (some 5) 1 (ux 16) (ux 15))]) Q E []:=by
 unfold x8 at *;rw [ae,hE];simp [-bd,hk'];rw [bd];simp [an];refine hQ _ ?_;rfl
end
theorem GR {C:Orc}{g:Gm}{s:List UInt8}{k':Int}(hk':IntKind.i64.wrap (g.k+1)=k')(kl:C 0 0 9 [] []=some (Bo true,[])){Q:Ex->Kt}
  (main:∀E,ab [1,2,5] E=x8 g.t g.n g.k k' g.ps s []->WB ⟨C,0,0,[2,5]⟩ (.seq (.seq (.regN [1,2,5] [ kP 17 2 4 2,kC 18 17 17,kx 19 (.not (ux 18)),kM 20 19,kz 21 20 (.ldA (some 5) 4 (ux 5)),kz 22 20 (.call 17 [.tmp 21]),kz 23 20 (.not (ux 22)),kO 24 20 23,kM 25 24,zF 26 25 2 5,zS 27 25 5 26,kz 28 25 (.bini .gtr (ux 27) (.con (.val (.int .i64 3)))),kO 29 25 28,kM 30 29,zM 31 30 1,kz 32 30 (.len true (ux 31)),kz 33 30 (.bini .gtr (ux 32) (.con (.val (.int .i64 12)))),kO 34 30 33,kM 35 34,kz 36 35 (.ldA (some 2) 4 (ux 2)),kz 37 35 (.call 24 [.tmp 36]),kz 38 35 (.bini .neq (ux 37) c0),kO 39 35 38,kM 40 39,kz 41 40 (.ldA (some 2) 4 (ux 2)),kz 42 40 (.call 16 [.tmp 41]),kz 43 40 (.bini .gtr (ux 42) (.con (.val (.int .i64 65536)))),kO 44 40 43]) (.cond (ux 44) (.seq (.regN [] [ kx 4 (.mv cT)]) .ret) .skip)) (.seq (.regD [1,2,5] 0 [ kP 46 2 4 2,kP 47 2 4 2,kf 48 (.call 12 [.tmp 47]),kM 49 1,kf 50 (.call 11 [(ux 46),(ux 48),(ux 49)]),kM 45 50,kE 51 45 0,kE 52 45 1,kM 6 51,kM 7 52]) (.seq (.regD [1,2,5,6,7] 0 [ kP 54 5 4 5,kP 55 5 4 5,kf 56 (.call 12 [.tmp 55]),kM 57 1,kf 58 (.call 11 [(ux 54),(ux 56),(ux 57)]),kM 53 58,kE 59 53 0,kE 60 53 1,kM 8 59,kM 9 60]) (.seq (.regD [2,5,6,7,8,9] 0 [ kP 61 5 4 5,kf 62 (.call 24 [.tmp 61]),kx 63 (.bini .eql (ux 62) c0),kM 64 63,ky 65 64 (.ldA (some 5) 4 (ux 5)),⟨some 66,some (64,true),.call 16 [.tmp 65],0,true⟩,ky 67 64 (.ldA (some 2) 4 (ux 2)),⟨some 68,some (64,true),.call 16 [.tmp 67],0,true⟩,ky 69 64 (.bini .eql (ux 66) (ux 68)),kx 70 (.pick (ux 64) (ux 69) cF),kM 71 70,yM 72 71 7,yM 73 71 9,ky 74 71 (.eqb false (ux 72) (ux 73)),kx 75 (.pick (ux 71) (ux 74) cF),kM 76 75,yM 77 76 6,yM 78 76 8,⟨some 79,some (76,true),.call 13 [(ux 77),(ux 78)],0,true⟩,kx 80 (.pick (ux 76) (ux 79) cF),kM 4 80]) .ret)))) Q E []):WB ⟨C,0,0,[2,5]⟩ t8B Q (aP 0 [gV g,Sg s]) []:=by
 unfold t8B;rw [ai];refine z2 rfl fun E1 h1=>?_;rw [ah,ai,ai];refine z11 kl h1 fun E2 g2 h2=>?_;rw [ah,af (aI g2),aA,ah,ai];refine z12 h2 fun E3 h3=>?_;rw [ah,ai];refine z13 hk' h3 fun E4 h4=>?_;rw [ah];exact main E4 h4
theorem CG (g:Gm)(s:List UInt8):aj X A 0 0 8 [gV g,Sg s] []=some (Bo true,[]):=by
 have kl:=mZ (lim:=0);have kg:=fU (lk:=0) (lim:=0) (H:=[]) g;have kh:=fU (lk:=0) (lim:=0) (H:=[]) (gK g (IntKind.i64.wrap (g.k+1)));refine ar [2,5] rfl A8 rfl rfl ?_;show WB ⟨aj X A,0,0,[2,5]⟩ t8B _ _ _;obtain ⟨k',hk'⟩:∃k',IntKind.i64.wrap (g.k+1)=k':=⟨_,rfl⟩;rw [hk'] at kh;refine GR hk' kl fun E0 h0=>?_;unfold x8 at h0;rw [ai,ai,ae,h0];by_cases hlt:d8 g=true;case neg=>
  have hlt:d8 g=false:=by simpa using hlt
  rw [hlt] at kg;generalize aj X A=C at *;obtain ⟨t,n,k,ps⟩:=g;simp only [gK,gV,Gm.cells] at kg kh;simp [kg]
 obtain ⟨hl,hr⟩:=mB hlt;rw [hlt] at kg;by_cases hlh:d8 (gK g k')=true;case neg=>
  have hlh:d8 (gK g k')=false:=by simpa using hlh
  rw [hlh] at kh;generalize aj X A=C at *;obtain ⟨t,n,k,ps⟩:=g;simp only [gK,gV,Gm.cells] at kg kh;simp [kg,kh]
 rw [hlh] at kh;by_cases h3:3 < k'
 ·generalize aj X A=C at *;obtain ⟨t,n,k,ps⟩:=g;simp only [gK,gV,Gm.cells] at kg kh;simp [kg,kh,h3]
 by_cases h12:12 < s.length
 ·generalize aj X A=C at *;obtain ⟨t,n,k,ps⟩:=g;simp only [gK,gV,Gm.cells] at kg kh;have h12':(12:Int) < (s.length:Int):=by omega
  simp [kg,kh,h3,h12,h12',bo]
 have ka:=ef (lk:=0) (lim:=0) (H:=[]) (Nat.le_refl _) g hl hr;have h12':¬(12:Int) < (s.length:Int):=by omega
 by_cases hacc:cN g=0;case neg=>
  have hx:(cN g != 0)=true:=by simpa using hacc
  generalize cN g=e at *;generalize aj X A=C at *;obtain ⟨t,n,k,ps⟩:=g;simp only [gK,gV,Gm.cells] at kg kh ka;simp [kg,kh,ka,hx,h3,h12,h12',bo]
 have ha:=jL hacc;rw [hacc] at ka;have kc:=cG (lk:=0) (lim:=0) (H:=[]) (Nat.le_refl _) g hl hr;rw [show oW g=ce g from if_pos hacc] at kc;by_cases hc:ce g<=65536;case neg=>
  have hc2:65536 < ce g:=by omega
  generalize ce g=c at *;generalize aj X A=C at *;obtain ⟨t,n,k,ps⟩:=g;simp only [gK,gV,Gm.cells] at kg kh ka kc;simp [kg,kh,ka,kc,hc2,h3,h12,h12',bo]
 have hk1:k'=g.k+1:=by
  have:=ha.ok.k1;have:=ha.ok.k2;rw [<-hk',au (by omega) (by omega)]
 have hb:=Pj ha (by omega)
 have hch:ce (gK g (g.k+1))=ce g:=Mu g.t g.n _ _ g.ps;obtain ⟨tv,o,q1,hT,q2,q3,-⟩:=vc ha hc hl hr (s:=s) (by omega)
 obtain ⟨tw,o',r1,hT',r2,r3,-⟩:=vc hb (by rw [hch];exact hc) hl hr (s:=s) (by omega)
 have hoo:o=o':=GN ha hb rfl (fun n w l=>⟨Pk,MK⟩) q2 r2;subst hoo;have ka':=ef (lk:=0) (lim:=0) (H:=[]) (Nat.le_refl _) (gK g (g.k+1)) hl hr;rw [mW.2 hb] at ka';have kc':=cG (lk:=0) (lim:=0) (H:=[]) (Nat.le_refl _) (gK g (g.k+1)) hl hr;rw [show oW (gK g (g.k+1))=ce (gK g (g.k+1)) from if_pos (mW.2 hb),hch] at kc';have ks:=jM (lk:=0) (lim:=0) (H:=[]) (pB o) (pB o) (by
  rcases o with _ | ⟨l,n⟩
  ·show 0<=1000000000;omega
  ·have:=tn (fE _ _ _ _ _ q2).1;have:=(fE _ _ _ _ _ q2).2;show l.length<=1000000000;simp at *;omega)
 rw [decide_eq_true rfl] at ks;rw [AQ] at q3 r3;have nv:=AR o;have n1:=AU hT;have n2:=AU hT';rw [hk1] at kh h3 hk';have hc2:¬65536 < ce g:=by omega
 clear hT hT' q2 r2 hb ha hch hacc hlt hlh hr;generalize zm o=v at *;generalize o.isSome=b at *;generalize ce g=c at *;generalize aj X A=C at *;obtain ⟨t,n,k,ps⟩:=g;simp only [gK,gV,Gm.cells] at kg kh ka ka' kc kc' hk' q1 q3 r1 r3 h3 |-;generalize k+1=kk at *;subst hk1;simp [-ak,-af,-ae,-aB,kg,kh,h3,h12,h12',bo,ka,kc,hc2];rw [af rfl,aA,ah,ai];refine y52 (t:=t) (gn:=n) (k:=k) (k':=k') (ps:=ps) (s:=s) n1 nv q1 q3 (by simp [x8]) fun E1 h1=>?_
 rw [ah,ai];refine y60 n2 nv nv r1 r3 h1 fun E2 h2=>?_;rw [ah,ai];refine y4 nv ka' kc kc' ks h2 fun E3 h3=>?_;rw [ah,tQ];have h4:find E3 4=Bo true:=by
  have:=congrArg (fun e=>find e 4) h3;simpa using this
 simp [h4]
end Go.Proofs.YtkllbcjanneppaaGreat
