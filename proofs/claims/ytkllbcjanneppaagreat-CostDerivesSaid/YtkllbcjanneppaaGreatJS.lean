import Derived.Test.YtkllbcjanneppaaGreatJR
set_option maxRecDepth 20000
set_option linter.unusedSimpArgs false
set_option linter.unusedVariables false
namespace Go.Proofs.YtkllbcjanneppaaGreat
open Go Go.Hm

section
variable {C:Orc}{Q:Ex->Kt}{E:Env}{t gn k c:Int}{ps:List Pr}{s:List UInt8}{tv v:AV}{b:Bool}{n:Nat}{l:List Int}
def x5 (t gn k:Int)(ps:List Pr)(s:List UInt8)(r:Env):Env:=(1,Sg s)::(2,.box [I t,I gn,I k,.sl ps.length (psC ps)])::r
theorem wd2 (hE:ab [0,1] E=[(0,.agg [I t,I gn,I k,.sl ps.length (psC ps)]),(1,Sg s)])
  (hQ:∀E',ab [1,2] E'=x5 t gn k ps s []->Q .nrm E' []):
  WB ⟨C,0,0,[2]⟩ (.regN [0,1] [ kB 2 4 0,kx 4 (.mv cF)]) Q E []:=by
 unfold x5 at hQ;rw [ae,hE];simp;refine hQ _ ?_;rfl
theorem Qi (kl:C 0 0 9 [] []=some (Bo true,[]))(hE:ab [1,2] E=x5 t gn k ps s [])
  (hQ:∀E',find E' 12=Bo false->ab [1,2] E'=x5 t gn k ps s []->Q .nrm E' []):
  WB ⟨C,0,0,[2]⟩ (.regN [1,2] [ kx 11 (.call 9 []),kx 12 (.not (ux 11))]) Q E []:=by
 unfold x5 at *;rw [ae,hE];simp [kl];refine hQ _ ?_ ?_
 ·simp [find]
 ·rfl
theorem Qj (htv:tv= .e0\/∃m cs,tv= .sl m cs)(hv:v= .e0\/∃cs,v= .sl cs.length cs/\belowL 0 cs=true)(kt:C 0 0 12 [.agg [I t,I gn,I k,.sl ps.length (psC ps)]] []=some (.agg [tv],[]))(kd:C 0 0 11 [.agg [I t,I gn,I k,.sl ps.length (psC ps)],.agg [tv],Sg s] []=some (.tup [v,Bo b],[]))
  (hE:ab [1,2] E=x5 t gn k ps s [])
  (hQ:∀E',ab [1,2,5,6] E'=x5 t gn k ps s [(5,v),(6,Bo b)]->Q .nrm E' []):
  WB ⟨C,0,0,[2]⟩ (.regD [1,2] 0 [ kP 32 2 4 2,kP 33 2 4 2,kf 34 (.call 12 [.tmp 33]),kM 35 1,kf 36 (.call 11 [(ux 32),(ux 34),(ux 35)]),kM 31 36,kE 37 31 0,kE 38 31 1,kM 5 37,kM 6 38]) Q E []:=by
 unfold x5 at *;rw [aB rfl,hE];rcases htv with rfl | ⟨m,cs,rfl⟩;all_goals
  rcases hv with rfl | ⟨ds,rfl,_⟩;all_goals
   simp [kt,kd];refine hQ _ ?_;rfl
theorem Qk (htv:tv= .e0\/∃m cs,tv= .sl m cs)(hv:v= .e0\/∃cs,v= .sl cs.length cs/\belowL 0 cs=true)(kt:C 0 0 12 [.agg [I t,I gn,I k,.sl ps.length (psC ps)]] []=some (.agg [tv],[]))(kd:C 0 0 19 [.agg [I t,I gn,I k,.sl ps.length (psC ps)],.agg [tv],Sg s] []=some (.tup [I n,Bo b],[]))
  (hE:ab [1,2,5,6] E=x5 t gn k ps s [(5,v),(6,Bo b)])
  (hQ:∀E',ab [1,2,5,6,7,8] E'=x5 t gn k ps s [(5,v),(6,Bo b),(7,I n),(8,Bo b)]->Q .nrm E' []):
  WB ⟨C,0,0,[2]⟩ (.regD [1,2,5,6] 0 [ kP 40 2 4 2,kP 41 2 4 2,kf 42 (.call 12 [.tmp 41]),kM 43 1,kf 44 (.call 19 [(ux 40),(ux 42),(ux 43)]),kM 39 44,kE 45 39 0,kE 46 39 1,kM 7 45,kM 8 46]) Q E []:=by
 unfold x5 at *;rw [aB rfl,hE];rcases htv with rfl | ⟨m,cs,rfl⟩;all_goals
  rcases hv with rfl | ⟨ds,rfl,_⟩;all_goals
   simp [kt,kd];refine hQ _ ?_;rfl
theorem Ql (hv:v= .e0\/∃cs,v= .sl cs.length cs/\belowL 0 cs=true)(hE:ab [1,2,5,6,7,8] E=x5 t gn k ps s [(5,v),(6,Bo b),(7,I n),(8,Bo b)])
  (hQ:∀E',find E' 49=Bo false->ab [1,2,5,6,7] E'=x5 t gn k ps s [(5,v),(6,Bo b),(7,I n)]->Q .nrm E' []):
  WB ⟨C,0,0,[2]⟩ (.regN [1,2,5,6,7,8] [ kM 47 6,kM 48 8,kx 49 (.eqb true (ux 47) (ux 48))]) Q E []:=by
 unfold x5 at *;rw [ae,hE];rcases hv with rfl | ⟨ds,rfl,_⟩;all_goals
  cases b;all_goals
   simp;refine hQ _ ?_ ?_
   ·simp [find]
   ·rfl
theorem Qm (hv:v= .e0\/∃cs,v= .sl cs.length cs/\belowL 0 cs=true)(hE:ab [1,2,5,6,7] E=x5 t gn k ps s [(5,v),(6,Bo b),(7,I n)])
  (hQ:∀E',find E' 51=Bo (!b)->ab [5,7] E'=[(5,v),(7,I n)]->ab [1,2,5,7] E'=x5 t gn k ps s [(5,v),(7,I n)]->Q .nrm E' []):
  WB ⟨C,0,0,[2]⟩ (.regN [1,2,5,6,7] [ kM 50 6,kx 51 (.not (ux 50))]) Q E []:=by
 unfold x5 at *;rw [ae,hE];rcases hv with rfl | ⟨ds,rfl,_⟩;all_goals
  simp;refine hQ _ ?_ ?_ ?_
  ·simp [find]
  ·rfl
  ·rfl
theorem Qn (kt:C 0 0 25 [.agg [I t,I gn,I k,.sl ps.length (psC ps)],.sl l.length (ints l)] []=some (.tup [Sg s,Bo true],[]))(hE:ab [1,2,5,7] E=x5 t gn k ps s [(5,.sl l.length (ints l)),(7,I n)])
  (hQ:∀E',ab [1,2,5,7,9,10] E'=x5 t gn k ps s [(5,.sl l.length (ints l)),(7,I n),(9,Sg s),(10,Bo true)]->Q .nrm E' []):
  WB ⟨C,0,0,[2]⟩ (.regN [1,2,5,7] [ kP 60 2 4 2,kM 61 5,kx 62 (.call 25 [(ux 60),(ux 61)]),kM 59 62,kE 63 59 0,kE 64 59 1,kM 9 63,kM 10 64]) Q E []:=by
 unfold x5 at *;rw [ae,hE];simp [kt];refine hQ _ ?_;rfl
theorem Qo (kc:C 0 0 16 [.agg [I t,I gn,I k,.sl ps.length (psC ps)]] []=some (I c,[]))(hn:n=l.length+s.length)(hs:s.length<=14)(hl:l.length<=1000000)(hc:0<=c/\c<=65536)(hle:(n:Int)<=c * (s.length+1))(hE:ab [1,2,5,7,9,10] E=x5 t gn k ps s [(5,.sl l.length (ints l)),(7,I n),(9,Sg s),(10,Bo true)])
  (hQ:∀E',find E' 4=Bo true->Q .nrm E' []):
  WB ⟨C,0,0,[2]⟩ (.regN [1,2,5,7,9,10] [ kM 65 10,kM 66 65,yM 67 66 9,yM 68 66 1,ky 69 66 (.bins .eql (ux 67) (ux 68)),kx 70 (.pick (ux 66) (ux 69) cF),kM 71 70,yM 72 71 7,yM 73 71 5,yN 74 71 73,yM 75 71 1,ky 76 71 (.len true (ux 75)),ky 77 71 (.bini .add (ux 74) (ux 76)),ky 78 71 (.bini .eql (ux 72) (ux 77)),kx 79 (.pick (ux 71) (ux 78) cF),kM 80 79,yM 81 80 7,ky 82 80 (.ldA (some 2) 4 (ux 2)),ky 83 80 (.call 16 [.tmp 82]),yM 84 80 1,ky 85 80 (.len true (ux 84)),ky 86 80 (.bini .add (ux 85) c1),ky 87 80 (.bini .mul (ux 83) (ux 86)),ky 88 80 (.bini .leq (ux 81) (ux 87)),kx 89 (.pick (ux 80) (ux 88) cF),kM 4 89]) Q E []:=by
 have h0:=qG s s;have hs2:(s==s)=true:=by simp
 rw [hs2] at h0;have w1:IntKind.i64.wrap ((l.length:Int)+(s.length:Int))=(l.length:Int)+(s.length:Int):=au (by omega) (by omega)
 have w2:IntKind.i64.wrap ((s.length:Int)+1)=(s.length:Int)+1:=au (by omega) (by omega)
 have b1:0<=c * ((s.length:Int)+1)/\c * ((s.length:Int)+1)<=65536 * 15:=⟨Int.mul_nonneg hc.1 (by omega),Int.mul_le_mul hc.2 (by omega) (by omega) (by omega)⟩
 obtain ⟨p,hp⟩:∃p,c * ((s.length:Int)+1)=p:=⟨_,rfl⟩;rw [hp] at b1 hle;have w3:IntKind.i64.wrap p=p:=au (by omega) (by omega)
 have hn2:(n:Int)=(l.length:Int)+(s.length:Int):=by omega
 unfold x5 at *;rw [ae,hE];rw [hn2] at hle |-;simp [h0,bo,w1,w2,kc,hp,w3,hle];refine hQ _ ?_;simp [find]
end
theorem vd (g:Gm)(s:List UInt8):aj X A 0 0 5 [gV g,Sg s] []=some (Bo true,[]):=by
 have kl:=mZ (lim:=0);have kg:=fU (lk:=0) (lim:=0) (H:=[]) g;refine ar [2] rfl A5 rfl rfl ?_;show WB ⟨aj X A,0,0,[2]⟩ t5B _ (aP 0 [gV g,Sg s]) [];unfold t5B;rw [ai];refine wd2 rfl fun E1 h1=>?_;rw [ah,ai,ai];refine Qi kl h1 fun E2 g2 h2=>?_;unfold x5 at h2;rw [ah,af (aI g2),aA,ah,ai,ai,ae,h2];by_cases hlt:d8 g=true;case neg=>
  have hlt:d8 g=false:=by simpa using hlt
  rw [hlt] at kg;generalize aj X A=C at *;obtain ⟨t,n,k,ps⟩:=g;simp only [gV,Gm.cells] at kg;simp [kg]
 obtain ⟨hl,hr⟩:=mB hlt;rw [hlt] at kg;by_cases h12:12 < s.length
 ·generalize aj X A=C at *;obtain ⟨t,n,k,ps⟩:=g;simp only [gV,Gm.cells] at kg;have h12':(12:Int) < (s.length:Int):=by omega
  simp [kg,h12,h12',bo]
 have ka:=ef (lk:=0) (lim:=0) (H:=[]) (Nat.le_refl _) g hl hr;have h12':¬(12:Int) < (s.length:Int):=by omega
 by_cases hacc:cN g=0;case neg=>
  have hx:(cN g != 0)=true:=by simpa using hacc
  generalize cN g=e at *;generalize aj X A=C at *;obtain ⟨t,n,k,ps⟩:=g;simp only [gV,Gm.cells] at kg ka;simp [kg,ka,hx,h12,h12',bo]
 have ha:=jL hacc;rw [hacc] at ka;have kc:=cG (lk:=0) (lim:=0) (H:=[]) (Nat.le_refl _) g hl hr;rw [show oW g=ce g from if_pos hacc] at kc;by_cases hc:ce g<=65536;case neg=>
  have hc2:65536 < ce g:=by omega
  generalize ce g=c at *;generalize aj X A=C at *;obtain ⟨t,n,k,ps⟩:=g;simp only [gV,Gm.cells] at kg ka kc;simp [kg,ka,kc,hc2,h12,h12',bo]
 obtain ⟨tv,o,q1,hT,q2,q3,q4⟩:=vc ha hc hl hr (s:=s) (by omega)
 have n1:=AU hT;have hc2:¬65536 < ce g:=by omega
 have hpos:=AA ha;have tail:∀E,ab [1,2] E=x5 g.t g.n g.k g.ps s []->WB ⟨aj X A,0,0,[2]⟩ (.seq (.regD [1,2] 0 [ kP 32 2 4 2,kP 33 2 4 2,kf 34 (.call 12 [.tmp 33]),kM 35 1,kf 36 (.call 11 [(ux 32),(ux 34),(ux 35)]),kM 31 36,kE 37 31 0,kE 38 31 1,kM 5 37,kM 6 38]) (.seq (.regD [1,2,5,6] 0 [ kP 40 2 4 2,kP 41 2 4 2,kf 42 (.call 12 [.tmp 41]),kM 43 1,kf 44 (.call 19 [(ux 40),(ux 42),(ux 43)]),kM 39 44,kE 45 39 0,kE 46 39 1,kM 7 45,kM 8 46]) (.seq (.seq (.regN [1,2,5,6,7,8] [ kM 47 6,kM 48 8,kx 49 (.eqb true (ux 47) (ux 48))]) (.cond (ux 49) (.seq (.regN [] [ kx 4 (.mv cF)]) .ret) .skip)) (.seq (.seq (.regN [1,2,5,6,7] [ kM 50 6,kx 51 (.not (ux 50))]) (.cond (ux 51) (.seq (.regN [5,7] [ kM 52 5,kN 53 52,kx 54 (.bini .eql (ux 53) c0),kM 55 54,yM 56 55 7,ky 57 55 (.bini .eql (ux 56) c0),kx 58 (.pick (ux 55) (ux 57) cF),kM 4 58]) .ret) .skip)) (.seq (.regN [1,2,5,7] [ kP 60 2 4 2,kM 61 5,kx 62 (.call 25 [(ux 60),(ux 61)]),kM 59 62,kE 63 59 0,kE 64 59 1,kM 9 63,kM 10 64]) (.seq (.regN [1,2,5,7,9,10] [ kM 65 10,kM 66 65,yM 67 66 9,yM 68 66 1,ky 69 66 (.bins .eql (ux 67) (ux 68)),kx 70 (.pick (ux 66) (ux 69) cF),kM 71 70,yM 72 71 7,yM 73 71 5,yN 74 71 73,yM 75 71 1,ky 76 71 (.len true (ux 75)),ky 77 71 (.bini .add (ux 74) (ux 76)),ky 78 71 (.bini .eql (ux 72) (ux 77)),kx 79 (.pick (ux 71) (ux 78) cF),kM 80 79,yM 81 80 7,ky 82 80 (.ldA (some 2) 4 (ux 2)),ky 83 80 (.call 16 [.tmp 82]),yM 84 80 1,ky 85 80 (.len true (ux 84)),ky 86 80 (.bini .add (ux 85) c1),ky 87 80 (.bini .mul (ux 83) (ux 86)),ky 88 80 (.bini .leq (ux 81) (ux 87)),kx 89 (.pick (ux 80) (ux 88) cF),kM 4 89]) .ret)))))) (oO [.tmp 4] true [] (Bo true,[])) E []:=by
  intro E0 h0;rw [AQ] at q3;obtain ⟨m,hm⟩:∃m:Nat,Cr o= .tup [I m,Bo o.isSome]:=by
   rcases o with _ | ⟨l,n⟩
   ·exact ⟨0,rfl⟩
   ·exact ⟨n,rfl⟩
  rw [hm] at q4;have nv:=AR o;rw [ai];refine Qj n1 nv q1 q3 h0 fun E3 h3=>?_;rw [ah,ai];refine Qk n1 nv q1 q4 h3 fun E4 h4=>?_;rw [ah,ai,ai];refine Ql nv h4 fun E5 g5 h5=>?_;rw [ah,af (aI g5),aA,ah,ai,ai];refine Qm nv h5 fun E6 g6 h6 h6'=>?_;rw [ah];rcases o with _ | ⟨l,n⟩
  ·rw [ak (aI g6),ai,ae,h6];have hm0:m=0:=by
    have e:AV.tup [I (0:Nat),Bo false]= .tup [I m,Bo false]:=hm;simp at e;omega
   subst hm0;show WR _ _ _ [(5,.e0),(7,I (0:Nat))] _;simp
  ·have hmn:m=n:=by
    have e:AV.tup [I n,Bo true]= .tup [I m,Bo true]:=hm;simp at e;omega
   subst hmn;rw [af (aI g6),aA,ah,ai];obtain ⟨r,hmF⟩:=fE _ _ _ _ _ q2;have hd:=u6 r;have hcnt:=tn r;have hst:=tq ha r;simp only [List.length_nil,Nat.add_zero] at hcnt;have hlne:l≠[]:=by
    intro e;subst e;cases hd with
    | tok b h hb d=>omega
   have hiw:zm (some (l,m))= .sl l.length (ints l):=if_neg hlne;rw [hiw] at h6';have kt:=CE (lk:=0) (lim:=0) (H:=[]) (Nat.le_refl _) ha.ok hd hmF;refine Qn kt h6' fun E7 h7=>?_;rw [ah,ai];refine Qo kc hcnt (by omega) (by omega) ⟨by omega,hc⟩ hst h7 fun E8 h8=>?_
   rw [ah,tQ];simp [h8]
 clear q1 q2 q3 q4 hT n1 hpos hr h2 h1 g2;generalize ce g=c at *;generalize aj X A=C at *;obtain ⟨t,n,k,ps⟩:=g;simp only [gV,Gm.cells] at kg ka kc tail;simp [-ak,-af,-ae,-aB,kg,ka,kc,hc2,h12,h12',bo];rw [af rfl,aA,ah];exact tail _ (by simp [x5])
end Go.Proofs.YtkllbcjanneppaaGreat
