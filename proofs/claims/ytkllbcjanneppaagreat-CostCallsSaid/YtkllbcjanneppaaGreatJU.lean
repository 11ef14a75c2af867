import Derived.Test.YtkllbcjanneppaaGreatJO
import Derived.Test.YtkllbcjanneppaaGreatJE
import Derived.Test.YtkllbcjanneppaaGreatHA
set_option maxRecDepth 20000
set_option linter.all false
namespace Go.Proofs.YtkllbcjanneppaaGreat
open Go Go.Hm

section
variable {C:Orc}{Q:Ex->Kt}{E:Env}{Z:Heap}{t gn k x p:Int}{ps:List Pr}{tv pv:AV}{rest:List UInt8}{S:List AV}{sn n:Nat}{r st prods:List Int}{kk:Int}{b:Bool}
def e37 (t gn k:Int)(ps:List Pr)(tv pv:AV)(sc sn:Nat)(rest:List UInt8)(n:Nat)(e:Env):Env:=(2,Sg rest)::(3,.box [I t,I gn,I k,.sl ps.length (psC ps)])::(4,.box [tv])::(12,.hs 0 sc 0 sn 1)::(13,pv)::(14,I n)::e
theorem RI {i:Nat}(hE:ab [2,3,4,12,13,14,16,17] E=e37 t gn k ps tv pv S.length sn rest n [(16,I i),(17,I kk)])
  (hQ:∀E',find E' 102=Bo (decide (0<=kk))->ab [2,3,4,12,13,14,16,17] E'=e37 t gn k ps tv pv S.length sn rest n [(16,I i),(17,I kk)]->ab [2,3,4,12,13,14] E'=e37 t gn k ps tv pv S.length sn rest n []->Q .nrm E' Z):
  WB ⟨C,0,0,[3,4,9,10]⟩ (.regN [2,3,4,12,13,14,16,17] [ kM 101 17,kx 102 (.bini .geq (ux 101) c0)]) Q E Z:=by
 unfold e37 at *;rw[ae,hE];simp;refine hQ _ ?_ ?_ ?_
 ·simp[find]
 ·rfl
 ·rfl
theorem RJ {m i:Nat}(hpv:pv= .e0\/∃m,pv= .hs 1 m 0 m 1)(htv:tv= .e0\/∃m cs,tv= .sl m cs)(hb:Z[0]?=some (.cells S))(hk:kk=(m:Nat))(hi:i<ps.length)(hr:∀h,(psC ps)[i*2+1]'h= .sl r.length (ints r))(hm:m<r.length)(hx:∀h,(ints r)[m]'h=I x)(hsn:sn<=S.length)(hn:sn<=100000000)
  (hE:ab [2,3,4,12,13,14,16,17] E=e37 t gn k ps tv pv S.length sn rest n [(16,I i),(17,I kk)])
  (hQ:∀E',ab [2,3,4,12,13,14,16,17] E'=e37 t gn k ps tv pv (eh sn S.length 1) (sn+1) rest n [(16,I i),(17,I kk)]->Q .nrm E' (Z.set 0 (.cells (cS sn S.length S [I x])))):
  WB ⟨C,0,0,[3,4,9,10]⟩ (.regN [2,3,4,12,13,14,16,17] [ kM 105 12,kF 106 3 3,kS 107 3 106,kM 108 16,kI 109 2 107 108,kF 110 1 109,kL 111 110,kM 112 17,kI 113 1 111 112,kL 114 113,kx 115 (.buildS 1 [(.val (.int .i64 0))] [(0,1,(ux 114))]),kx 116 (.app 1 8 (ux 105) (ux 115)),kM 12 116]) Q E Z:=by
 subst hk;have hll:=aY ps;have h2:i*2+1<2*ps.length:=by omega
 have r1:(sn+1)*8<=aM:=by unfold aM;omega
 have h8:sn=S.length\/sn+1<=S.length:=by omega
 have hrl:=aV r;unfold e37 at *;rw[ae,hE];rcases hpv with rfl | ⟨m',rfl⟩;all_goals
  rcases htv with rfl | ⟨m'',cs,rfl⟩;all_goals
   simp[hm,hx,hi,hr,hll,h2,hrl,aN,hb,r1,h8,aR];refine hQ _ ?_;rfl
theorem RK {i:Nat}(hw:IntKind.i64.wrap (kk-1)=kk-1)(hE:ab [2,3,4,12,13,14,16,17] E=e37 t gn k ps tv pv S.length sn rest n [(16,I i),(17,I kk)])
  (hQ:∀E',ab [2,3,4,12,13,14,16,17] E'=e37 t gn k ps tv pv S.length sn rest n [(16,I i),(17,I (kk-1))]->Q .nrm E' Z):
  WB ⟨C,0,0,[3,4,9,10]⟩ (.regN [2,3,4,12,13,14,16,17] [ kM 103 17,kx 104 (.bini .sub (ux 103) c1),kM 17 104]) Q E Z:=by
 unfold e37 at *;rw[ae,hE];simp[hw];refine hQ _ ?_;rfl
theorem h47 (hE:ab [2,3,4,12,13,14] E=e37 t gn k ps tv pv S.length sn rest n [])
  (hQ:∀E',find E' 47=Bo (decide (0<sn))->ab [2,3,4,12,13,14] E'=e37 t gn k ps tv pv S.length sn rest n []->ab [2,13,14] E'=[(2,Sg rest),(13,pv),(14,I n)]->Q .nrm E' Z):
  WB ⟨C,0,0,[3,4,9,10]⟩ (.regN [2,3,4,12,13,14] [ kM 45 12,kN 46 45,kx 47 (.bini .gtr (ux 46) c0)]) Q E Z:=by
 unfold e37 at *;rw[ae,hE];simp;refine hQ _ ?_ ?_ ?_
 ·simp[find]
 ·rfl
 ·rfl
theorem h53 {m:Nat}(hb:Z[0]?=some (.cells S))(hsn:sn=m+1)(hm:m<=100000000)(hx:S[m]?=some (I x))(hE:ab [2,3,4,12,13,14] E=e37 t gn k ps tv pv S.length sn rest n [])
  (hQ:∀E',ab [2,3,4,12,13,14,15] E'=e37 t gn k ps tv pv S.length sn rest n [(15,I x)]->Q .nrm E' Z):
  WB ⟨C,0,0,[3,4,9,10]⟩ (.regN [2,3,4,12,13,14] [ kM 48 12,kM 49 12,kN 50 49,kx 51 (.bini .sub (ux 50) c1),kI 52 1 48 51,kL 53 52,kM 15 53]) Q E Z:=by
 subst hsn;have hm2:=(List.getElem?_eq_some_iff.1 hx).1;have hx2:∀h,S[m]'h=I x:=fun h=>(List.getElem?_eq_some_iff.1 hx).2;have w1:IntKind.i64.wrap (m:Int)=(m:Int):=au (by omega) (by omega)
 have hlt:(m:Int)<(m:Int)+1:=by omega
 unfold e37 at *;rw[ae,hE];simp[hb,hm2,hx2,w1,hlt];refine hQ _ ?_;rfl
theorem h58 {m:Nat}(hsn:sn=m+1)(hm:m<=100000000)(hE:ab [2,3,4,12,13,14,15] E=e37 t gn k ps tv pv S.length sn rest n [(15,I x)])
  (hQ:∀E',ab [2,3,4,12,13,14,15] E'=e37 t gn k ps tv pv S.length m rest n [(15,I x)]->Q .nrm E' Z):
  WB ⟨C,0,0,[3,4,9,10]⟩ (.regN [2,3,4,12,13,14,15] [ kM 54 12,kM 55 12,kN 56 55,kx 57 (.bini .sub (ux 56) c1),kx 58 (.slC 1 (ux 54) none (some (ux 57))),kM 12 58]) Q E Z:=by
 subst hsn;have w1:IntKind.i64.wrap (m:Int)=(m:Int):=au (by omega) (by omega)
 have hle:(m:Int)<=(m:Int)+1:=by omega
 unfold e37 at *;rw[ae,hE];simp[w1,hle,bnd];refine hQ _ ?_;rfl
theorem h60 (hn:n<=100000000)(hE:ab [2,3,4,12,13,14,15] E=e37 t gn k ps tv pv S.length sn rest n [(15,I x)])
  (hQ:∀E',ab [2,3,4,12,13,14,15] E'=e37 t gn k ps tv pv S.length sn rest (n+1) [(15,I x)]->Q .nrm E' Z):
  WB ⟨C,0,0,[3,4,9,10]⟩ (.regN [2,3,4,12,13,14,15] [ kM 59 14,kU 60 59,kM 14 60]) Q E Z:=by
 have w1:IntKind.i64.wrap ((n:Int)+1)=(n:Int)+1:=au (by omega) (by omega)
 unfold e37 at *;rw[ae,hE];simp[w1];refine hQ _ ?_;rfl
theorem h64 (hE:ab [2,3,4,12,13,14,15] E=e37 t gn k ps tv pv S.length sn rest n [(15,I x)])
  (hQ:∀E',find E' 64=Bo (decide (x<t))->ab [2,3,4,12,13,14,15] E'=e37 t gn k ps tv pv S.length sn rest n [(15,I x)]->Q .nrm E' Z):
  WB ⟨C,0,0,[3,4,9,10]⟩ (.regN [2,3,4,12,13,14,15] [ kM 61 15,kF 62 0 3,kS 63 3 62,kT 64 61 63]) Q E Z:=by
 unfold e37 at *;rw[ae,hE];simp;refine hQ _ ?_ ?_
 ·simp[find]
 ·rfl
theorem h73 (hb:b=(match rest with | []=>true | y::_=>decide ¬(y.toNat:Int)=x))(hE:ab [2,3,4,12,13,14,15] E=e37 t gn k ps tv pv S.length sn rest n [(15,I x)])
  (hQ:∀E',find E' 73=Bo b->ab [2,3,4,12,13,14] E'=e37 t gn k ps tv pv S.length sn rest n []->Q .nrm E' Z):
  WB ⟨C,0,0,[3,4,9,10]⟩ (.regN [2,3,4,12,13,14,15] [ kM 65 2,kx 66 (.bins .eql (ux 65) (.con (.val (.string ⟨#[]⟩)))),kM 67 66,zM 68 67 2,kz 69 67 (.ixS (ux 68) c0),kz 70 67 (.cvi .i64 (ux 69)),zM 71 67 15,kz 72 67 (.bini .neq (ux 70) (ux 71)),kO 73 67 72]) Q E Z:=by
 unfold e37 at *;rw[ae,hE];cases rest with
 | nil=>
  have h0:=iP [];simp[h0];refine hQ _ ?_ ?_
  ·simp[find,hb]
  ·rfl
 | cons y r=>
  simp only at hb;have h0:=iP (y::r);have hw8:IntKind.i64.wrap (y.toNat:Int)=y.toNat:=au (by omega) (by have:=y.toNat_lt;omega)
  by_cases hy:(y.toNat:Int)=x
  ·subst hb;have hwx:IntKind.i64.wrap x=x:=by rw[<-hy];exact hw8
   simp[hy,h0,hw8,ln];refine hQ _ ?_ ?_
   ·simp[find,hy,hwx]
   ·rfl
  ·subst hb;simp[hy,h0,hw8,ln];refine hQ _ ?_ ?_
   ·simp[find,hy]
   ·rfl
theorem h75 {y:UInt8}{r:List UInt8}(hr:rest=y::r)(hE:ab [2,3,4,12,13,14] E=e37 t gn k ps tv pv S.length sn rest n [])
  (hQ:∀E',ab [2,3,4,12,13,14] E'=e37 t gn k ps tv pv S.length sn r n []->Q .nrm E' Z):
  WB ⟨C,0,0,[3,4,9,10]⟩ (.regN [2,3,4,12,13,14] [ kM 74 2,kx 75 (.slS (ux 74) (some c1) none),kM 2 75]) Q E Z:=by
 subst hr;have h1:(1:Int)<=(r.length:Int)+1:=by omega
 unfold e37 at *;rw[ae,hE];simp[bnd,ly,ByteArray.size,List.take_of_length_le,h1];refine hQ _ ?_;rfl
theorem h86 (htv:tv= .e0\/∃m cs,tv= .sl m cs)(hpv:pv= .e0\/∃m,pv= .hs 1 m 0 m 1)(hw:IntKind.i64.wrap (x-t)=x-t)(kr:C 0 0 56 [Sg rest,I k] Z=some (Sg (rwK rest k),Z))(kp:C 0 0 55 [.agg [I t,I gn,I k,.sl ps.length (psC ps)],.agg [tv],I (x-t),Sg (rwK rest k)] Z=some (I p,Z))
  (hE:ab [2,3,4,12,13,14,15] E=e37 t gn k ps tv pv S.length sn rest n [(15,I x)])
  (hQ:∀E',ab [2,3,4,12,13,14,16] E'=e37 t gn k ps tv pv S.length sn rest n [(16,I p)]->Q .nrm E' Z):
  WB ⟨C,0,0,[3,4,9,10]⟩ (.regD [2,3,4,12,13,14,15] 0 [ kP 76 3 4 3,kP 77 4 1 4,kM 78 15,kF 79 0 3,kS 80 3 79,kx 81 (.bini .sub (ux 78) (ux 80)),kM 82 2,kF 83 2 3,kS 84 3 83,kf 85 (.call 56 [(ux 82),(ux 84)]),kf 86 (.call 55 [(ux 76),(ux 77),(ux 81),(ux 85)]),kM 16 86]) Q E Z:=by
 unfold e37 at *;rw[aB rfl,hE];rcases htv with rfl | ⟨m,cs,rfl⟩;all_goals
  rcases hpv with rfl | ⟨m',rfl⟩;all_goals
   simp[hw,kr,kp];refine hQ _ ?_;rfl
theorem h88 (hE:ab [2,3,4,12,13,14,16] E=e37 t gn k ps tv pv S.length sn rest n [(16,I p)])
  (hQ:∀E',find E' 88=Bo (decide (p<0))->ab [2,3,4,12,13,14,16] E'=e37 t gn k ps tv pv S.length sn rest n [(16,I p)]->Q .nrm E' Z):
  WB ⟨C,0,0,[3,4,9,10]⟩ (.regN [2,3,4,12,13,14,16] [ kM 87 16,kx 88 (.bini .lss (ux 87) c0)]) Q E Z:=by
 unfold e37 at *;rw[ae,hE];simp;refine hQ _ ?_ ?_
 ·simp[find]
 ·rfl
theorem h92 {i:Nat}(htv:tv= .e0\/∃m cs,tv= .sl m cs)(hl:prods.length<=100000000)(hE:ab [2,3,4,12,13,14,16] E=e37 t gn k ps tv (pvF prods) S.length sn rest n [(16,I (i:Nat))])
  (hQ:∀E',ab [2,3,4,12,13,14,16] E'=e37 t gn k ps tv (pvF (prods++[(i:Int)])) S.length sn rest n [(16,I (i:Nat))]->Q .nrm E' (fH S (prods++[(i:Int)]))):
  WB ⟨C,0,0,[3,4,9,10]⟩ (.regN [2,3,4,12,13,14,16] [ kM 89 13,kM 90 16,kx 91 (.buildS 1 [(.val (.int .i64 0))] [(0,1,(ux 90))]),kx 92 (.app 1 8 (ux 89) (ux 91)),kM 13 92]) Q E (fH S prods):=by
 have r0:(8:Nat)<=aM:=by decide
 have r1:(prods.length+1)*8<=aM:=by unfold aM;omega
 have hne:¬(prods++[(i:Int)]=[]):=by simp
 unfold pvF fH at hQ;rw[if_neg hne,if_neg hne]at hQ;unfold e37 at *;rw[ae,hE];unfold pvF fH;by_cases h:prods=[]
 ·subst h;rw[if_pos rfl,if_pos rfl];rcases htv with rfl | ⟨m,cs,rfl⟩;all_goals
   simp[aN,r0];refine hQ _ ?_;rfl
 ·rw[if_neg h,if_neg h];have hlen:=aV prods;have e5:ints prods++[I (i:Int)]=ints (prods++[(i:Int)]):=by simp[ints]
  have e6:eh prods.length prods.length 1=prods.length+1:=by simp[eh]
  have e7:cS prods.length prods.length (ints prods) [I (i:Int)]=ints (prods++[(i:Int)]):=by
   rw[<-e5];unfold cS;simp[List.take_of_length_le,hlen]
  rcases htv with rfl | ⟨m,cs,rfl⟩;all_goals
   simp[aN,r1,aR,hlen,e6,e7];refine hQ _ ?_;simp
theorem RL {i:Nat}(hi:i<ps.length)(hr:∀h,(psC ps)[i*2+1]'h= .sl r.length (ints r))(hrl:r.length<=1000)(hE:ab [2,3,4,12,13,14,16] E=e37 t gn k ps tv pv S.length sn rest n [(16,I (i:Nat))])
  (hQ:∀E',ab [2,3,4,12,13,14,16,17] E'=e37 t gn k ps tv pv S.length sn rest n [(16,I (i:Nat)),(17,I ((r.length:Int)-1))]->Q .nrm E' Z):
  WB ⟨C,0,0,[3,4,9,10]⟩ (.regN [2,3,4,12,13,14,16] [ kF 93 3 3,kS 94 3 93,kM 95 16,kI 96 2 94 95,kF 97 1 96,kL 98 97,kN 99 98,kx 100 (.bini .sub (ux 99) c1),kM 17 100]) Q E Z:=by
 have hll:=aY ps;have h2:i*2+1<2*ps.length:=by omega
 have hw:IntKind.i64.wrap ((r.length:Int)-1)=(r.length:Int)-1:=au (by omega) (by omega)
 unfold e37 at *;rw[ae,hE];simp[hi,hll,h2,hr,hw];refine hQ _ ?_;rfl
end

section
variable {C:Orc}{Q:Ex->Kt}{E:Env}{Z:Heap}{t gn k x:Int}{ps:List Pr}{tv:AV}{rest:List UInt8}{S:List AV}{n:Nat}{r st prods:List Int}
theorem Rl {i:Nat}(htv:tv= .e0\/∃m cs,tv= .sl m cs)(hi:i<ps.length)(hr:∀h,(psC ps)[i*2+1]'h= .sl r.length (ints r))(hrl:r.length<=1000)(hst:st.length<=10000000)(hm:SM S st)
  (hE:ab [2,3,4,12,13,14,16,17] E=e37 t gn k ps tv (pvF prods) S.length st.length rest n [(16,I (i:Nat)),(17,I ((r.length:Int)-1))])
  (hQ:∀E' S',SM S' (r++st)->ab [2,3,4,12,13,14] E'=e37 t gn k ps tv (pvF prods) S'.length (r++st).length rest n []->Q .nrm E' (fH S' prods)):
  WB ⟨C,0,0,[3,4,9,10]⟩ (.block 2 (.loop [2,3,4,12,13,14,16,17] QN)) Q E (fH S prods):=by
 rw[ap];refine ax (σ:=Nat×List AV) (fun s=>e37 t gn k ps tv (pvF prods) s.2.length (r.drop (r.length-s.1)++st).length rest n [(16,I (i:Nat)),(17,I ((r.length:Int)-1-s.1))]) (fun s=>fH s.2 prods)
  (fun s=>s.1<=r.length/\SM s.2 (r.drop (r.length-s.1)++st)) (fun s=>r.length-s.1) ?_ (0,S) ⟨Nat.zero_le _,by simpa using hm⟩ (by simpa using hE) rfl
 rintro⟨j,S'⟩ ⟨hj,hs⟩;simp only at hj hs;have hln:(r.drop (r.length-j)++st).length<=100000000:=by simp;omega
 unfold QN;rw[ai,ai];refine RI rfl fun E1 g1 h1 h1'=>?_;rw[ah];by_cases hjl:j<r.length;case neg=>
  rw[decide_eq_false (by simp only;omega)]at g1
  rw[af (aI g1),bT,a8,bQ,aG,if_pos rfl];obtain rfl:j=r.length:=by omega
  simp only[Nat.sub_self,List.drop_zero]at hs h1';exact hQ _ _ hs h1'
 rw[decide_eq_true (by simp only;omega)]at g1
 rw[ak (aI g1),aA,ah,ai,ap];have hm2:r.length-1-j<r.length:=by omega
 have hxe:∀h,(ints r)[r.length-1-j]'h=I r[r.length-1-j]:=fun h=>bv hm2 h;have hd:r.drop (r.length-(j+1))=r[r.length-1-j]::r.drop (r.length-j):=by
  rw[List.drop_eq_getElem_cons (by omega:r.length-(j+1)<r.length)]
  congr 1
  ·congr 1;omega
  ·congr 1;omega
 generalize r[r.length-1-j]=y at *;generalize hss:r.drop (r.length-j)++st=ss at *;have hkk:(r.length:Int)-1-(j:Nat)=((r.length-1-j:Nat):Int):=by omega
 refine RJ (MM _) htv (fH0 _ _) hkk hi hr hm2 hxe hs.le hln h1 fun E2 h2=>?_;obtain⟨p1,p2⟩:=hs.push (x:=y);rw[<-p2]at h2;rw[a6,ah,Jv];refine RK (au (by omega) (by omega)) h2 fun E3 h3=>?_
 rw[ao];refine⟨(j+1,_),⟨hjl,?_⟩,by simp only;omega,?_,rfl⟩
 ·simp only;rw[hd,List.cons_append,hss];exact p1
 ·simp only;rw[hd,List.cons_append,hss,List.length_cons];rw[show (r.length:Int)-1-((j+1:Nat):Int)=(r.length:Int)-1-(j:Nat)-1 by omega]
  exact h3
end
def QK (o:Option (List Int×Nat))(v:AV)(H:Heap):Prop:=H=[]/\∃v1 n,v= .tup [v1,I (n:Nat),Bo o.isSome]/\(v1= .e0\/∃cs,v1= .sl cs.length cs/\belowL 0 cs=true)/\∀l m,o=some (l,m)->v1=iW l/\n=m
theorem A8 {Z:Heap}{o:Option (List Int×Nat)}{E:Env}(hE:ab [6,7,8] E=[(6,.e0),(7,I (0:Nat)),(8,Bo false)])(ho:o=none):wB [.tmp 6,.tmp 7,.tmp 8] true [] (QK o) .ret E Z:=by
 have h6:find E 6= .e0:=by simpa using congrArg (fun e=>find e 6) hE
 have h7:find E 7=I (0:Nat):=by simpa using congrArg (fun e=>find e 7) hE
 have h8:find E 8=Bo false:=by simpa using congrArg (fun e=>find e 8) hE
 subst ho;rw[bt];refine⟨.tup [.e0,I (0:Nat),Bo false],[],?_,rfl,.e0,0,rfl,.inl rfl,fun l m h=>by cases h⟩
 simp[cB,rI,gu,h6,h7,h8,frz,ep,tV,gC,Hm.below,belowL]
theorem Ry (S:List AV)(l:List Int)(n:Nat)(b:Bool):frz 0 (fH S l) 8 (.tup [pvF l,I n,Bo b])=some (.tup [iW l,I n,Bo b])/\Hm.below 0 (.tup [iW l,I n,Bo b])=true:=by
 unfold pvF fH iW;by_cases h:l=[]
 ·subst h;rw[if_pos rfl,if_pos rfl,if_pos rfl];exact⟨by simp[frz,ep,tV,gC],by simp[Hm.below,belowL]⟩
 ·rw[if_neg h,if_neg h,if_neg h];exact⟨by simp[frz,ep,gC,bh,Hm.below],by simp[Hm.below,belowL]⟩
theorem Rm {S:List AV}{l:List Int}{n:Nat}{b:Bool}{o:Option (List Int×Nat)}{E:Env}(hE:ab [6,7,8] E=[(6,pvF l),(7,I n),(8,Bo b)])(ho:o=if b=true then some (l,n) else none):wB [.tmp 6,.tmp 7,.tmp 8] true [] (QK o) .ret E (fH S l):=by
 have h6:find E 6=pvF l:=by simpa using congrArg (fun e=>find e 6) hE
 have h7:find E 7=I n:=by simpa using congrArg (fun e=>find e 7) hE
 have h8:find E 8=Bo b:=by simpa using congrArg (fun e=>find e 8) hE
 obtain⟨f1,f2⟩:=Ry S l n b;rw[bt];refine⟨.tup [iW l,I n,Bo b],[],?_,rfl,iW l,n,?_,Gn l,fun l' m h=>?_⟩
 ·have hres:rI E (fH S l) [.tmp 6,.tmp 7,.tmp 8]=some (.tup [pvF l,I n,Bo b]):=by
   rcases MM l with hp | ⟨m,hp⟩<;>rw[hp]at h6 |-<;>simp[rI,gu,h6,h7,h8]
  unfold cB;simp only[hres];rw[if_pos trivial];show (match frz 0 (fH S l) 8 (.tup [pvF l,I n,Bo b]) with | some v'=>_ | none=>_)=_
  rw[f1];simp only;rw[if_pos (show Hm.below ([]:Heap).length _=true from f2)];simp
 ·subst ho;cases b<;>rfl
 ·rw[ho]at h;split at h
  ·simp only[RZ,R0]at h;exact⟨by rw[h.1],h.2⟩
  ·cases h
structure J37 (g:Gm)(T:Ss)(F:Nat)(o:Option (List Int×Nat))(x:List UInt8×List Int×List AV×List Int×Nat×Nat):Prop where
 m:SM x.2.2.1 x.2.1
 r:runM g T x.2.2.2.2.2 x.1 x.2.1≠none/\∀o',runM g T x.2.2.2.2.2 x.1 x.2.1=some o'->o=o'.map fun y=>(x.2.2.2.1++y.1,x.2.2.2.2.1+y.2)
 f:x.2.2.2.2.1+x.2.2.2.2.2<=F
 st:x.2.1.length<=1+8*x.2.2.2.2.1
 l:x.2.2.2.1.length<=x.2.2.2.2.1
 s:∀y∈x.2.1,0<=y/\y<g.t+g.n
 rest:x.1.length<=1000000
theorem QI {C:Orc}{E:Env}{Z:Heap}{Q:Ex->Kt}(hQ:∀E',ab [6,7,8] E'=[(6,.e0),(7,I (0:Nat)),(8,Bo false)]->Q .ret E' Z):
  WB ⟨C,0,0,[3,4,9,10]⟩ (.seq (.regN [] [kx 6 (.mv (.con .e0)),kZ 7,kx 8 (.mv cF)]) .ret) Q E Z:=by
 rw[ai,ae];simp[-ae];refine hQ _ ?_;rfl
theorem RM {C:Orc}{Q:Ex->Kt}{E:Env}{Z:Heap}{rest:List UInt8}{pv:AV}{n:Nat}(hpv:pv= .e0\/∃m,pv= .hs 1 m 0 m 1)(hE:ab [2,13,14] E=[(2,Sg rest),(13,pv),(14,I n)])
  (hQ:∀E',ab [6,7,8] E'=[(6,pv),(7,I n),(8,Bo (rest==[]))]->Q .nrm E' Z):
  WB ⟨C,0,0,[3,4,9,10]⟩ (.regN [2,13,14] [ kM 117 13,kM 118 14,kM 119 2,kx 120 (.bins .eql (ux 119) (.con (.val (.string ⟨#[]⟩)))),kM 6 117,kM 7 118,kM 8 120]) Q E Z:=by
 have h0:=iP rest;rw[ae,hE];obtain⟨b,hb⟩:∃b,(rest==[])=b:=⟨_,rfl⟩;rw[hb]at h0 hQ;rcases hpv with rfl | ⟨m,rfl⟩;all_goals
  simp[h0];refine hQ _ ?_;rfl
theorem QL {g:Gm}(hg:GOk g){tv:AV}{T:Ss}(hT:TV tv T)(hTl:∀l∈T,l.length<=1000000000){F:Nat}(hF:F<=1000000){o:Option (List Int×Nat)}{E:Env}{s:List UInt8}(hs:s.length<=1000000)(hr:runM g T F s [g.t]=some o)
  (hE:ab [2,3,4,12,13,14] E=e37 g.t g.n g.k g.ps tv .e0 1 1 s 0 []):
  WB ⟨aj X A,0,0,[3,4,9,10]⟩ (.seq (.block 0 (.loop [2,3,4,12,13,14] QF)) (.seq (.regN [2,13,14] [ kM 117 13,kM 118 14,kM 119 2,kx 120 (.bins .eql (ux 119) (.con (.val (.string ⟨#[]⟩)))),kM 6 117,kM 7 118,kM 8 120]) .ret)) (wB [.tmp 6,.tmp 7,.tmp 8] true [] (QK o)) E (fH [I g.t] []):=by
 have hps:g.ps.length<=1000000:=by have:=hg.l2;omega
 have hpr:∀p∈g.ps,p.r.length<=1000000:=fun p hp=>by have:=(hg.p p hp).len;omega
 have kp:=fun (Z:Heap) (left:Int) (row:List UInt8)=>w7 (lk:=0) (lim:=0) (H:=Z) g hps hpr hT hTl left row;have kr:=fun (Z:Heap) (w:List UInt8) (hw:w.length<=1000000)=>QD (lk:=0) (lim:=0) (H:=Z) w g.k hw (by have:=hg.k1;omega) (by have:=hg.k2;omega)
 have n1:=AU hT;generalize aj X A=C at *;rw[ai,ap];refine ax (σ:=List UInt8×List Int×List AV×List Int×Nat×Nat) (fun x=>e37 g.t g.n g.k g.ps tv (pvF x.2.2.2.1) x.2.2.1.length x.2.1.length x.1 x.2.2.2.2.1 []) (fun x=>fH x.2.2.1 x.2.2.2.1) (J37 g T F o) (fun x=>x.2.2.2.2.2) ?_ (s,[g.t],[I g.t],[],0,F) ?_ hE rfl
 ·rintro⟨rest,st,S,l,steps,f⟩ ⟨hm,⟨r1,r2⟩,hf,hst,hl,hsy,hrest⟩;simp only at hm r1 r2 hf hst hl hsy hrest;unfold QF;rw[ai,ai];refine h47 (tv:=tv) (pv:=pvF l) (S:=S) (sn:=st.length) (rest:=rest) (n:=steps) rfl fun E1 g1 h1 h1'=>?_;rw[ah];cases st with
  | nil=>
   rw[decide_eq_false (by simp)]at g1
   rw[af (aI g1),bT,a8,bQ,aG,if_pos rfl,ah,ai];have r3:=r2 _ (by rw[runM])
   refine RM (MM l) h1' fun E2 h2=>?_;rw[ah,tQ];refine Rm h2 ?_;by_cases hre:rest=[]
   ·subst hre;rw[if_pos rfl]at r3;simpa using r3
   ·rw[if_neg hre]at r3;have hb:(rest==[])=false:=by simpa using hre
    rw[hb];simpa using r3
  | cons x st=>
   have hp0:0<(x::st).length:=Nat.succ_pos _;rw[decide_eq_true hp0]at g1;rw[ak (aI g1),aA,ah,ap,ai];have hx:=hsy x (List.mem_cons_self ..);have hln:st.length<=10000000:=by simp only[List.length_cons]at hst;omega
   obtain⟨tp,hm'⟩:=hm.top;refine h53 (m:=st.length) (fH0 _ _) rfl (by omega) tp h1 fun E2 h2=>?_
   rw[ah,ai];refine h58 (m:=st.length) rfl (by omega) h2 fun E3 h3=>?_
   rw[ah,ai];refine h60 (by omega) h3 fun E4 h4=>?_
   rw[ah,ai,ai];refine h64 h4 fun E5 g5 h5=>?_;rw[ah];cases f with
   | zero=>exact absurd rfl (by rw[runM]at r1;exact r1)
   | succ f=>
    simp only[runM]at r1 r2;by_cases hxt:x<g.t
    ·rw[decide_eq_true hxt]at g5;rw[ak (aI g5),ai,ai];cases rest with
     | nil=>
      have hq:stepM g T [] (x::st)=none:=by simp only[stepM];rw[if_pos hxt]
      rw[hq]at r1 r2;refine h73 (b:=true) rfl h5 fun E6 g6 h6=>?_;rw[ah,ak (aI g6)];refine QI fun E7 h7=>?_;simp only[zH,Hn];exact A8 h7 (by simpa using r2 _ rfl)
     | cons y rr=>
      refine h73 (b:=decide ¬(y.toNat:Int)=x) rfl h5 fun E6 g6 h6=>?_;rw[ah];by_cases hy:(y.toNat:Int)=x
      ·have hq:stepM g T (y::rr) (x::st)=some (rr,st,[]):=by simp only[stepM];rw[if_pos hxt,if_pos hy]
       rw[hq]at r1 r2;rw[decide_eq_false (fun h=>h hy)]at g6;rw[af (aI g6),aA,ah,ai];refine h75 rfl h6 fun E7 h7=>?_;rw[ah,bT,a8,aG,if_pos rfl,ao];refine⟨(rr,st,S,l,steps+1,f),⟨hm',⟨fun e=>?_,fun o' e=>?_⟩,?_,?_,?_,fun z hz=>hsy z (by simp[hz]),?_⟩,?_,h7,rfl⟩
       ·simp only at e r1;rw[e]at r1;exact r1 rfl
       ·simp only at e r2;have:=r2 _ (by rw[e];rfl)
        rw[this];cases o' with
        | none=>rfl
        | some y=>simp;omega
       ·simp only;omega
       ·simp only[List.length_cons]at hst |-;omega
       ·simp only;omega
       ·simp only[List.length_cons]at hrest |-;omega
       ·simp only;omega
      ·have hq:stepM g T (y::rr) (x::st)=none:=by simp only[stepM];rw[if_pos hxt,if_neg hy]
       rw[hq]at r1 r2;rw[decide_eq_true hy]at g6;rw[ak (aI g6)];refine QI fun E7 h7=>?_;simp only[zH,Hn];exact A8 h7 (by simpa using r2 _ rfl)
    rw[decide_eq_false hxt]at g5;rw[af (aI g5),aA,ah,ai];refine h86 n1 (MM l) (au (by have:=hg.t2;omega) (by have:=hg.t2;have:=hg.n2;omega)) (kr _ _ hrest) (kp _ _ _) h5 fun E6 h6=>?_
    rw[ah,ai,ai];refine h88 h6 fun E7 g7 h7=>?_;rw[ah];rcases iZ (g:=g) T (x-g.t) (rwK rest g.k) with hneg | ⟨i,hi,hpi,-,-⟩
    ·have hq:stepM g T rest (x::st)=none:=by simp only[stepM];rw[if_neg hxt,hneg,if_pos (by omega)]
     rw[hq]at r1 r2;rw[hneg]at g7;rw[decide_eq_true (by omega)]at g7
     rw[ak (aI g7)];refine QI fun E8 h8=>?_;simp only[zH,Hn];exact A8 h8 (by simpa using r2 _ rfl)
    have hq:stepM g T rest (x::st)=some (rest,(g.ps.getD i ⟨0,[]⟩).r++st,[(i:Int)]):=by simp only[stepM];rw[if_neg hxt,hpi,if_neg (by omega),Int.toNat_natCast]
    have hk:=zf hg hq hsy;rw[hq]at r1 r2;rw[hpi]at g7 h7;rw[decide_eq_false (by omega)]at g7
    rw[af (aI g7),aA,ah,ai];refine h92 (prods:=l) n1 (by omega) h7 fun E8 h8=>?_
    rw[ah,ai];have hrE:∀h,(psC g.ps)[i*2+1]'h= .sl (g.ps.getD i ⟨0,[]⟩).r.length (ints (g.ps.getD i ⟨0,[]⟩).r):=fun h=>by
     rw[R3,R4 hi];exact(List.getElem?_eq_some_iff.1 (qF hi)).2
    have hrl:=(hg.p _ (bW hi)).len;refine RL hi hrE (by omega) h8 fun E9 h9=>?_
    rw[ah];refine Rl n1 hi hrE (by omega) hln hm' h9 fun E10 S' hm2 h10=>?_
    rw[a6,ao];refine⟨(rest,(g.ps.getD i ⟨0,[]⟩).r++st,S',l++[(i:Int)],steps+1,f),⟨hm2,⟨fun e=>?_,fun o' e=>?_⟩,?_,?_,?_,hk.2.2.1,hrest⟩,?_,h10,rfl⟩
    ·simp only at e r1;rw[e]at r1;exact r1 rfl
    ·simp only at e r2;have:=r2 _ (by rw[e];rfl)
     rw[this];cases o' with
     | none=>rfl
     | some y=>simp;omega
    ·simp only;omega
    ·have:=hk.1;simp only[List.length_cons]at hst |-;omega
    ·simp only[List.length_append,List.length_cons,List.length_nil];omega
    ·simp only;omega
 ·refine⟨⟨by simp,rfl⟩,⟨?_,fun o' e=>?_⟩,by simp only;omega,by simp,by simp,jO hg,hs⟩
  ·simp only;rw[hr];simp
  ·simp only at e;rw[hr]at e;simp only[RZ]at e;subst e;cases o with
   | none=>rfl
   | some y=>simp

section
variable {C:Orc}{Q:Ex->Kt}{E:Env}{t gn k:Int}{ps:List Pr}{tv tw:AV}{s:List UInt8}{e a c:Int}{b:Bool}
theorem l0 (htv:tv= .e0\/∃m cs,tv= .sl m cs)(hE:ab [0,1,2] E=[(0,.agg [I t,I gn,I k,.sl ps.length (psC ps)]),(1,.agg [tv]),(2,Sg s)])
  (hQ:∀E',ab [2,3,4] E'=g29 t gn k ps tv s->Q .nrm E' []):
  WB ⟨C,0,0,[3,4,9,10]⟩ (.regN [0,1,2] [ kB 3 4 0,kB 4 1 1,kx 6 (.mv (.con .e0)),kZ 7,kx 8 (.mv cF)]) Q E []:=by
 rw[ae,hE];rcases htv with rfl | ⟨m,cs,rfl⟩;all_goals
  simp;refine hQ _ ?_;rfl
theorem l11 (htv:tv= .e0\/∃m cs,tv= .sl m cs)(htw:tw= .e0\/∃m cs,tw= .sl m cs){l a b':Nat}{xr:List UInt8}(kb:C 0 0 30 [.agg [I t,I gn,I k,.sl ps.length (psC ps)]] []=some (.tup [.agg [tw],.agg [I l,I a,I b',Sg xr],I e],[]))
  (hE:ab [2,3,4] E=g29 t gn k ps tv s)
  (hQ:∀E',ab [2,3,4,9,11] E'=g29 t gn k ps tv s++[(9,.box [tw]),(11,I e)]->Q .nrm E' []):
  WB ⟨C,0,0,[3,4,9,10]⟩ (.regN [2,3,4] [ kP 19 3 4 3,kC 20 30 19,kM 18 20,kE 21 18 0,kE 22 18 1,kE 23 18 2,kx 9 (.allocR [.e0]),kx 10 (.allocR [(.val (.int .i64 0)),(.val (.int .i64 0)),(.val (.int .i64 0)),(.val (.string ⟨#[]⟩))]),kn (.st (some 9) 1 (ux 9) (ux 21)),kn (.st (some 10) 4 (ux 10) (ux 22)),kM 11 23]) Q E []:=by
 rw[ae,hE];rcases htv with rfl | ⟨m,cs,rfl⟩;all_goals
  rcases htw with rfl | ⟨m2,cs2,rfl⟩;all_goals
   simp[kb,an];refine hQ _ ?_;rfl
theorem l41 (htv:tv= .e0\/∃m cs,tv= .sl m cs)(htw:tw= .e0\/∃m cs,tw= .sl m cs)(ka:C 0 0 24 [.agg [I t,I gn,I k,.sl ps.length (psC ps)]] []=some (I a,[]))(kc:C 0 0 23 [.agg [I t,I gn,I k,.sl ps.length (psC ps)]] []=some (I c,[]))
  (ks:a=0->C 0 0 54 [.agg [tw],.agg [tv]] []=some (Bo b,[]))
  (hE:ab [2,3,4,9,11] E=g29 t gn k ps tv s++[(9,.box [tw]),(11,I e)])
  (hQ:∀E',find E' 41=Bo (!(decide (e=0/\a=0/\c<=65536/\b=true)))->ab [2,3,4] E'=g29 t gn k ps tv s->Q .nrm E' []):
  WB ⟨C,0,0,[3,4,9,10]⟩ (.regN [2,3,4,9,11] [ kM 24 11,kx 25 (.bini .neq (ux 24) c0),kM 26 25,kz 27 26 (.ldA (some 3) 4 (ux 3)),kz 28 26 (.call 24 [.tmp 27]),kz 29 26 (.bini .neq (ux 28) c0),kO 30 26 29,kM 31 30,kz 32 31 (.ldA (some 3) 4 (ux 3)),kz 33 31 (.call 23 [.tmp 32]),kz 34 31 (.bini .gtr (ux 33) (.con (.val (.int .i64 65536)))),kO 35 31 34,kM 36 35,kz 37 36 (.ldA (some 9) 1 (ux 9)),kz 38 36 (.ldA (some 4) 1 (ux 4)),kz 39 36 (.call 54 [(ux 37),(ux 38)]),kz 40 36 (.not (ux 39)),kO 41 36 40]) Q E []:=by
 rw[ae,hE];rcases htv with rfl | ⟨m,cs,rfl⟩;all_goals
  rcases htw with rfl | ⟨m2,cs2,rfl⟩;all_goals
   by_cases he:e=0
   ·subst he;by_cases ha:a=0
    ·subst ha;have ks:=ks rfl;by_cases hc:c<=65536
     ·have hc2:¬65536<c:=by omega
      cases b;all_goals
       simp[ka,kc,hc2,ks];refine hQ _ ?_ ?_
       ·simp[find,hc,hc2]
       ·rfl
     ·have hc2:65536<c:=by omega
      simp[ka,kc,hc2];refine hQ _ ?_ ?_
      ·simp[find,hc,hc2]
      ·rfl
    ·have ha2:(a != 0)=true:=by simpa using ha
     simp[ka,ha2];refine hQ _ ?_ ?_
     ·simp[find,ha,ha2]
     ·rfl
   ·have he2:(e != 0)=true:=by simpa using he
    simp[he2];refine hQ _ ?_ ?_
    ·simp[find,he,he2]
    ·rfl
end
theorem t6 (g:Gm)(hl:g.ps.length<=1000000)(hr:∀p∈g.ps,p.r.length<=1000000){tv:AV}{T:Ss}(hT:TV tv T)(s:List UInt8)(hs:s.length<=1000000){F:Nat}(hF:F<=1000000){o:Option (List Int×Nat)}
  (hrun:cN g=0->ce g<=65536->runM g (aK g) F s [g.t]=some o):
  ∃v H,aj X A 0 0 37 [gV g,.agg [tv],Sg s] []=some (v,H)/\QK (jN g T o) v H:=by
 have ka:=ef (lk:=0) (lim:=0) (H:=[]) (Nat.le_refl _) g hl hr;have kc:=g8 (lk:=0) (lim:=0) (H:=[]) (Nat.le_refl _) g hl hr;obtain⟨tw,kb,hTw⟩:=mV (lk:=0) (lim:=0) (H:=[]) (Nat.le_refl _) g hl hr;obtain⟨l,a,b,x,hx⟩:=RX (jF g);rw[hx]at kb;have n1:=AU hT;have n2:=AU hTw;refine dD [3,4,9,10] rfl A37 rfl rfl ?_;show WB ⟨aj X A,0,0,[3,4,9,10]⟩ Rk (wB [.tmp 6,.tmp 7,.tmp 8] true [] (QK (jN g T o))) (aP 0 [gV g,.agg [tv],Sg s]) [];unfold Rk;rw[ai];refine l0 n1 rfl fun E1 h1=>?_;rw[ah,ai];refine l11 n1 n2 kb h1 fun E2 h2=>?_;rw[ah,ai,ai];have ks:cN g=0->aj X A 0 0 54 [.agg [tw],.agg [tv]] []=some (Bo (decide (aK g=T)),[]):=fun hacc=>by
  have ha:=jL hacc;have hbt:eW g=aK g:=if_pos ((ip ha.chk).2 ha.conf);rw[hbt]at hTw;exact QC (lk:=0) (lim:=0) (H:=[]) hTw hT (by rw[fA];omega) fun l h=>Nat.le_trans (jE ha.ok h) (by decide)
 refine l41 n1 n2 ka kc ks h2 fun E3 g3 h3=>?_;rw[ah];by_cases hcond:cN g=0/\ce g<=65536/\aK g=T;case neg=>
  have hn:¬(fX g=0/\cN g=0/\oW g<=65536/\decide (aK g=T)=true):=by
   rintro⟨_,q1,q2,q3⟩;exact hcond ⟨q1,by rw[<-show oW g=ce g from if_pos q1];exact q2,of_decide_eq_true q3⟩
  rw[decide_eq_false hn]at g3;rw[ak (aI g3)];refine QI fun E4 h4=>?_;simp only[zH];exact A8 h4 (if_neg hcond)
 have ha:=jL hcond.1;have hp:fX g=0/\cN g=0/\oW g<=65536/\decide (aK g=T)=true:=⟨(ip ha.chk).2 ha.conf,hcond.1,by rw[show oW g=ce g from if_pos hcond.1];exact hcond.2.1,decide_eq_true hcond.2.2⟩
 rw[decide_eq_true hp]at g3;rw[af (aI g3),aA,ah];have ho:jN g T o=o:=if_pos hcond;rw[ho];obtain⟨_,hc,rfl⟩:=hcond;have hlk2:∀l∈aK g,l.length<=1000000000:=fun l h=>Nat.le_trans (jE ha.ok h) (by decide)
 have main:=fun E hE=>QL (E:=E) ha.ok hT hlk2 hF hs (hrun hp.2.1 hc) hE;have fin:WB ⟨aj X A,0,0,[3,4,9,10]⟩ (.seq (.regN [2,3,4] [ kF 42 0 3,kS 43 3 42,kx 44 (.buildH 1 1 [(.val (.int .i64 0))] [(0,1,(ux 43))]),kM 12 44]) (.seq (.regN [2,3,4,12] [ kx 13 (.mv (.con .e0))]) (.seq (.regN [2,3,4,12,13] [ kZ 14]) (.seq (.block 0 (.loop [2,3,4,12,13,14] QF)) (.seq (.regN [2,13,14] [ kM 117 13,kM 118 14,kM 119 2,kx 120 (.bins .eql (ux 119) (.con (.val (.string ⟨#[]⟩)))),kM 6 117,kM 7 118,kM 8 120]) .ret))))) (wB [.tmp 6,.tmp 7,.tmp 8] true [] (QK o)) E3 []:=by
  clear kb ka kc ks h2 h1 hx hTw n2 hr hrun;generalize aj X A=C at *;unfold e37 at main;rw[ai,ae,h3];rcases n1 with rfl | ⟨m,cs,rfl⟩;all_goals
   simp[-ap,-ai];rw[ai,ae];simp[-ap,-ai];rw[ai,ae];simp[-ap,-ai];exact main _ (by rfl)
 exact fin

section
variable (g:Gm)(hl:g.ps.length<=1000000)(hr:∀p∈g.ps,p.r.length<=1000000){tv:AV}{T:Ss}(hT:TV tv T)(s:List UInt8)(hs:s.length<=1000000){F:Nat}(hF:F<=1000000){o:Option (List Int×Nat)}
 (hrun:cN g=0->ce g<=65536->runM g (aK g) F s [g.t]=some o)
include hl hr hT hs hF hrun
theorem v7:aj X A 0 0 18 [gV g,.agg [tv],Sg s] []=some (zg (jN g T o),[]):=by
 obtain⟨v,H,k,hH,v1,n,hv,nv,hl1⟩:=t6 g hl hr hT s hs hF hrun;subst hH;refine ar [3,4] rfl A18 rfl rfl ?_;unfold Rn;generalize jN g T o=r at *;generalize aj X A=C at *;have n1:=AU hT;obtain⟨t,gn,kk,ps⟩:=g;simp only[gV,Gm.cells]at k |-;subst hv;rcases r with _ | ⟨l,m⟩
 ·rcases n1 with rfl | ⟨m,cs,rfl⟩;all_goals
   rcases nv with rfl | ⟨ds,rfl,hb⟩;all_goals
    simp[k,zg]
 ·obtain⟨h1,h2⟩:=hl1 l m rfl;rw[show zg (some (l,m))= .tup [v1,Bo true] by rw[h1];rfl]
  clear h1 hl1;rcases n1 with rfl | ⟨m,cs,rfl⟩;all_goals
   rcases nv with rfl | ⟨ds,rfl,hb⟩
   ·simp[k]
   ·simp[k,hb,Hm.below]
theorem x5:aj X A 0 0 20 [gV g,.agg [tv],Sg s] []=some (Cr (jN g T o),[]):=by
 obtain⟨v,H,k,hH,v1,n,hv,nv,hl1⟩:=t6 g hl hr hT s hs hF hrun;subst hH;refine ar [3,4] rfl A20 rfl rfl ?_;unfold Rv;generalize jN g T o=r at *;generalize aj X A=C at *;have n1:=AU hT;obtain⟨t,gn,kk,ps⟩:=g;simp only[gV,Gm.cells]at k |-;subst hv;rcases r with _ | ⟨l,m⟩
 ·rcases n1 with rfl | ⟨m,cs,rfl⟩;all_goals
   rcases nv with rfl | ⟨ds,rfl,hb⟩;all_goals
    simp[k,Cr]
 ·obtain⟨h1,h2⟩:=hl1 l m rfl;rw[show Cr (some (l,m))= .tup [I n,Bo true] by rw[h2];rfl]
  clear h1 hl1;rcases n1 with rfl | ⟨m,cs,rfl⟩;all_goals
   rcases nv with rfl | ⟨ds,rfl,hb⟩;all_goals
    simp[k]
end

theorem Rh (o:Option (List Int×Nat)):∃m:Nat,Cr o= .tup [I m,Bo o.isSome]:=by
 rcases o with _ | ⟨l,n⟩
 ·exact⟨0,rfl⟩
 ·exact⟨n,rfl⟩
section
variable {C:Orc}{Q:Ex->Kt}{E:Env}{t gn k c:Int}{ps:List Pr}{tv tw v nv dv:AV}{s:List UInt8}{b own:Bool}{m:Nat}{r:Env}
def e4 (t gn k:Int)(ps:List Pr)(tv:AV)(s:List UInt8)(r:Env):Env:=(3,Sg s)::(4,.box [I t,I gn,I k,.sl ps.length (psC ps)])::(5,.box [tv])::r
theorem qb4 (htv:tv= .e0\/∃m cs,tv= .sl m cs)(hE:ab [0,1,2,3] E=[(0,.agg [I t,I gn,I k,.sl ps.length (psC ps)]),(1,.agg [tv]),(2,Bo own),(3,Sg s)])
  (hQ:∀E',ab [2,3,4,5] E'=(2,Bo own)::e4 t gn k ps tv s []->Q .nrm E' []):
  WB ⟨C,0,0,[4,5]⟩ (.regN [0,1,2,3] [ kB 4 4 0,kB 5 1 1,kx 8 (.mv cF)]) Q E []:=by
 unfold e4 at hQ;rw[ae,hE];rcases htv with rfl | ⟨m,cs,rfl⟩;all_goals
  simp;refine hQ _ ?_;rfl
theorem RN (kl:C 0 0 9 [] []=some (Bo true,[]))(hE:ab [2,3,4,5] E=(2,Bo own)::e4 t gn k ps tv s [])
  (hQ:∀E',find E' 18=Bo false->ab [2,3,4,5] E'=(2,Bo own)::e4 t gn k ps tv s []->Q .nrm E' []):
  WB ⟨C,0,0,[4,5]⟩ (.regN [2,3,4,5] [ kx 17 (.call 9 []),kx 18 (.not (ux 17))]) Q E []:=by
 unfold e4 at *;rw[ae,hE];simp[kl];refine hQ _ ?_ ?_
 ·simp[find]
 ·rfl
theorem RO (hE:ab [2,3,4,5] E=(2,Bo own)::e4 t gn k ps tv s [])
  (hQ:∀E',find E' 33=Bo own->ab [3,4,5] E'=e4 t gn k ps tv s []->Q .nrm E' []):
  WB ⟨C,0,0,[4,5]⟩ (.regN [2,3,4,5] [ kM 33 2]) Q E []:=by
 unfold e4 at *;rw[ae,hE];simp;refine hQ _ ?_ ?_
 ·simp[find]
 ·rfl
theorem RP (htv:tv= .e0\/∃m cs,tv= .sl m cs)(htw:tw= .e0\/∃m cs,tw= .sl m cs)(kt:C 0 0 12 [.agg [I t,I gn,I k,.sl ps.length (psC ps)]] []=some (.agg [tw],[]))(hE:ab [3,4,5] E=e4 t gn k ps tv s [])
  (hQ:∀E',ab [3,4,5] E'=e4 t gn k ps tw s []->Q .nrm E' []):
  WB ⟨C,0,0,[4,5]⟩ (.regN [3,4,5] [ kP 34 4 4 4,kC 35 12 34,kn (.st (some 5) 1 (ux 5) (ux 35))]) Q E []:=by
 unfold e4 at *;rw[ae,hE];rcases htv with rfl | ⟨m,cs,rfl⟩;all_goals
  rcases htw with rfl | ⟨m',cs',rfl⟩;all_goals
   simp[-bd,kt];rw[bd];simp[an];refine hQ _ ?_;rfl
theorem RQ (htv:tv= .e0\/∃m cs,tv= .sl m cs)(hv:v= .e0\/∃cs,v= .sl cs.length cs/\belowL 0 cs=true)(kd:C 0 0 11 [.agg [I t,I gn,I k,.sl ps.length (psC ps)],.agg [tv],Sg s] []=some (.tup [v,Bo b],[]))
  (hE:ab [3,4,5] E=e4 t gn k ps tv s [])
  (hQ:∀E',ab [3,4,5,9,10] E'=e4 t gn k ps tv s [(9,v),(10,Bo b)]->Q .nrm E' []):
  WB ⟨C,0,0,[4,5]⟩ (.regN [3,4,5] [ kP 37 4 4 4,kP 38 5 1 5,kM 39 3,kx 40 (.call 11 [(ux 37),(ux 38),(ux 39)]),kM 36 40,kE 41 36 0,kE 42 36 1,kM 9 41,kM 10 42]) Q E []:=by
 unfold e4 at *;rw[ae,hE];rcases htv with rfl | ⟨m,cs,rfl⟩;all_goals
  rcases hv with rfl | ⟨ds,rfl,_⟩;all_goals
   simp[kd];refine hQ _ ?_;rfl
theorem RR (htv:tv= .e0\/∃m cs,tv= .sl m cs)(hv:v= .e0\/∃cs,v= .sl cs.length cs/\belowL 0 cs=true)(kd:C 0 0 18 [.agg [I t,I gn,I k,.sl ps.length (psC ps)],.agg [tv],Sg s] []=some (.tup [v,Bo b],[]))
  (hE:ab [3,4,5,9,10] E=e4 t gn k ps tv s [(9,v),(10,Bo b)])
  (hQ:∀E',ab [3,4,5,9,10,11,12] E'=e4 t gn k ps tv s [(9,v),(10,Bo b),(11,v),(12,Bo b)]->Q .nrm E' []):
  WB ⟨C,0,0,[4,5]⟩ (.regN [3,4,5,9,10] [ kP 44 4 4 4,kP 45 5 1 5,kM 46 3,kx 47 (.call 18 [(ux 44),(ux 45),(ux 46)]),kM 43 47,kE 48 43 0,kE 49 43 1,kM 11 48,kM 12 49]) Q E []:=by
 unfold e4 at *;rw[ae,hE];rcases htv with rfl | ⟨m,cs,rfl⟩;all_goals
  rcases hv with rfl | ⟨ds,rfl,_⟩;all_goals
   simp[kd];refine hQ _ ?_;rfl
theorem RS (htv:tv= .e0\/∃m cs,tv= .sl m cs)(hv:v= .e0\/∃cs,v= .sl cs.length cs/\belowL 0 cs=true)(kd:C 0 0 19 [.agg [I t,I gn,I k,.sl ps.length (psC ps)],.agg [tv],Sg s] []=some (.tup [I m,Bo b],[]))
  (hE:ab [3,4,5,9,10,11,12] E=e4 t gn k ps tv s [(9,v),(10,Bo b),(11,v),(12,Bo b)])
  (hQ:∀E',ab [3,4,5,9,10,11,12,13,14] E'=e4 t gn k ps tv s [(9,v),(10,Bo b),(11,v),(12,Bo b),(13,I m),(14,Bo b)]->Q .nrm E' []):
  WB ⟨C,0,0,[4,5]⟩ (.regN [3,4,5,9,10,11,12] [ kP 51 4 4 4,kP 52 5 1 5,kM 53 3,kx 54 (.call 19 [(ux 51),(ux 52),(ux 53)]),kM 50 54,kE 55 50 0,kE 56 50 1,kM 13 55,kM 14 56]) Q E []:=by
 unfold e4 at *;rw[ae,hE];rcases htv with rfl | ⟨m,cs,rfl⟩;all_goals
  rcases hv with rfl | ⟨ds,rfl,_⟩;all_goals
   simp[kd];refine hQ _ ?_;rfl
theorem RT (htv:tv= .e0\/∃m cs,tv= .sl m cs)(hv:v= .e0\/∃cs,v= .sl cs.length cs/\belowL 0 cs=true)(kd:C 0 0 20 [.agg [I t,I gn,I k,.sl ps.length (psC ps)],.agg [tv],Sg s] []=some (.tup [I m,Bo b],[]))
  (hE:ab [3,4,5,9,10,11,12,13,14] E=e4 t gn k ps tv s [(9,v),(10,Bo b),(11,v),(12,Bo b),(13,I m),(14,Bo b)])
  (hQ:∀E',ab [4,9,10,11,12,13,14,15,16] E'=[(4,.box [I t,I gn,I k,.sl ps.length (psC ps)]),(9,v),(10,Bo b),(11,v),(12,Bo b),(13,I m),(14,Bo b),(15,I m),(16,Bo b)]->Q .nrm E' []):
  WB ⟨C,0,0,[4,5]⟩ (.regN [3,4,5,9,10,11,12,13,14] [ kP 58 4 4 4,kP 59 5 1 5,kM 60 3,kx 61 (.call 20 [(ux 58),(ux 59),(ux 60)]),kM 57 61,kE 62 57 0,kE 63 57 1,kM 15 62,kM 16 63]) Q E []:=by
 unfold e4 at *;rw[ae,hE];rcases htv with rfl | ⟨m,cs,rfl⟩;all_goals
  rcases hv with rfl | ⟨ds,rfl,_⟩;all_goals
   simp[kd];refine hQ _ ?_;rfl
theorem Rz (hv:v= .e0\/∃cs,v= .sl cs.length cs/\belowL 0 cs=true)(hnv:nv= .e0\/∃m cs,nv= .sl m cs)(hdv:dv= .e0\/∃m cs,dv= .sl m cs)(ks:C 0 0 13 [v,v] []=some (Bo true,[]))(kn1:C 0 0 14 [.agg [I t,I gn,I k,.sl ps.length (psC ps)]] []=some (nv,[]))(kn2:C 0 0 21 [.agg [I t,I gn,I k,.sl ps.length (psC ps)]] []=some (nv,[]))(kn3:C 0 0 13 [nv,nv] []=some (Bo true,[]))
  (kd1:C 0 0 15 [.agg [I t,I gn,I k,.sl ps.length (psC ps)]] []=some (dv,[])) (kd2:C 0 0 22 [.agg [I t,I gn,I k,.sl ps.length (psC ps)]] []=some (dv,[])) (kd3:C 0 0 13 [dv,dv] []=some (Bo true,[])) (kc1:C 0 0 16 [.agg [I t,I gn,I k,.sl ps.length (psC ps)]] []=some (I c,[])) (kc2:C 0 0 23 [.agg [I t,I gn,I k,.sl ps.length (psC ps)]] []=some (I c,[]))
  (hE:ab [4,9,10,11,12,13,14,15,16] E=[(4,.box [I t,I gn,I k,.sl ps.length (psC ps)]),(9,v),(10,Bo b),(11,v),(12,Bo b),(13,I m),(14,Bo b),(15,I m),(16,Bo b)])
  (hQ:∀E',find E' 8=Bo true->Q .nrm E' []):
  WB ⟨C,0,0,[4,5]⟩ (.regD [4,9,10,11,12,13,14,15,16] 0 [ kM 64 9,kM 65 11,kf 66 (.call 13 [(ux 64),(ux 65)]),kM 67 66,yM 68 67 10,yM 69 67 12,ky 70 67 (.eqb false (ux 68) (ux 69)),kx 71 (.pick (ux 67) (ux 70) cF),kM 72 71,yM 73 72 13,yM 74 72 15,ky 75 72 (.bini .eql (ux 73) (ux 74)),kx 76 (.pick (ux 72) (ux 75) cF),kM 77 76,yM 78 77 14,yM 79 77 16,ky 80 77 (.eqb false (ux 78) (ux 79)),kx 81 (.pick (ux 77) (ux 80) cF),kM 82 81,ky 83 82 (.ldA (some 4) 4 (ux 4)),⟨some 84,some (82,true),.call 14 [.tmp 83],0,true⟩,ky 85 82 (.ldA (some 4) 4 (ux 4)),⟨some 86,some (82,true),.call 21 [.tmp 85],0,true⟩,⟨some 87,some (82,true),.call 13 [(ux 84),(ux 86)],0,true⟩,kx 88 (.pick (ux 82) (ux 87) cF),kM 89 88,ky 90 89 (.ldA (some 4) 4 (ux 4)),⟨some 91,some (89,true),.call 15 [.tmp 90],0,true⟩,ky 92 89 (.ldA (some 4) 4 (ux 4)),⟨some 93,some (89,true),.call 22 [.tmp 92],0,true⟩,⟨some 94,some (89,true),.call 13 [(ux 91),(ux 93)],0,true⟩,kx 95 (.pick (ux 89) (ux 94) cF),kM 96 95,ky 97 96 (.ldA (some 4) 4 (ux 4)),⟨some 98,some (96,true),.call 16 [.tmp 97],0,true⟩,ky 99 96 (.ldA (some 4) 4 (ux 4)),⟨some 100,some (96,true),.call 23 [.tmp 99],0,true⟩,ky 101 96 (.bini .eql (ux 98) (ux 100)),kx 102 (.pick (ux 96) (ux 101) cF),kM 8 102]) Q E []:=by
 rw[aB rfl,hE];have hbb:(b==b)=true:=by cases b<;>rfl
 rcases hv with rfl | ⟨ds,rfl,_⟩;all_goals
  rcases hnv with rfl | ⟨m1,cs1,rfl⟩;all_goals
   rcases hdv with rfl | ⟨m2,cs2,rfl⟩;all_goals
    simp[ks,kn1,kn2,kn3,kd1,kd2,kd3,kc1,kc2,hbb];refine hQ _ ?_;simp[find]
end
theorem QE (g:Gm)(S:Ss)(hS:∀l∈S,LRw l)(hSn:S.length<=9223372036854775807)(own:Bool)(s:List UInt8):aj X A 0 0 4 [gV g,.agg [.sl S.length (f5 S)],Bo own,Sg s] []=some (Bo true,[]):=by
 have kl:=mZ (lim:=0);have kg:=fU (lk:=0) (lim:=0) (H:=[]) g;have hT0:=QZ S;refine ar [4,5] rfl A4 rfl rfl ?_;show WB ⟨aj X A,0,0,[4,5]⟩ t4B _ (aP 0 [gV g,.agg [.sl S.length (f5 S)],Bo own,Sg s]) [];unfold t4B;rw[ai];refine qb4 (.inr ⟨_,_,rfl⟩) rfl fun E1 h1=>?_;rw[ah,ai,ai];refine RN kl h1 fun E2 g2 h2=>?_;have h2':=h2;unfold e4 at h2;rw[ah,af (aI g2),aA,ah,ai,ai,ae,h2];by_cases hlt:d8 g=true;case neg=>
  have hlt:d8 g=false:=by simpa using hlt
  rw[hlt]at kg;generalize aj X A=C at *;obtain⟨t,n,k,ps⟩:=g;simp only[gV,Gm.cells]at kg;simp[kg]
 obtain⟨hl,hr⟩:=mB hlt;rw[hlt]at kg;by_cases h12:12<s.length
 ·generalize aj X A=C at *;obtain⟨t,n,k,ps⟩:=g;simp only[gV,Gm.cells]at kg;have h12':(12:Int)<(s.length:Int):=by omega
  simp[kg,h12,h12',bo]
 have h12':¬(12:Int)<(s.length:Int):=by omega
 by_cases h40:40<S.length
 ·generalize aj X A=C at *;obtain⟨t,n,k,ps⟩:=g;simp only[gV,Gm.cells]at kg;have h40':(40:Int)<(S.length:Int):=by omega
  simp[kg,h12,h12',h40,h40',bo]
 have h40':¬(40:Int)<(S.length:Int):=by omega
 obtain⟨o,ho⟩:∃o,cN g=0->ce g<=65536->runM g (aK g) 1000000 s [g.t]=some o:=by
  by_cases hc:cN g=0/\ce g<=65536
  ·obtain⟨o,ho⟩:=GL (jL hc.1) hc.2 (w:=s) (by omega)
   exact⟨o,fun _ _=>ho⟩
  ·exact⟨none,fun h1 h2=>absurd ⟨h1,h2⟩ hc⟩
 have tail:∀E tv T,TV tv T->ab [3,4,5] E=e4 g.t g.n g.k g.ps tv s []->WB ⟨aj X A,0,0,[4,5]⟩ (.seq (.regN [3,4,5] [ kP 37 4 4 4,kP 38 5 1 5,kM 39 3,kx 40 (.call 11 [(ux 37),(ux 38),(ux 39)]),kM 36 40,kE 41 36 0,kE 42 36 1,kM 9 41,kM 10 42]) (.seq (.regN [3,4,5,9,10] [ kP 44 4 4 4,kP 45 5 1 5,kM 46 3,kx 47 (.call 18 [(ux 44),(ux 45),(ux 46)]),kM 43 47,kE 48 43 0,kE 49 43 1,kM 11 48,kM 12 49]) (.seq (.regN [3,4,5,9,10,11,12] [ kP 51 4 4 4,kP 52 5 1 5,kM 53 3,kx 54 (.call 19 [(ux 51),(ux 52),(ux 53)]),kM 50 54,kE 55 50 0,kE 56 50 1,kM 13 55,kM 14 56]) (.seq (.regN [3,4,5,9,10,11,12,13,14] [ kP 58 4 4 4,kP 59 5 1 5,kM 60 3,kx 61 (.call 20 [(ux 58),(ux 59),(ux 60)]),kM 57 61,kE 62 57 0,kE 63 57 1,kM 15 62,kM 16 63]) (.seq (.regD [4,9,10,11,12,13,14,15,16] 0 [ kM 64 9,kM 65 11,kf 66 (.call 13 [(ux 64),(ux 65)]),kM 67 66,yM 68 67 10,yM 69 67 12,ky 70 67 (.eqb false (ux 68) (ux 69)),kx 71 (.pick (ux 67) (ux 70) cF),kM 72 71,yM 73 72 13,yM 74 72 15,ky 75 72 (.bini .eql (ux 73) (ux 74)),kx 76 (.pick (ux 72) (ux 75) cF),kM 77 76,yM 78 77 14,yM 79 77 16,ky 80 77 (.eqb false (ux 78) (ux 79)),kx 81 (.pick (ux 77) (ux 80) cF),kM 82 81,ky 83 82 (.ldA (some 4) 4 (ux 4)),⟨some 84,some (82,true),.call 14 [.tmp 83],0,true⟩,ky 85 82 (.ldA (some 4) 4 (ux 4)),⟨some 86,some (82,true),.call 21 [.tmp 85],0,true⟩,⟨some 87,some (82,true),.call 13 [(ux 84),(ux 86)],0,true⟩,kx 88 (.pick (ux 82) (ux 87) cF),kM 89 88,ky 90 89 (.ldA (some 4) 4 (ux 4)),⟨some 91,some (89,true),.call 15 [.tmp 90],0,true⟩,ky 92 89 (.ldA (some 4) 4 (ux 4)),⟨some 93,some (89,true),.call 22 [.tmp 92],0,true⟩,⟨some 94,some (89,true),.call 13 [(ux 91),(ux 93)],0,true⟩,kx 95 (.pick (ux 89) (ux 94) cF),kM 96 95,ky 97 96 (.ldA (some 4) 4 (ux 4)),⟨some 98,some (96,true),.call 16 [.tmp 97],0,true⟩,ky 99 96 (.ldA (some 4) 4 (ux 4)),⟨some 100,some (96,true),.call 23 [.tmp 99],0,true⟩,ky 101 96 (.bini .eql (ux 98) (ux 100)),kx 102 (.pick (ux 96) (ux 101) cF),kM 8 102]) .ret))))) (oO [.tmp 8] true [] (Bo true,[])) E []:=by
  intro E tv T hT hE;have k1:=gS (lk:=0) (lim:=0) (H:=[]) (Nat.le_refl _) g hl hr hT s (by omega) (F:=1000000) (Nat.le_refl _) ho
  have k2:=v7 g hl hr hT s (by omega) (F:=1000000) (Nat.le_refl _) ho
  have k3:=mY (lk:=0) (lim:=0) (H:=[]) (Nat.le_refl _) g hl hr hT s (by omega) (F:=1000000) (Nat.le_refl _) ho
  have k4:=x5 g hl hr hT s (by omega) (F:=1000000) (Nat.le_refl _) ho
  obtain⟨m,hm⟩:=Rh (jN g T o);rw[AQ]at k1 k2;rw[hm]at k3 k4;have n1:=AU hT;have nv:=AR (jN g T o);have hlen:(Pi (jN g T o)).length<=1000000000:=by
   unfold jN;split
   ·rename_i hc;rcases o with _ | ⟨l,n⟩
    ·exact Nat.zero_le _
    ·obtain⟨r,hn⟩:=fE _ _ _ _ _ (ho hc.1 hc.2.1);have:=tn r;show l.length<=1000000000;simp only[List.length_nil]at this;omega
   ·exact Nat.zero_le _
  have ks:=jM (lk:=0) (lim:=0) (H:=[]) (pB (jN g T o)) (pB (jN g T o)) hlen;rw[decide_eq_true rfl]at ks;have kn1:=oE (lk:=0) (lim:=0) (H:=[]) (Nat.le_refl _) g hl hr;have kn2:=l3 (lk:=0) (lim:=0) (H:=[]) (Nat.le_refl _) g hl hr;have kd1:=oG (lk:=0) (lim:=0) (H:=[]) (Nat.le_refl _) g hl hr;have kd2:=mS (lk:=0) (lim:=0) (H:=[]) (Nat.le_refl _) g hl hr;have kc1:=cG (lk:=0) (lim:=0) (H:=[]) (Nat.le_refl _) g hl hr;have kc2:=g8 (lk:=0) (lim:=0) (H:=[]) (Nat.le_refl _) g hl hr;have kn3:aj X A 0 0 13 [Au g,Au g] []=some (Bo true,[]):=by
   by_cases hacc:cN g=0
   ·have ha:=jL hacc;have e:Au g=iV (nullM g):=if_pos hacc;have:=jM (lk:=0) (lim:=0) (H:=[]) (a:=nullM g) (b:=nullM g) (.inl rfl) (.inl rfl) (by rw[(bn ha.ok).len];have:=ha.ok.n2;omega)
    rw[decide_eq_true rfl]at this;rw[e];exact this
   ·have e:Au g= .e0:=if_neg hacc;have:=jM (lk:=0) (lim:=0) (H:=[]) (a:=[]) (b:=[]) (.inr ⟨rfl,rfl⟩) (.inr ⟨rfl,rfl⟩) (by simp)
    rw[decide_eq_true rfl]at this;rw[e];exact this
  have kd3:aj X A 0 0 13 [Ax g,Ax g] []=some (Bo true,[]):=by
   by_cases hacc:cN g=0
   ·have ha:=jL hacc;have e:Ax g=iV (bL g):=if_pos hacc;have:=jM (lk:=0) (lim:=0) (H:=[]) (a:=bL g) (b:=bL g) (.inl rfl) (.inl rfl) (by simp[bL];have:=ha.ok.n2;omega)
    rw[decide_eq_true rfl]at this;rw[e];exact this
   ·have e:Ax g= .e0:=if_neg hacc;have:=jM (lk:=0) (lim:=0) (H:=[]) (a:=[]) (b:=[]) (.inr ⟨rfl,rfl⟩) (.inr ⟨rfl,rfl⟩) (by simp)
    rw[decide_eq_true rfl]at this;rw[e];exact this
  have nn:Au g= .e0\/∃m cs,Au g= .sl m cs:=by
   unfold Au;split
   ·exact .inr ⟨_,_,rfl⟩
   ·exact .inl rfl
  have nd:Ax g= .e0\/∃m cs,Ax g= .sl m cs:=by
   unfold Ax;split
   ·exact .inr ⟨_,_,rfl⟩
   ·exact .inl rfl
  rw[ai];refine RQ n1 nv k1 hE fun E1 h1=>?_;rw[ah,ai];refine RR n1 nv k2 h1 fun E2 h2=>?_;rw[ah,ai];refine RS n1 nv k3 h2 fun E3 h3=>?_;rw[ah,ai];refine RT n1 nv k4 h3 fun E4 h4=>?_;rw[ah,ai];refine Rz nv nn nd ks kn1 kn2 kn3 kd1 kd2 kd3 kc1 kc2 h4 fun E5 h5=>?_;rw[ah,tQ];simp[h5]
 have tail2:∀E,ab [2,3,4,5] E=(2,Bo own)::e4 g.t g.n g.k g.ps (.sl S.length (f5 S)) s []->WB ⟨aj X A,0,0,[4,5]⟩ (.seq (.seq (.regN [2,3,4,5] [ kM 33 2]) (.cond (ux 33) (.regN [3,4,5] [ kP 34 4 4 4,kC 35 12 34,kn (.st (some 5) 1 (ux 5) (ux 35))]) .skip)) (.seq (.regN [3,4,5] [ kP 37 4 4 4,kP 38 5 1 5,kM 39 3,kx 40 (.call 11 [(ux 37),(ux 38),(ux 39)]),kM 36 40,kE 41 36 0,kE 42 36 1,kM 9 41,kM 10 42]) (.seq (.regN [3,4,5,9,10] [ kP 44 4 4 4,kP 45 5 1 5,kM 46 3,kx 47 (.call 18 [(ux 44),(ux 45),(ux 46)]),kM 43 47,kE 48 43 0,kE 49 43 1,kM 11 48,kM 12 49]) (.seq (.regN [3,4,5,9,10,11,12] [ kP 51 4 4 4,kP 52 5 1 5,kM 53 3,kx 54 (.call 19 [(ux 51),(ux 52),(ux 53)]),kM 50 54,kE 55 50 0,kE 56 50 1,kM 13 55,kM 14 56]) (.seq (.regN [3,4,5,9,10,11,12,13,14] [ kP 58 4 4 4,kP 59 5 1 5,kM 60 3,kx 61 (.call 20 [(ux 58),(ux 59),(ux 60)]),kM 57 61,kE 62 57 0,kE 63 57 1,kM 15 62,kM 16 63]) (.seq (.regD [4,9,10,11,12,13,14,15,16] 0 [ kM 64 9,kM 65 11,kf 66 (.call 13 [(ux 64),(ux 65)]),kM 67 66,yM 68 67 10,yM 69 67 12,ky 70 67 (.eqb false (ux 68) (ux 69)),kx 71 (.pick (ux 67) (ux 70) cF),kM 72 71,yM 73 72 13,yM 74 72 15,ky 75 72 (.bini .eql (ux 73) (ux 74)),kx 76 (.pick (ux 72) (ux 75) cF),kM 77 76,yM 78 77 14,yM 79 77 16,ky 80 77 (.eqb false (ux 78) (ux 79)),kx 81 (.pick (ux 77) (ux 80) cF),kM 82 81,ky 83 82 (.ldA (some 4) 4 (ux 4)),⟨some 84,some (82,true),.call 14 [.tmp 83],0,true⟩,ky 85 82 (.ldA (some 4) 4 (ux 4)),⟨some 86,some (82,true),.call 21 [.tmp 85],0,true⟩,⟨some 87,some (82,true),.call 13 [(ux 84),(ux 86)],0,true⟩,kx 88 (.pick (ux 82) (ux 87) cF),kM 89 88,ky 90 89 (.ldA (some 4) 4 (ux 4)),⟨some 91,some (89,true),.call 15 [.tmp 90],0,true⟩,ky 92 89 (.ldA (some 4) 4 (ux 4)),⟨some 93,some (89,true),.call 22 [.tmp 92],0,true⟩,⟨some 94,some (89,true),.call 13 [(ux 91),(ux 93)],0,true⟩,kx 95 (.pick (ux 89) (ux 94) cF),kM 96 95,ky 97 96 (.ldA (some 4) 4 (ux 4)),⟨some 98,some (96,true),.call 16 [.tmp 97],0,true⟩,ky 99 96 (.ldA (some 4) 4 (ux 4)),⟨some 100,some (96,true),.call 23 [.tmp 99],0,true⟩,ky 101 96 (.bini .eql (ux 98) (ux 100)),kx 102 (.pick (ux 96) (ux 101) cF),kM 8 102]) .ret)))))) (oO [.tmp 8] true [] (Bo true,[])) E []:=by
  intro E hE;rw[ai,ai];refine RO hE fun E7 g7 h7=>?_;rw[ah];cases own with
  | true=>
   obtain⟨tw,kt,hTw⟩:=iY (lk:=0) (lim:=0) (H:=[]) (Nat.le_refl _) g hl hr;rw[ak (aI g7)];refine RP (.inr ⟨_,_,rfl⟩) (AU hTw) kt h7 fun E8 h8=>?_;rw[ah];exact tail _ tw _ hTw h8
  | false=>
   rw[af (aI g7),aA,ah];exact tail _ _ _ hT0 h7
 clear tail ho hr h2' hT0;generalize aj X A=C at *;obtain⟨t,n,k,ps⟩:=g;simp only[gV,Gm.cells]at kg tail2;generalize f5 S=sc at *;simp[-ak,-af,-ae,-aB,kg,h12,h12',h40,h40',bo];rw[af rfl,aA,ah];exact tail2 _ (by simp[e4])
end Go.Proofs.YtkllbcjanneppaaGreat
