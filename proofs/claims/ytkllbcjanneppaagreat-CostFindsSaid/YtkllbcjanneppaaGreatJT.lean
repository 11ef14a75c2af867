import Derived.Test.YtkllbcjanneppaaGreatJR
set_option maxRecDepth 20000
set_option linter.unusedSimpArgs false
set_option linter.unusedVariables false
namespace Go.Proofs.YtkllbcjanneppaaGreat
open Go Go.Hm

section
variable {C:Orc}{Q:Ex->Kt}{E:Env}{Z:Heap}{t gn k x:Int}{ps:List Pr}{cl:List Int}{pv:AV}{out:List UInt8}{S:List AV}{sn n:Nat}{r st prods:List Int}{ol:List Nat}{kk:Int}
def e6 (t gn k:Int)(ps:List Pr)(cl:List Int)(pv:AV)(sc sn:Nat)(out:List UInt8)(n:Nat)(e:Env):Env:=(1,.sl cl.length (ints cl))::(2,.box [I t,I gn,I k,.sl ps.length (psC ps)])::(5,pv)::(6,.hs 0 sc 0 sn 1)::(7,Sg out)::(8,I n)::e
theorem Qp {i:Nat}(hE:ab [1,2,5,6,7,8,11,12] E=e6 t gn k ps cl pv S.length sn out n [(11,I i),(12,I kk)])
    (hQ:∀E',find E' 113=Bo (decide (0<=kk))->ab [1,2,5,6,7,8,11,12] E'=e6 t gn k ps cl pv S.length sn out n [(11,I i),(12,I kk)]->ab [1,2,5,6,7,8] E'=e6 t gn k ps cl pv S.length sn out n []->Q .nrm E' Z):
    WB ⟨C,0,0,[2]⟩ (.regN [1,2,5,6,7,8,11,12] [ kM 112 12,kx 113 (.bini .geq (ux 112) c0)]) Q E Z:=by
  unfold e6 at *;rw [ae,hE];simp;refine hQ _ ?_ ?_ ?_
  · simp [find]
  · rfl
  · rfl
theorem Qq {m i:Nat}(hpv:pv= .e0\/∃m,pv= .hs 1 m 0 m 1)(hb:Z[0]?=some (.cells S))(hk:kk=(m:Nat))(hi:i < ps.length)(hr:∀h,(psC ps)[i * 2+1]'h= .sl r.length (ints r))(hm:m < r.length)(hx:∀h,(ints r)[m]'h=I x)(hsn:sn<=S.length)(hn:sn<=100000000)
    (hE:ab [1,2,5,6,7,8,11,12] E=e6 t gn k ps cl pv S.length sn out n [(11,I i),(12,I kk)])
    (hQ:∀E',ab [1,2,5,6,7,8,11,12] E'=e6 t gn k ps cl pv (eh sn S.length 1) (sn+1) out n [(11,I i),(12,I kk)]->Q .nrm E' (Z.set 0 (.cells (cS sn S.length S [I x])))):
    WB ⟨C,0,0,[2]⟩ (.regN [1,2,5,6,7,8,11,12] [ kM 116 6,kF 117 3 2,kS 118 2 117,kM 119 11,kI 120 2 118 119,kF 121 1 120,kL 122 121,kM 123 12,kI 124 1 122 123,kL 125 124,kx 126 (.buildS 1 [(.val (.int .i64 0))] [(0,1,(ux 125))]),kx 127 (.app 1 8 (ux 116) (ux 126)),kM 6 127]) Q E Z:=by
  subst hk;have hll:=aY ps;have h2:i * 2+1 < 2 * ps.length:=by omega
  have r1:(sn+1) * 8<=aM:=by unfold aM;omega
  have h8:sn=S.length\/sn+1<=S.length:=by omega
  have hrl:=aV r;unfold e6 at *;rw [ae,hE];rcases hpv with rfl | ⟨m',rfl⟩;all_goals
    simp [hm,hx,hi,hr,hll,h2,hrl,aN,hb,r1,h8,aR];refine hQ _ ?_;rfl
theorem Qr {i:Nat}(hw:IntKind.i64.wrap (kk - 1)=kk - 1)(hE:ab [1,2,5,6,7,8,11,12] E=e6 t gn k ps cl pv S.length sn out n [(11,I i),(12,I kk)])
    (hQ:∀E',ab [1,2,5,6,7,8,11,12] E'=e6 t gn k ps cl pv S.length sn out n [(11,I i),(12,I (kk - 1))]->Q .nrm E' Z):
    WB ⟨C,0,0,[2]⟩ (.regN [1,2,5,6,7,8,11,12] [ kM 114 12,kx 115 (.bini .sub (ux 114) c1),kM 12 115]) Q E Z:=by
  unfold e6 at *;rw [ae,hE];simp [hw];refine hQ _ ?_;rfl
theorem f45 (hE:ab [1,2,5,6,7,8] E=e6 t gn k ps cl pv S.length sn out n [])
    (hQ:∀E',find E' 45=Bo (decide (0 < sn))->ab [1,2,5,6,7,8] E'=e6 t gn k ps cl pv S.length sn out n []->ab [2,5,7] E'=[(2,.box [I t,I gn,I k,.sl ps.length (psC ps)]),(5,pv),(7,Sg out)]->Q .nrm E' Z):
    WB ⟨C,0,0,[2]⟩ (.regN [1,2,5,6,7,8] [ kM 43 6,kN 44 43,kx 45 (.bini .gtr (ux 44) c0)]) Q E Z:=by
  unfold e6 at *;rw [ae,hE];simp;refine hQ _ ?_ ?_ ?_
  · simp [find]
  · rfl
  · rfl
theorem f53 {m:Nat}(hb:Z[0]?=some (.cells S))(hsn:sn=m+1)(hm:m<=100000000)(hx:S[m]?=some (I x))(hE:ab [1,2,5,6,7,8] E=e6 t gn k ps cl pv S.length sn out n [])
    (hQ:∀E',ab [1,2,5,6,7,8,9] E'=e6 t gn k ps cl pv S.length sn out n [(9,I x)]->Q .nrm E' Z):
    WB ⟨C,0,0,[2]⟩ (.regN [1,2,5,6,7,8] [ kM 48 6,kM 49 6,kN 50 49,kx 51 (.bini .sub (ux 50) c1),kI 52 1 48 51,kL 53 52,kM 9 53]) Q E Z:=by
  subst hsn;have hm2:=(List.getElem?_eq_some_iff.1 hx).1;have hx2:∀h,S[m]'h=I x:=fun h=>(List.getElem?_eq_some_iff.1 hx).2;have w1:IntKind.i64.wrap (m:Int)=(m:Int):=au (by omega) (by omega)
  have hlt:(m:Int) < (m:Int)+1:=by omega
  unfold e6 at *;rw [ae,hE];simp [hb,hm2,hx2,w1,hlt];refine hQ _ ?_;rfl
theorem f58 {m:Nat}(hsn:sn=m+1)(hm:m<=100000000)(hE:ab [1,2,5,6,7,8,9] E=e6 t gn k ps cl pv S.length sn out n [(9,I x)])
    (hQ:∀E',ab [1,2,5,6,7,8,9] E'=e6 t gn k ps cl pv S.length m out n [(9,I x)]->Q .nrm E' Z):
    WB ⟨C,0,0,[2]⟩ (.regN [1,2,5,6,7,8,9] [ kM 54 6,kM 55 6,kN 56 55,kx 57 (.bini .sub (ux 56) c1),kx 58 (.slC 1 (ux 54) none (some (ux 57))),kM 6 58]) Q E Z:=by
  subst hsn;have w1:IntKind.i64.wrap (m:Int)=(m:Int):=au (by omega) (by omega)
  have hle:(m:Int)<=(m:Int)+1:=by omega
  unfold e6 at *;rw [ae,hE];simp [w1,hle,bnd];refine hQ _ ?_;rfl
theorem f62 (hE:ab [1,2,5,6,7,8,9] E=e6 t gn k ps cl pv S.length sn out n [(9,I x)])
    (hQ:∀E',find E' 62=Bo (decide (x < t))->ab [1,2,5,6,7,8,9] E'=e6 t gn k ps cl pv S.length sn out n [(9,I x)]->Q .nrm E' Z):
    WB ⟨C,0,0,[2]⟩ (.regN [1,2,5,6,7,8,9] [ kM 59 9,kF 60 0 2,kS 61 2 60,kT 62 59 61]) Q E Z:=by
  unfold e6 at *;rw [ae,hE];simp;refine hQ _ ?_ ?_
  · simp [find]
  · rfl
theorem f68 (ho:out.length<=1000000)(hE:ab [1,2,5,6,7,8,9] E=e6 t gn k ps cl pv S.length sn out n [(9,I x)])
    (hQ:∀E',ab [1,2,5,6,7,8] E'=e6 t gn k ps cl pv S.length sn (out++[byteI x]) n []->Q .nrm E' Z):
    WB ⟨C,0,0,[2]⟩ (.regN [1,2,5,6,7,8,9] [ kM 63 7,kM 64 9,kx 65 (.cvi .u8 (ux 64)),kx 66 (.buildS 1 [(.val (.int .u8 0))] [(0,1,(ux 65))]),kx 67 (.b2s (ux 66)),kx 68 (.bins .add (ux 63) (ux 67)),kM 7 68]) Q E Z:=by
  have hadd:=qH (a:=out) (b:=[byteI x]) (by simp;omega)
  have hw:=eH x;have ho2:UInt8.ofNat (byteI x).toNat=byteI x:=UInt8.ofNat_toNat;unfold e6 at *;rw [ae,hE];simp [hw,dF,hadd];refine hQ _ ?_;rfl
theorem f74 (hw:IntKind.i64.wrap (x - t)=x - t)(kc:C 0 0 26 [.agg [I t,I gn,I k,.sl ps.length (psC ps)],I (x - t)] Z=some (.sl ol.length (nts ol),Z))(hE:ab [1,2,5,6,7,8,9] E=e6 t gn k ps cl pv S.length sn out n [(9,I x)])
    (hQ:∀E',ab [1,2,5,6,7,8,10] E'=e6 t gn k ps cl pv S.length sn out n [(10,.sl ol.length (nts ol))]->Q .nrm E' Z):
    WB ⟨C,0,0,[2]⟩ (.regN [1,2,5,6,7,8,9] [ kP 69 2 4 2,kM 70 9,kF 71 0 2,kS 72 2 71,kx 73 (.bini .sub (ux 70) (ux 72)),kx 74 (.call 26 [(ux 69),(ux 73)]),kM 10 74]) Q E Z:=by
  unfold e6 at *;rw [ae,hE];simp [hw,kc];refine hQ _ ?_;rfl
theorem f86 (h0:ol≠[])(hE:ab [1,2,5,6,7,8,10] E=e6 t gn k ps cl pv S.length sn out n [(10,.sl ol.length (nts ol))])
    (hQ:∀E',find E' 86=Bo (decide (120 < n\/200 < sn))->ab [1,2,5,6,7,8,10] E'=e6 t gn k ps cl pv S.length sn out n [(10,.sl ol.length (nts ol))]->Q .nrm E' Z):
    WB ⟨C,0,0,[2]⟩ (.regN [1,2,5,6,7,8,10] [ kM 75 10,kN 76 75,kx 77 (.bini .eql (ux 76) c0),kM 78 77,zM 79 78 8,kz 80 78 (.bini .gtr (ux 79) (.con (.val (.int .i64 120)))),kO 81 78 80,kM 82 81,zM 83 82 6,zN 84 82 83,kz 85 82 (.bini .gtr (ux 84) (.con (.val (.int .i64 200)))),kO 86 82 85]) Q E Z:=by
  have e1:((ol.length:Int)==0)=false:=by
    have:0 < ol.length:=List.length_pos_iff.2 h0;rw [beq_eq_false_iff_ne];omega
  unfold e6 at *;rw [ae,hE];by_cases h1:120 < n
  · have h1':(120:Int) < (n:Int):=by omega
    simp [e1,h1,h1',h0];refine hQ _ ?_ ?_
    · simp [find,h1,e1,h0]
    · rfl
  · have h1':¬(120:Int) < (n:Int):=by omega
    by_cases h2:200 < sn
    · have h2':(200:Int) < (sn:Int):=by omega
      simp [e1,h1,h1',h2,h2',h0];refine hQ _ ?_ ?_
      · simp [find,h1,h2,e1,h0]
      · rfl
    · have h2':¬(200:Int) < (sn:Int):=by omega
      simp [e1,h1,h1',h2,h2',h0];refine hQ _ ?_ ?_
      · simp [find,h1,h2,e1,h0]
      · rfl
theorem f99 {c pk p:Nat}(hcl:0 < cl.length/\cl.length<=60)(hn:n<=1000)(hc:∀h,(ints cl)[n % cl.length]'h=I x)(hp:C 0 0 27 [I x,I (ol.length:Nat)] Z=some (I (pk:Nat),Z))(hpk:pk < ol.length)(hg:∀h,(nts ol)[pk]'h=I (p:Nat))
    (hE:ab [1,2,5,6,7,8,10] E=e6 t gn k ps cl pv S.length sn out n [(10,.sl ol.length (nts ol))])
    (hQ:∀E',ab [1,2,5,6,7,8,11] E'=e6 t gn k ps cl pv S.length sn out n [(11,I (p:Nat))]->Q .nrm E' Z):
    WB ⟨C,0,0,[2]⟩ (.regN [1,2,5,6,7,8,10] [ kM 87 10,kM 88 1,kM 89 8,kM 90 1,kN 91 90,kx 92 (.bini .rem (ux 89) (ux 91)),kI 93 1 88 92,kL 94 93,kM 95 10,kN 96 95,kx 97 (.call 27 [(ux 94),(ux 96)]),kI 98 1 87 97,kL 99 98,kM 11 99]) Q E Z:=by
  have hrem:(n:Int).tmod (cl.length:Int)=((n % cl.length:Nat):Int):=by
    rw [Int.tmod_eq_emod_of_nonneg (by omega)]
    exact (Int.natCast_emod ..).symm
  have hlt:n % cl.length < cl.length:=Nat.mod_lt _ hcl.1;obtain ⟨q,hq⟩:∃q,n % cl.length=q:=⟨_,rfl⟩;rw [hq] at hrem hlt hc;have h0:¬((cl.length:Int)=0):=by omega
  have h00:¬cl.length=0:=by omega
  have h01:¬cl=[]:=fun e=>by rw [e] at hcl;simp at hcl
  have hw:IntKind.i64.wrap (q:Int)=(q:Int):=au (by omega) (by omega)
  have hll:=aV cl;have hnl:=dW ol;unfold e6 at *;rw [ae,hE];simp [hrem,hlt,h0,h00,h01,hw,hll,hc,hp,hnl,hpk,hg];refine hQ _ ?_;rfl
end

def fH (S:List AV)(prods:List Int):Heap:=.cells S::(if prods=[] then [] else [.cells (ints prods)])
def pvF (prods:List Int):AV:=if prods=[] then .e0 else .hs 1 prods.length 0 prods.length 1
theorem MM (l:List Int):pvF l= .e0\/∃m,pvF l= .hs 1 m 0 m 1:=by
  unfold pvF;split
  · exact .inl rfl
  · exact .inr ⟨_,rfl⟩
theorem fH0 (S:List AV)(l:List Int):(fH S l)[0]?=some (.cells S):=rfl
theorem Jv (S S':List AV)(l:List Int):(fH S l).set 0 (.cells S')=fH S' l:=rfl
section
variable {C:Orc}{Q:Ex->Kt}{E:Env}{Z:Heap}{t gn k x:Int}{ps:List Pr}{cl:List Int}{pv:AV}{out:List UInt8}{S:List AV}{sn n:Nat}{r st prods:List Int}{ol:List Nat}{kk:Int}
theorem Qs {p:Nat}(hl:prods.length<=100000000)(hE:ab [1,2,5,6,7,8,11] E=e6 t gn k ps cl (pvF prods) S.length sn out n [(11,I (p:Nat))])
    (hQ:∀E',ab [1,2,5,6,7,8,11] E'=e6 t gn k ps cl (pvF (prods++[(p:Int)])) S.length sn out n [(11,I (p:Nat))]->Q .nrm E' (fH S (prods++[(p:Int)]))):
    WB ⟨C,0,0,[2]⟩ (.regN [1,2,5,6,7,8,11] [ kM 100 5,kM 101 11,kx 102 (.buildS 1 [(.val (.int .i64 0))] [(0,1,(ux 101))]),kx 103 (.app 1 8 (ux 100) (ux 102)),kM 5 103]) Q E (fH S prods):=by
  have r0:(8:Nat)<=aM:=by decide
  have r1:(prods.length+1) * 8<=aM:=by unfold aM;omega
  have hne:¬(prods++[(p:Int)]=[]):=by simp
  unfold pvF fH at hQ;rw [if_neg hne,if_neg hne] at hQ;unfold e6 at *;rw [ae,hE];unfold pvF fH;by_cases h:prods=[]
  · subst h;rw [if_pos rfl,if_pos rfl];simp [aN,r0];refine hQ _ ?_;rfl
  · rw [if_neg h,if_neg h];have hlen:=aV prods;have e5:ints prods++[I (p:Int)]=ints (prods++[(p:Int)]):=by simp [ints]
    have e6:eh prods.length prods.length 1=prods.length+1:=by simp [eh]
    have e7:cS prods.length prods.length (ints prods) [I (p:Int)]=ints (prods++[(p:Int)]):=by
      rw [<-e5];unfold cS;simp [List.take_of_length_le,hlen]
    simp [aN,r1,aR,hlen,e6,e7];refine hQ _ ?_;simp
theorem Qt {i:Nat}(hi:i < ps.length)(hr:∀h,(psC ps)[i * 2+1]'h= .sl r.length (ints r))(hrl:r.length<=1000)(hE:ab [1,2,5,6,7,8,11] E=e6 t gn k ps cl pv S.length sn out n [(11,I (i:Nat))])
    (hQ:∀E',ab [1,2,5,6,7,8,11,12] E'=e6 t gn k ps cl pv S.length sn out n [(11,I (i:Nat)),(12,I ((r.length:Int) - 1))]->Q .nrm E' Z):
    WB ⟨C,0,0,[2]⟩ (.regN [1,2,5,6,7,8,11] [ kF 104 3 2,kS 105 2 104,kM 106 11,kI 107 2 105 106,kF 108 1 107,kL 109 108,kN 110 109,kx 111 (.bini .sub (ux 110) c1),kM 12 111]) Q E Z:=by
  have hll:=aY ps;have h2:i * 2+1 < 2 * ps.length:=by omega
  have hw:IntKind.i64.wrap ((r.length:Int) - 1)=(r.length:Int) - 1:=au (by omega) (by omega)
  unfold e6 at *;rw [ae,hE];simp [hi,hll,h2,hr,hw];refine hQ _ ?_;rfl
theorem f47 (hn:n<=1000)(hE:ab [1,2,5,6,7,8] E=e6 t gn k ps cl pv S.length sn out n [])
    (hQ:∀E',ab [1,2,5,6,7,8] E'=e6 t gn k ps cl pv S.length sn out (n+1) []->Q .nrm E' Z):
    WB ⟨C,0,0,[2]⟩ (.regN [1,2,5,6,7,8] [ kM 46 8,kU 47 46,kM 8 47]) Q E Z:=by
  have w1:IntKind.i64.wrap ((n:Int)+1)=(n:Int)+1:=au (by omega) (by omega)
  unfold e6 at *;rw [ae,hE];simp [w1];refine hQ _ ?_;rfl
theorem Pn {i:Nat}(hi:i < ps.length)(hr:∀h,(psC ps)[i * 2+1]'h= .sl r.length (ints r))(hrl:r.length<=1000)(hst:st.length<=10000000)(hm:SM S st)
    (hE:ab [1,2,5,6,7,8,11,12] E=e6 t gn k ps cl (pvF prods) S.length st.length out n [(11,I (i:Nat)),(12,I ((r.length:Int) - 1))])
    (hQ:∀E' S',SM S' (r++st)->ab [1,2,5,6,7,8] E'=e6 t gn k ps cl (pvF prods) S'.length (r++st).length out n []->Q .nrm E' (fH S' prods)):
    WB ⟨C,0,0,[2]⟩ (.block 2 (.loop [1,2,5,6,7,8,11,12] LY)) Q E (fH S prods):=by
  rw [ap];refine ax (σ:=Nat×List AV) (fun s=>e6 t gn k ps cl (pvF prods) s.2.length (r.drop (r.length - s.1)++st).length out n [(11,I (i:Nat)),(12,I ((r.length:Int) - 1 - s.1))]) (fun s=>fH s.2 prods)
    (fun s=>s.1<=r.length/\SM s.2 (r.drop (r.length - s.1)++st)) (fun s=>r.length - s.1) ?_ (0,S) ⟨Nat.zero_le _,by simpa using hm⟩ (by simpa using hE) rfl
  rintro ⟨j,S'⟩ ⟨hj,hs⟩;simp only at hj hs;have hln:(r.drop (r.length - j)++st).length<=100000000:=by simp;omega
  unfold LY;rw [ai,ai];refine Qp rfl fun E1 g1 h1 h1'=>?_;rw [ah];by_cases hjl:j < r.length;case neg=>
    rw [decide_eq_false (by simp only;omega)] at g1
    rw [af (aI g1),bT,a8,bQ,aG,if_pos rfl];obtain rfl:j=r.length:=by omega
    simp only [Nat.sub_self,List.drop_zero] at hs h1';exact hQ _ _ hs h1'
  rw [decide_eq_true (by simp only;omega)] at g1
  rw [ak (aI g1),aA,ah,ai,ap];have hm2:r.length - 1 - j < r.length:=by omega
  have hxe:∀h,(ints r)[r.length - 1 - j]'h=I r[r.length - 1 - j]:=fun h=>bv hm2 h;have hd:r.drop (r.length - (j+1))=r[r.length - 1 - j]::r.drop (r.length - j):=by
    rw [List.drop_eq_getElem_cons (by omega:r.length - (j+1) < r.length)]
    congr 1
    · congr 1;omega
    · congr 1;omega
  generalize r[r.length - 1 - j]=y at *;generalize hss:r.drop (r.length - j)++st=ss at *;have hkk:(r.length:Int) - 1 - (j:Nat)=((r.length - 1 - j:Nat):Int):=by omega
  refine Qq (MM _) (fH0 _ _) hkk hi hr hm2 hxe hs.le hln h1 fun E2 h2=>?_;obtain ⟨p1,p2⟩:=hs.push (x:=y);rw [<-p2] at h2;rw [a6,ah,Jv];refine Qr (au (by omega) (by omega)) h2 fun E3 h3=>?_
  rw [ao];refine ⟨(j+1,_),⟨hjl,?_⟩,by simp only;omega,?_,rfl⟩
  · simp only;rw [hd,List.cons_append,hss];exact p1
  · simp only;rw [hd,List.cons_append,hss,List.length_cons];rw [show (r.length:Int) - 1 - ((j+1:Nat):Int)=(r.length:Int) - 1 - (j:Nat) - 1 by omega]
    exact h3
end
structure F6 (g:Gm)(x:Nat×List Int×List AV×List UInt8×List Int):Prop where
  d:∀m w l,Der g m x.2.1 w l->Der g (x.1+m) [g.t] (x.2.2.2.1++w) (x.2.2.2.2++l)
  m:SM x.2.2.1 x.2.1
  s:∀y∈x.2.1,0<=y/\y < g.t+g.n
  b:x.2.1.length<=209/\(121<=x.1->x.1+x.2.1.length<=330)
  o:x.2.2.2.1.length<=x.1/\x.2.2.2.2.length<=x.1

theorem GP (x:Int){m:Nat}(hm:0 < m):∃pk:Nat,(if x.tmod m < 0 then x.tmod m+m else x.tmod m)=(pk:Int)/\pk < m:=by
  have h1:=Int.lt_tmod_of_pos x (by omega:(0:Int) < m)
  have h2:=Int.tmod_lt_of_pos x (by omega:(0:Int) < m)
  split
  · exact ⟨(x.tmod m+m).toNat,by omega,by omega⟩
  · exact ⟨(x.tmod m).toNat,by omega,by omega⟩
theorem CF {g:Gm}(ha:AOk g)(hl:g.ps.length<=1000000)(hr:∀p∈g.ps,p.r.length<=1000000){cl:List Int}(hcl:0 < cl.length/\cl.length<=60){Q:Ex->Kt}{E:Env}(hE:ab [1,2,5,6,7,8] E=e6 g.t g.n g.k g.ps cl .e0 1 1 [] 0 [])
    (hR:∀E' Z,find E' 4=Bo true->Q .ret E' Z)
    (hQ:∀E' S n out prods,Der g n [g.t] out prods->n<=330->prods.length<=n->out.length<=n->ab [2,5,7] E'=[(2,.box [I g.t,I g.n,I g.k,.sl g.ps.length (psC g.ps)]),(5,pvF prods),(7,Sg out)]->Q .nrm E' (fH S prods)):
    WB ⟨aj X A,0,0,[2]⟩ (.block 0 (.loop [1,2,5,6,7,8] II)) Q E (fH [I g.t] []):=by
  have hg:=ha.ok;have hps:g.ps.length<=64:=hg.l2;have kc:∀(Z:Heap) (left:Int),aj X A 0 0 26 [gV g,I left] Z=some (nL g left,Z):=fun Z left=>rm (lk:=0) (lim:=0) (H:=Z) g left hl hr (Nat.zero_le _);have kp:∀(Z:Heap) (x:Int) (m:Nat),m<=1000000->1<=m->aj X A 0 0 27 [I x,I (m:Nat)] Z=some (I (if x.tmod m < 0 then x.tmod m+m else x.tmod m),Z):=fun Z x m h1 h2=>xn (lk:=0) (lim:=0) (H:=Z) x m (by omega) (by omega)
  generalize aj X A=C at *;rw [ap];refine ax (σ:=Nat×List Int×List AV×List UInt8×List Int) (fun x=>e6 g.t g.n g.k g.ps cl (pvF x.2.2.2.2) x.2.2.1.length x.2.1.length x.2.2.2.1 x.1 []) (fun x=>fH x.2.2.1 x.2.2.2.2) (F6 g) (fun x=>(121 - x.1) * 300+x.2.1.length) ?_ (0,[g.t],[I g.t],[],[])
    ⟨fun m w l d=>by rw [Nat.zero_add];exact d,⟨by simp,rfl⟩,jO hg,by simp,by simp⟩ hE rfl
  rintro ⟨n,st,S,out,prods⟩ ⟨hd,hm,hs,hb,ho⟩;simp only at hd hm hs hb ho;unfold II;rw [ai,ai];refine f45 (cl:=cl) (pv:=pvF prods) (S:=S) (sn:=st.length) (out:=out) (n:=n) rfl fun E1 g1 h1 h1'=>?_;rw [ah];cases st with
  | nil=>
    rw [decide_eq_false (by simp)] at g1
    rw [af (aI g1),bT,a8,bQ,aG,if_pos rfl];have d:=hd 0 [] [] .nil;rw [List.append_nil,List.append_nil,Nat.add_zero] at d;have hn:n<=330:=by
      have:=hb.2;simp only [List.length_nil] at this;omega
    exact hQ _ S n out prods d hn ho.2 ho.1 h1'
  | cons x st=>
    have hp0:0 < (x::st).length:=Nat.succ_pos _;rw [decide_eq_true hp0] at g1;rw [ak (aI g1),aA,ah,ai,ap,ai];obtain ⟨tp,hm'⟩:=hm.top;have hsl:st.length+1<=209:=by have:=hb.1;simpa using this
    have hn330:n<=330:=by
      have:=hb.2;simp only [List.length_cons] at this;omega
    have hx2:=hs x (by simp)
    refine f53 (m:=st.length) (fH0 _ _) rfl (by omega) tp h1 fun E2 h2=>?_
    rw [ah,ai];refine f58 (m:=st.length) rfl (by omega) h2 fun E3 h3=>?_
    rw [ah,ai,ai];refine f62 h3 fun E4 g4 h4=>?_;rw [ah];by_cases hxt:x < g.t
    · rw [decide_eq_true hxt] at g4;rw [ak (aI g4),ai];refine f68 (by omega) h4 fun E5 h5=>?_
      rw [ah,bT,a8,aG,if_pos rfl,ah];refine f47 (by omega) h5 fun E6 h6=>?_
      rw [ao];refine ⟨(n+1,st,S,out++[byteI x],prods),⟨fun m w l d=>?_,hm',fun y hy=>hs y (by simp [hy]),?_,?_⟩,?_,h6,rfl⟩
      · have hb8:((byteI x).toNat:Int)=x:=by
          unfold byteI;rw [UInt8.toNat_ofNat'];have:=hg.t2;omega
        have:=hd (m+1) (byteI x::w) l (.tok _ hxt hb8 d);simp only;rw [List.append_assoc,show n+1+m=n+(m+1) by omega]
        exact this
      · simp only;have:=hb.2;simp only [List.length_cons] at this;omega
      · simp only [List.length_append,List.length_cons,List.length_nil];omega
      · simp only [List.length_cons];omega
    rw [decide_eq_false hxt] at g4;rw [af (aI g4),aA,ah,ai];have ha0:(x - g.t).toNat < g.n.toNat:=by have:=hg.n1;omega
    obtain ⟨p,hp,hpl⟩:=ri ha ha0;have hne:ofN g.ps (x - g.t) g.ps.length≠[]:=fun e=>by
      obtain ⟨j,hj,rfl⟩:=List.getElem_of_mem hp;have hmm:j∈ofN g.ps (x - g.t) g.ps.length:=fj.2 ⟨hj,by
        rw [List.getD_eq_getElem?_getD,List.getElem?_eq_getElem hj];have:=(hg.p _ hp).l0;show (g.ps[j]).l=_;omega⟩
      rw [e] at hmm;exact absurd hmm List.not_mem_nil
    have hof:=kc (fH S prods) (x - g.t);simp only [nL,if_pos ha.chk,slvN,if_neg hne] at hof;have hon:(ofN g.ps (x - g.t) g.ps.length).length<=64:=by
      have:(ofN g.ps (x - g.t) g.ps.length).length<=g.ps.length:=by unfold ofN;exact Nat.le_trans (List.length_filter_le ..) (by simp)
      omega
    have hmem:∀j∈ofN g.ps (x - g.t) g.ps.length,j < g.ps.length/\(g.ps.getD j ⟨0,[]⟩).l=x - g.t:=fun j hj=>fj.1 hj;generalize ofN g.ps (x - g.t) g.ps.length=ol at *;refine f74 (au (by have:=hg.t2;omega) (by have:=hg.t2;have:=hg.n2;omega)) hof h4 fun E5 h5=>?_
    rw [ah,ai,ai];refine f86 hne h5 fun E6 g6 h6=>?_;rw [ah];by_cases hstop:120 < n\/200 < st.length
    · rw [decide_eq_true hstop] at g6;rw [ak (aI g6),ai,ae];simp [-ae];refine hR _ _ ?_;simp [find]
    rw [decide_eq_false hstop] at g6;rw [af (aI g6),aA,ah,ai];have hol:0 < ol.length:=List.length_pos_iff.2 hne;have hni:n % cl.length < cl.length:=Nat.mod_lt _ hcl.1;obtain ⟨pk,hpk,hpl2⟩:=GP cl[n % cl.length] hol;have kpp:=kp (fH S prods) cl[n % cl.length] ol.length (by omega) hol
    rw [hpk] at kpp;obtain ⟨i,hi⟩:∃i,ol[pk]=i:=⟨_,rfl⟩;obtain ⟨q1,q2⟩:=hmem i (hi▸List.getElem_mem hpl2);refine f99 (c:=0) (p:=i) hcl (by omega) (fun h=>bv hni h) kpp hpl2 (fun h=>by rw [<-hi];exact yd ol pk h) h6 fun E7 h7=>?_
    rw [ah,ai];refine Qs (prods:=prods) (by omega) h7 fun E8 h8=>?_
    rw [ah,ai];have hrE:∀h,(psC g.ps)[i * 2+1]'h= .sl (g.ps.getD i ⟨0,[]⟩).r.length (ints (g.ps.getD i ⟨0,[]⟩).r):=fun h=>by
      rw [List.getD_eq_getElem?_getD,List.getElem?_eq_getElem q1];exact (List.getElem?_eq_some_iff.1 (qF q1)).2
    have hrl:=(hg.p _ (bW q1)).len;have hrs:=(hg.p _ (bW q1)).s;refine Qt q1 hrE (by omega) h8 fun E9 h9=>?_
    rw [ah];refine Pn q1 hrE (by omega) (by omega) hm' h9 fun E10 S' hm2 h10=>?_
    rw [a6,ah];refine f47 (by omega) h10 fun E11 h11=>?_
    rw [ao];refine ⟨(n+1,(g.ps.getD i ⟨0,[]⟩).r++st,S',out,prods++[(i:Int)]),⟨fun m w l d=>?_,hm2,fun y hy=>?_,?_,?_⟩,?_,h11,rfl⟩
    · have:=hd (m+1) w ((i:Int)::l) (.non i hxt q1 q2 d);simp only;rw [List.append_assoc,show n+1+m=n+(m+1) by omega]
      exact this
    · rcases List.mem_append.1 hy with hy | hy
      · exact hrs y hy
      · exact hs y (by simp [hy])
    · simp only [List.length_append];omega
    · simp only [List.length_append,List.length_cons,List.length_nil];omega
    · simp only [List.length_append,List.length_cons];omega

theorem xD (d:Nat)(l:List Int):(ints l).map (zro d)=ints l:=by
  unfold ints;rw [List.map_map];refine List.map_congr_left fun x _=>?_;cases d<;>rfl
theorem AX (d:Nat):∀ps:List Pr,(psC ps).map (zro (d+1))=psC ps
  | []=>rfl
  | p::ps=>by
    show zro (d+1) (I p.l)::zro (d+1) (.sl p.r.length (ints p.r))::(psC ps).map (zro (d+1))=I p.l:: .sl p.r.length (ints p.r)::psC ps;rw [AX d ps];simp only [zro,xD]
theorem AY:∀ps:List Pr,belowL 0 (psC ps)=true
  | []=>rfl
  | p::ps=>by
    have e:psC (p::ps)=I p.l:: .sl p.r.length (ints p.r)::psC ps:=rfl;rw [e];simp [belowL,Hm.below,AY ps]
theorem Po (Z:Heap)(t n k:Int)(ps:List Pr):kG 0 Z (.box [I t,I n,I k,.sl ps.length (psC ps)])= .box [I t,I n,I k,.sl ps.length (psC ps)]:=by
  have h1:=AY ps;have h2:=AX 2 ps;generalize psC ps=cs at *;simp [kG,ep,gC,tW,belowL,Hm.below,h1,zro,h2]
theorem Pp (S:List AV)(l:List Int):kG 0 (fH S l) (pvF l)=iW l:=by
  unfold pvF fH iW;by_cases h:l=[]
  · subst h;rw [if_pos rfl,if_pos rfl];simp [kG,tV,Hm.below,oJ]
  · rw [if_neg h,if_neg h,if_neg h];have hz:=xD 3 l;simp [kG,frz,bh,Hm.below,oJ,zro,hz]
theorem GQ {g:Gm}(ha:AOk g)(hc:ce g<=65536)(hl:g.ps.length<=1000000)(hr:∀p∈g.ps,p.r.length<=1000000){s:List UInt8}(hs:s.length<=1000000){o:Option (List Int×Nat)}(ho:runM g (aK g) 1000000 s [g.t]=some o)(H:Heap):
    ∃tv,aj X A 0 0 12 [gV g] H=some (.agg [tv],H)/\TV tv (aK g)/\aj X A 0 0 11 [gV g,.agg [tv],Sg s] H=some (zg o,H):=by
  obtain ⟨tv,k12,hT⟩:=iY (lk:=0) (lim:=0) (H:=H) (Nat.zero_le _) g hl hr;rw [show eW g=aK g from if_pos ((ip ha.chk).2 ha.conf)] at hT;have hro:jN g (aK g) o=o:=if_pos ⟨mW.2 ha,hc,rfl⟩;have k11:=gS (lk:=0) (lim:=0) (H:=H) (Nat.zero_le _) g hl hr hT s hs (F:=1000000) (Nat.le_refl _) fun _ _=>ho;rw [hro] at k11;exact ⟨tv,k12,hT,k11⟩
section
variable {C:Orc}{Q:Ex->Kt}{E:Env}{Z:Heap}{t gn k:Int}{ps:List Pr}{cl:List Int}{tv v:AV}{out:List UInt8}
theorem g2 (hE:ab [0,1] E=[(0,.agg [I t,I gn,I k,.sl ps.length (psC ps)]),(1,.sl cl.length (ints cl))])
    (hQ:∀E',ab [1,2] E'=[(1,.sl cl.length (ints cl)),(2,.box [I t,I gn,I k,.sl ps.length (psC ps)])]->Q .nrm E' []):
    WB ⟨C,0,0,[2]⟩ (.regN [0,1] [ kB 2 4 0,kx 4 (.mv cF)]) Q E []:=by
  rw [ae,hE];simp;refine hQ _ ?_;rfl
theorem g16 (kl:C 0 0 9 [] []=some (Bo true,[]))(hE:ab [1,2] E=[(1,.sl cl.length (ints cl)),(2,.box [I t,I gn,I k,.sl ps.length (psC ps)])])
    (hQ:∀E',find E' 16=Bo false->ab [1,2] E'=[(1,.sl cl.length (ints cl)),(2,.box [I t,I gn,I k,.sl ps.length (psC ps)])]->Q .nrm E' []):
    WB ⟨C,0,0,[2]⟩ (.regN [1,2] [ kx 15 (.call 9 []),kx 16 (.not (ux 15))]) Q E []:=by
  rw [ae,hE];simp [kl];refine hQ _ ?_ ?_
  · simp [find]
  · rfl
theorem Qu (htv:tv= .e0\/∃m cs,tv= .sl m cs)(hv:v= .e0\/∃cs,v= .sl cs.length cs/\belowL 0 cs=true)(kt:C 0 0 12 [.agg [I t,I gn,I k,.sl ps.length (psC ps)]] Z=some (.agg [tv],Z))(kd:C 0 0 11 [.agg [I t,I gn,I k,.sl ps.length (psC ps)],.agg [tv],Sg out] Z=some (.tup [v,Bo true],Z))
    (hE:ab [2,5,7] E=[(2,.box [I t,I gn,I k,.sl ps.length (psC ps)]),(5,v),(7,Sg out)])
    (hQ:∀E',ab [5,13,14] E'=[(5,v),(13,v),(14,Bo true)]->Q .nrm E' Z):
    WB ⟨C,0,0,[2]⟩ (.regD [2,5,7] 0 [ kP 129 2 4 2,kP 130 2 4 2,kf 131 (.call 12 [.tmp 130]),kM 132 7,kf 133 (.call 11 [(ux 129),(ux 131),(ux 132)]),kM 128 133,kE 134 128 0,kE 135 128 1,kM 13 134,kM 14 135]) Q E Z:=by
  rw [aB rfl,hE];rcases htv with rfl | ⟨m,cs,rfl⟩;all_goals
    rcases hv with rfl | ⟨ds,rfl,_⟩;all_goals
      simp [kt,kd];refine hQ _ ?_;rfl
theorem Qv (hv:v= .e0\/∃cs,v= .sl cs.length cs/\belowL 0 cs=true)(ks:C 0 0 13 [v,v] Z=some (Bo true,Z))(hE:ab [5,13,14] E=[(5,v),(13,v),(14,Bo true)])
    (hQ:∀E',find E' 4=Bo true->Q .nrm E' Z):
    WB ⟨C,0,0,[2]⟩ (.regN [5,13,14] [ kM 136 14,kM 137 136,yM 138 137 13,yM 139 137 5,ky 140 137 (.call 13 [(ux 138),(ux 139)]),kx 141 (.pick (ux 137) (ux 140) cF),kM 4 141]) Q E Z:=by
  rw [ae,hE];rcases hv with rfl | ⟨ds,rfl,_⟩;all_goals
    simp [ks];refine hQ _ ?_;simp [find]
end
theorem Pq {Z:Heap}{E:Env}(h:find E 4=Bo true):oO [.tmp 4] true [] (Bo true,[]) .ret E Z:=by
  have:(.ret:Ex)= .ret:=rfl;simp [h]
theorem zn {g:Gm}(ha:AOk g)(hc:ce g<=65536)(hl:g.ps.length<=1000000)(hr:∀p∈g.ps,p.r.length<=1000000){cl:List Int}(hcl:0 < cl.length/\cl.length<=60){E:Env}(hE:ab [1,2,5,6,7,8] E=e6 g.t g.n g.k g.ps cl .e0 1 1 [] 0 []):
    WB ⟨aj X A,0,0,[2]⟩ (.block 0 (.loop [1,2,5,6,7,8] II)) (Fol ⟨aj X A,0,0,[2]⟩ (.seq .frz (.seq (.regD [2,5,7] 0 [ kP 129 2 4 2,kP 130 2 4 2,kf 131 (.call 12 [.tmp 130]),kM 132 7,kf 133 (.call 11 [(ux 129),(ux 131),(ux 132)]),kM 128 133,kE 134 128 0,kE 135 128 1,kM 13 134,kM 14 135]) (.seq (.regN [5,13,14] [ kM 136 14,kM 137 136,yM 138 137 13,yM 139 137 5,ky 140 137 (.call 13 [(ux 138),(ux 139)]),kx 141 (.pick (ux 137) (ux 140) cF),kM 4 141]) .ret))) (oO [.tmp 4] true [] (Bo true,[]))) E (fH [I g.t] []):=by
  refine CF ha hl hr hcl hE (fun E' Z h=>by rw [zH];exact Pq h) fun E' S n out prods hd hn hpl hol h=>?_
  rw [ah,ai,ya];refine ⟨Nat.le_refl _,Nat.zero_le _,?_⟩;have hf:ab [2,5,7] (oM 0 (fH S prods) E')=[(2,.box [I g.t,I g.n,I g.k,.sl g.ps.length (psC g.ps)]),(5,iW prods),(7,Sg out)]:=by
    rw [gR,h];simp only [List.map_cons,List.map_nil,Po,Pp];rfl
  rw [ah,ai];have hrun:=u5 (u7 ha hd (jO ha.ok) (lJ ha.ok)) 1000000 (by omega)
  obtain ⟨tv,k12,hT,k11⟩:=GQ ha hc hl hr (s:=out) (by omega) hrun (gk 0 (fH S prods))
  have ks:=jM (lk:=0) (lim:=0) (H:=gk 0 (fH S prods)) (pB (some (prods,n))) (pB (some (prods,n))) (by show prods.length<=1000000000;omega)
  rw [decide_eq_true rfl] at ks;have nv:=Gn prods;refine Qu (AU hT) nv k12 k11 hf fun E1 h1=>?_;rw [ah,ai];refine Qv nv ks h1 fun E2 h2=>?_;rw [ah,tQ];exact Pq h2
theorem zo (g:Gm)(cl:List Int):aj X A 0 0 6 [gV g,.sl cl.length (ints cl)] []=some (Bo true,[]):=by
  have kl:=mZ (lim:=0);have kg:=fU (lk:=0) (lim:=0) (H:=[]) g;refine ar [2] rfl A6 rfl rfl ?_;show WB ⟨aj X A,0,0,[2]⟩ t6B _ (aP 0 [gV g,.sl cl.length (ints cl)]) [];unfold t6B;rw [ai];refine g2 rfl fun E1 h1=>?_;rw [ah,ai,ai];refine g16 kl h1 fun E2 q2 h2=>?_;rw [ah,af (aI q2),aA,ah,ai,ai,ae,h2];by_cases hlt:d8 g=true;case neg=>
    have hlt:d8 g=false:=by simpa using hlt
    rw [hlt] at kg;generalize aj X A=C at *;obtain ⟨t,n,k,ps⟩:=g;simp only [gV,Gm.cells] at kg;simp [kg]
  obtain ⟨hl,hr⟩:=mB hlt;rw [hlt] at kg;by_cases h0:cl.length=0
  · have h0':((cl.length:Int)==0)=true:=by rw [h0];rfl
    generalize aj X A=C at *;obtain ⟨t,n,k,ps⟩:=g;simp only [gV,Gm.cells] at kg;simp only [Gm.cells];have hcn:cl=[]:=List.eq_nil_of_length_eq_zero h0;simp [kg,h0',hcn]
  have h0':((cl.length:Int)==0)=false:=by rw [beq_eq_false_iff_ne];omega
  have h0n:¬cl=[]:=fun e=>h0 (by rw [e];rfl)
  by_cases h60:60 < cl.length
  · generalize aj X A=C at *;obtain ⟨t,n,k,ps⟩:=g;simp only [gV,Gm.cells] at kg;have h60':(60:Int) < (cl.length:Int):=by omega
    simp [kg,h0',h0n,h60,h60']
  have h60':¬(60:Int) < (cl.length:Int):=by omega
  have ka:=ef (lk:=0) (lim:=0) (H:=[]) (Nat.le_refl _) g hl hr;by_cases hacc:cN g=0;case neg=>
    have hx:(cN g != 0)=true:=by simpa using hacc
    generalize cN g=e at *;generalize aj X A=C at *;obtain ⟨t,n,k,ps⟩:=g;simp only [gV,Gm.cells] at kg ka;simp [kg,ka,hx,h0',h0n,h60,h60']
  have ha:=jL hacc;rw [hacc] at ka;have kc:=cG (lk:=0) (lim:=0) (H:=[]) (Nat.le_refl _) g hl hr;rw [show oW g=ce g from if_pos hacc] at kc;by_cases hc:ce g<=65536;case neg=>
    have hc2:65536 < ce g:=by omega
    generalize ce g=c at *;generalize aj X A=C at *;obtain ⟨t,n,k,ps⟩:=g;simp only [gV,Gm.cells] at kg ka kc;simp [kg,ka,kc,hc2,h0',h0n,h60,h60']
  have hc2:¬65536 < ce g:=by omega
  have tail:=fun E=>zn (E:=E) ha hc hl hr (cl:=cl) ⟨by omega,by omega⟩
  clear hr;generalize ce g=c at *;generalize aj X A=C at *;obtain ⟨t,n,k,ps⟩:=g;simp only [gV,Gm.cells] at kg ka kc tail;simp [-ak,-af,-ae,-aB,-ap,kg,ka,kc,hc2,h0',h0n,h60,h60'];rw [af rfl,aA,ah,ai,ae];simp [-ak,-af,-ae,-aB,-ap];rw [ae];simp [-ak,-af,-ae,-aB,-ap];rw [ae];simp [-ak,-af,-ae,-aB,-ap];rw [ae];simp [-ak,-af,-ae,-aB,-ap];exact tail _ (by simp [e6])
end Go.Proofs.YtkllbcjanneppaaGreat
