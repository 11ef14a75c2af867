import Derived.Test.YtkllbcjanneppaaGreatJE
import Derived.Test.YtkllbcjanneppaaGreatGK
import Derived.Test.YtkllbcjanneppaaGreatGF
import Derived.Test.YtkllbcjanneppaaGreatHA
set_option maxRecDepth 20000
set_option linter.all false
namespace Go.Proofs.YtkllbcjanneppaaGreat
open Go Go.Hm

def stepM (g:Gm)(T:Ss)(rest:List UInt8):List Int->Option (List UInt8×List Int×List Int)
 | []=>none
 | x::st=>
  if x<g.t then (match rest with
   | []=>none
   | b::r=>if (b.toNat:Int)=x then some (r,st,[]) else none)
  else if qQ g T (x-g.t) (rwK rest g.k)<0 then none
  else some (rest,(g.ps.getD (qQ g T (x-g.t) (rwK rest g.k)).toNat ⟨0,[]⟩).r++st,[qQ g T (x-g.t) (rwK rest g.k)])
def runM (g:Gm)(T:Ss):Nat->List UInt8->List Int->Option (Option (List Int×Nat))
 | _,rest,[]=>some (if rest=[] then some ([],0) else none)
 | 0,_,_::_=>none
 | f+1,rest,x::st=>match stepM g T rest (x::st) with
  | none=>some none
  | some (rest',st',q)=>(runM g T f rest' st').map fun o=>o.map fun y=>(q++y.1,y.2+1)
def dC (t n k:Int)(ps:List Pr)(tv:AV)(rest:List UInt8)(sb sc sn:Nat)(pv:AV)(steps:Nat):List AV:=
 [I t,I n,I k,.sl ps.length (psC ps),tv,Sg rest,.hs sb sc 0 sn 1,pv,I steps]
def dH (H:Heap)(S D:List AV)(G:Heap):Heap:=H++(.cells S:: .cells D::G)
section
variable {H:Heap}{S D:List AV}{G:Heap}
theorem Mv:(dH H S D G).length=H.length+2+G.length:=by simp[dH];omega
theorem dH0:(dH H S D G)[H.length]?=some (.cells S):=by unfold dH;rw[Hm.get_at0];rfl
theorem dH1:(dH H S D G)[H.length+1]?=some (.cells D):=by unfold dH;rw[Hm.get_at];rfl
theorem dHG (j:Nat):(dH H S D G)[H.length+2+j]?=G[j]?:=by
 unfold dH;rw[Nat.add_assoc,Hm.get_at,Nat.add_comm 2 j];rfl
theorem Gk (x:HB):dH H S D G++[x]=dH H S D (G++[x]):=by simp[dH]
theorem Jh (S':List AV):(dH H S D G).set H.length (.cells S')=dH H S' D G:=by
 unfold dH;rw[show H.length=H.length+0 from rfl,Hm.set_at];rfl
theorem kD (D':List AV):(dH H S D G).set (H.length+1) (.cells D')=dH H S D' G:=by
 unfold dH;rw[Hm.set_at];rfl
theorem Ji (j:Nat)(x:HB):(dH H S D G).set (H.length+2+j) x=dH H S D (G.set j x):=by
 unfold dH;rw[Nat.add_assoc,Hm.set_at,Nat.add_comm 2 j];rfl
end
def PV (B:Nat)(l:List Int)(v:AV)(G:Heap):Prop:=(l=[]/\v= .e0)\/∃j,v= .hs (B+2+j) l.length 0 l.length 1/\G[j]?=some (.cells (ints l))/\l≠[]
structure DM (B:Nat)(S:List AV)(st:List Int)(l:List Int)(v:AV)(G:Heap):Prop where
 le:st.length<=S.length
 tk:S.take st.length=ints st.reverse
 pv:PV B l v G
theorem PV.app {B:Nat}{l:List Int}{v:AV}{G:Heap}(h:PV B l v G)(x:HB):PV B l v (G++[x]):=by
 rcases h with h | ⟨j,h1,h2,h3⟩
 ·exact .inl h
 ·refine .inr ⟨j,h1,?_,h3⟩;rw[List.getElem?_append_left (List.getElem?_eq_some_iff.1 h2).1];exact h2
theorem s7 {n:Nat}{S:List AV}{a:AV}(h:n<=S.length):(cS n S.length S [a]).take (n+1)=S.take n++[a]/\(cS n S.length S [a]).length=eh n S.length 1/\n+1<=(cS n S.length S [a]).length:=by
 unfold cS eh;split
 ·rename_i e;subst e;refine⟨?_,by simp,by simp⟩
  rw[List.take_of_length_le (by simp),List.take_length]
 ·have hl:n<S.length:=by omega
  unfold an;refine⟨?_,?_,?_⟩
  ·rw[List.take_append_of_le_length (by simp;omega),List.take_of_length_le (by simp;omega)]
  ·simp;omega
  ·simp;omega
theorem AB {S:List AV}{x:Int}{st:List Int}(h1:(x::st).length<=S.length)(h2:S.take (x::st).length=ints (x::st).reverse):S[st.length]?=some (I x)/\S.take st.length=ints st.reverse:=by
 have e:ints (x::st).reverse=ints st.reverse++[I x]:=by simp[ints]
 rw[e]at h2;have hl:st.length<S.length:=by simp only[List.length_cons]at h1;omega
 have h3:(S.take (x::st).length)[st.length]?=some (I x):=by
  rw[h2,List.getElem?_append_right (by simp[ints]),show st.length-(ints st.reverse).length=0 by simp[ints]]
  rfl
 refine⟨?_,?_⟩
 ·rw[List.getElem?_take_of_lt (by simp)]at h3
  exact h3
 ·have h4:=congrArg (List.take st.length) h2;have h5:List.take st.length (S.take (x::st).length)=S.take st.length:=by
   rw[List.take_take];congr 1;simp
  have h6:List.take st.length (ints st.reverse++[I x])=ints st.reverse:=by
   rw[List.take_append_of_le_length (by simp[ints]),List.take_of_length_le (by simp[ints])]
  rw[h5,h6]at h4;exact h4

section
variable {C:Orc}{Q:Ex->Kt}{E:Env}{lk L:Nat}{Z:Heap}{t gn k:Int}{ps:List Pr}{tv pv:AV}{rest:List UInt8}{S:List AV}{cb db sb sc sn m steps n:Nat}{x p:Int}{b:Bool}
theorem s1 {a:AV}(ha:a= .hp db 9 0)(hE:ab [0] E=[(0,a)])
  (hQ:∀E',ab [1,2] E'=[(1,.hp Z.length 1 0),(2,Bo false)]->Q .nrm E' (Z++[.cells [.hp db 9 0]])):
  WB ⟨C,lk,L,[]⟩ (.regN [0] [ kx 1 (.boxH 1 (ux 0)),kx 2 (.mv cF)]) Q E Z:=by
 subst ha;rw[ae,hE];simp;refine hQ _ ?_;rfl
theorem s3 (hc:Z[cb]?=some (.cells [.hp db 9 0]))(hd:Z[db]?=some (.cells (dC t gn k ps tv rest sb sc (m+1) pv steps)))(hm:m<=100000000)
  (hE:ab [1,2] E=[(1,.hp cb 1 0),(2,Bo false)])
  (hQ:∀E',ab [1,2,3] E'=[(1,.hp cb 1 0),(2,Bo false),(3,I m)]->Q .nrm E' Z):
  WB ⟨C,lk,L,[]⟩ (.regN [1,2] [ kL 9 1,kx 10 (.nilc (ux 9)),kF 11 6 10,kL 12 11,kN 13 12,kx 14 (.bini .sub (ux 13) c1),kM 3 14]) Q E Z:=by
 have w1:IntKind.i64.wrap (m:Int)=(m:Int):=au (by omega) (by omega)
 unfold dC at hd;rw[ae,hE];simp[hc,hd,w1];refine hQ _ ?_;rfl
theorem s4 (hc:Z[cb]?=some (.cells [.hp db 9 0]))(hd:Z[db]?=some (.cells (dC t gn k ps tv rest sb sc (m+1) pv steps)))(hs:Z[sb]?=some (.cells S))(hsc:sc=S.length)(hx:S[m]?=some (I x))
  (hE:ab [1,2,3] E=[(1,.hp cb 1 0),(2,Bo false),(3,I m)])
  (hQ:∀E',ab [1,2,3,4] E'=[(1,.hp cb 1 0),(2,Bo false),(3,I m),(4,I x)]->Q .nrm E' Z):
  WB ⟨C,lk,L,[]⟩ (.regN [1,2,3] [ kL 15 1,kx 16 (.nilc (ux 15)),kF 17 6 16,kL 18 17,kM 19 3,kI 20 1 18 19,kL 21 20,kM 4 21]) Q E Z:=by
 subst hsc;have hm:=(List.getElem?_eq_some_iff.1 hx).1;have hx2:∀h,S[m]'h=I x:=fun h=>(List.getElem?_eq_some_iff.1 hx).2;unfold dC at hd;rw[ae,hE];have hlt:(m:Int)<(m:Int)+1:=by omega
 simp[hc,hd,hs,hm,hx2,hlt];refine hQ _ ?_;rfl
theorem s28 (hc:Z[cb]?=some (.cells [.hp db 9 0]))(hd:Z[db]?=some (.cells (dC t gn k ps tv rest sb sc (m+1) pv steps)))(hlk:lk<=db)(hL:L<=db)(hm:m+1<=sc)
  (hE:ab [1,2,3,4] E=[(1,.hp cb 1 0),(2,Bo false),(3,I m),(4,I x)])
  (hQ:∀E',ab [1,2,4] E'=[(1,.hp cb 1 0),(2,Bo false),(4,I x)]->Q .nrm E' (Z.set db (.cells (dC t gn k ps tv rest sb sc m pv steps)))):
  WB ⟨C,lk,L,[]⟩ (.regD [1,2,3,4] 0 [ kL 22 1,kL 23 1,kx 24 (.nilc (ux 23)),kF 25 6 24,kL 26 25,kM 27 3,kx 28 (.slC 1 (ux 26) none (some (ux 27))),kx 29 (.nilc (ux 22)),kF 30 6 29,kn (.st none 1 (ux 30) (ux 28))]) Q E Z:=by
 unfold dC at hd hQ;rw[aB rfl,hE];have hm1:(m:Int)<=(m:Int)+1:=by omega
 simp[hc,hd,hlk,hL,hm,hm1,an,aR,bnd];refine hQ _ ?_;rfl
theorem s35 (hc:Z[cb]?=some (.cells [.hp db 9 0]))(hd:Z[db]?=some (.cells (dC t gn k ps tv rest sb sc sn pv steps)))(hlk:lk<=db)(hL:L<=db)(hst:steps<=100000000)
  (hE:ab [1,2,4] E=[(1,.hp cb 1 0),(2,Bo false),(4,I x)])
  (hQ:∀E',ab [1,2,4] E'=[(1,.hp cb 1 0),(2,Bo false),(4,I x)]->Q .nrm E' (Z.set db (.cells (dC t gn k ps tv rest sb sc sn pv (steps+1))))):
  WB ⟨C,lk,L,[]⟩ (.regN [1,2,4] [ kL 31 1,kx 32 (.nilc (ux 31)),kF 33 8 32,kL 34 33,kU 35 34,kx 36 (.nilc (ux 31)),kF 37 8 36,kn (.st none 1 (ux 37) (ux 35))]) Q E Z:=by
 have w1:IntKind.i64.wrap ((steps:Int)+1)=(steps:Int)+1:=au (by omega) (by omega)
 unfold dC at hd hQ;rw[ae,hE];simp[hc,hd,hlk,hL,w1,an,aR];refine hQ _ ?_;rfl
theorem s44 (hc:Z[cb]?=some (.cells [.hp db 9 0]))(hd:Z[db]?=some (.cells (dC t gn k ps tv rest sb sc sn pv steps)))
  (hE:ab [1,2,4] E=[(1,.hp cb 1 0),(2,Bo false),(4,I x)])
  (hQ:∀E',find E' 44=Bo (decide (x<t))->ab [1,4] E'=[(1,.hp cb 1 0),(4,I x)]->ab [1,2,4] E'=[(1,.hp cb 1 0),(2,Bo false),(4,I x)]->Q .nrm E' Z):
  WB ⟨C,lk,L,[]⟩ (.regN [1,2,4] [ kM 38 4,kL 39 1,kx 40 (.nilc (ux 39)),kF 41 0 40,kF 42 0 41,kL 43 42,kT 44 38 43]) Q E Z:=by
 unfold dC at hd;rw[ae,hE];simp[hc,hd];refine hQ _ ?_ ?_ ?_
 ·simp[find]
 ·rfl
 ·rfl
theorem s59 (hc:Z[cb]?=some (.cells [.hp db 9 0]))(hd:Z[db]?=some (.cells (dC t gn k ps tv rest sb sc sn pv steps)))(hb:b=(match rest with | []=>true | y::_=>decide ¬(y.toNat:Int)=x))
  (hE:ab [1,4] E=[(1,.hp cb 1 0),(4,I x)])
  (hQ:∀E',find E' 59=Bo b->ab [1] E'=[(1,.hp cb 1 0)]->Q .nrm E' Z):
  WB ⟨C,lk,L,[]⟩ (.regN [1,4] [ kL 45 1,kx 46 (.nilc (ux 45)),kF 47 5 46,kL 48 47,kx 49 (.bins .eql (ux 48) (.con (.val (.string ⟨#[]⟩)))),kM 50 49,zL 51 50 1,kz 52 50 (.nilc (ux 51)),zF 53 50 5 52,zL 54 50 53,kz 55 50 (.ixS (ux 54) c0),kz 56 50 (.cvi .i64 (ux 55)),zM 57 50 4,kz 58 50 (.bini .neq (ux 56) (ux 57)),kO 59 50 58]) Q E Z:=by
 unfold dC at hd;rw[ae,hE];cases rest with
 | nil=>
  have h0:=iP [];simp[hc,hd,h0];refine hQ _ ?_ ?_
  ·simp[find,hb]
  ·rfl
 | cons y r=>
  simp only at hb;have h0:=iP (y::r);have hw8:IntKind.i64.wrap (y.toNat:Int)=y.toNat:=au (by omega) (by have:=y.toNat_lt;omega)
  by_cases hy:(y.toNat:Int)=x
  ·subst hb;have hwx:IntKind.i64.wrap x=x:=by rw[<-hy];exact hw8
   simp[hc,hd,hy,h0,hw8,ln];refine hQ _ ?_ ?_
   ·simp[find,hy,hwx]
   ·rfl
  ·subst hb;simp[hc,hd,hy,h0,hw8,ln];refine hQ _ ?_ ?_
   ·simp[find,hy]
   ·rfl
theorem s65 {y:UInt8}{r:List UInt8}(hc:Z[cb]?=some (.cells [.hp db 9 0]))(hd:Z[db]?=some (.cells (dC t gn k ps tv (y::r) sb sc sn pv steps)))(hlk:lk<=db)(hL:L<=db)
  (hE:ab [1] E=[(1,.hp cb 1 0)])
  (hQ:∀E',Q .nrm E' (Z.set db (.cells (dC t gn k ps tv r sb sc sn pv steps)))):
  WB ⟨C,lk,L,[]⟩ (.regD [1] 0 [ kL 60 1,kL 61 1,kx 62 (.nilc (ux 61)),kF 63 5 62,kL 64 63,kx 65 (.slS (ux 64) (some c1) none),kx 66 (.nilc (ux 60)),kF 67 5 66,kn (.st none 1 (ux 67) (ux 65))]) Q E Z:=by
 unfold dC at hd hQ;rw[aB rfl,hE];have h1:(1:Int)<=(r.length:Int)+1:=by omega
 simp[hc,hd,hlk,hL,an,aR,bnd,ly,ByteArray.size,List.take_of_length_le,h1];exact hQ _
theorem s5 (hc:Z[cb]?=some (.cells [.hp db 9 0]))(hd:Z[db]?=some (.cells (dC t gn k ps tv rest sb sc sn pv steps)))(hr:rest.length<=1000000)
  (hE:ab [1,2,4] E=[(1,.hp cb 1 0),(2,Bo false),(4,I x)])
  (hQ:∀E',ab [1,2,4,5] E'=[(1,.hp cb 1 0),(2,Bo false),(4,I x),(5,Sg (rest++[255]))]->Q .nrm E' Z):
  WB ⟨C,lk,L,[]⟩ (.regD [1,2,4] 0 [ kL 68 1,kx 69 (.nilc (ux 68)),kF 70 5 69,kL 71 70,kx 72 (.buildS 1 [(.val (.int .u8 0))] [(0,1,(.con (.val (.int .u8 255))))]),kx 73 (.b2s (ux 72)),kx 74 (.bins .add (ux 71) (ux 73)),kM 5 74]) Q E Z:=by
 have hadd:=qH (a:=rest) (b:=[255]) (by simp;omega)
 unfold dC at hd;rw[aB rfl,hE];simp[hc,hd,dF,hadd];refine hQ _ ?_;rfl
theorem s6 (hc:Z[cb]?=some (.cells [.hp db 9 0]))(hd:Z[db]?=some (.cells (dC t gn k ps tv rest sb sc sn pv steps)))(hr:rest.length<=1000000)(hk:0<=k/\k<=1000000)(hw:IntKind.i64.wrap (x-t)=x-t)
  (kp:C lk L 63 [.agg [I t,I gn,I k,.sl ps.length (psC ps)],.agg [tv],I (x-t),Sg (rwK rest k)] Z=some (I p,Z))
  (htv:tv= .e0\/∃m cs,tv= .sl m cs)
  (hE:ab [1,2,4,5] E=[(1,.hp cb 1 0),(2,Bo false),(4,I x),(5,Sg (rest++[255]))])
  (hQ:∀E',ab [1,2,6] E'=[(1,.hp cb 1 0),(2,Bo false),(6,I p)]->Q .nrm E' Z):
  WB ⟨C,lk,L,[]⟩ (.regD [1,2,4,5] 0 [ kL 75 1,kx 76 (.nilc (ux 75)),kF 77 0 76,kx 78 (.ldA none 4 (ux 77)),kL 79 1,kx 80 (.nilc (ux 79)),kF 81 4 80,kx 82 (.ldA none 1 (ux 81)),kM 83 4,kL 84 1,kx 85 (.nilc (ux 84)),kF 86 0 85,kF 87 0 86,kL 88 87,kx 89 (.bini .sub (ux 83) (ux 88)),kM 90 5,kL 91 1,kx 92 (.nilc (ux 91)),kF 93 0 92,kF 94 2 93,kL 95 94,kM 96 5,kx 97 (.len true (ux 96)),kx 98 (.mm false [(ux 95),(ux 97)]),kx 99 (.slS (ux 90) none (some (ux 98))),kf 100 (.call 63 [(ux 78),(ux 82),(ux 89),(ux 99)]),kM 6 100]) Q E Z:=by
 obtain⟨k,rfl⟩:=Int.eq_ofNat_of_zero_le hk.1;have hsz:(⟨⟨rest++[255]⟩⟩:ByteArray).size=rest.length+1:=by simp[ByteArray.size]
 obtain⟨q,hq⟩:∃q,min k (rest.length+1)=q:=⟨_,rfl⟩;have hmn:(if (rest.length:Int)+1<(k:Int) then (rest.length:Int)+1 else (k:Int))=(q:Nat):=by split<;>omega
 have hle:(q:Int)<=(rest.length:Int)+1:=by omega
 have hq0:(0:Int)<=(q:Nat):=by omega
 have hrw:rwK rest k=(rest++[255]).take q:=by
  unfold rwK;rw[<-hq];rfl
 rw[hrw]at kp;unfold dC at hd;rw[aB rfl,hE];rcases htv with rfl | ⟨m,cs,rfl⟩;all_goals
  simp[hc,hd,bZ,hsz,bnd,ly,hmn,hle,hq0,hw,kp];refine hQ _ ?_;rfl
theorem PZ (hE:ab [1,2,6] E=[(1,.hp cb 1 0),(2,Bo false),(6,I p)])
  (hQ:∀E',find E' 102=Bo (decide (p<0))->ab [1,2,6] E'=[(1,.hp cb 1 0),(2,Bo false),(6,I p)]->Q .nrm E' Z):
  WB ⟨C,lk,L,[]⟩ (.regN [1,2,6] [ kM 101 6,kx 102 (.bini .lss (ux 101) c0)]) Q E Z:=by
 rw[ae,hE];simp;refine hQ _ ?_ ?_
 ·simp[find]
 ·rfl
end

theorem uW {S:Cx}{Q:Ex->Kt}{env:Env}{H:Heap}{keep:List Nat}{m:Nat}{ops:List AI}(hm:¬(m=0/\df ops=true))(h:WD S m ops (Q .nrm) (ab keep env) H):WB S (.regD keep m ops) Q env H:=by
 simp only[WB];rw[if_neg hm];exact h
section
variable {C:Orc}{Q:Ex->Kt}{E:Env}{lk L:Nat}{Z:Heap}{t gn k:Int}{ps:List Pr}{tv pv:AV}{rest:List UInt8}{S:List AV}{cb db sb sc sn m steps n:Nat}{x p:Int}{b:Bool}
theorem O7 (hc:Z[cb]?=some (.cells [.hp db 9 0]))(hd:Z[db]?=some (.cells (dC t gn k ps tv rest sb sc sn .e0 steps)))(hlk:lk<=db)(hL:L<=db)(hZ:db<Z.length)(hcb:cb<Z.length)
  (hE:ab [1,2,6] E=[(1,.hp cb 1 0),(2,Bo false),(6,I p)])
  (hQ:∀E',ab [1,2,6] E'=[(1,.hp cb 1 0),(2,Bo false),(6,I p)]->Q .nrm E' ((Z++[HB.cells [I p]]).set db (.cells (dC t gn k ps tv rest sb sc sn (.hs Z.length 1 0 1 1) steps)))):
  WB ⟨C,lk,L,[]⟩ (.regD [1,2,6] 0 [ kL 103 1,kL 104 1,kx 105 (.nilc (ux 104)),kF 106 7 105,kL 107 106,kM 108 6,kx 109 (.buildS 1 [(.val (.int .i64 0))] [(0,1,(ux 108))]),kf 110 (.app 1 8 (ux 107) (ux 109)),kx 111 (.nilc (ux 103)),kF 112 7 111,kn (.st none 1 (ux 112) (ux 110))]) Q E Z:=by
 have hd2:(Z++[HB.cells [I p]])[db]?=some (.cells (dC t gn k ps tv rest sb sc sn .e0 steps)):=by rw[List.getElem?_append_left hZ];exact hd
 have r1:(8:Nat)<=aM:=by decide
 unfold dC at hd hd2 hQ;refine uW (by decide) ?_
 unfold WD;rw[hE];simp[cX,dq,fG,je,pC,okT,cls,b9,eJ,isFree,isRow,guardI,bj,hc,hd,hd2,hlk,hL,an,aR,aN,r1,isCall,cls2];refine⟨_,_,⟨rfl,rfl⟩,?_,hQ _ rfl⟩;repeat refine bm rfl ?_
 exact ma _
theorem O8 {l:List Int}{pb:Nat}(hc:Z[cb]?=some (.cells [.hp db 9 0]))(hd:Z[db]?=some (.cells (dC t gn k ps tv rest sb sc sn (.hs pb l.length 0 l.length 1) steps)))(hp:Z[pb]?=some (.cells (ints l)))(hne:pb≠db)(hcp:pb≠cb)(hl:l.length<=100000000)
  (hlk:lk<=db) (hL:L<=db) (hlk2:lk<=pb) (hL2:L<=pb)
  (hE:ab [1,2,6] E=[(1,.hp cb 1 0),(2,Bo false),(6,I p)])
  (hQ:∀E',ab [1,2,6] E'=[(1,.hp cb 1 0),(2,Bo false),(6,I p)]->Q .nrm E' ((Z.set pb (.cells (ints (l++[p])))).set db (.cells (dC t gn k ps tv rest sb sc sn (.hs pb (l.length+1) 0 (l.length+1) 1) steps)))):
  WB ⟨C,lk,L,[]⟩ (.regD [1,2,6] 0 [ kL 103 1,kL 104 1,kx 105 (.nilc (ux 104)),kF 106 7 105,kL 107 106,kM 108 6,kx 109 (.buildS 1 [(.val (.int .i64 0))] [(0,1,(ux 108))]),kf 110 (.app 1 8 (ux 107) (ux 109)),kx 111 (.nilc (ux 103)),kF 112 7 111,kn (.st none 1 (ux 112) (ux 110))]) Q E Z:=by
 have e5:ints l++[I p]=ints (l++[p]):=by simp[ints]
 have hd2:(Z.set pb (HB.cells (ints (l++[p]))))[db]?=some (.cells (dC t gn k ps tv rest sb sc sn (.hs pb l.length 0 l.length 1) steps)):=by rw[List.getElem?_set_ne hne];exact hd
 have r1:(l.length+1)*8<=aM:=by unfold aM;omega
 have hlen:=aV l;have hne':=hne.symm;have hcp':=hcp.symm;have e6:eh l.length l.length 1=l.length+1:=by simp[eh]
 have e7:cS l.length l.length (ints l) [I p]=ints (l++[p]):=by
  rw[<-e5];unfold cS;simp[List.take_of_length_le,hlen]
 unfold dC at hd hd2 hQ;refine uW (by decide) ?_
 unfold WD;rw[hE];simp[cX,dq,fG,je,pC,okT,cls,b9,eJ,isFree,isRow,guardI,bj,hc,hd,hd2,hp,hlk,hL,hlk2,hL2,an,aR,aN,r1,isCall,cls2,hlen,e6,e7,hne,hcp,hne',hcp'];refine⟨_,_,⟨rfl,rfl⟩,?_,hQ _ rfl⟩;repeat refine bm rfl ?_
 exact ma _
theorem P0 {r:List Int}(hc:Z[cb]?=some (.cells [.hp db 9 0]))(hd:Z[db]?=some (.cells (dC t gn k ps tv rest sb sc sn pv steps))){q:Nat}(hp:p=q)(hq:q<ps.length)(hr:∀h,(psC ps)[q*2+1]'h= .sl r.length (ints r))
  (kb:C lk L 64 [.sl r.length (ints r)] Z=some (.fn 90 [.rop [.sl r.length (ints r)] 0],Z))
  (hE:ab [1,2,6] E=[(1,.hp cb 1 0),(2,Bo false),(6,I p)])
  (hQ:∀E',ab [1,2,122] E'=[(1,.hp cb 1 0),(2,Bo false),(122,.fn 90 [.rop [.sl r.length (ints r)] 0])]->Q .nrm E' Z):
  WB ⟨C,lk,L,[]⟩ (.regN [1,2,6] [ kL 113 1,kx 114 (.nilc (ux 113)),kF 115 0 114,kF 116 3 115,kL 117 116,kM 118 6,kI 119 2 117 118,kF 120 1 119,kL 121 120,kC 122 64 121]) Q E Z:=by
 have hll:=aY ps;have h2:q*2+1<2*ps.length:=by omega
 subst hp;unfold dC at hd;rw[ae,hE];simp[hc,hd,hq,hll,h2,hr,kb];refine hQ _ ?_;rfl
theorem P2 {a:AV}(ha:a=I x)(hc:Z[cb]?=some (.cells [.hp db 9 0]))(hd:Z[db]?=some (.cells (dC t gn k ps tv rest sb sc sn pv steps)))(hs:Z[sb]?=some (.cells S))(hsc:sc=S.length)(hsn:sn<=S.length)(hn:sn<=100000000)(hne:sb≠db)(hcp:sb≠cb)
  (hlk:lk<=db) (hL:L<=db) (hlk2:lk<=sb) (hL2:L<=sb)
  (hE:ab [1,8] E=[(1,.hp cb 1 0),(8,a)])
  (hQ:∀E',Q .nrm E' ((Z.set sb (.cells (cS sn S.length S [I x]))).set db (.cells (dC t gn k ps tv rest sb (eh sn S.length 1) (sn+1) pv steps)))):
  WB ⟨C,lk,L,[]⟩ (.regD [1,8] 0 [ kL 125 1,kL 126 1,kx 127 (.nilc (ux 126)),kF 128 6 127,kL 129 128,kM 130 8,kx 131 (.buildS 1 [(.val (.int .i64 0))] [(0,1,(ux 130))]),kf 132 (.app 1 8 (ux 129) (ux 131)),kx 133 (.nilc (ux 125)),kF 134 6 133,kn (.st none 1 (ux 134) (ux 132))]) Q E Z:=by
 subst hsc;subst ha;have hd2:(Z.set sb (HB.cells (cS sn S.length S [I x])))[db]?=some (.cells (dC t gn k ps tv rest sb S.length sn pv steps)):=by rw[List.getElem?_set_ne hne];exact hd
 have r1:(sn+1)*8<=aM:=by unfold aM;omega
 have hne':=hne.symm;have hcp':=hcp.symm;have h8:sn=S.length\/sn+1<=S.length:=by omega
 unfold dC at hd hd2 hQ;refine uW (by decide) ?_
 unfold WD;rw[hE];simp[cX,dq,fG,je,pC,okT,cls,b9,eJ,isFree,isRow,guardI,bj,hc,hd,hd2,hs,hlk,hL,hlk2,hL2,an,aR,aN,r1,isCall,cls2,hne,hcp,hne',hcp',h8];refine⟨_,_,⟨rfl,rfl⟩,?_,hQ _⟩;repeat refine bm rfl ?_
 exact ma _
end

theorem rn (S:Ss)(row:List UInt8):∀l:List Nat,kK S row l= -1\/∃i∈l,kK S row l=(i:Int)/\ct (S.getD i []) row=true
 | []=>.inl rfl
 | i::r=>by
  simp only[kK];split
  ·rename_i h;exact .inr ⟨i,List.mem_cons_self ..,rfl,h⟩
  ·rcases rn S row r with h | ⟨j,h1,h2,h3⟩
   ·exact .inl h
   ·exact .inr ⟨j,List.mem_cons_of_mem _ h1,h2,h3⟩
theorem iZ {g:Gm}(T:Ss)(left:Int)(row:List UInt8):qQ g T left row= -1\/∃i,i<g.ps.length/\qQ g T left row=(i:Int)/\(g.ps.getD i ⟨0,[]⟩).l=left/\ct (T.getD i []) row=true:=by
 unfold qQ;split
 ·exact .inl rfl
 split
 ·exact .inl rfl
 rcases rn T row (ofN g.ps left g.ps.length) with h | ⟨i,h1,h2,h3⟩
 ·exact .inl h
 ·have:=fj.1 h1;exact .inr ⟨i,this.1,h2,this.2,h3⟩
def AD (H:Heap)(g:Gm)(tv:AV)(l:List Int)(steps:Nat)(o:Option (List UInt8×List Int×List Int))(v:AV)(Z:Heap):Prop:=match o with
 | none=>v=Bo false/\∃Y,Z=H++Y
 | some (rest,st,q)=>v=Bo true/\∃S pv G,Z=dH H S (dC g.t g.n g.k g.ps tv rest H.length S.length st.length pv steps) G/\DM H.length S st (l++q) pv G
def O9 (H:Heap)(t gn k:Int)(ps:List Pr)(tv:AV)(rest:List UInt8)(pv:AV)(steps:Nat)(G:Heap)(l ss:List Int)(h:Heap):Prop:=∃S',h=dH H S' (dC t gn k ps tv rest H.length S'.length ss.length pv steps) G/\DM H.length S' ss l pv G
section
variable {C:Orc}{Q:Ex->Kt}{E:Env}{lk L:Nat}{H:Heap}{t gn k:Int}{ps:List Pr}{tv pv:AV}{rest:List UInt8}{cb steps:Nat}{l:List Int}{r:List Int}{st:List Int}{S:List AV}{G:Heap}
theorem Cp (hlk:lk<=H.length)(hL:L<=H.length)(hrl:r.length<=1000)(hst:st.length<=10000000)(hm:DM H.length S st l pv G)(hcb:∃j,cb=H.length+2+j/\G[j]?=some (.cells [.hp (H.length+1) 9 0]))
  (hE:ab [1,2,122] E=[(1,.hp cb 1 0),(2,Bo false),(122,.fn 90 [.rop [.sl r.length (ints r)] 0])])
  (hQ:∀E' S',DM H.length S' (r++st) l pv G->Q .nrm E' (dH H S' (dC t gn k ps tv rest H.length S'.length (r++st).length pv steps) G)):
  WB ⟨C,lk,L,[]⟩ (.block 0 (.rangeF [1,2,122] az (ux 122) [123,124] (.regN [1,124] [kx 8 (um 124)]) (.block 1 (.regD [1,8] 0 [ kL 125 1,kL 126 1,kx 127 (.nilc (ux 126)),kF 128 6 127,kL 129 128,kM 130 8,kx 131 (.buildS 1 [(.val (.int .i64 0))] [(0,1,(ux 130))]),kf 132 (.app 1 8 (ux 129) (ux 131)),kx 133 (.nilc (ux 125)),kF 134 6 133,kn (.st none 1 (ux 134) (ux 132))])))) Q E (dH H S (dC t gn k ps tv rest H.length S.length st.length pv steps) G):=by
 rw[ap];refine sj (e8 r 0) (fun i h=>O9 H t gn k ps tv rest pv steps G l (r.drop (r.length-i)++st) h) _ hE rfl rfl (ot _ r (by omega)) ?_ (by rw[Nat.sub_zero,List.drop_length];exact⟨S,rfl,hm⟩) ?_ ?_
 ·rw[List.all_eq_true];intro x hx;obtain⟨i,hi⟩:=List.getElem?_of_mem hx;have hil:i<r.length:=by have:=(List.getElem?_eq_some_iff.1 hi).1;rwa [cx]at this
  have:=fu r 0 (r.length-1-i) (by omega)
  rw[show r.length-1-(r.length-1-i)=i by omega]at this
  rw[this]at hi;simp only[RZ]at hi;subst hi;rfl
 ·rintro i x h hx ⟨S',rfl,hm'⟩;have hil:i<r.length:=by have:=(List.getElem?_eq_some_iff.1 hx).1;rwa [cx]at this
  have hb:=fu r 0 (r.length-1-i) (by omega)
  rw[show r.length-1-(r.length-1-i)=i by omega]at hb
  rw[hb]at hx;simp only[RZ]at hx;subst hx;have hd:r.drop (r.length-(i+1))=r[r.length-1-i]::r.drop (r.length-i):=by
   rw[List.drop_eq_getElem_cons (by omega:r.length-(i+1)<r.length)]
   congr 1
   ·congr 1;omega
   ·congr 1;omega
  generalize r[r.length-1-i]=y at *;have hln:(r.drop (r.length-i)++st).length<=100000000:=by simp;omega
  generalize hss:r.drop (r.length-i)++st=ss at *;refine⟨_,rfl,?_⟩;rw[ae];simp[-aB,-ap];refine zP rfl ?_;rw[ap];obtain⟨j,rfl,hj⟩:=hcb;have hsl:=hm'.le;have htk:=hm'.tk;refine P2 (x:=y) rfl (by rw[dHG];exact hj) dH1 dH0 rfl hsl hln (by omega) (by omega) (by omega) (by omega) hlk hL rfl fun E'=>?_
  rw[a6,zQ,Jh,kD];obtain⟨a1,a2,a3⟩:=s7 (a:=I y) hsl;rw[hd,List.cons_append,hss];refine⟨cS ss.length S'.length S' [I y],?_,?_⟩
  ·rw[<-a2];rfl
  ·refine⟨by simpa using a3,?_,hm'.pv⟩
   rw[List.length_cons,a1,htk];simp[ints]
 ·rintro h ⟨S',rfl,hm'⟩;rw[cx,Nat.sub_self,List.drop_zero]at hm' |-;exact hQ _ S' hm'
end
theorem uX (H:Heap)(S D:List AV)(G:Heap):∃Y,dH H S D G=H++Y:=⟨_,rfl⟩
theorem xo {H:Heap}{Z0 Z:Heap}{g:Gm}{tv:AV}{l:List Int}{steps:Nat}{o:Option (List UInt8×List Int×List Int)}{E:Env}{b:Bool}(hE:ab [2] E=[(2,Bo b)])(h:AD H g tv l steps o (Bo b) Z):wB [.tmp 2] false Z0 (AD H g tv l steps o) .ret E Z:=by
 have h2:find E 2=Bo b:=by
  have:=congrArg (fun e=>find e 2) hE;simpa using this
 rw[bt];simp[cB,h2];exact⟨_,_,⟨rfl,rfl⟩,h⟩
theorem xp {lk L:Nat}{H:Heap}(hlk:lk<=H.length)(hL:L<=H.length){g:Gm}(hg:GOk g){tv:AV}{T:Ss}(hT:TV tv T)(hTl:∀l∈T,l.length<=1000000000){rest:List UInt8}(hrest:rest.length<=1000000){x:Int}{st:List Int}(hx:0<=x/\x<g.t+g.n)(hst:st.length<=10000000){l:List Int}(hl:l.length<=100000000){steps:Nat}(hsteps:steps<=100000000)
  {S:List AV} {pv:AV} {G:Heap} (hm:DM H.length S (x::st) l pv G):
  ∃v Z,aj X A lk L 45 [.hp (H.length+1) 9 0] (dH H S (dC g.t g.n g.k g.ps tv rest H.length S.length (x::st).length pv steps) G)=some (v,Z)/\AD H g tv l (steps+1) (stepM g T rest (x::st)) v Z:=by
 have hlen:=fun (S D:List AV) (G:Heap)=>Mv (H:=H) (S:=S) (D:=D) (G:=G);have hps:g.ps.length<=1000000:=by have:=hg.l2;omega
 have hpr:∀p∈g.ps,p.r.length<=1000000:=fun p hp=>by have:=(hg.p p hp).len;omega
 have kp:=fun (S D:List AV) (G:Heap)=>uF (lk:=lk) (lim:=L) (H:=dH H S D G) (by rw[hlen];omega) g hps hpr hT hTl (x-g.t) (rwK rest g.k)
 have kb:=fun (r:List Int) (S D:List AV) (G:Heap)=>sG (lk:=lk) (lim:=L) (H:=dH H S D G) (by rw[hlen];omega) r
 have htv:tv= .e0\/∃m cs,tv= .sl m cs:=by
  rcases hT with⟨rfl,_⟩ | ⟨cs,rfl,_⟩
  ·exact .inl rfl
  ·exact .inr ⟨_,_,rfl⟩
 obtain⟨top,htk⟩:=AB hm.le hm.tk;have hle:st.length+1<=S.length:=by have:=hm.le;simpa using this
 refine dD [] rfl A45 rfl rfl ?_;unfold Ob;generalize aj X A=C at *;show WB ⟨C,lk,L,[]⟩ _ _ _ _;rw[List.length_cons];rw[ai];refine s1 (db:=H.length+1) rfl rfl fun E1 h1=>?_;rw[hlen]at h1;rw[Gk];obtain⟨G1,hG1⟩:∃G1,G++[HB.cells [AV.hp (H.length+1) 9 0]]=G1:=⟨_,rfl⟩;have hcg:G1[G.length]?=some (.cells [.hp (H.length+1) 9 0]):=by rw[<-hG1];simp
 have hpv:PV H.length l pv G1:=by rw[<-hG1];exact hm.pv.app _
 have hGl:G1.length=G.length+1:=by rw[<-hG1];simp
 rw[hG1];have hc:∀S D,(dH H S D G1)[H.length+2+G.length]?=some (.cells [.hp (H.length+1) 9 0]):=fun S D=>by rw[dHG];exact hcg
 obtain⟨cb,hcb⟩:∃cb,H.length+2+G.length=cb:=⟨_,rfl⟩;rw[hcb]at h1 hc;rw[ah,ai];refine s3 (hc _ _) dH1 (by omega) h1 fun E2 h2=>?_
 rw[ah,ai];refine s4 (hc _ _) dH1 dH0 rfl top h2 fun E3 h3=>?_;rw[ah,ai];refine s28 (hc _ _) dH1 (by omega) (by omega) hle h3 fun E4 h4=>?_
 rw[ah,ai,kD];refine s35 (hc _ _) dH1 (by omega) (by omega) hsteps h4 fun E5 h5=>?_
 rw[ah,ai,ai,kD];refine s44 (hc _ _) dH1 h5 fun E6 g6 h6 h6'=>?_;rw[ah];simp only[stepM];by_cases hxt:x<g.t
 ·rw[if_pos hxt];rw[decide_eq_true hxt]at g6;rw[ak (aI g6),ai,ai];cases rest with
  | nil=>
   refine s59 (b:=true) (hc _ _) dH1 rfl h6 fun E7 g7 h7=>?_;rw[ah,ak (aI g7),ai,ae];simp[-ae];refine xo (b:=false) rfl ⟨rfl,uX _ _ _ _⟩
  | cons y r=>
   refine s59 (b:=decide ¬(y.toNat:Int)=x) (hc _ _) dH1 rfl h6 fun E7 g7 h7=>?_;rw[ah];by_cases hy:(y.toNat:Int)=x
   ·simp only[if_pos hy];rw[decide_eq_false (fun h=>h hy)]at g7;rw[af (aI g7),aA,ah,ai];refine s65 (hc _ _) dH1 (by omega) (by omega) h7 fun E8=>?_
    rw[ah,ai,ae,kD];simp[-ae];refine xo (b:=true) rfl ⟨rfl,S,pv,G1,rfl,⟨by omega,htk,by rw[List.append_nil];exact hpv⟩⟩
   ·simp only[if_neg hy];rw[decide_eq_true hy]at g7;rw[ak (aI g7),ai,ae];simp[-ae];refine xo (b:=false) rfl ⟨rfl,uX _ _ _ _⟩
 rw[if_neg hxt];rw[decide_eq_false hxt]at g6;rw[af (aI g6),aA,ah,ai];refine s5 (hc _ _) dH1 hrest h6' fun E7 h7=>?_;rw[ah,ai];refine s6 (hc _ _) dH1 hrest ⟨by have:=hg.k1;omega,by have:=hg.k2;omega⟩ (au (by have:=hg.t2;omega) (by have:=hg.t1;have:=hg.n2;have:=hg.t2;omega)) (kp _ _ _) htv h7 fun E8 h8=>?_
 rw[ah,ai,ai];refine PZ h8 fun E9 g9 h9=>?_;rw[ah];rcases iZ (g:=g) T (x-g.t) (rwK rest g.k) with hneg | ⟨q,hq,hpq,-,-⟩
 ·rw[hneg]at g9 |-;rw[decide_eq_true (by omega)]at g9
  rw[ak (aI g9),ai,ae,if_pos (by omega)]
  simp[-ae];refine xo (b:=false) rfl ⟨rfl,uX _ _ _ _⟩
 rw[hpq]at g9 h9 |-;rw[decide_eq_false (by omega)]at g9
 rw[af (aI g9),aA,ah,ai,if_neg (by omega),Int.toNat_natCast]
 have hrE:∀h,(psC g.ps)[q*2+1]'h= .sl (g.ps.getD q ⟨0,[]⟩).r.length (ints (g.ps.getD q ⟨0,[]⟩).r):=fun h=>by
  rw[R3,R4 hq];exact(List.getElem?_eq_some_iff.1 (qF hq)).2
 have hrl:=(hg.p _ (bW hq)).len;generalize (g.ps.getD q ⟨0,[]⟩).r=r at *
 have go:∀E' pv' G',PV H.length (l++[(q:Int)]) pv' G'->(∃j,cb=H.length+2+j/\G'[j]?=some (.cells [.hp (H.length+1) 9 0]))->ab [1,2,6] E'=[(1,.hp cb 1 0),(2,Bo false),(6,I (q:Int))]->
   WB ⟨C,lk,L,[]⟩ (.seq (.seq (.regN [1,2,6] [ kL 113 1,kx 114 (.nilc (ux 113)),kF 115 0 114,kF 116 3 115,kL 117 116,kM 118 6,kI 119 2 117 118,kF 120 1 119,kL 121 120,kC 122 64 121]) (.block 0 (.rangeF [1,2,122] az (ux 122) [123,124] (.regN [1,124] [ kM 8 124]) (.block 1 (.regD [1,8] 0 [ kL 125 1,kL 126 1,kx 127 (.nilc (ux 126)),kF 128 6 127,kL 129 128,kM 130 8,kx 131 (.buildS 1 [(.val (.int .i64 0))] [(0,1,(ux 130))]),kf 132 (.app 1 8 (ux 129) (ux 131)),kx 133 (.nilc (ux 125)),kF 134 6 133,kn (.st none 1 (ux 134) (ux 132))]))))) (.seq (.regN [] [ kx 2 (.mv cT)]) .ret)) (wB [.tmp 2] false (dH H S (dC g.t g.n g.k g.ps tv rest H.length S.length (st.length+1) pv steps) G) (AD H g tv l (steps+1) (some (rest,r++st,[(q:Int)])))) E' (dH H S (dC g.t g.n g.k g.ps tv rest H.length S.length st.length pv' (steps+1)) G'):=by
  intro E' pv' G' hpv' hcb' hE';have hc':∀S D,(dH H S D G')[cb]?=some (.cells [.hp (H.length+1) 9 0]):=fun S D=>by
   obtain⟨j,rfl,hj⟩:=hcb';rw[dHG];exact hj
  rw[ai,ai];refine P0 (hc' _ _) dH1 (q:=q) rfl hq hrE (kb _ _ _ _) hE' fun E10 h10=>?_;rw[ah];refine Cp (l:=l++[(q:Int)]) hlk hL (by omega) hst ⟨by omega,htk,hpv'⟩ hcb' h10 fun E11 S' hm'=>?_
  rw[ah,ai,ae];simp[-ae];refine xo (b:=true) rfl ⟨rfl,S',pv',G',by rw[List.length_append],hm'⟩
 rcases hpv with⟨rfl,rfl⟩ | ⟨j,rfl,hj,hne⟩
 ·refine O7 (hc _ _) dH1 (by omega) (by omega) (by rw[hlen];omega) (by rw[hlen,hGl];omega) h9 fun E10 h10=>?_
  rw[ah,Gk,kD,hlen];refine go _ _ _ ?_ ⟨G.length,hcb.symm,?_⟩ h10
  ·exact .inr ⟨G1.length,by simp,by simp[ints],by simp⟩
  ·rw[List.getElem?_append_left (by omega)];exact hcg
 ·have hjc:j≠G.length:=fun e=>by
   rw[e,hcg]at hj;have:ints l=[AV.hp (H.length+1) 9 0]:=by simpa using hj.symm
   match l,this with
   | [],h=>cases h
   | y::r,h=>simp[ints]at h
  refine O8 (l:=l) (pb:=H.length+2+j) (hc _ _) dH1 (by rw[dHG];exact hj) (by omega) (by omega) hl (by omega) (by omega) (by omega) (by omega) h9 fun E10 h10=>?_
  rw[ah,Ji,kD];refine go _ _ _ ?_ ⟨G.length,hcb.symm,?_⟩ h10
  ·refine .inr ⟨j,by simp,?_,by simp⟩
   rw[List.getElem?_set_self (List.getElem?_eq_some_iff.1 hj).1]
  ·rw[List.getElem?_set_ne hjc];exact hcg

def iW (l:List Int):AV:=if l=[] then .e0 else .sl l.length (ints l)
def Cq (g:Gm)(tv:AV)(o:Option (List Int×Nat))(v:AV):Prop:=match o with
 | none=>v= .val (.pointer none)
 | some (l,n)=>v= .rop [I g.t,I g.n,I g.k,.sl g.ps.length (psC g.ps),tv,Sg [],.sl 0 [],iW l,I n] 0
def jN (g:Gm)(T:Ss)(o:Option (List Int×Nat)):Option (List Int×Nat):=if cN g=0/\ce g<=65536/\aK g=T then o else none
theorem Mw {tv:AV}{T:Ss}(h:TV tv T)(lim:Nat)(H:Heap)(d:Nat):frz lim H d tv=some tv/\Hm.below 0 tv=true:=by
 rcases h with⟨rfl,_⟩ | ⟨cs,rfl,hs⟩
 ·exact⟨tV ..,rfl⟩
 ·exact⟨tW ..,by simp[Hm.below,(iR lim H 0 hs).2]⟩
theorem Jj {H:Heap}{S:List AV}{t n k:Int}{ps:List Pr}{tv:AV}{T:Ss}(hT:TV tv T){pv:AV}{l:List Int}{steps:Nat}{G:Heap}(hp:PV H.length l pv G)(hl:l.length<=1000000000):
  frz H.length (dH H S (dC t n k ps tv [] H.length S.length 0 pv steps) G) 8 (.hp (H.length+1) 9 0)=some (.rop [I t,I n,I k,.sl ps.length (psC ps),tv,Sg [],.sl 0 [],iW l,I steps] 0)/\below H.length (.rop [I t,I n,I k,.sl ps.length (psC ps),tv,Sg [],.sl 0 [],iW l,I steps] 0)=true:=by
 obtain⟨h1,h2⟩:=Mw hT H.length (dH H S (dC t n k ps tv [] H.length S.length 0 pv steps) G) 7;have hlt:¬(H.length+1<H.length):=by omega
 have hps:belowL 0 (psC ps)=true:=by
  clear h1;induction ps with
  | nil=>rfl
  | cons p ps ih=>
   have e:psC (p::ps)=I p.l:: .sl p.r.length (ints p.r)::psC ps:=rfl;rw[e];simp[belowL,Hm.below,ih]
 have hdc:dC t n k ps tv [] H.length S.length 0 pv steps=[I t,I n,I k,.sl ps.length (psC ps),tv,Sg [],.hs H.length S.length 0 0 1,pv,I steps]:=rfl;have hst:frz H.length (dH H S (dC t n k ps tv [] H.length S.length 0 pv steps) G) 7 (.hs H.length S.length 0 0 1)=some (.sl 0 []):=by
  simp[frz,bh,dH0,ep,belowL]
 have hpv:frz H.length (dH H S (dC t n k ps tv [] H.length S.length 0 pv steps) G) 7 pv=some (iW l)/\Hm.below 0 (iW l)=true:=by
  unfold iW;rcases hp with⟨rfl,rfl⟩ | ⟨j,rfl,hj,hne⟩
  ·exact⟨by rw[if_pos rfl];exact tV ..,by rw[if_pos rfl];rfl⟩
  ·rw[if_neg hne];have hlt2:¬(H.length+2+j<H.length):=by omega
   refine⟨?_,by simp[Hm.below]⟩
   simp[frz,bh,dHG,hj,hlt2]
 refine⟨?_,?_⟩
 ·rw[frz,if_neg hlt,dH1];simp only;rw[if_pos ⟨rfl,by omega⟩,List.drop_zero,hdc]
  rw[hdc]at hst hpv h1;generalize dH H S [I t,I n,I k,.sl ps.length (psC ps),tv,Sg [],.hs H.length S.length 0 0 1,pv,I steps] G=Z at *;have hm:ep (frz H.length Z 7) [I t,I n,I k,.sl ps.length (psC ps),tv,Sg [],.hs H.length S.length 0 0 1,pv,I steps]=some [I t,I n,I k,.sl ps.length (psC ps),tv,Sg [],.sl 0 [],iW l,I steps]:=by
   simp only[ep,gC,tW,h1,hst,hpv.1]
  rw[hm];simp only;rw[if_pos (by simp[belowL,Hm.below,h2,hps,hpv.2])]
 ·have up:∀v:AV,Hm.below 0 v=true->Hm.below H.length v=true:=fun v h=>cY (Nat.zero_le _) v h;have hw:=up _ hpv.2;have ht:=up _ h2;have hp2:belowL H.length (psC ps)=true:=dP (Nat.zero_le _) _ hps;simp[belowL,Hm.below,hw,ht,hp2]

def j29 (H:Heap):Env:=[(10,.hp (H.length+1) 9 0),(36,.hp (H.length+1) 9 0)]
structure J29 (H:Heap)(g:Gm)(tv:AV)(T:Ss)(F:Nat)(o:Option (List Int×Nat))(x:Heap×List UInt8×List Int×List Int×Nat×Nat):Prop where
 z:∃S pv G,x.1=dH H S (dC g.t g.n g.k g.ps tv x.2.1 H.length S.length x.2.2.1.length pv x.2.2.2.2.1) G/\DM H.length S x.2.2.1 x.2.2.2.1 pv G
 r:runM g T x.2.2.2.2.2 x.2.1 x.2.2.1≠none/\∀o',runM g T x.2.2.2.2.2 x.2.1 x.2.2.1=some o'->o=o'.map fun y=>(x.2.2.2.1++y.1,x.2.2.2.2.1+y.2)
 f:x.2.2.2.2.1+x.2.2.2.2.2<=F
 st:x.2.2.1.length<=1+8*x.2.2.2.2.1
 l:x.2.2.2.1.length<=x.2.2.2.2.1
 s:∀y∈x.2.2.1,0<=y/\y<g.t+g.n
 rest:x.2.1.length<=1000000
theorem zf {g:Gm}(hg:GOk g){T:Ss}{rest rest':List UInt8}{x:Int}{st st' q:List Int}(h:stepM g T rest (x::st)=some (rest',st',q))(hs:∀y∈x::st,0<=y/\y<g.t+g.n):
  st'.length<=st.length+8/\q.length<=1/\(∀y∈st',0<=y/\y<g.t+g.n)/\rest'.length<=rest.length:=by
 have hst:∀y∈st,0<=y/\y<g.t+g.n:=fun y hy=>hs y (List.mem_cons_of_mem _ hy);simp only[stepM]at h;split at h
 ·split at h
  ·cases h
  ·split at h
   ·simp only[RZ,R0]at h;obtain⟨rfl,rfl,rfl⟩:=h;exact⟨by omega,by simp,hst,by simp⟩
   ·cases h
 ·rcases iZ (g:=g) T (x-g.t) (rwK rest g.k) with hneg | ⟨i,hi,hpi,-,-⟩
  ·rw[hneg,if_pos (by omega)]at h
   cases h
  ·rw[hpi,if_neg (by omega),Int.toNat_natCast]at h
   simp only[RZ,R0]at h;obtain⟨rfl,rfl,rfl⟩:=h;have hp:=hg.p _ (bW hi);have h8:=hp.len;exact⟨by rw[List.length_append];omega,by simp,fun y hy=>by
    rcases List.mem_append.1 hy with hy | hy
    ·exact hp.s y hy
    ·exact hst y hy,Nat.le_refl _⟩
section
variable {C:Orc}{Q:Ex->Kt}{E:Env}{lk:Nat}{H Z:Heap}{g:Gm}{tv pv:AV}{T:Ss}{rest:List UInt8}{st l:List Int}{steps:Nat}{S:List AV}{G:Heap}
theorem r42 (hE:ab [10,36] E=j29 H)
  (hQ:∀E',find E' 42=Bo (decide (0<st.length))->ab [10,36] E'=j29 H->Q .nrm E' (dH H S (dC g.t g.n g.k g.ps tv rest H.length S.length st.length pv steps) G)):
  WB ⟨C,lk,H.length,[3,4,7,8]⟩ (.regN [10,36] [ kM 37 10,kx 38 (.nilc (ux 37)),kF 39 6 38,kL 40 39,kN 41 40,kx 42 (.bini .gtr (ux 41) c0)]) Q E (dH H S (dC g.t g.n g.k g.ps tv rest H.length S.length st.length pv steps) G):=by
 have hd:=dH1 (H:=H) (S:=S) (D:=dC g.t g.n g.k g.ps tv rest H.length S.length st.length pv steps) (G:=G);generalize dH H S (dC g.t g.n g.k g.ps tv rest H.length S.length st.length pv steps) G=Z at *;unfold dC at hd;unfold j29 at *;rw[ae,hE];simp[hd];refine hQ _ ?_ ?_
 ·simp[find]
 ·rfl
theorem r45 {b:Bool}{Z':Heap}(kc:C lk H.length 45 [.hp (H.length+1) 9 0] Z=some (Bo b,Z'))(hE:ab [10,36] E=j29 H)
  (hQ:∀E',find E' 45=Bo (!b)->ab [10,36] E'=j29 H->Q .nrm E' Z'):
  WB ⟨C,lk,H.length,[3,4,7,8]⟩ (.regN [10,36] [ kM 43 10,kC 44 45 43,kx 45 (.not (ux 44))]) Q E Z:=by
 unfold j29 at *;rw[ae,hE];simp[kc];refine hQ _ ?_ ?_
 ·simp[find]
 ·rfl
theorem r50 (hE:ab [10,36] E=j29 H)
  (hQ:∀E',find E' 50=Bo (!(rest==[]))->ab [10,36] E'=j29 H->Q .nrm E' (dH H S (dC g.t g.n g.k g.ps tv rest H.length S.length st.length pv steps) G)):
  WB ⟨C,lk,H.length,[3,4,7,8]⟩ (.regN [10,36] [ kM 46 10,kx 47 (.nilc (ux 46)),kF 48 5 47,kL 49 48,kx 50 (.bins .neq (ux 49) (.con (.val (.string ⟨#[]⟩))))]) Q E (dH H S (dC g.t g.n g.k g.ps tv rest H.length S.length st.length pv steps) G):=by
 have hd:=dH1 (H:=H) (S:=S) (D:=dC g.t g.n g.k g.ps tv rest H.length S.length st.length pv steps) (G:=G);generalize dH H S (dC g.t g.n g.k g.ps tv rest H.length S.length st.length pv steps) G=Z at *;unfold dC at hd;have h0:=ml rest;unfold j29 at *;rw[ae,hE];simp[hd,h0];refine hQ _ ?_ ?_
 ·simp[find]
 ·rfl
end
theorem uY {H Y:Heap}{g:Gm}{tv:AV}{o:Option (List Int×Nat)}{E:Env}(hE:ab [6] E=[(6,.val (.pointer none))])(ho:o=none):wB [.tmp 6] true H (fun v h=>h=H/\Cq g tv o v) .ret E (H++Y):=by
 have h2:find E 6= .val (.pointer none):=by
  have:=congrArg (fun e=>find e 6) hE;simpa using this
 subst ho;rw[bt];simp[cB,h2,Hm.below];exact⟨_,_,⟨rfl,rfl⟩,rfl,rfl⟩
theorem My {H:Heap}{g:Gm}{tv:AV}{T:Ss}(hT:TV tv T){S:List AV}{pv:AV}{l:List Int}{steps:Nat}{G:Heap}(hp:PV H.length l pv G)(hl:l.length<=1000000000){o:Option (List Int×Nat)}{E:Env}(hE:ab [6] E=[(6,.hp (H.length+1) 9 0)])(ho:o=some (l,steps)):
  wB [.tmp 6] true H (fun v h=>h=H/\Cq g tv o v) .ret E (dH H S (dC g.t g.n g.k g.ps tv [] H.length S.length 0 pv steps) G):=by
 have h2:find E 6= .hp (H.length+1) 9 0:=by
  have:=congrArg (fun e=>find e 6) hE;simpa using this
 subst ho;obtain⟨f1,f2⟩:=Jj (H:=H) (S:=S) (t:=g.t) (n:=g.n) (k:=g.k) (ps:=g.ps) hT hp (steps:=steps) hl;rw[bt];refine⟨_,_,?_,rfl,rfl⟩;have htk:(dH H S (dC g.t g.n g.k g.ps tv [] H.length S.length 0 pv steps) G).take H.length=H:=by simp[dH]
 generalize dH H S (dC g.t g.n g.k g.ps tv [] H.length S.length 0 pv steps) G=Z at *;have hres:rI E Z [.tmp 6]=some (.hp (H.length+1) 9 0):=by simp[rI,gu,h2]
 unfold cB;simp only[hres];rw[if_pos trivial,f1];simp only;rw[if_pos f2,htk]
theorem Gl {lk:Nat}{H:Heap}(hlk:lk<=H.length){g:Gm}(hg:GOk g){tv:AV}{T:Ss}(hT:TV tv T)(hTl:∀l∈T,l.length<=1000000000){F:Nat}(hF:F<=1000000){o:Option (List Int×Nat)}{E:Env}{s:List UInt8}(hs:s.length<=1000000)(hr:runM g T F s [g.t]=some o)
  (hE:ab [10,36] E=j29 H):
  WB ⟨aj X A,lk,H.length,[3,4,7,8]⟩ (.seq (.block 0 (.loop [10,36] Eu)) (.seq (.seq (.regN [10,36] [ kx 46 (um 10),kx 47 (.nilc (ux 46)),kx 48 (.fldA 5 (ux 47)),kx 49 (.ld1 none (ux 48)),kx 50 (.bins .neq (ux 49) (.con (.val (.string ⟨#[]⟩))))]) (.cond (ux 50) (.seq (.regN [] [ kx 6 (.mv (.con (.val (.pointer none))))]) .ret) .skip)) (.seq (.regN [10,36] [ kx 51 (um 10),kx 6 (um 51)]) .ret))) (wB [.tmp 6] true H fun v h=>h=H/\Cq g tv o v) E (dH H [I g.t] (dC g.t g.n g.k g.ps tv s H.length 1 1 .e0 0) []):=by
 rw[ai,ap];refine ax (σ:=Heap×List UInt8×List Int×List Int×Nat×Nat) (fun _=>j29 H) (fun x=>x.1) (J29 H g tv T F o) (fun x=>x.2.2.2.2.2) ?_ (_,s,[g.t],[],0,F) ?_ hE rfl
 ·rintro⟨Z,rest,st,l,steps,f⟩ hJ;obtain⟨⟨S,pv,G,e,hm⟩,⟨r1,r2⟩,hf,hst,hl,hsy,hrest⟩:=hJ;simp only at e hm r1 r2 hf hst hl hsy hrest |-;subst e;unfold Eu;rw[ai,ai];refine r42 rfl fun E1 g1 h1=>?_;rw[ah];cases st with
  | nil=>
   rw[decide_eq_false (by simp)]at g1
   rw[af (aI g1),bT,a8,bQ,aG,if_pos rfl,ah,ai,ai];have r3:=r2 _ (by rw[runM])
   refine r50 h1 fun E2 g2 h2=>?_;rw[ah];by_cases hre:rest=[]
   ·subst hre;rw[if_pos rfl]at r3;rw[af (aI (by simpa using g2)),aA,ah,ai,ae,h2]
    simp[j29,-ae];exact My hT hm.pv (by omega) rfl (by simpa using r3)
   ·rw[if_neg hre]at r3;have hb:(!(rest==[]))=true:=by simpa using hre
    rw[hb]at g2;rw[ak (aI g2),ai,ae];simp[-ae];exact uY rfl (by simpa using r3)
  | cons x st=>
   rw[decide_eq_true (by simp)]at g1
   rw[ak (aI g1),aA,ah,ap,ai];have hx:=hsy x (List.mem_cons_self ..);have hln:st.length<=10000000:=by simp only[List.length_cons]at hst;omega
   obtain⟨v,Z',kc,hP⟩:=xp (lk:=lk) (L:=H.length) hlk (Nat.le_refl _) hg hT hTl hrest hx hln (l:=l) (by omega) (steps:=steps) (by omega) hm
   cases f with
   | zero=>exact absurd rfl (by rw[runM]at r1;exact r1)
   | succ f=>
    simp only[runM]at r1 r2;cases hq:stepM g T rest (x::st) with
    | none=>
     rw[hq]at hP r1 r2;obtain⟨rfl,Y,rfl⟩:=hP;have r3:=r2 _ rfl;refine r45 kc h1 fun E2 g2 h2=>?_;rw[ah,ak (aI g2),ai,ae];simp[-ae];exact uY rfl (by simpa using r3)
    | some y=>
     obtain⟨rest',st',q⟩:=y;have hk:=zf hg hq hsy;rw[hq]at hP r1 r2;obtain⟨rfl,S',pv',G',rfl,hm'⟩:=hP;refine r45 kc h1 fun E2 g2 h2=>?_;rw[ah,af (aI g2),aA,a6,ao];refine⟨(_,rest',st',l++q,steps+1,f),⟨⟨S',pv',G',rfl,hm'⟩,⟨?_,?_⟩,?_,?_,?_,hk.2.2.1,?_⟩,?_,h2,rfl⟩
     ·intro e;simp only at e r1;rw[e]at r1;exact r1 rfl
     ·intro o' e;simp only at e r2;have:=r2 _ (by rw[e];rfl)
      rw[this];cases o' with
      | none=>rfl
      | some y=>simp;omega
     ·simp only;omega
     ·simp only;have:=hk.1;simp only[List.length_cons]at hst;omega
     ·simp only[List.length_append];have:=hk.2.1;omega
     ·simp only;have:=hk.2.2.2;omega
     ·simp only;omega
 ·refine⟨⟨[I g.t],.e0,[],rfl,⟨by simp,rfl,.inl ⟨rfl,rfl⟩⟩⟩,⟨?_,?_⟩,?_,?_,?_,?_,hs⟩
  ·simp only;rw[hr];simp
  ·intro o' e;simp only at e;rw[hr]at e;simp only[RZ]at e;subst e;cases o with
   | none=>rfl
   | some y=>simp
  ·simp only;omega
  ·simp
  ·simp
  ·intro y hy;have:=hg.t1;have:=hg.n1;simp only[List.mem_singleton]at hy;subst hy;omega

section
variable {C:Orc}{Q:Ex->Kt}{E:Env}{lk L:Nat}{H:Heap}{t gn k:Int}{ps:List Pr}{tv tw:AV}{s:List UInt8}{e:Int}{c:Int}{b:Bool}
abbrev g29 (t gn k:Int)(ps:List Pr)(tv:AV)(s:List UInt8):Env:=[(2,Sg s),(3,.box [I t,I gn,I k,.sl ps.length (psC ps)]),(4,.box [tv])]
theorem k18 (htv:tv= .e0\/∃m cs,tv= .sl m cs)(ka:C lk L 31 [.agg [I t,I gn,I k,.sl ps.length (psC ps)]] H=some (I e,H))(kc:C lk L 16 [.agg [I t,I gn,I k,.sl ps.length (psC ps)]] H=some (I c,H))
  (hE:ab [2,3,4] E=g29 t gn k ps tv s)
  (hQ:∀E',find E' 18=Bo (!(decide (e=0/\c<=65536)))->ab [2,3,4] E'=g29 t gn k ps tv s->Q .nrm E' H):
  WB ⟨C,lk,L,[3,4,7,8]⟩ (.regN [2,3,4] [ kP 11 3 4 3,kC 12 31 11,kx 13 (.bini .neq (ux 12) c0),kM 14 13,kz 15 14 (.ldA (some 3) 4 (ux 3)),kz 16 14 (.call 16 [.tmp 15]),kz 17 14 (.bini .gtr (ux 16) (.con (.val (.int .i64 65536)))),kO 18 14 17]) Q E H:=by
 rw[ae,hE];rcases htv with rfl | ⟨m,cs,rfl⟩;all_goals
  by_cases he:e=0
  ·subst he;by_cases hc:c<=65536
   ·have hc2:¬65536<c:=by omega
    simp[ka,kc,hc2];refine hQ _ ?_ ?_
    ·simp[find,hc,hc2]
    ·rfl
   ·have hc2:65536<c:=by omega
    simp[ka,kc,hc2];refine hQ _ ?_ ?_
    ·simp[find,hc,hc2]
    ·rfl
  ·have he2:(e != 0)=true:=by simpa using he
   simp[ka,he2];refine hQ _ ?_ ?_
   ·simp[find,he,he2]
   ·rfl
theorem k9 {w x y z:AV}(htv:tv= .e0\/∃m cs,tv= .sl m cs)(htw:tw= .e0\/∃m cs,tw= .sl m cs){l a b':Nat}{xr:List UInt8}(kb:C lk L 43 [.agg [I t,I gn,I k,.sl ps.length (psC ps)]] H=some (.tup [.agg [tw],.agg [I l,I a,I b',Sg xr],I e],H))
  (hE:ab [2,3,4] E=g29 t gn k ps tv s)
  (hQ:∀E',ab [2,3,4,7] E'=g29 t gn k ps tv s++[(7,.box [tw])]->Q .nrm E' H):
  WB ⟨C,lk,L,[3,4,7,8]⟩ (.regN [2,3,4] [ kP 20 3 4 3,kC 21 43 20,kM 19 21,kE 22 19 0,kE 23 19 1,kE 24 19 2,kx 7 (.allocR [.e0]),kx 8 (.allocR [(.val (.int .i64 0)),(.val (.int .i64 0)),(.val (.int .i64 0)),(.val (.string ⟨#[]⟩))]),kn (.st (some 7) 1 (ux 7) (ux 22)),kn (.st (some 8) 4 (ux 8) (ux 23)),kM 9 24]) Q E H:=by
 rw[ae,hE];rcases htv with rfl | ⟨m,cs,rfl⟩;all_goals
  rcases htw with rfl | ⟨m2,cs2,rfl⟩;all_goals
   simp[kb,an];refine hQ _ ?_;rfl
theorem k28 (htv:tv= .e0\/∃m cs,tv= .sl m cs)(htw:tw= .e0\/∃m cs,tw= .sl m cs)(ks:C lk L 44 [.agg [tw],.agg [tv]] H=some (Bo b,H))
  (hE:ab [2,3,4,7] E=g29 t gn k ps tv s++[(7,.box [tw])])
  (hQ:∀E',find E' 28=Bo (!b)->ab [2,3,4] E'=g29 t gn k ps tv s->Q .nrm E' H):
  WB ⟨C,lk,L,[3,4,7,8]⟩ (.regN [2,3,4,7] [ kP 25 7 1 7,kP 26 4 1 4,kx 27 (.call 44 [(ux 25),(ux 26)]),kx 28 (.not (ux 27))]) Q E H:=by
 rw[ae,hE];rcases htv with rfl | ⟨m,cs,rfl⟩;all_goals
  rcases htw with rfl | ⟨m2,cs2,rfl⟩;all_goals
   simp[ks];refine hQ _ ?_ ?_
   ·simp[find]
   ·rfl
theorem k10 (htv:tv= .e0\/∃m cs,tv= .sl m cs)(hE:ab [2,3,4] E=g29 t gn k ps tv s)
  (hQ:∀E',ab [10,36] E'=j29 H->Q .nrm E' (dH H [I t] (dC t gn k ps tv s H.length 1 1 .e0 0) [])):
  WB ⟨C,lk,L,[3,4,7,8]⟩ (.regN [2,3,4] [ kP 29 3 4 3,kP 30 4 1 4,kM 31 2,kF 32 0 3,kS 33 3 32,kx 34 (.buildH 1 1 [(.val (.int .i64 0))] [(0,1,(ux 33))]),kx 35 (.build [(.val (.int .i64 0)),(.val (.int .i64 0)),(.val (.int .i64 0)),.e0,.e0,(.val (.string ⟨#[]⟩)),.e0,.e0,(.val (.int .i64 0))] [(0,4,(ux 29)),(4,1,(ux 30)),(5,1,(ux 31)),(6,1,(ux 34))]),kx 36 (.boxH 9 (ux 35)),kM 10 36]) Q E H:=by
 have e1:dH H [I t] (dC t gn k ps tv s H.length 1 1 .e0 0) []=H++[.cells [I t],.cells [I t,I gn,I k,.sl ps.length (psC ps),tv,Sg s,.hs H.length 1 0 1 1,.e0,I 0]]:=rfl;rw[e1]at hQ;unfold j29 at hQ;rw[ae,hE];rcases htv with rfl | ⟨m,cs,rfl⟩;all_goals
  simp[an];refine hQ _ ?_;rfl
end
theorem rq {lk lim:Nat}{H:Heap}(hlk:lk<=H.length)(g:Gm)(hl:g.ps.length<=1000000)(hr:∀p∈g.ps,p.r.length<=1000000){tv:AV}{T:Ss}(hT:TV tv T)(s:List UInt8)(hs:s.length<=1000000){F:Nat}(hF:F<=1000000){o:Option (List Int×Nat)}
  (hrun:cN g=0->ce g<=65536->runM g (aK g) F s [g.t]=some o):
  ∃v,aj X A lk lim 29 [gV g,.agg [tv],Sg s] H=some (v,H)/\Cq g tv (jN g T o) v:=by
 have main:∃v h',aj X A lk lim 29 [gV g,.agg [tv],Sg s] H=some (v,h')/\(h'=H/\Cq g tv (jN g T o) v):=by
  have ka:=fun (L:Nat)=>jJ (lk:=lk) (lim:=L) hlk g hl hr;have kc:=fun (L:Nat)=>cG (lk:=lk) (lim:=L) hlk g hl hr;obtain⟨tw,kb,hTw⟩:=oz (lim:=H.length) hlk g hl hr;obtain⟨l,a,b,x,hx⟩:=RX (jF g);rw[hx]at kb;have nz:∀{v:AV} {S:Ss},TV v S->v= .e0\/∃m cs,v= .sl m cs:=fun h=>by
   rcases h with⟨rfl,_⟩ | ⟨cs,rfl,_⟩
   ·exact .inl rfl
   ·exact .inr ⟨_,_,rfl⟩
  have n1:=nz hT;have n2:=nz hTw;refine dD [3,4,7,8] rfl A29 rfl rfl ?_;show WB ⟨aj X A,lk,H.length,[3,4,7,8]⟩ LJ (wB [.tmp 6] true H fun v h=>h=H/\Cq g tv (jN g T o) v) (aP 0 [gV g,.agg [tv],Sg s]) H;unfold LJ;rw[ai];have hstart:∀(Q:Ex->Kt),(∀E',ab [2,3,4] E'=g29 g.t g.n g.k g.ps tv s->Q .nrm E' H)->WB ⟨aj X A,lk,H.length,[3,4,7,8]⟩ (.regN [0,1,2] [ kB 3 4 0,kB 4 1 1,kx 6 (.mv (.con (.val (.pointer none))))]) Q (aP 0 [gV g,.agg [tv],Sg s]) H:=by
   intro Q hQ;generalize aj X A=C at *;rcases n1 with rfl | ⟨m,cs,rfl⟩;all_goals
    rw[ae];simp[gV,Gm.cells];refine hQ _ ?_;rfl
  refine hstart _ fun E1 h1=>?_;rw[ah,ai,ai];refine k18 n1 (ka _) (kc _) h1 fun E2 g2 h2=>?_;rw[ah];by_cases hacc:cN g=0/\oW g<=65536;case neg=>
   rw[decide_eq_false hacc]at g2;rw[ak (aI g2),ai,ae];simp[-ae];have ho:jN g T o=none:=by
    unfold jN;rw[if_neg];rintro⟨q1,q2,-⟩;exact hacc ⟨q1,by rw[show oW g=ce g from if_pos q1];exact q2⟩
   have:=uY (H:=H) (Y:=[]) (g:=g) (tv:=tv) (o:=jN g T o) (E:=[(6,.val (.pointer none))]) rfl ho;rw[List.append_nil]at this;exact this
  rw[decide_eq_true hacc]at g2;rw[af (aI g2),aA,ah,ai,ai];have ha:=jL hacc.1;have hg:=ha.ok;have hbt:eW g=aK g:=if_pos ((ip ha.chk).2 ha.conf);rw[hbt]at hTw;have hlk2:∀l∈aK g,l.length<=1000000000:=fun l h=>Nat.le_trans (jE hg h) (by decide)
  have ks:=w9 (lk:=lk) (lim:=H.length) (H:=H) hTw hT (by rw[fA];omega) hlk2
  refine k9 (w:=.e0) (x:=.e0) (y:=.e0) (z:=.e0) n1 n2 kb h2 fun E3 h3=>?_;rw[ah,ai];refine k28 n1 n2 ks h3 fun E4 g4 h4=>?_;rw[ah];by_cases hTT:aK g=T;case neg=>
   rw[decide_eq_false hTT]at g4;rw[ak (aI g4),ai,ae];simp[-ae];have ho:jN g T o=none:=by
    unfold jN;rw[if_neg];rintro⟨q1,q2,q3⟩;exact hTT q3
   have:=uY (H:=H) (Y:=[]) (g:=g) (tv:=tv) (o:=jN g T o) (E:=[(6,.val (.pointer none))]) rfl ho;rw[List.append_nil]at this;exact this
  rw[decide_eq_true hTT]at g4;rw[af (aI g4),aA,ah,ai];have ho:jN g T o=o:=if_pos ⟨hacc.1,by rw[<-show oW g=ce g from if_pos hacc.1];exact hacc.2,hTT⟩
  rw[ho];subst hTT;refine k10 n1 h4 fun E5 h5=>?_;rw[ah];exact Gl hlk hg hT hlk2 hF hs (hrun hacc.1 (by rw[<-show oW g=ce g from if_pos hacc.1];exact hacc.2)) h5
 obtain⟨v,h',h1,rfl,h2⟩:=main;exact⟨v,h1,h2⟩

def zg (o:Option (List Int×Nat)):AV:=match o with
 | none=>.tup [.e0,Bo false]
 | some (l,_)=>.tup [iW l,Bo true]
def Cr (o:Option (List Int×Nat)):AV:=match o with
 | none=>.tup [I 0,Bo false]
 | some (_,n)=>.tup [I n,Bo true]
theorem Pa:zq (.val (.pointer none)) (.val (.pointer none))=some true:=rfl
theorem Mz (cs:List AV):zq (.rop cs 0) (.val (.pointer none))=some false:=rfl
theorem Gn (l:List Int):iW l= .e0\/∃cs,iW l= .sl cs.length cs/\belowL 0 cs=true:=by
 unfold iW;split
 ·exact .inl rfl
 ·exact .inr ⟨ints l,by simp,by simp⟩
section
variable {lk lim:Nat}{H:Heap}(hlk:lk<=H.length)(g:Gm)(hl:g.ps.length<=1000000)(hr:∀p∈g.ps,p.r.length<=1000000){tv:AV}{T:Ss}(hT:TV tv T)(s:List UInt8)(hs:s.length<=1000000){F:Nat}(hF:F<=1000000){o:Option (List Int×Nat)}
 (hrun:cN g=0->ce g<=65536->runM g (aK g) F s [g.t]=some o)
include hlk hl hr hT hs hF hrun
theorem gS:aj X A lk lim 11 [gV g,.agg [tv],Sg s] H=some (zg (jN g T o),H):=by
 obtain⟨v,k,hv⟩:=rq (lim:=H.length) hlk g hl hr hT s hs hF hrun;refine ar [3,4] rfl A11 rfl rfl ?_;unfold Nz;generalize jN g T o=r at *;generalize aj X A=C at *;have n1:tv= .e0\/∃m cs,tv= .sl m cs:=by
  rcases hT with⟨rfl,_⟩ | ⟨cs,rfl,_⟩
  ·exact .inl rfl
  ·exact .inr ⟨_,_,rfl⟩
 obtain⟨t,n,kk,ps⟩:=g;simp only[gV,Gm.cells]at k |-;rcases r with _ | ⟨l,m⟩
 ·have hv:v= .val (.pointer none):=hv;subst hv;rcases n1 with rfl | ⟨m,cs,rfl⟩;all_goals
   simp[k,zg,Pa]
 ·have hv:v= .rop [I t,I n,I kk,.sl ps.length (psC ps),tv,Sg [],.sl 0 [],iW l,I m] 0:=hv;subst hv;have hw:=Gn l;simp only[zg];generalize iW l=w at *;rcases n1 with rfl | ⟨m,cs,rfl⟩;all_goals
   rcases hw with rfl | ⟨ds,rfl,hb⟩
   ·simp[k,Mz]
   ·simp[k,Mz,hb,Hm.below]
theorem mY:aj X A lk lim 19 [gV g,.agg [tv],Sg s] H=some (Cr (jN g T o),H):=by
 obtain⟨v,k,hv⟩:=rq (lim:=H.length) hlk g hl hr hT s hs hF hrun;refine ar [3,4] rfl A19 rfl rfl ?_;unfold Oe;generalize jN g T o=r at *;generalize aj X A=C at *;have n1:tv= .e0\/∃m cs,tv= .sl m cs:=by
  rcases hT with⟨rfl,_⟩ | ⟨cs,rfl,_⟩
  ·exact .inl rfl
  ·exact .inr ⟨_,_,rfl⟩
 obtain⟨t,n,kk,ps⟩:=g;simp only[gV,Gm.cells]at k |-;rcases r with _ | ⟨l,m⟩
 ·have hv:v= .val (.pointer none):=hv;subst hv;rcases n1 with rfl | ⟨m,cs,rfl⟩;all_goals
   simp[k,Cr,Pa]
 ·have hv:v= .rop [I t,I n,I kk,.sl ps.length (psC ps),tv,Sg [],.sl 0 [],iW l,I m] 0:=hv;subst hv;simp only[Cr];generalize iW l=w at *;rcases n1 with rfl | ⟨m,cs,rfl⟩;all_goals
   simp[k,Mz]
end

theorem AE:cN exC=0:=mW.2 ze
theorem AF:runM exC (aK exC) 10 [0,0] [exC.t]=some (some ([0,0,1],5)):=by decide+kernel
theorem mZ {lim:Nat}:aj X A 0 lim 9 [] []=some (Bo true,[]):=by
 have hl:exC.ps.length<=1000000:=by show 2<=1000000;omega
 have hr:∀p∈exC.ps,p.r.length<=1000000:=fun p hp=>by
  simp[exC]at hp;rcases hp with rfl | rfl<;>simp
 have k10:=fun (L:Nat)=>Co (lk:=0) (lim:=L) (H:=[]);obtain⟨tv,k12,hT⟩:=iY (lk:=0) (lim:=0) (H:=[]) (Nat.le_refl _) exC hl hr;have hbt:eW exC=aK exC:=if_pos ((ip ze.chk).2 ze.conf);rw[hbt]at hT;have ho:jN exC (aK exC) (some ([0,0,1],5))=some ([0,0,1],5):=if_pos ⟨AE,by rw[Az];decide,rfl⟩
 have k11:=gS (lk:=0) (lim:=0) (H:=[]) (Nat.le_refl _) exC hl hr hT [0,0] (by decide) (F:=10) (by decide) fun _ _=>AF
 have k19:=mY (lk:=0) (lim:=0) (H:=[]) (Nat.le_refl _) exC hl hr hT [0,0] (by decide) (F:=10) (by decide) fun _ _=>AF
 have k16:=cG (lk:=0) (lim:=0) (H:=[]) (Nat.le_refl _) exC hl hr;have k13:=jM (lk:=0) (lim:=0) (H:=[]) (a:=[0,0,1]) (b:=[0,0,1]) (.inl rfl) (.inl rfl) (by decide)
 rw[ho]at k11 k19;rw[show oW exC=4 from (if_pos AE).trans Az]at k16;rw[show zg (some ([0,0,1],5))= .tup [.sl 3 [I 0,I 0,I 1],Bo true] from rfl]at k11;rw[show Cr (some ([0,0,1],5))= .tup [I 5,Bo true] from rfl]at k19;rw[show iV [0,0,1]= .sl 3 [I 0,I 0,I 1] from rfl,decide_eq_true rfl]at k13;have n1:tv= .e0\/∃m cs,tv= .sl m cs:=by
  rcases hT with⟨rfl,_⟩ | ⟨cs,rfl,_⟩
  ·exact .inl rfl
  ·exact .inr ⟨_,_,rfl⟩
 refine ar [] rfl A9 rfl rfl ?_;unfold t9B;clear hT ho hl hr hbt;have k10:=k10 0;simp only[gV,Gm.cells]at k10 k12 k11 k19 k16;generalize exC=g at *;obtain⟨t,n,kk,ps⟩:=g;simp only at k10 k12 k11 k19 k16;generalize aj X A=C at *;have e0:(⟨#[0,0]⟩:ByteArray)=⟨⟨[0,0]⟩⟩:=rfl;simp only[Sg]at k11 k19;rw[e0];clear e0;generalize (⟨⟨[0,0]⟩⟩:ByteArray)=sb at *;rcases n1 with rfl | ⟨m,cs,rfl⟩;all_goals
  rw[ai,ae];simp[-ae];rw[ae];simp[-ae,k10,k12,k11];rw[ae];simp[-ae,k10,k12,k19];rw[ae];simp[k10,k16,k13,an]
end Go.Proofs.YtkllbcjanneppaaGreat
