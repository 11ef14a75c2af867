import Derived.Test.YtkllbcjanneppaaGreatJG
import Derived.Test.YtkllbcjanneppaaGreatJF
import Derived.Test.YtkllbcjanneppaaGreatJM
set_option maxRecDepth 20000
set_option linter.unusedSimpArgs false
set_option linter.unusedVariables false
namespace Go.Proofs.YtkllbcjanneppaaGreat
open Go Go.Hm

def v7 (t gn k:Int)(ps:List Pr)(nl dp:List Int)(bs:List Bool)(ol:List Nat)(a:Nat)(le mo:Int)(i:Nat)(r:Env):Env:=
 (1,.box [I t,I gn,I k,.sl ps.length (psC ps)])::(3,.sl nl.length (ints nl))::(4,.sl dp.length (ints dp))::(5,.sl bs.length (bools bs))::(6,I a)::(7,.sl ol.length (nts ol))::(8,I le)::(9,I mo)::(10,I i)::r
abbrev q12:List Nat:=[1,3,4,5,6,7,8,9,10,11,12,13]
abbrev q13:List Nat:=[1,3,4,5,6,7,8,9,10,11,12,13,14]
section
variable {C:Orc}{Q:Ex→Kt}{E:Env}{lk L:Nat}{H:Heap}{t gn k:Int}{ps:List Pr}{nl dp:List Int}{bs:List Bool}{ol:List Nat}{a i j q kk:Nat}{le mo sum x:Int}{b c:Bool}{r:List Int}
theorem u58 (hi:i < ol.length)(hj:∀h,(nts ol)[i]'h=I (j:Nat))(hjl:j < ps.length)(hr:∀h,(psC ps)[j * 2+1]'h= .sl r.length (ints r))
  (hE:ab q12 E=v7 t gn k ps nl dp bs ol a le mo i [(11,I sum),(12,Bo b),(13,I kk)])
  (hQ:∀E',find E' 69=Bo (decide (kk < r.length))→ab q12 E'=v7 t gn k ps nl dp bs ol a le mo i [(11,I sum),(12,Bo b),(13,I kk)]→ab [1,3,4,5,6,7,8,9,10,11] E'=v7 t gn k ps nl dp bs ol a le mo i [(11,I sum)]→Q .nrm E' H):
  WB ⟨C,lk,L,[1]⟩ (.regD [1,3,4,5,6,7,8,9,10,11,12,13] 0 [ kx 58 (um 13),kx 59 (.fldA 3 (ux 1)),kx 60 (.ld1 (some 1) (ux 59)),kx 61 (um 7),kx 62 (um 10),kx 63 (.ixA 1 (ux 61) (ux 62)),kx 64 (.ld1 none (ux 63)),kx 65 (.ixA 2 (ux 60) (ux 64)),kx 66 (.fldA 1 (ux 65)),kx 67 (.ld1 none (ux 66)),kx 68 (.len false (ux 67)),kx 69 (.bini .lss (ux 58) (ux 68))]) Q E H:=by
 have hll:=aU ps;have hol:=dI ol;have h2:j * 2+1 < 2 * ps.length:=by omega
 unfold v7 at *;rw [aD rfl,hE];simp [hi,hj,hjl,hr,hll,hol,h2];refine hQ _ ?_ ?_ ?_
 ·simp [find]
 ·rfl
 ·rfl
theorem u14 (hi:i < ol.length)(hj:∀h,(nts ol)[i]'h=I (j:Nat))(hjl:j < ps.length)(hr:∀h,(psC ps)[j * 2+1]'h= .sl r.length (ints r))(hk:kk < r.length)(hx:∀h,(ints r)[kk]'h=I x)(hw:IntKind.i64.wrap (x - t)=x - t)
  (hE:ab q12 E=v7 t gn k ps nl dp bs ol a le mo i [(11,I sum),(12,Bo b),(13,I kk)])
  (hQ:∀E',ab q13 E'=v7 t gn k ps nl dp bs ol a le mo i [(11,I sum),(12,Bo b),(13,I kk),(14,I (x - t))]→Q .nrm E' H):
  WB ⟨C,lk,L,[1]⟩ (.regD [1,3,4,5,6,7,8,9,10,11,12,13] 0 [ kx 72 (.fldA 3 (ux 1)),kx 73 (.ld1 (some 1) (ux 72)),kx 74 (um 7),kx 75 (um 10),kx 76 (.ixA 1 (ux 74) (ux 75)),kx 77 (.ld1 none (ux 76)),kx 78 (.ixA 2 (ux 73) (ux 77)),kx 79 (.fldA 1 (ux 78)),kx 80 (.ld1 none (ux 79)),kx 81 (um 13),kx 82 (.ixA 1 (ux 80) (ux 81)),kx 83 (.ld1 none (ux 82)),kx 84 (.fldA 0 (ux 1)),kx 85 (.ld1 (some 1) (ux 84)),kx 86 (.bini .sub (ux 83) (ux 85)),kx 14 (um 86)]) Q E H:=by
 have hll:=aU ps;have hol:=dI ol;have hrl:=aY r;have h2:j * 2+1 < 2 * ps.length:=by omega
 unfold v7 at *;rw [aD rfl,hE];simp [hi,hj,hjl,hr,hll,hol,h2,hrl,hk,hx,hw];refine hQ _ ?_;rfl
theorem u91 (hE:ab q13 E=v7 t gn k ps nl dp bs ol a le mo i [(11,I sum),(12,Bo b),(13,I kk),(14,I x)])
  (hQ:∀E',find E' 91=Bo (b&&decide (0≤x))→ab q13 E'=v7 t gn k ps nl dp bs ol a le mo i [(11,I sum),(12,Bo b),(13,I kk),(14,I x)]→Q .nrm E' H):
  WB ⟨C,lk,L,[1]⟩ (.regN [1,3,4,5,6,7,8,9,10,11,12,13,14] [ kx 87 (um 12),kx 88 (um 87),ky 89 88 (um 14),ky 90 88 (.bini .geq (ux 89) c0),kx 91 (.pick (ux 88) (ux 90) cF)]) Q E H:=by
 unfold v7 at *;rw [ae,hE];cases b;all_goals
  simp;refine hQ _ ?_ ?_
  ·simp [find]
  ·rfl
theorem u9 {d m:Int}(hq:q < dp.length)(hd:∀h,(ints dp)[q]'h=I d)(hw:IntKind.i64.wrap (d+1)=d+1)(hm:max mo (d+1)=m)
  (hE:ab q13 E=v7 t gn k ps nl dp bs ol a le mo i [(11,I sum),(12,Bo b),(13,I kk),(14,I (q:Nat))])
  (hQ:∀E',ab q13 E'=v7 t gn k ps nl dp bs ol a le m i [(11,I sum),(12,Bo b),(13,I kk),(14,I (q:Nat))]→Q .nrm E' H):
  WB ⟨C,lk,L,[1]⟩ (.regN [1,3,4,5,6,7,8,9,10,11,12,13,14] [ kx 92 (um 9),kx 93 (um 4),kx 94 (um 14),kx 95 (.ixA 1 (ux 93) (ux 94)),kx 96 (.ld1 none (ux 95)),kx 97 (.bini .add (ux 96) c1),kx 98 (.mm true [(ux 92),(ux 97)]),kx 9 (um 98)]) Q E H:=by
 have hl:=aY dp;have hmx:(if mo < d+1 then d+1 else mo)=m:=by rw [←hm,Int.max_def];split<;>split<;>omega
 unfold v7 at *;rw [ae,hE];simp [hq,hd,hw,hl,bI,hmx];refine hQ _ ?_;rfl
theorem MR (hE:ab q13 E=v7 t gn k ps nl dp bs ol a le mo i [(11,I sum),(12,Bo b),(13,I kk),(14,I x)])(hx:x < 0)
  (hQ:∀E',ab q13 E'=v7 t gn k ps nl dp bs ol a le mo i [(11,I sum),(12,Bo false),(13,I kk),(14,I x)]→Q .nrm E' H):
  WB ⟨C,lk,L,[1]⟩ (.regN [1,3,4,5,6,7,8,9,10,11,12,13,14] [ kx 99 (um 12),kx 100 (um 99),ky 101 100 (um 14),ky 102 100 (.bini .geq (ux 101) c0),kx 103 (.pick (ux 100) (ux 102) cF),kx 104 (um 103),ky 105 104 (um 5),ky 106 104 (um 14),ky 107 104 (.ixA 1 (ux 105) (ux 106)),ky 108 104 (.ld1 none (ux 107)),kx 109 (.pick (ux 104) (ux 108) cF),kx 12 (um 109)]) Q E H:=by
 have h0:¬0≤x:=by omega
 unfold v7 at *;rw [ae,hE];cases b;all_goals
  simp [h0];refine hQ _ ?_;rfl
theorem MS (hq:q < bs.length)(hb:∀h,(bools bs)[q]'h=Bo c)(hE:ab q13 E=v7 t gn k ps nl dp bs ol a le mo i [(11,I sum),(12,Bo b),(13,I kk),(14,I (q:Nat))])
  (hQ:∀E',ab q13 E'=v7 t gn k ps nl dp bs ol a le mo i [(11,I sum),(12,Bo (b&&c)),(13,I kk),(14,I (q:Nat))]→Q .nrm E' H):
  WB ⟨C,lk,L,[1]⟩ (.regN [1,3,4,5,6,7,8,9,10,11,12,13,14] [ kx 99 (um 12),kx 100 (um 99),ky 101 100 (um 14),ky 102 100 (.bini .geq (ux 101) c0),kx 103 (.pick (ux 100) (ux 102) cF),kx 104 (um 103),ky 105 104 (um 5),ky 106 104 (um 14),ky 107 104 (.ixA 1 (ux 105) (ux 106)),ky 108 104 (.ld1 none (ux 107)),kx 109 (.pick (ux 104) (ux 108) cF),kx 12 (um 109)]) Q E H:=by
 have hl:=aG bs;have h0:(0:Int)≤(q:Nat):=by omega
 unfold v7 at *;rw [ae,hE];cases b;all_goals
  simp [h0,hq,hb,hl];refine hQ _ ?_;rfl
theorem L9 (hE:ab q13 E=v7 t gn k ps nl dp bs ol a le mo i [(11,I sum),(12,Bo b),(13,I kk),(14,I x)])(hx:x < 0)
  (hQ:∀E',find E' 118=Bo true→ab [1,3,4,5,6,7,8,9,10,12,13] E'=v7 t gn k ps nl dp bs ol a le mo i [(12,Bo b),(13,I kk)]→Q .nrm E' H):
  WB ⟨C,lk,L,[1]⟩ (.regN [1,3,4,5,6,7,8,9,10,11,12,13,14] [ kx 110 (um 14),kx 111 (.bini .lss (ux 110) c0),kx 112 (um 111),kz 113 112 (um 3),kz 114 112 (um 14),kz 115 112 (.ixA 1 (ux 113) (ux 114)),kz 116 112 (.ld1 none (ux 115)),kz 117 112 (.bini .lss (ux 116) c0),kx 118 (.pick (ux 112) cT (ux 117))]) Q E H:=by
 unfold v7 at *;rw [ae,hE];simp [hx];refine hQ _ ?_ ?_
 ·simp [find]
 ·rfl
theorem Ma {y:Int}(hq:q < nl.length)(hy:∀h,(ints nl)[q]'h=I y)(hE:ab q13 E=v7 t gn k ps nl dp bs ol a le mo i [(11,I sum),(12,Bo b),(13,I kk),(14,I (q:Nat))])
  (hQ:∀E',find E' 118=Bo (decide (y < 0))→ab [1,3,4,5,6,7,8,9,10,12,13] E'=v7 t gn k ps nl dp bs ol a le mo i [(12,Bo b),(13,I kk)]→ab q13 E'=v7 t gn k ps nl dp bs ol a le mo i [(11,I sum),(12,Bo b),(13,I kk),(14,I (q:Nat))]→Q .nrm E' H):
  WB ⟨C,lk,L,[1]⟩ (.regN [1,3,4,5,6,7,8,9,10,11,12,13,14] [ kx 110 (um 14),kx 111 (.bini .lss (ux 110) c0),kx 112 (um 111),kz 113 112 (um 3),kz 114 112 (um 14),kz 115 112 (.ixA 1 (ux 113) (ux 114)),kz 116 112 (.ld1 none (ux 115)),kz 117 112 (.bini .lss (ux 116) c0),kx 118 (.pick (ux 112) cT (ux 117))]) Q E H:=by
 have hl:=aY nl;have h0:¬(q:Int) < 0:=by omega
 unfold v7 at *;rw [ae,hE];simp [h0,hq,hy,hl];refine hQ _ ?_ ?_ ?_
 ·simp [find]
 ·rfl
 ·rfl
theorem u11 (hE:ab [1,3,4,5,6,7,8,9,10,12,13] E=v7 t gn k ps nl dp bs ol a le mo i [(12,Bo b),(13,I kk)])
  (hQ:∀E',ab q12 E'=v7 t gn k ps nl dp bs ol a le mo i [(11,I (-1)),(12,Bo b),(13,I kk)]→Q .nrm E' H):
  WB ⟨C,lk,L,[1]⟩ (.regN [1,3,4,5,6,7,8,9,10,12,13] [kx 11 (.mv (.con (.val (.int .i64 (-1)))))]) Q E H:=by
 unfold v7 at *;rw [ae,hE];simp;refine hQ _ ?_;rfl
theorem Mb (hE:ab q12 E=v7 t gn k ps nl dp bs ol a le mo i [(11,I sum),(12,Bo b),(13,I kk)])
  (hQ:∀E',find E' 120=Bo (!b)→ab q12 E'=v7 t gn k ps nl dp bs ol a le mo i [(11,I sum),(12,Bo b),(13,I kk)]→ab [1,3,4,5,6,7,8,9,10,11] E'=v7 t gn k ps nl dp bs ol a le mo i [(11,I sum)]→Q .nrm E' H):
  WB ⟨C,lk,L,[1]⟩ (.regN [1,3,4,5,6,7,8,9,10,11,12,13] [ kx 119 (um 12),kx 120 (.not (ux 119))]) Q E H:=by
 unfold v7 at *;rw [ae,hE];cases b;all_goals
  simp;refine hQ _ ?_ ?_ ?_
  ·simp [find]
  ·rfl
  ·rfl
theorem MT (hE:ab q13 E=v7 t gn k ps nl dp bs ol a le mo i [(11,I sum),(12,Bo b),(13,I kk),(14,I x)])
  (hQ:∀E',find E' 122=Bo (decide (0 < sum))→ab q13 E'=v7 t gn k ps nl dp bs ol a le mo i [(11,I sum),(12,Bo b),(13,I kk),(14,I x)]→ab q12 E'=v7 t gn k ps nl dp bs ol a le mo i [(11,I sum),(12,Bo b),(13,I kk)]→Q .nrm E' H):
  WB ⟨C,lk,L,[1]⟩ (.regN [1,3,4,5,6,7,8,9,10,11,12,13,14] [ kx 121 (um 11),kx 122 (.bini .gtr (ux 121) c0)]) Q E H:=by
 unfold v7 at *;rw [ae,hE];simp;refine hQ _ ?_ ?_ ?_
 ·simp [find]
 ·rfl
 ·rfl
theorem MU {y:Int}(hq:q < nl.length)(hy:∀h,(ints nl)[q]'h=I y)(hw:IntKind.i64.wrap (sum+y)=sum+y)(hE:ab q13 E=v7 t gn k ps nl dp bs ol a le mo i [(11,I sum),(12,Bo b),(13,I kk),(14,I (q:Nat))])
  (hQ:∀E',ab q12 E'=v7 t gn k ps nl dp bs ol a le mo i [(11,I (sum+y)),(12,Bo b),(13,I kk)]→Q .nrm E' H):
  WB ⟨C,lk,L,[1]⟩ (.regN [1,3,4,5,6,7,8,9,10,11,12,13,14] [ kx 123 (um 11),kx 124 (um 3),kx 125 (um 14),kx 126 (.ixA 1 (ux 124) (ux 125)),kx 127 (.ld1 none (ux 126)),kx 128 (.bini .add (ux 123) (ux 127)),kx 11 (um 128)]) Q E H:=by
 have hl:=aY nl;unfold v7 at *;rw [ae,hE];simp [hq,hy,hl,hw];refine hQ _ ?_;rfl
theorem u70 (hk:kk≤1000)(hE:ab q12 E=v7 t gn k ps nl dp bs ol a le mo i [(11,I sum),(12,Bo b),(13,I kk)])
  (hQ:∀E',ab q12 E'=v7 t gn k ps nl dp bs ol a le mo i [(11,I sum),(12,Bo b),(13,I (kk+1:Nat))]→Q .nrm E' H):
  WB ⟨C,lk,L,[1]⟩ (.regN [1,3,4,5,6,7,8,9,10,11,12,13] [ kx 70 (um 13),kx 71 (.bini .add (ux 70) c1),kx 13 (um 71)]) Q E H:=by
 have w1:IntKind.i64.wrap ((kk:Int)+1)=(kk:Int)+1:=aw (by omega) (by omega)
 unfold v7 at *;rw [ae,hE];simp [w1];refine hQ _ ?_;simp
end
end Go.Proofs.YtkllbcjanneppaaGreat

namespace Go.Proofs.YtkllbcjanneppaaGreat
open Go Go.Hm

def J71 (t:Int)(nl dp:List Int)(bs:List Bool)(r:List Int)(res:Int×Int)(s:Nat×Int×Bool×Int):Prop:=s.1≤r.length∧nsI t nl dp bs (r.drop s.1) s.2.1 s.2.2.1 s.2.2.2=res∧-1≤s.2.1∧s.2.1≤1+(s.1:Int) * 40210710958665
def F71 (t gn k:Int)(ps:List Pr)(nl dp:List Int)(bs:List Bool)(ol:List Nat)(a:Nat)(le:Int)(i:Nat)(s:Nat×Int×Bool×Int):Env:=v7 t gn k ps nl dp bs ol a le s.2.2.2 i [(11,I s.2.1),(12,Bo s.2.2.1),(13,I s.1)]
section
variable {C:Orc}{Q:Ex→Kt}{E:Env}{lk L:Nat}{H:Heap}{t gn k:Int}{ps:List Pr}{nl dp:List Int}{bs:List Bool}{ol:List Nat}{a i j n:Nat}{le mo:Int}{r:List Int}
theorem DF (hi:i < ol.length)(hj:∀h,(nts ol)[i]'h=I (j:Nat))(hjl:j < ps.length)(hr:∀h,(psC ps)[j * 2+1]'h= .sl r.length (ints r))(hrl:r.length≤8)
  (ht:1≤t∧t≤8) (hx:∀x∈r,0≤x∧x < t+n) (hn16:n≤16) (hnl:nl.length=n) (hdl:dp.length=n) (hbl:bs.length=n) (hnb:∀y∈nl,y≤40210710958665) (hdb:∀y∈dp,0≤y∧y≤17)
  (hE:ab q12 E=v7 t gn k ps nl dp bs ol a le mo i [(11,I 1),(12,Bo true),(13,I (0:Nat))])
  (hQ:∀E',ab [1,3,4,5,6,7,8,9,10,11] E'=v7 t gn k ps nl dp bs ol a le (nsI t nl dp bs r 1 true mo).2 i [(11,I (nsI t nl dp bs r 1 true mo).1)]→Q .nrm E' H):
  WB ⟨C,lk,L,[1]⟩ (.block 4 (.loop q12 IK)) Q E H:=by
 rw [ar];refine ax (σ:=Nat×Int×Bool×Int) (F71 t gn k ps nl dp bs ol a le i) (fun _=>H)
  (J71 t nl dp bs r (nsI t nl dp bs r 1 true mo)) (fun s=>r.length - s.1) ?_ (0,1,true,mo) ⟨Nat.zero_le _,rfl,by simp only;omega,by simp only;omega⟩ hE rfl
 rintro ⟨kk,sum,b,m⟩ ⟨hk,hinv,hs1,hs2⟩;simp only at hk hinv hs1 hs2;generalize nsI t nl dp bs r 1 true mo=res at *;unfold IK;rw [an,an];refine u58 hi hj hjl hr rfl fun E1 g1 h1 h1'=>?_;rw [ak];by_cases hkl:kk < r.length;case neg=>
  rw [decide_eq_false hkl] at g1;rw [af (aW g1),dn,bG,cP,aI,if_pos rfl];obtain rfl:kk=r.length:=by omega
  rw [List.drop_length] at hinv;simp only [nsI] at hinv;subst hinv;exact hQ _ h1'
 rw [decide_eq_true hkl] at g1;rw [ai (aW g1),aC,ak,an,ar,an];rw [List.drop_eq_getElem_cons hkl] at hinv;have hxm:=hx _ (List.getElem_mem hkl);have hxe:∀h,(ints r)[kk]'h=I r[kk]:=fun h=>bE hkl h;generalize r[kk]=x at *;have hw:IntKind.i64.wrap (x - t)=x - t:=aw (by omega) (by omega)
 refine u14 hi hj hjl hr hkl hxe hw h1 fun E2 h2=>?_;rw [ak,an,an];refine u91 h2 fun E3 g3 h3=>?_;rw [ak];simp only [nsI] at hinv;by_cases hxt:x < t
 ·-- a token
  rw [if_pos hxt] at hinv;rw [decide_eq_false (by omega:¬0≤x - t),Bool.and_false] at g3
  rw [af (aW g3),aC,ak,an];refine MR h3 (by omega) fun E4 h4=>?_
  rw [ak,an,an];refine L9 h4 (by omega) fun E5 g5 h5=>?_
  rw [ak,ai (aW g5),an];refine u11 h5 fun E6 h6=>?_;rw [ak,an,an];refine Mb h6 fun E7 g7 h7 h7'=>?_;rw [ak,ai (aW g7),dn,bG,bG,aI,if_neg (by decide),bG,cP,aI,if_pos rfl]
  subst hinv;exact hQ _ h7'
 rw [if_neg hxt] at hinv;obtain ⟨q,hq⟩:∃q:Nat,x - t=q:=⟨(x - t).toNat,by omega⟩
 rw [hq] at hinv h3 g3;rw [Int.toNat_natCast] at hinv;rw [decide_eq_true (by omega:(0:Int)≤(q:Nat)),Bool.and_true] at g3
 have hqn:q < n:=by omega
 have hdq:dp.getD q 0∈dp:=gq (by omega)
 have hnq:nl.getD q 0∈nl:=gq (by omega)
 have hd1:=hdb _ hdq;have hn1:=hnb _ hnq;have hde:∀h,(ints dp)[q]'h=I (dp.getD q 0):=fun h=>by rw [List.getD_eq_getElem?_getD,List.getElem?_eq_getElem (by omega:q < dp.length)];exact bE (by omega) h
 have hne:∀h,(ints nl)[q]'h=I (nl.getD q 0):=fun h=>by rw [List.getD_eq_getElem?_getD,List.getElem?_eq_getElem (by omega:q < nl.length)];exact bE (by omega) h
 have hbe:∀h,(bools bs)[q]'h=Bo (bs.getD q false):=fun h=>by rw [List.getD_eq_getElem?_getD,List.getElem?_eq_getElem (by omega:q < bs.length)];exact jX (by omega) h
 generalize dp.getD q 0=d at *;generalize nl.getD q 0=y at *;generalize bs.getD q false=c at *;obtain ⟨m',hm'⟩:∃m',(if b=true then max m (d+1) else m)=m':=⟨_,rfl⟩;rw [hm'] at hinv;have go:∀E',ab q13 E'=v7 t gn k ps nl dp bs ol a le m' i [(11,I sum),(12,Bo b),(13,I kk),(14,I (q:Nat))]→WB ⟨C,lk,L,[1]⟩ (.seq (.regN [1,3,4,5,6,7,8,9,10,11,12,13,14] [ kx 99 (um 12),kx 100 (um 99),ky 101 100 (um 14),ky 102 100 (.bini .geq (ux 101) c0),kx 103 (.pick (ux 100) (ux 102) cF),kx 104 (um 103),ky 105 104 (um 5),ky 106 104 (um 14),ky 107 104 (.ixA 1 (ux 105) (ux 106)),ky 108 104 (.ld1 none (ux 107)),kx 109 (.pick (ux 104) (ux 108) cF),kx 12 (um 109)]) (.seq (.seq (.regN [1,3,4,5,6,7,8,9,10,11,12,13,14] [ kx 110 (um 14),kx 111 (.bini .lss (ux 110) c0),kx 112 (um 111),kz 113 112 (um 3),kz 114 112 (um 14),kz 115 112 (.ixA 1 (ux 113) (ux 114)),kz 116 112 (.ld1 none (ux 115)),kz 117 112 (.bini .lss (ux 116) c0),kx 118 (.pick (ux 112) cT (ux 117))]) (.cond (ux 118) (.seq (.regN [1,3,4,5,6,7,8,9,10,12,13] [ kx 11 (.mv (.con (.val (.int .i64 (-1)))))]) (.seq (.seq (.regN [1,3,4,5,6,7,8,9,10,11,12,13] [ kx 119 (um 12),kx 120 (.not (ux 119))]) (.cond (ux 120) (.exit 4) .skip)) (.exit 5))) .skip)) (.seq (.regN [1,3,4,5,6,7,8,9,10,11,12,13,14] [ kx 121 (um 11),kx 122 (.bini .gtr (ux 121) c0)]) (.cond (ux 122) (.regN [1,3,4,5,6,7,8,9,10,11,12,13,14] [ kx 123 (um 11),kx 124 (um 3),kx 125 (um 14),kx 126 (.ixA 1 (ux 124) (ux 125)),kx 127 (.ld1 none (ux 126)),kx 128 (.bini .add (ux 123) (ux 127)),kx 11 (um 128)]) .skip)))) (ry 5 (Fol ⟨C,lk,L,[1]⟩ (.regN [1,3,4,5,6,7,8,9,10,11,12,13] [ kx 70 (um 13),kx 71 (.bini .add (ux 70) c1),kx 13 (um 71)]) (Rnd q12 (F71 t gn k ps nl dp bs ol a le i) (fun _=>H)
  (J71 t nl dp bs r res) (fun s=>r.length - s.1) (kk,sum,b,m) (ry 4 Q)))) E' H:=by
  intro E4 h4;rw [an];refine MS (by omega) hbe h4 fun E5 h5=>?_
  rw [ak,an,an];refine Ma (by omega) hne h5 fun E6 g6 h6 h6'=>?_
  rw [ak];have fin:∀E' sum' b',ab q12 E'=v7 t gn k ps nl dp bs ol a le m' i [(11,I sum'),(12,Bo b'),(13,I kk)]→nsI t nl dp bs (r.drop (kk+1)) sum' b' m'=res→-1≤sum'→sum'≤1+(kk+1:Nat) * 40210710958665→WB ⟨C,lk,L,[1]⟩ (.regN [1,3,4,5,6,7,8,9,10,11,12,13] [ kx 70 (um 13),kx 71 (.bini .add (ux 70) c1),kx 13 (um 71)]) (Rnd q12 (F71 t gn k ps nl dp bs ol a le i) (fun _=>H)
   (J71 t nl dp bs r res) (fun s=>r.length - s.1) (kk,sum,b,m) (ry 4 Q)) E' H:=by
   intro E' sum' b' hE' e1 e2 e3;refine u70 (by omega) hE' fun E8 h8=>?_
   rw [ao];exact ⟨(kk+1,sum',b',m'),⟨hkl,e1,e2,e3⟩,by simp only;omega,h8,rfl⟩
  by_cases hy:y < 0
  ·rw [if_pos hy] at hinv;rw [decide_eq_true hy] at g6;rw [ai (aW g6),an];refine u11 h6 fun E7 h7=>?_;rw [ak,an,an];refine Mb h7 fun E8 g8 h8 h8'=>?_;rw [ak];cases hbc:(b&&c) with
   | false=>
    rw [hbc] at hinv g8;rw [ai (aW g8),dn,bG,bG,aI,if_neg (by decide),bG,cP,aI,if_pos rfl]
    have hinv:((-1:Int),m')=res:=hinv;subst hinv;exact hQ _ h8'
   | true=>
    rw [hbc] at hinv g8 h8;rw [af (aW g8),aC,ak,dn,bG,aI,if_pos rfl,ak];exact fin _ _ _ h8 hinv (by omega) (by omega)
  ·rw [if_neg hy] at hinv;rw [decide_eq_false hy] at g6;rw [af (aW g6),aC,ak,an];refine MT h6' fun E7 g7 h7 h7'=>?_;rw [ak];by_cases hs:0 < sum
   ·rw [if_pos hs] at hinv;rw [decide_eq_true hs] at g7;rw [ai (aW g7)];refine MU (by omega) hne (aw (by omega) (by omega)) h7 fun E8 h8=>?_
    rw [bi,ak];exact fin _ _ _ h8 hinv (by omega) (by omega)
   ·rw [if_neg hs] at hinv;rw [decide_eq_false hs] at g7;rw [af (aW g7),aC,bi,ak];exact fin _ _ _ h7' hinv (by omega) (by omega)
 cases b with
 | true=>
  rw [ai (aW g3)];refine u9 (by omega) hde (aw (by omega) (by omega)) (by simpa using hm') h3 fun E4 h4=>?_
  rw [ak];exact go _ h4
 | false=>
  rw [af (aW g3),aC,ak];have hm2:m=m':=by simpa using hm'
  subst hm2;exact go _ h3
theorem u55 (hE:ab [1,3,4,5,6,7,8,9,10] E=v7 t gn k ps nl dp bs ol a le mo i [])
  (hQ:∀E',find E' 55=Bo (decide (i < ol.length))→ab [1,3,4,5,6,7,8,9,10] E'=v7 t gn k ps nl dp bs ol a le mo i []→ab [1,3,4,5,6,8,9] E'=[(1,.box [I t,I gn,I k,.sl ps.length (psC ps)]),(3,.sl nl.length (ints nl)),(4,.sl dp.length (ints dp)),(5,.sl bs.length (bools bs)),(6,I a),(8,I le),(9,I mo)]→Q .nrm E' H):
  WB ⟨C,lk,L,[1]⟩ (.regN [1,3,4,5,6,7,8,9,10] [ kx 52 (um 10),kx 53 (um 7),kx 54 (.len false (ux 53)),kx 55 (.bini .lss (ux 52) (ux 54))]) Q E H:=by
 unfold v7 at *;rw [ae,hE];simp;refine hQ _ ?_ ?_ ?_
 ·simp [find]
 ·rfl
 ·rfl
theorem MV (hE:ab [1,3,4,5,6,7,8,9,10] E=v7 t gn k ps nl dp bs ol a le mo i [])
  (hQ:∀E',ab [1,3,4,5,6,7,8,9,10,11] E'=v7 t gn k ps nl dp bs ol a le mo i [(11,I 1)]→Q .nrm E' H):
  WB ⟨C,lk,L,[1]⟩ (.regN [1,3,4,5,6,7,8,9,10] [kx 11 (.mv c1)]) Q E H:=by
 unfold v7 at *;rw [ae,hE];simp;refine hQ _ ?_;rfl
theorem MW (hE:ab [1,3,4,5,6,7,8,9,10,11] E=v7 t gn k ps nl dp bs ol a le mo i [(11,I 1)])
  (hQ:∀E',ab [1,3,4,5,6,7,8,9,10,11,12] E'=v7 t gn k ps nl dp bs ol a le mo i [(11,I 1),(12,Bo true)]→Q .nrm E' H):
  WB ⟨C,lk,L,[1]⟩ (.regN [1,3,4,5,6,7,8,9,10,11] [kx 12 (.mv cT)]) Q E H:=by
 unfold v7 at *;rw [ae,hE];simp;refine hQ _ ?_;rfl
theorem MX (hE:ab [1,3,4,5,6,7,8,9,10,11,12] E=v7 t gn k ps nl dp bs ol a le mo i [(11,I 1),(12,Bo true)])
  (hQ:∀E',ab q12 E'=v7 t gn k ps nl dp bs ol a le mo i [(11,I 1),(12,Bo true),(13,I (0:Nat))]→Q .nrm E' H):
  WB ⟨C,lk,L,[1]⟩ (.regN [1,3,4,5,6,7,8,9,10,11,12] [kx 13 (.mv c0)]) Q E H:=by
 unfold v7 at *;rw [ae,hE];simp;refine hQ _ ?_;rfl
theorem MY {z:Int}(hE:ab [1,3,4,5,6,7,8,9,10,11] E=v7 t gn k ps nl dp bs ol a le mo i [(11,I z)])
  (hQ:∀E',find E' 139=Bo (decide (0 < z∧(le < 0∨z < le)))→ab [1,3,4,5,6,7,8,9,10] E'=v7 t gn k ps nl dp bs ol a le mo i []→ab [1,3,4,5,6,7,9,10,11] E'=[(1,.box [I t,I gn,I k,.sl ps.length (psC ps)]),(3,.sl nl.length (ints nl)),(4,.sl dp.length (ints dp)),(5,.sl bs.length (bools bs)),(6,I a),(7,.sl ol.length (nts ol)),(9,I mo),(10,I i),(11,I z)]→Q .nrm E' H):
  WB ⟨C,lk,L,[1]⟩ (.regN [1,3,4,5,6,7,8,9,10,11] [ kx 129 (um 11),kx 130 (.bini .gtr (ux 129) c0),kx 131 (um 130),ky 132 131 (um 8),ky 133 131 (.bini .lss (ux 132) c0),ky 134 131 (um 133),kz 135 134 (um 11),kz 136 134 (um 8),kz 137 134 (.bini .lss (ux 135) (ux 136)),ky 138 131 (.pick (ux 134) cT (ux 137)),kx 139 (.pick (ux 131) (ux 138) cF)]) Q E H:=by
 unfold v7 at *;rw [ae,hE];by_cases h1:0 < z<;>by_cases h2:le < 0<;>by_cases h3:z < le;all_goals
  simp [h1,h2,h3];refine hQ _ ?_ ?_ ?_
  ·simp [find,h1,h2,h3]
  ·rfl
  ·rfl
theorem MZ {z:Int}(hE:ab [1,3,4,5,6,7,9,10,11] E=[(1,.box [I t,I gn,I k,.sl ps.length (psC ps)]),(3,.sl nl.length (ints nl)),(4,.sl dp.length (ints dp)),(5,.sl bs.length (bools bs)),(6,I a),(7,.sl ol.length (nts ol)),(9,I mo),(10,I i),(11,I z)])
  (hQ:∀E',ab [1,3,4,5,6,7,8,9,10] E'=v7 t gn k ps nl dp bs ol a z mo i []→Q .nrm E' H):
  WB ⟨C,lk,L,[1]⟩ (.regN [1,3,4,5,6,7,9,10,11] [kx 140 (um 11),kx 8 (um 140)]) Q E H:=by
 unfold v7 at *;rw [ae,hE];simp;refine hQ _ ?_;rfl
theorem u56 (hk:i≤1000)(hE:ab [1,3,4,5,6,7,8,9,10] E=v7 t gn k ps nl dp bs ol a le mo i [])
  (hQ:∀E',ab [1,3,4,5,6,7,8,9,10] E'=v7 t gn k ps nl dp bs ol a le mo (i+1) []→Q .nrm E' H):
  WB ⟨C,lk,L,[1]⟩ (.regN [1,3,4,5,6,7,8,9,10] [ kx 56 (um 10),kx 57 (.bini .add (ux 56) c1),kx 10 (um 57)]) Q E H:=by
 have w1:IntKind.i64.wrap ((i:Int)+1)=(i:Int)+1:=aw (by omega) (by omega)
 unfold v7 at *;rw [ae,hE];simp [w1];refine hQ _ ?_;simp
theorem DG (hol:ol.length≤64)(hop:∀j∈ol,j < ps.length)(hrl:∀p∈ps,p.r.length≤8∧∀x∈p.r,0≤x∧x < t+n)
  (ht:1≤t∧t≤8) (hn16:n≤16) (hnl:nl.length=n) (hdl:dp.length=n) (hbl:bs.length=n) (hnb:∀y∈nl,y≤40210710958665) (hdb:∀y∈dp,0≤y∧y≤17)
  (hE:ab [1,3,4,5,6,7,8,9,10] E=v7 t gn k ps nl dp bs ol a (-1) 1 0 [])
  (hQ:∀E',ab [1,3,4,5,6,8,9] E'=[(1,.box [I t,I gn,I k,.sl ps.length (psC ps)]),(3,.sl nl.length (ints nl)),(4,.sl dp.length (ints dp)),(5,.sl bs.length (bools bs)),(6,I a),(8,I (nsO ⟨t,gn,k,ps⟩ nl dp bs ol (-1) 1).1),(9,I (nsO ⟨t,gn,k,ps⟩ nl dp bs ol (-1) 1).2)]→Q .nrm E' H):
  WB ⟨C,lk,L,[1]⟩ (.block 2 (.loop [1,3,4,5,6,7,8,9,10] IL)) Q E H:=by
 rw [ar];refine ax (σ:=Nat×Int×Int) (fun s=>v7 t gn k ps nl dp bs ol a s.2.1 s.2.2 s.1 []) (fun _=>H)
  (fun s=>s.1≤ol.length∧nsO ⟨t,gn,k,ps⟩ nl dp bs (ol.drop s.1) s.2.1 s.2.2=nsO ⟨t,gn,k,ps⟩ nl dp bs ol (-1) 1) (fun s=>ol.length - s.1) ?_ (0,-1,1) ⟨Nat.zero_le _,rfl⟩ hE rfl
 rintro ⟨i,le,mo⟩ ⟨hi,hinv⟩;simp only at hi hinv;generalize nsO ⟨t,gn,k,ps⟩ nl dp bs ol (-1) 1=res at *;unfold IL;rw [an,an];refine u55 rfl fun E1 g1 h1 h1'=>?_;rw [ak];by_cases hil:i < ol.length;case neg=>
  rw [decide_eq_false hil] at g1;rw [af (aW g1),dn,bG,cP,aI,if_pos rfl];obtain rfl:i=ol.length:=by omega
  rw [List.drop_length] at hinv;simp only [nsO] at hinv;subst hinv;exact hQ _ h1'
 rw [decide_eq_true hil] at g1;rw [ai (aW g1),aC,ak,an,ar];rw [List.drop_eq_getElem_cons hil] at hinv;have hj:=hop _ (List.getElem_mem hil);have hje:∀h,(nts ol)[i]'h=I (ol[i]:Nat):=fun h=>Bq ol i h;generalize ol[i]=j at *;have hpm:=lx hj;have hrE:∀h,(psC ps)[j * 2+1]'h= .sl (ps.getD j ⟨0,[]⟩).r.length (ints (ps.getD j ⟨0,[]⟩).r):=fun h=>by
  rw [List.getD_eq_getElem?_getD,List.getElem?_eq_getElem hj];exact (List.getElem?_eq_some_iff.1 (qi hj)).2
 obtain ⟨r1,r2⟩:=hrl _ hpm;simp only [nsO] at hinv;generalize (ps.getD j ⟨0,[]⟩).r=r at *;rw [an];refine MV h1 fun E2 h2=>?_;rw [ak,an];refine MW h2 fun E2 h2=>?_;rw [ak,an,an];refine MX h2 fun E2 h2=>?_;rw [ak];refine DF (r:=r) (j:=j) (n:=n) hil hje hj hrE r1 ht r2 hn16 hnl hdl hbl hnb hdb h2 fun E3 h3=>?_;generalize nsI t nl dp bs r 1 true mo=z at *;rw [ak,an];refine MY h3 fun E4 g4 h4 h4'=>?_;rw [ak];by_cases hc:0 < z.1∧(le < 0∨z.1 < le)
 ·rw [if_pos hc] at hinv;rw [decide_eq_true hc] at g4;rw [ai (aW g4)];refine MZ h4' fun E5 h5=>?_;rw [bi,ak];refine u56 (by omega) h5 fun E6 h6=>?_
  rw [ao];exact ⟨(i+1,z.1,z.2),⟨hil,hinv⟩,by simp only;omega,h6,rfl⟩
 ·rw [if_neg hc] at hinv;rw [decide_eq_false hc] at g4;rw [af (aW g4),aC,bi,ak];refine u56 (by omega) h4 fun E6 h6=>?_
  rw [ao];exact ⟨(i+1,le,z.2),⟨hil,hinv⟩,by simp only;omega,h6,rfl⟩
end
end Go.Proofs.YtkllbcjanneppaaGreat

namespace Go.Proofs.YtkllbcjanneppaaGreat
open Go Go.Hm

def w7 (t gn k:Int)(ps:List Pr)(nl dp:List Int)(bs:List Bool)(a:Nat)(r:Env):Env:=
 (1,.box [I t,I gn,I k,.sl ps.length (psC ps)])::(3,.sl nl.length (ints nl))::(4,.sl dp.length (ints dp))::(5,.sl bs.length (bools bs))::(6,I a)::r
section
variable {C:Orc}{Q:Ex→Kt}{E:Env}{lk L:Nat}{H:Heap}{t gn k:Int}{ps:List Pr}{nl dp:List Int}{bs:List Bool}{ol:List Nat}{a n:Nat}{le mo:Int}{b:Bool}
theorem u46 (hE:ab [1,3,4,5,6] E=w7 t gn k ps nl dp bs a [])
  (hQ:∀E',find E' 46=Bo (decide ((a:Int) < gn))→ab [1,3,4,5,6] E'=w7 t gn k ps nl dp bs a []→ab [1] E'=[(1,.box [I t,I gn,I k,.sl ps.length (psC ps)])]→Q .nrm E' H):
  WB ⟨C,lk,L,[1]⟩ (.regN [1,3,4,5,6] [ kx 43 (um 6),kx 44 (.fldA 1 (ux 1)),kx 45 (.ld1 (some 1) (ux 44)),kx 46 (.bini .lss (ux 43) (ux 45))]) Q E H:=by
 unfold w7 at *;rw [ae,hE];simp;refine hQ _ ?_ ?_ ?_
 ·simp [find]
 ·rfl
 ·rfl
theorem u51 (kc:C lk L 26 [.agg [I t,I gn,I k,.sl ps.length (psC ps)],I (a:Nat)] H=some (.sl ol.length (nts ol),H))(hE:ab [1,3,4,5,6] E=w7 t gn k ps nl dp bs a [])
  (hQ:∀E',ab [1,3,4,5,6,7] E'=w7 t gn k ps nl dp bs a [(7,.sl ol.length (nts ol))]→Q .nrm E' H):
  WB ⟨C,lk,L,[1]⟩ (.regN [1,3,4,5,6] [ kx 49 (.ldA (some 1) 4 (ux 1)),kx 50 (um 6),kx 51 (.call 26 [(ux 49),(ux 50)]),kx 7 (um 51)]) Q E H:=by
 unfold w7 at *;rw [ae,hE];simp [kc];refine hQ _ ?_;rfl
theorem u8 (hE:ab [1,3,4,5,6,7] E=w7 t gn k ps nl dp bs a [(7,.sl ol.length (nts ol))])
  (hQ:∀E',ab [1,3,4,5,6,7,8,9] E'=w7 t gn k ps nl dp bs a [(7,.sl ol.length (nts ol)),(8,I (-1)),(9,I 1)]→Q .nrm E' H):
  WB ⟨C,lk,L,[1]⟩ (.regN [1,3,4,5,6,7] [kx 8 (.mv (.con (.val (.int .i64 (-1))))),kx 9 (.mv c1)]) Q E H:=by
 unfold w7 at *;rw [ae,hE];simp;refine hQ _ ?_;rfl
theorem u10 (hE:ab [1,3,4,5,6,7,8,9] E=w7 t gn k ps nl dp bs a [(7,.sl ol.length (nts ol)),(8,I (-1)),(9,I 1)])
  (hQ:∀E',ab [1,3,4,5,6,7,8,9,10] E'=v7 t gn k ps nl dp bs ol a (-1) 1 0 []→Q .nrm E' H):
  WB ⟨C,lk,L,[1]⟩ (.regN [1,3,4,5,6,7,8,9] [kx 10 (.mv c0)]) Q E H:=by
 unfold w7 at *;rw [ae,hE];simp;refine hQ _ ?_;rfl
theorem M0 (h1:a < nl.length)(h2:a < dp.length)(h3:a < bs.length)(e1:∀h,(ints nl)[a]'h=I le)(e2:∀h,(ints dp)[a]'h=I mo)(e3:∀h,(bools bs)[a]'h=Bo (decide (0 < le)))
  (hE:ab [1,3,4,5,6,8,9] E=w7 t gn k ps nl dp bs a [(8,I le),(9,I mo)])
  (hQ:∀E',find E' 166=Bo false→ab [1,3,4,5,6] E'=w7 t gn k ps nl dp bs a []→Q .nrm E' H):
  WB ⟨C,lk,L,[1]⟩ (.regD [1,3,4,5,6,8,9] 0 [ kx 141 (um 3),kx 142 (um 6),kx 143 (.ixA 1 (ux 141) (ux 142)),kx 144 (.ld1 none (ux 143)),kx 145 (um 8),kx 146 (.bini .neq (ux 144) (ux 145)),kx 147 (um 146),kz 148 147 (um 3),kz 149 147 (um 6),kz 150 147 (.ixA 1 (ux 148) (ux 149)),kz 151 147 (.ld1 none (ux 150)),kz 152 147 (.bini .gtr (ux 151) c0),kz 153 147 (um 5),kz 154 147 (um 6),kz 155 147 (.ixA 1 (ux 153) (ux 154)),kz 156 147 (.ld1 none (ux 155)),kz 157 147 (.eqb true (ux 152) (ux 156)),kx 158 (.pick (ux 147) cT (ux 157)),kx 159 (um 158),kz 160 159 (um 4),kz 161 159 (um 6),kz 162 159 (.ixA 1 (ux 160) (ux 161)),kz 163 159 (.ld1 none (ux 162)),kz 164 159 (um 9),kz 165 159 (.bini .neq (ux 163) (ux 164)),kx 166 (.pick (ux 159) cT (ux 165))]) Q E H:=by
 have l1:=aY nl;have l2:=aY dp;have l3:=aG bs;unfold w7 at *;rw [aD rfl,hE];simp [h1,h2,h3,e1,e2,e3,l1,l2,l3];refine hQ _ ?_ ?_
 ·simp [find]
 ·rfl
theorem u47 (hk:a≤1000)(hE:ab [1,3,4,5,6] E=w7 t gn k ps nl dp bs a [])
  (hQ:∀E',ab [1,3,4,5,6] E'=w7 t gn k ps nl dp bs (a+1) []→Q .nrm E' H):
  WB ⟨C,lk,L,[1]⟩ (.regN [1,3,4,5,6] [ kx 47 (um 6),kx 48 (.bini .add (ux 47) c1),kx 6 (um 48)]) Q E H:=by
 have w1:IntKind.i64.wrap ((a:Int)+1)=(a:Int)+1:=aw (by omega) (by omega)
 unfold w7 at *;rw [ae,hE];simp [w1];refine hQ _ ?_;simp
theorem DI (hgn:gn=n)(hps:ps.length≤64)(ko:∀a,a < n→∃ol:List Nat,C lk L 26 [.agg [I t,I gn,I k,.sl ps.length (psC ps)],I (a:Nat)] H=some (.sl ol.length (nts ol),H)∧ol.length≤64∧(∀j∈ol,j < ps.length)∧nsO ⟨t,gn,k,ps⟩ nl dp bs ol (-1) 1=(nl.getD a 0,dp.getD a 0))
  (hrl:∀p∈ps,p.r.length≤8∧∀x∈p.r,0≤x∧x < t+n)
  (ht:1≤t∧t≤8) (hn16:n≤16) (hnl:nl.length=n) (hdl:dp.length=n) (hbl:bs.length=n) (hnb:∀y∈nl,y≤40210710958665) (hdb:∀y∈dp,0≤y∧y≤17) (hbn:∀a,a < n→bs.getD a false=decide (0 < nl.getD a 0))
  (hE:ab [1,3,4,5,6] E=w7 t gn k ps nl dp bs 0 [])
  (hQ:∀E',ab [1] E'=[(1,.box [I t,I gn,I k,.sl ps.length (psC ps)])]→Q .nrm E' H):
  WB ⟨C,lk,L,[1]⟩ (.block 0 (.loop [1,3,4,5,6] IM)) Q E H:=by
 rw [ar];refine ax (σ:=Nat) (fun a=>w7 t gn k ps nl dp bs a []) (fun _=>H) (fun a=>a≤n) (fun a=>n - a) ?_ 0 (Nat.zero_le _) hE rfl;intro a ha;unfold IM;rw [an,an];refine u46 rfl fun E1 g1 h1 h1'=>?_;rw [ak];by_cases han:a < n;case neg=>
  rw [decide_eq_false (by omega)] at g1
  rw [af (aW g1),dn,bG,cP,aI,if_pos rfl];exact hQ _ h1'
 rw [decide_eq_true (by omega)] at g1
 rw [ai (aW g1),aC,ak,an,ar,an];obtain ⟨ol,kc,o1,o2,o3⟩:=ko a han;refine u51 kc h1 fun E2 h2=>?_;rw [ak,an];refine u8 h2 fun E3 h3=>?_;rw [ak,an,an];refine u10 h3 fun E4 h4=>?_;rw [ak];refine DG (n:=n) o1 o2 hrl ht hn16 hnl hdl hbl hnb hdb h4 fun E5 h5=>?_;rw [o3] at h5;rw [ak,an];have e1:∀h,(ints nl)[a]'h=I (nl.getD a 0):=fun h=>by rw [List.getD_eq_getElem?_getD,List.getElem?_eq_getElem (by omega:a < nl.length)];exact bE (by omega) h
 have e2:∀h,(ints dp)[a]'h=I (dp.getD a 0):=fun h=>by rw [List.getD_eq_getElem?_getD,List.getElem?_eq_getElem (by omega:a < dp.length)];exact bE (by omega) h
 have e3:∀h,(bools bs)[a]'h=Bo (decide (0 < nl.getD a 0)):=fun h=>by rw [←hbn a han,List.getD_eq_getElem?_getD,List.getElem?_eq_getElem (by omega:a < bs.length)];exact jX (by omega) h
 refine M0 (by omega) (by omega) (by omega) e1 e2 e3 h5 fun E6 g6 h6=>?_
 rw [ak,af (aW g6),aC,bi,ak];refine u47 (by omega) h6 fun E7 h7=>?_
 rw [ao];exact ⟨a+1,by omega,by omega,h7,rfl⟩
end
theorem Gl {g:Gm}(ha:AOk g):0 < sJ g:=by
 obtain ⟨_,_,q3,_,_,_,_,_,_⟩:=qM ha;unfold sJ;have h1:0≤(u3 g.ps:Int) * max 0 (jt (aH g)):=Int.mul_nonneg (by omega) (by omega)
 have h2:0≤jt (cd g) * (1+(u3 g.ps:Int) * max 0 (jt (aH g))):=Int.mul_nonneg (by omega) (by omega)
 omega
theorem w8 (g:Gm):ah X A 0 0 7 [gV g] []=some (Bo true,[]):=by
 have kl:=fun (L:Nat)=>DE (lim:=L);have kg:=fun (L:Nat)=>wn (lk:=0) (lim:=L) (H:=[]) g;refine aq [1] rfl A7 rfl rfl ?_;unfold t7B;cases hlt:iL g with
 | false=>
  rw [hlt] at kg;obtain ⟨t,n,k,ps⟩:=g;simp only [gV,Gm.cells] at kg;generalize ah X A=C at kl kg ⊢;simp [Gm.cells,kl,kg]
 | true=>
  rw [hlt] at kg;obtain ⟨hl,hr⟩:=CF hlt;have ka:=fun (L:Nat)=>sG (lk:=0) (lim:=L) (H:=[]) (Nat.le_refl _) g hl hr;by_cases hacc:dU g=0;case neg=>
   have hx:(dU g != 0)=true:=by simpa using hacc
   generalize dU g=e at *;obtain ⟨t,n,k,ps⟩:=g;simp only [gV,Gm.cells] at kg ka;generalize ah X A=C at kl kg ka ⊢;simp [Gm.cells,kl,kg,ka,hx]
  have ha:=pf hacc;have hg:=ha.ok;have kn:=fun (L:Nat)=>mP (lk:=0) (lim:=L) (H:=[]) (Nat.le_refl _) g hl hr;have kd:=fun (L:Nat)=>mQ (lk:=0) (lim:=L) (H:=[]) (Nat.le_refl _) g hl hr;have kb:=fun (L:Nat)=>oU (lk:=0) (lim:=L) (H:=[]) (g:=g) hl hr (Nat.le_refl _);have kc:=fun (L:Nat)=>hU (lk:=0) (lim:=L) (H:=[]) (Nat.le_refl _) g hl hr;simp only [x7,if_pos hacc] at kn;simp only [ya,if_pos hacc] at kd;simp only [iU,if_pos ha.chk] at kb;simp only [wX,if_pos hacc] at kc;have hcp:=Gl ha;have ko:∀L a,a < g.n.toNat→∃ol:List Nat,ah X A 0 L 26 [gV g,I (a:Nat)] []=some (.sl ol.length (nts ol),[])∧ol.length≤64∧(∀j∈ol,j < g.ps.length)∧nsO g (aH g) (cd g) (derM g false) ol (-1) 1=((aH g).getD a 0,(cd g).getD a 0):=fun L a h=>by
   have:=wZ (lk:=0) (lim:=L) (H:=[]) g (a:Nat) hl hr (Nat.le_refl _);obtain ⟨p,hp,hpl⟩:=uW ha h;have hne:ofN g.ps (a:Nat) g.ps.length≠[]:=fun e=>by
    obtain ⟨j,hj,rfl⟩:=List.getElem_of_mem hp;have hm:j∈ofN g.ps (a:Nat) g.ps.length:=lw.2 ⟨hj,by
     rw [List.getD_eq_getElem?_getD,List.getElem?_eq_getElem hj];have:=(hg.p _ hp).l0;show (g.ps[j]).l=_;omega⟩
    rw [e] at hm;exact absurd hm List.not_mem_nil
   simp only [lZ,if_pos ha.chk,slvN,if_neg hne] at this;refine ⟨_,this,?_,fun j hj=>(lw.1 hj).1,?_⟩
   ·have:(ofN g.ps (a:Nat) g.ps.length).length≤g.ps.length:=by unfold ofN;exact Nat.le_trans (List.length_filter_le ..) (by simp)
    have:=hg.l2;omega
   ·rw [(DB ha h).1,qP g h]
  have hbn:∀a,a < g.n.toNat→(derM g false).getD a false=decide (0 < (aH g).getD a 0):=fun a h=>by
   have:=(DB ha h).2;by_cases h0:0 < (aH g).getD a 0
   ·rw [decide_eq_true h0];exact this.1 h0
   ·rw [decide_eq_false h0];have h1:¬tr (derM g false) a:=fun h=>h0 (this.2 h);simpa using h1
  have hnl:(aH g).length=g.n.toNat:=(bN hg).len;have hdl:(cd g).length=g.n.toNat:=by simp [cd]
  have hbl:(derM g false).length=g.n.toNat:=fj g false;have hnb:=(bN hg).hi2 hg;have hdb:∀y∈cd g,0≤y∧y≤17:=fun y hy=>by
   unfold cd at hy;obtain ⟨i,_,rfl⟩:=List.mem_map.1 hy;have:=sI ha i;omega
  have hrl:∀p∈g.ps,p.r.length≤8∧∀x∈p.r,0≤x∧x < g.t+(g.n.toNat:Nat):=fun p hp=>⟨(hg.p p hp).len,fun x hx=>by
   have:=(hg.p p hp).s x hx;have:=hg.n1;omega⟩
  have ht:1≤g.t∧g.t≤8:=⟨hg.t1,hg.t2⟩;have hps:=hg.l2;have hn1:=hg.n1;have hn2:=hg.n2;have hmain:=fun (C:Orc) (Q:Ex→Kt) E=>DI (C:=C) (lk:=0) (L:=0) (H:=[]) (Q:=Q) (E:=E) (t:=g.t) (gn:=g.n) (k:=g.k) (ps:=g.ps) (n:=g.n.toNat) (nl:=aH g) (dp:=cd g) (bs:=derM g false) (by omega) hps
  have hmain:=fun (Q:Ex→Kt) E=>hmain (ah X A) Q E (ko 0) hrl ht (by omega) hnl hdl hbl hnb hdb hbn
  have hgn:((g.n.toNat:Nat):Int)=g.n:=by omega
  unfold w7 at hmain;rw [hbl,hnl,hdl] at hmain;rw [hnl] at kn;rw [hdl] at kd;clear ko hbn hnl hdl hbl hnb hdb hrl ht;generalize sJ g=cm at *;generalize aH g=nl at *;generalize cd g=dp at *;generalize derM g false=bs at *;rw [hacc] at ka;obtain ⟨t,gn,k,ps⟩:=g;simp only [gV,Gm.cells] at kg ka kn kd kb kc hmain hgn hn1 ⊢;generalize gn.toNat=n at *;generalize ah X A=C at *;subst hgn;simp [-ai,-af,-ar,-ae,-aD];rw [ae];simp [-ai,-af,-ar,-ae,-aD];rw [ae];simp [-ai,-af,-ar,-ae,-aD,kl];rw [af rfl,aC,ak,an,an,ae];simp [-ai,-af,-ar,-ae,-aD,kg,ka];rw [af rfl,aC,ak,an,aD rfl];simp [-ai,-af,-ar,-ae,-aD,kn,kd,kb];rw [ae];simp [-ai,-af,-ar,-ae,-aD];rw [af rfl,aC,ak,an,an,ae];simp [-ai,-af,-ar,-ae,-aD];refine hmain _ _ (by simp) fun E1 h1=>?_
  rw [ak,an,ae,h1];simp [kc,hcp]
end Go.Proofs.YtkllbcjanneppaaGreat
