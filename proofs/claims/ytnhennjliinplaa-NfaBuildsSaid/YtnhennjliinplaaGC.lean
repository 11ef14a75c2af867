/- regex.Check: walked. -/
import Derived.Test.YtnhennjliinplaaGB
set_option linter.all false
namespace Go.Proofs.Ytnhennjliinplaa
open Go Go.Hm

abbrev U (x:Int):AV:=.val (.int .u64 x)
def bump (i:Nat):List Int→List Int→Option (List Int)
 | [],u=>some u
 | k::ks,u=>if 0≤k∧k<(i:Int) then bump i ks (u.set k.toNat (u.getD k.toNat 0+1)) else none
def arOk (kd:Int)(n:Nat):Bool:=if kd=1∨kd=2 then decide (n=0) else if kd=3∨kd=4 then decide (2≤n)&&decide (n≤512) else if kd=5∨kd=6∨kd=7 then decide (n=1) else false
def zC (c:List AV):Bool:=match c with
 | [.val (.int .u64 a),.val (.int .u64 b),.val (.int .u64 c),.val (.int .u64 d)]=>a==0&&(b==0&&(c==0&&d==0))
 | _=>false
def chkN (i:Nat)(x:Nd)(u:List Int):Option (List Int):=if arOk x.kd x.ks.length=true∧(x.kd=2∨zC x.cs=true) then bump i x.ks u else none
def chkL:Nat→List Nd→List Int→Option (List Int)
 | _,[],u=>some u
 | i,x::r,u=>match chkN i x u with
  | some u'=>chkL (i+1) r u'
  | none=>none
def chkR (R:List Nd):Bool:=decide (1≤R.length)&&decide (R.length≤512)&&match chkL 0 R (List.replicate R.length 0) with
 | some u=>(u.take (R.length-1)).all (·==1)
 | none=>false
theorem bump_snoc (i:Nat):∀(l:List Int) (k:Int) (u:List Int),bump i (l++[k]) u=match bump i l u with
  | some u'=>if 0≤k∧k<(i:Int) then some (u'.set k.toNat (u'.getD k.toNat 0+1)) else none
  | none=>none
 | [],k,u=>rfl
 | a::l,k,u=>by
  show bump i (a::(l++[k])) u=_
  simp only[bump]
  split
  ·exact bump_snoc i l k _
  ·rfl
theorem bump_none (i:Nat):∀(l m:List Int) (u:List Int),bump i l u=none→bump i (l++m) u=none
 | [],m,u,h=>by cases h
 | a::l,m,u,h=>by
  show bump i (a::(l++m)) u=none
  simp only[bump]at h ⊢
  split
  ·rename_i hc
   rw[if_pos hc]at h
   exact bump_none i l m _ h
  ·rfl
theorem bump_len (i:Nat):∀(l:List Int) (u u':List Int),bump i l u=some u'→u'.length=u.length
 | [],u,u',h=>by simp only[bump,Option.some.injEq]at h;subst h;rfl
 | a::l,u,u',h=>by
  simp only[bump]at h
  split at h
  ·have:=bump_len i l _ u' h
   simpa using this
  ·cases h
theorem bump_bd (i:Nat)(B:Int):∀(l:List Int) (u u':List Int),bump i l u=some u'→(∀z∈u,0≤z∧z≤B)→0≤B→∀z∈u',0≤z∧z≤B+l.length
 | [],u,u',h,hu,_=>by
  simp only[bump,Option.some.injEq]at h;subst h
  intro z hz;have:=hu z hz;simp;omega
 | a::l,u,u',h,hu,hB=>by
  simp only[bump]at h
  split at h
  ·intro z hz
   have:=bump_bd i (B+1) l _ u' h (fun z hz=>by
    rcases List.mem_or_eq_of_mem_set hz with hz | rfl
    ·have:=hu z hz;omega
    ·rw[List.getD_eq_getElem?_getD]
     cases hq:u[a.toNat]? with
     | none=>simp;omega
     | some q=>have:=hu q (List.mem_of_getElem? hq);simp;omega) (by omega) z hz
   simp;omega
  ·cases h
section
variable {C:Orc}{lk lim i n:Nat}{H:Heap}{u ks:List Int}{Q:Ex→Kt}{v:AV}{E:Env}{R:List Nd}{x:Nd}
set_option maxRecDepth 20000 in
theorem chk_in {kv:AV}(hkv:(kv= .e0∧ks=[])∨kv= .sl ks.length (ints ks))(hu:u.length=n)(hin:i≤n)(hb:∀z∈u,0≤z∧z≤1000000000)(hks:ks.length≤1000000)(hlk:lk≤H.length)(hlim:lim≤H.length)
  (hE:restrict [0,3,4,22,23,24,64,65,66] E=[(0,v),(3,.hs H.length n 0 n 1),(4,I i),(22,v),(23,I n),(24,I i),(64,kv),(65,I ks.length),(66,I 0)])
  (hQ:∀u',bump i ks u=some u'→∀E',restrict [0,3,22,23,24] E'=[(0,v),(3,.hs H.length n 0 n 1),(22,v),(23,I n),(24,I i)]→Q .nrm E' (H++[.cells (ints u')]))
  (hR:bump i ks u=none→∀y,Q .ret [(2,I 2)] (H++[y])):
  WB ⟨C,lk,lim,[5]⟩ (.block 2 (.loop [0,3,4,22,23,24,64,65,66] t36L1)) Q E (H++[.cells (ints u)]):=by
 refine wb_loop (σ:=Nat×List Int) (fun q=>[(0,v),(3,.hs H.length n 0 n 1),(4,I i),(22,v),(23,I n),(24,I i),(64,kv),(65,I ks.length),(66,I q.1)]) (fun q=>H++[.cells (ints q.2)])
  (fun q=>q.1≤ks.length∧bump i (ks.take q.1) u=some q.2) (fun q=>ks.length-q.1) ?_ (0,u) ⟨Nat.zero_le _,rfl⟩ hE rfl
 rintro⟨m,u1⟩ ⟨hm,hu1⟩
 dsimp only at hm hu1 ⊢
 unfold t36L1
 by_cases hmk:m<ks.length
 case neg=>
  obtain rfl:m=ks.length:=by omega
  rw[List.take_length]at hu1
  simp
  exact hQ u1 hu1 _ rfl
 obtain rfl:kv= .sl ks.length (ints ks):=by
  rcases hkv with⟨_,h⟩ | h
  ·subst h;simp at hmk
  ·exact h
 obtain⟨k,hk⟩:∃k,ks[m]=k:=⟨_,rfl⟩
 have hk2:ks[m]?=some k:=by rw[List.getElem?_eq_getElem hmk,hk]
 have hii:(ints ks)[m]'(by rw[ints_len];exact hmk)=I k:=by simp[ints,hk]
 have w:IntKind.i64.wrap ((m:Int)+1)=(m:Int)+1:=wrap64 (by omega) (by omega)
 have hs:=bump_snoc i (ks.take m) k u
 rw[←take_snoc hk2,hu1]at hs
 dsimp only at hs
 by_cases hc:0≤k∧k<(i:Int)
 case neg=>
  rw[if_neg hc]at hs
  have hnone:=bump_none i _ (ks.drop (m+1)) u hs
  rw[List.take_append_drop]at hnone
  have hr:=hR hnone (.cells (ints u1))
  by_cases h0:0≤k
  ·have h1:(i:Int)≤k:=by omega
   have h2:¬k<0:=by omega
   have h3:¬k<(i:Int):=by omega
   simp[hmk,hii,h0,h1,h2,h3]
   exact hr
  ·have h2:k<0:=by omega
   simp[hmk,hii,h2]
   exact hr
 rw[if_pos hc]at hs
 obtain⟨k,rfl⟩:=Int.eq_ofNat_of_zero_le hc.1
 have hki:k<i:=by omega
 have hul:u1.length=n:=(bump_len i _ u u1 hu1).trans hu
 have hkn:k<n:=by omega
 have hku:k<u1.length:=by omega
 obtain⟨z,hz⟩:∃z,u1[k]=z:=⟨_,rfl⟩
 have hzb:=bump_bd i 1000000000 _ u u1 hu1 hb (by omega) z (hz▸List.getElem_mem hku)
 have hzl:(ks.take m).length≤1000000:=by rw[List.length_take];omega
 have hz2:(ints u1)[k]'(by rw[ints_len];exact hku)=I z:=by simp[ints,hz]
 have w2:IntKind.i64.wrap (z+1)=z+1:=wrap64 (by omega) (by omega)
 have h1:¬(k:Int)<0:=by omega
 have h3:¬(i:Int)≤(k:Int):=by omega
 have hk1:k+1≤n:=hkn
 have hil:(ints u1).length=n:=by rw[ints_len,hul]
 have hset:replaceAt (ints u1) k [I (z+1)]=ints (u1.set k (z+1)):=by
  rw[replaceAt_one _ (by rw[ints_len];exact hku)];simp[ints,List.map_set]
 rw[Int.toNat_natCast,List.getD_eq_getElem?_getD,List.getElem?_eq_getElem hku,hz]at hs
 simp[-wi_st,hmk,hii,h1,h3,hki,hkn,hil,hz2,w,w2]
 rw[wi_st]
 simp[-wi_st,hmk,hii,h1,h3,hki,hkn,hil,hz2,w,w2,setH,hlk,hlim,hk1,hset]
 rw[rnd_nrm]
 exact⟨(m+1,u1.set k (z+1)),⟨hmk,hs⟩,by simp;omega,by simp,rfl⟩
def arV (kd:Int):Int×Int×Bool:=if kd=1∨kd=2 then (0,0,true) else if kd=3∨kd=4 then (2,512,true) else if kd=5∨kd=6∨kd=7 then (1,1,true) else (0,0,false)
theorem arOk_iff (kd:Int)(n:Nat):arOk kd n=true↔(arV kd).2.2=true∧(arV kd).1≤(n:Int)∧(n:Int)≤(arV kd).2.1:=by
 unfold arOk arV
 split
 ·simp
 ·split
  ·simp;omega
  ·split
   ·simp;omega
   ·simp
theorem ar_code (kd:Int):callW X A lk lim 57 [I kd] H=some (.tup [I (arV kd).1,I (arV kd).2.1,Bo (arV kd).2.2],H):=by
 have hX:X lk lim 57 [I kd] H=none:=noX1 (by decide) (by decide) (by decide)
 refine wb_callB [] hX A57 rfl rfl ?_
 unfold t57B
 by_cases h:kd=1∨kd=2∨kd=3∨kd=4∨kd=5∨kd=6∨kd=7
 ·rcases h with rfl | rfl | rfl | rfl | rfl | rfl | rfl<;>simp[arV]
 ·simp only[not_or]at h
  obtain⟨h1,h2,h3,h4,h5,h6,h7⟩:=h
  simp[arV,h1,h2,h3,h4,h5,h6,h7]
def badN (lo hi:Int)(ok:Bool)(kd:Int)(n:Nat)(a b c d:Int):Bool:=!ok||(decide ((n:Int)<lo)||(decide (hi<(n:Int))||(decide (kd≠2)&&!zC [U a,U b,U c,U d])))
def g36:AC:=.regN [0,3,4,5,6,7,8,22,23,24] [
 kM 36 8,kx 37 (.not (ux 36)),kM 38 37,zF 39 38 5 5,zS 40 38 5 39,zN 41 38 40,zM 42 38 6,kz 43 38 (.bini .lss (ux 41) (ux 42)),kO 44 38 43,kM 45 44,zF 46 45 5 5,zS 47 45 5 46,zN 48 45 47,zM 49 45 7,kz 50 45 (.bini .gtr (ux 48) (ux 49)),kO 51 45 50,kM 52 51,zF 53 52 0 5,zS 54 52 5 53,kz 55 52 (.bini .neq (ux 54) (.con (.val (.int .i64 2)))),zM 56 52 55,yF 57 56 1 5,ky 58 56 (.ldA (some 5) 4 (ux 57)),ky 59 56 (.build [(.val (.int .u64 0)),(.val (.int .u64 0)),(.val (.int .u64 0)),(.val (.int .u64 0))] []),ky 60 56 (.eqa true [1,1,1,1] (ux 58) (ux 59)),kz 61 52 (.pick (ux 56) (ux 60) cF),kO 62 52 61]
def h36:AC:=.seq (.seq g36 (.cond (ux 62) (.seq (.regN [] [kx 2 (.mv (.con (.val (.int .i64 2))))]) .ret) .skip))
 (.seq (.regN [0,3,4,5,22,23,24] [kF 63 5 5,kS 64 5 63,kN 65 64,kZ 66]) (.block 2 (.loop [0,3,4,22,23,24,64,65,66] t36L1)))
set_option maxRecDepth 20000 in
theorem chk_cond {lo hi kd a b c d:Int}{ok:Bool}{kv sv nv iv jv:AV}{Z:Heap}(hkv:(kv= .e0∧ks=[])∨kv= .sl ks.length (ints ks))
  (hE:restrict [0,3,4,5,6,7,8,22,23,24] E=[(0,v),(3,sv),(4,jv),(5,.box [I kd,U a,U b,U c,U d,kv]),(6,I lo),(7,I hi),(8,Bo ok),(22,v),(23,nv),(24,iv)])
  (hQ:∀E',restrict [0,3,4,5,22,23,24] E'=restrict [0,3,4,5,22,23,24] E→find E' 62=Bo (badN lo hi ok kd ks.length a b c d)→Q .nrm E' Z):
  WB ⟨C,lk,lim,[5]⟩ g36 Q E Z:=by
 obtain⟨B,hB⟩:∃B,badN lo hi ok kd ks.length a b c d=B:=⟨_,rfl⟩
 rw[hB]at hQ
 have fin:∀E',restrict [0,3,4,5,22,23,24] E'=[(0,v),(3,sv),(4,jv),(5,.box [I kd,U a,U b,U c,U d,kv]),(22,v),(23,nv),(24,iv)]→find E' 62=Bo B→Q .nrm E' Z:=fun E' h1 h2=>hQ E' (by
  rw[h1]
  have e:∀t∈[0,3,4,5,6,7,8,22,23,24],find E t=find (restrict [0,3,4,5,6,7,8,22,23,24] E) t:=fun t ht=>by
   simp at ht
   rcases ht with rfl | rfl | rfl | rfl | rfl | rfl | rfl | rfl | rfl | rfl<;>rfl
  simp only[restrict,List.map_cons,List.map_nil]
  rw[e 0 (by simp),e 3 (by simp),e 4 (by simp),e 5 (by simp),e 22 (by simp),e 23 (by simp),e 24 (by simp),hE]
  rfl) h2
 clear hQ
 unfold badN at hB
 unfold g36
 rw[wb_regN,hE]
 have hlen:∀E Z,rdOp (.len false (.con kv)) E Z=some (I ks.length):=fun E Z=>by
  rcases hkv with⟨rfl,rfl⟩ | rfl<;>rfl
 have hz:eqCells [1,1,1,1] [U a,U b,U c,U d] [AV.val (Value.int IntKind.u64 0),AV.val (Value.int IntKind.u64 0),AV.val (Value.int IntKind.u64 0),AV.val (Value.int IntKind.u64 0)]=some (zC [U a,U b,U c,U d]):=by
  have e:∀a:Int,eqScalar 1 (Value.int IntKind.u64 a) (Value.int IntKind.u64 0)=some (a==0):=fun a=>by simp[eqScalar]
  simp[eqCells,e,zC]
 generalize zC [U a,U b,U c,U d]=zb at hz hB
 rcases hkv with⟨rfl,rfl⟩ | rfl
 ·cases ok
  ·iterate 27 (rw[wr_cons];simp[-wr_cons,-wr_nil])
   rw[wr_nil]
   exact fin _ rfl (by rw[←hB];rfl)
  ·by_cases h1:(0:Int)<lo
   ·iterate 27 (rw[wr_cons];simp[-wr_cons,-wr_nil,h1])
    rw[wr_nil]
    exact fin _ rfl (by rw[←hB];simp[find,h1])
   ·by_cases h2:hi<(0:Int)
    ·iterate 27 (rw[wr_cons];simp[-wr_cons,-wr_nil,h1,h2])
     rw[wr_nil]
     exact fin _ rfl (by rw[←hB];simp[find,h1,h2])
    ·by_cases h3:kd=2
     ·subst h3
      iterate 27 (rw[wr_cons];simp[-wr_cons,-wr_nil,h1,h2])
      rw[wr_nil]
      exact fin _ rfl (by rw[←hB];simp[find,h1,h2])
     ·have h4:(kd != 2)=true:=by simp[h3]
      iterate 27 (rw[wr_cons];simp[-wr_cons,-wr_nil,h1,h2,h4,hz])
      rw[wr_nil]
      exact fin _ rfl (by rw[←hB];simp[find,h1,h2,h3])
 ·cases ok
  ·iterate 27 (rw[wr_cons];simp[-wr_cons,-wr_nil])
   rw[wr_nil]
   exact fin _ rfl (by rw[←hB];rfl)
  ·by_cases h1:(ks.length:Int)<lo
   ·iterate 27 (rw[wr_cons];simp[-wr_cons,-wr_nil,h1])
    rw[wr_nil]
    exact fin _ rfl (by rw[←hB];simp[find,h1])
   ·by_cases h2:hi<(ks.length:Int)
    ·iterate 27 (rw[wr_cons];simp[-wr_cons,-wr_nil,h1,h2])
     rw[wr_nil]
     exact fin _ rfl (by rw[←hB];simp[find,h1,h2])
    ·by_cases h3:kd=2
     ·subst h3
      iterate 27 (rw[wr_cons];simp[-wr_cons,-wr_nil,h1,h2])
      rw[wr_nil]
      exact fin _ rfl (by rw[←hB];simp[find,h1,h2])
     ·have h4:(kd != 2)=true:=by simp[h3]
      iterate 27 (rw[wr_cons];simp[-wr_cons,-wr_nil,h1,h2,h4,hz])
      rw[wr_nil]
      exact fin _ rfl (by rw[←hB];simp[find,h1,h2,h3])
end
end Go.Proofs.Ytnhennjliinplaa

namespace Go.Proofs.Ytnhennjliinplaa
open Go Go.Hm
section
variable {C:Orc}{lk lim i n:Nat}{H:Heap}{u ks:List Int}{Q:Ex→Kt}{v:AV}{E:Env}{R:List Nd}{x:Nd}
def bdI (i:Nat):Int:=100000*i
theorem bdI_eq (i:Nat):bdI i=100000*i:=rfl
attribute [irreducible] bdI
theorem ev_bo {E:Env}{n:Nat}{b:Bool}(h:find E n=Bo b):ev E (.tmp n)=Bo b:=by
 show (match find E n with | .box _=>AV.rp n 0 | v=>v)=_
 rw[h]
set_option maxRecDepth 20000 in
theorem h36_ok {lo hi2 kd a b c d:Int}{ok:Bool}{kv:AV}{B:Bool}(hB:badN lo hi2 ok kd ks.length a b c d=B)(hkv:(kv= .e0∧ks=[])∨kv= .sl ks.length (ints ks))(hu:u.length=n)(hin:i≤n)(hb:∀z∈u,0≤z∧z≤1000000000)(hks:ks.length≤1000000)(hlk:lk≤H.length)(hlim:lim≤H.length)
  (hE:restrict [0,3,4,5,6,7,8,22,23,24] E=[(0,v),(3,.hs H.length n 0 n 1),(4,I i),(5,.box [I kd,U a,U b,U c,U d,kv]),(6,I lo),(7,I hi2),(8,Bo ok),(22,v),(23,I n),(24,I i)])
  (hbad:B=true→Q .ret [(2,I 2)] (H++[.cells (ints u)]))
  (hQ:B=false→∀u',bump i ks u=some u'→∀E',restrict [0,3,22,23,24] E'=[(0,v),(3,.hs H.length n 0 n 1),(22,v),(23,I n),(24,I i)]→Q .nrm E' (H++[.cells (ints u')]))
  (hR:B=false→bump i ks u=none→∀y,Q .ret [(2,I 2)] (H++[y])):
  WB ⟨C,lk,lim,[5]⟩ h36 Q E (H++[.cells (ints u)]):=by
 unfold h36
 rw[wb_seq,wb_seq]
 refine chk_cond hkv hE (fun E' h1 h2=>?_)
 rw[fol_nrm]
 rw[hB]at h2
 have hE':restrict [0,3,4,5,22,23,24] E=[(0,v),(3,.hs H.length n 0 n 1),(4,I i),(5,.box [I kd,U a,U b,U c,U d,kv]),(22,v),(23,I n),(24,I i)]:=by
  have e:∀t∈[0,3,4,5,6,7,8,22,23,24],find E t=find (restrict [0,3,4,5,6,7,8,22,23,24] E) t:=fun t ht=>by
   simp at ht
   rcases ht with rfl | rfl | rfl | rfl | rfl | rfl | rfl | rfl | rfl | rfl<;>rfl
  simp only[restrict,List.map_cons,List.map_nil]
  rw[e 0 (by simp),e 3 (by simp),e 4 (by simp),e 5 (by simp),e 22 (by simp),e 23 (by simp),e 24 (by simp),hE]
  rfl
 rw[hE']at h1
 cases B
 case true=>
  rw[wb_true (ev_bo h2)]
  simp
  exact hbad rfl
 rw[wb_false (ev_bo h2),wb_skip,fol_nrm,wb_seq,wb_regN,h1]
 have fin:∀E,restrict [0,3,4,22,23,24,64,65,66] E=[(0,v),(3,.hs H.length n 0 n 1),(4,I i),(22,v),(23,I n),(24,I i),(64,kv),(65,I ks.length),(66,I 0)]→WB ⟨C,lk,lim,[5]⟩ (.block 2 (.loop [0,3,4,22,23,24,64,65,66] t36L1)) Q E (H++[.cells (ints u)]):=fun E hE=>
  chk_in hkv hu hin hb hks hlk hlim hE (fun u' hu' E' h=>hQ rfl u' hu' E' h) (hR rfl)
 clear hQ hR hbad
 rcases hkv with⟨rfl,rfl⟩ | rfl
 ·simp
  exact fin _ rfl
 ·simp
  exact fin _ rfl
def r36a:AC:=.regN [0,3,22,23,24] [kM 26 24,kI 27 6 22 24,kx 28 (.ldA none 6 (ux 27)),kx 5 (.allocR [(.val (.int .i64 0)),(.val (.int .u64 0)),(.val (.int .u64 0)),(.val (.int .u64 0)),(.val (.int .u64 0)),.e0]),kM 4 26,kn (.st (some 5) 6 (ux 5) (ux 28))]
def r36b:AC:=.regN [0,3,4,5,22,23,24] [kF 30 0 5,kS 31 5 30,kC 32 57 31,kM 29 32,kE 33 29 0,kE 34 29 1,kE 35 29 2,kM 6 33,kM 7 34,kM 8 35]
set_option maxRecDepth 20000 in
theorem r36a_ok {m:Nat}{cells:List AV}{kd:Int}{a b c d kv sv nv:AV}(hik:i<m)(hr:(cells.drop (i*6)).take 6=[I kd,a,b,c,d,kv])(hl:i*6+6≤cells.length)(hN:noRp 5 [(0,v),(3,sv),(22,.sl m cells),(23,nv),(24,I i)]=true)
  (hE:restrict [0,3,22,23,24] E=[(0,v),(3,sv),(22,.sl m cells),(23,nv),(24,I i)])
  (hQ:∀E',restrict [0,3,4,5,22,23,24] E'=[(0,v),(3,sv),(4,I i),(5,.box [I kd,a,b,c,d,kv]),(22,.sl m cells),(23,nv),(24,I i)]→Q .nrm E' H):
  WB ⟨C,lk,lim,[5]⟩ r36a Q E H:=by
 unfold r36a
 rw[wb_regN,hE]
 simp[hik,hr,hl]
 exact⟨hN,hQ _ rfl⟩
set_option maxRecDepth 20000 in
theorem r36b_ok {kd lo hi:Int}{ok:Bool}{jv a b c d kv sv nv iv v2:AV}(hC:C lk lim 57 [I kd] H=some (.tup [I lo,I hi,Bo ok],H))
  (hE:restrict [0,3,4,5,22,23,24] E=[(0,v),(3,sv),(4,jv),(5,.box [I kd,a,b,c,d,kv]),(22,v2),(23,nv),(24,iv)])
  (hQ:∀E',restrict [0,3,4,5,6,7,8,22,23,24] E'=[(0,v),(3,sv),(4,jv),(5,.box [I kd,a,b,c,d,kv]),(6,I lo),(7,I hi),(8,Bo ok),(22,v2),(23,nv),(24,iv)]→Q .nrm E' H):
  WB ⟨C,lk,lim,[5]⟩ r36b Q E H:=by
 unfold r36b
 rw[wb_regN,hE]
 simp[hC]
 exact hQ _ rfl
set_option maxRecDepth 20000 in
theorem chk_out (hv:v= .sl R.length (rxC R))(hR:∀x∈R,NdOk x)(hcl:∀x∈R,∃a b c d,x.cs=[U a,U b,U c,U d])(hRl:R.length≤1000)(hks:∀x∈R,x.ks.length≤100000)(hlk:lk≤H.length)(hlim:lim≤H.length)(hC:∀kd:Int,∀x,C lk lim 57 [I kd] (H++[x])=some (.tup [I (arV kd).1,I (arV kd).2.1,Bo (arV kd).2.2],H++[x]))
  (hE:restrict [0,3,22,23,24] E=[(0,v),(3,.hs H.length R.length 0 R.length 1),(22,v),(23,I R.length),(24,I 0)])
  (hQ:∀u',chkL 0 R (List.replicate R.length 0)=some u'→∀E',restrict [0,3] E'=[(0,v),(3,.hs H.length R.length 0 R.length 1)]→Q .nrm E' (H++[.cells (ints u')]))
  (hN:chkL 0 R (List.replicate R.length 0)=none→∀y,Q .ret [(2,I 2)] (H++[y])):
  WB ⟨C,lk,lim,[5]⟩ (.block 0 (.loop [0,3,22,23,24] t36L2)) Q E (H++[.cells (ints (List.replicate R.length 0))]):=by
 refine wb_loop (σ:=Nat×List Int) (fun q=>[(0,v),(3,.hs H.length R.length 0 R.length 1),(22,v),(23,I R.length),(24,I q.1)]) (fun q=>H++[.cells (ints q.2)])
  (fun q=>q.1≤R.length∧chkL q.1 (R.drop q.1) q.2=chkL 0 R (List.replicate R.length 0)∧q.2.length=R.length∧∀z∈q.2,0≤z∧z≤bdI q.1) (fun q=>R.length-q.1) ?_ (0,List.replicate R.length 0) ⟨Nat.zero_le _,rfl,by simp,fun z hz=>by rw[List.eq_of_mem_replicate hz,bdI_eq];simp⟩ hE rfl
 rintro⟨i,u⟩ ⟨hi,hu,hul,hub⟩
 dsimp only at hi hu hul hub ⊢
 by_cases hik:i<R.length
 case neg=>
  unfold t36L2
  obtain rfl:i=R.length:=by omega
  rw[List.drop_length]at hu
  simp
  exact hQ u hu.symm _ rfl
 obtain⟨x,hx⟩:∃x,R[i]=x:=⟨_,rfl⟩
 have hxm:x∈R:=hx▸List.getElem_mem hik
 have hx2:R[i]?=some x:=by rw[List.getElem?_eq_getElem hik,hx]
 rw[List.drop_eq_getElem_cons hik,hx]at hu
 obtain⟨hr,hl⟩:=rxC_at hR hx2
 obtain⟨_,hkv,_⟩:=hR x hxm
 obtain⟨a,b,c,d,hcs⟩:=hcl x hxm
 have hkl:=hks x hxm
 obtain⟨kd,cs,ks,kv⟩:=x
 dsimp only at hcs hkv hkl
 subst hcs
 have hr:((rxC R).drop (i*6)).take 6=[I kd,U a,U b,U c,U d,kv]:=hr
 have hkc:=hC kd (.cells (ints u))
 have w:IntKind.i64.wrap ((i:Int)+1)=(i:Int)+1:=wrap64 (by omega) (by omega)
 have hiR:(i:Int)<(R.length:Int):=by omega
 obtain⟨⟨lo,hi2,ok⟩,har⟩:∃q,arV kd=q:=⟨_,rfl⟩
 have hao:=arOk_iff kd ks.length
 rw[har]at hkc hao
 dsimp only at hkc hao
 subst hv
 have bad:(arOk kd ks.length=false∨(kd≠2∧zC [U a,U b,U c,U d]=false))→∀y,Q .ret [(2,I 2)] (H++[y]):=fun hb y=>by
  refine hN ?_ y
  rw[←hu]
  simp only[chkL,chkN]
  rw[if_neg]
  rintro⟨h1,h2⟩
  rcases hb with hb | ⟨hb1,hb2⟩
  ·rw[hb]at h1;cases h1
  ·rcases h2 with h2 | h2
   ·exact hb1 h2
   ·rw[hb2]at h2;cases h2
 generalize rxC R=cells at hr hl hE ⊢
 have hbad:badN lo hi2 ok kd ks.length a b c d=true↔(arOk kd ks.length=false∨(kd≠2∧zC [U a,U b,U c,U d]=false)):=by
  have:arOk kd ks.length=false↔¬(ok=true∧lo≤(ks.length:Int)∧(ks.length:Int)≤hi2):=by rw[←hao];simp
  rw[this]
  unfold badN
  cases ok<;>by_cases h9:kd=2<;>cases zC [U a,U b,U c,U d]<;>simp[h9]<;>omega
 have hckg:badN lo hi2 ok kd ks.length a b c d=false→chkL i (⟨kd,[U a,U b,U c,U d],ks,kv⟩::R.drop (i+1)) u=match bump i ks u with
   | some u'=>chkL (i+1) (R.drop (i+1)) u'
   | none=>none:=fun hbn=>by
  have hgood:arOk kd ks.length=true∧(kd=2∨zC [U a,U b,U c,U d]=true):=by
   have hn:¬(arOk kd ks.length=false∨(kd≠2∧zC [U a,U b,U c,U d]=false)):=fun hh=>by
    rw[←hbad,hbn]at hh;cases hh
   cases h3:arOk kd ks.length<;>cases h4:zC [U a,U b,U c,U d]<;>simp[h3,h4]at hn ⊢
   exact hn
  show (match chkN i _ u with | some u'=>_ | none=>none)=_
  unfold chkN
  rw[if_pos hgood]
 have e:t36L2= .seq (.regN [0,3,22,23,24] [kT 25 24 23]) (.seq (.cond (ux 25) .skip (.exit 0)) (.seq (.block 1 (.seq r36a (.seq r36b h36))) (.regN [0,3,22,23,24] [kU 84 24,kM 24 84]))):=rfl
 rw[e]
 generalize hP:Rnd _ _ _ _ _ _ _=P
 rw[wb_seq,wb_regN]
 simp[-wb_true,-wb_false,-wb_seq,-wb_block,-wb_regN,hik]
 rw[wb_seq,wb_true (ev_bo rfl),wb_skip,fol_nrm,wb_seq,wb_block,wb_seq]
 refine r36a_ok hik hr hl rfl rfl (fun E1 h1=>?_)
 rw[fol_nrm,wb_seq]
 refine r36b_ok hkc h1 (fun E2 h2=>?_)
 rw[fol_nrm]
 refine h36_ok (i:=i) (ks:=ks) rfl hkv hul (by omega) (fun z hz=>by have:=hub z hz;rw[bdI_eq]at this;omega) (by omega) hlk hlim h2 ?_ ?_ ?_
 ·intro hbn
  rw[←hP]
  exact bad (hbad.1 hbn) _
 ·intro hbn u' hu' E' hE'
  rw[hckg hbn,hu']at hu
  dsimp only at hu
  have hl':=bump_len i _ u u' hu'
  rw[blk_nrm,fol_nrm,wb_regN,hE']
  simp[w]
  rw[←hP,rnd_nrm]
  refine⟨(i+1,u'),⟨hik,hu,hl'.trans hul,fun z hz=>?_⟩,by simp;omega,by simp,rfl⟩
  have:=bump_bd i (bdI i) _ u u' hu' hub (by rw[bdI_eq];omega) z hz
  rw[bdI_eq]at this
  simp[bdI_eq]
  omega
 ·intro hbn hno y
  rw[←hP]
  refine hN ?_ y
  rw[←hu,hckg hbn,hno]
end
end Go.Proofs.Ytnhennjliinplaa

namespace Go.Proofs.Ytnhennjliinplaa
open Go Go.Hm
def notOne:Nat→List Int→Int
 | _,[]=>-1
 | i,x::r=>if x=1 then notOne (i+1) r else i
theorem notOne_ge:∀(l:List Int) (i:Nat),(notOne i l= -1∧l.all (·==1)=true)∨(0≤notOne i l∧l.all (·==1)=false)
 | [],i=>.inl ⟨rfl,rfl⟩
 | x::r,i=>by
  simp only[notOne]
  by_cases h:x=1
  ·rw[if_pos h]
   subst h
   simpa using notOne_ge r (i+1)
  ·rw[if_neg h]
   exact .inr ⟨by omega,by simp[h]⟩
theorem no1_code {lk lim:Nat}{H:Heap}(x:Int):callW X A lk lim 59 [I x] H=some (Bo (decide (x≠1)),H):=by
 have hX:X lk lim 59 [I x] H=none:=noX1 (by decide) (by decide) (by decide)
 refine wb_callB [] hX A59 rfl rfl ?_
 unfold t59B
 by_cases h:x=1<;>simp[h]
section
variable {lk lim:Nat}{H:Heap}{u:List Int}{m:Nat}
set_option maxRecDepth 20000 in
theorem idx_code (hm:m≤u.length)(hu:u.length≤1000000):callW X A lk lim 71 [.hs H.length u.length 0 m 1,.fn 59 []] (H++[.cells (ints u)])=some (I (notOne 0 (u.take m)),H++[.cells (ints u)]):=by
 have hX:X lk lim 71 [.hs H.length u.length 0 m 1,.fn 59 []] (H++[.cells (ints u)])=none:=noX1 (by decide) (by decide) (by decide)
 refine wb_callB [] hX A71 rfl rfl ?_
 have hc:∀x,callW X A lk (H.length+1) 59 [I x] (H++[.cells (ints u)])=some (Bo (decide (x≠1)),H++[.cells (ints u)]):=fun x=>no1_code x
 generalize callW X A=C at hc ⊢
 unfold t71B
 simp
 refine wb_loop (σ:=Nat) (fun i=>[(0,.hs H.length u.length 0 m 1),(1,.fn 59 []),(7,I m),(8,I i)]) (fun _=>H++[.cells (ints u)]) (fun i=>i≤m∧notOne i ((u.take m).drop i)=notOne 0 (u.take m)) (fun i=>m-i) ?_ 0 ⟨Nat.zero_le _,rfl⟩ rfl rfl
 rintro i ⟨hi,hn⟩
 have hlen:(u.take m).length=m:=by rw[List.length_take];omega
 have hil:(ints u).length=u.length:=ints_len u
 unfold t71L1
 by_cases hk:i<m
 case neg=>
  obtain rfl:i=m:=by omega
  rw[List.drop_eq_nil_of_le (by omega)]at hn
  generalize hP:Rnd _ _ _ _ _ _ _=P
  simp
  rw[←hP]
  simp[←hn,notOne,List.take_of_length_le]
 have hku:i<u.length:=by omega
 obtain⟨z,hz⟩:∃z,u[i]=z:=⟨_,rfl⟩
 have hii:(ints u)[i]'(by rw[ints_len];exact hku)=I z:=by simp[ints,hz]
 rw[List.drop_eq_getElem_cons (by omega),List.getElem_take,hz]at hn
 have w:IntKind.i64.wrap ((i:Int)+1)=(i:Int)+1:=wrap64 (by omega) (by omega)
 have hcz:=hc z
 simp only[notOne]at hn
 have hi1:i+1≤u.length:=by omega
 by_cases h1:z=1
 ·rw[if_pos h1]at hn
  subst h1
  generalize hP:Rnd _ _ _ _ _ _ _=P
  simp[hk,hii,hcz,w,hku,hil]
  rw[←hP,rnd_nrm]
  exact⟨i+1,⟨hk,hn⟩,by omega,rfl,rfl⟩
 ·rw[if_neg h1]at hn
  generalize hP:Rnd _ _ _ _ _ _ _=P
  simp[hk,hii,hcz,w,h1,hku,hil]
  rw[←hP]
  simp[←hn,List.take_of_length_le]
theorem cont_code (hm:m≤u.length)(hu:u.length≤1000000):callW X A lk lim 58 [.hs H.length u.length 0 m 1,.fn 59 []] (H++[.cells (ints u)])=some (Bo (decide (0≤notOne 0 (u.take m))),H++[.cells (ints u)]):=by
 have hX:X lk lim 58 [.hs H.length u.length 0 m 1,.fn 59 []] (H++[.cells (ints u)])=none:=noX1 (by decide) (by decide) (by decide)
 refine wb_callB [] hX A58 rfl rfl ?_
 have hc:=idx_code (lk:=lk) (lim:=H.length+1) (H:=H) hm hu
 generalize callW X A=C at hc ⊢
 unfold t58B
 simp[hc,List.take_of_length_le]
def e36:AC:=.seq (.seq (.regN [0,3] [
 kM 85 3,kM 86 0,kN 87 86,kx 88 (.bini .sub (ux 87) c1),kx 89 (.slC 1 (ux 85) none (some (ux 88))),kx 90 (.call 58 [(ux 89),(.con (.fn 59 []))])])
 (.cond (ux 90)
 (.seq (.regN [] [
 kx 2 (.mv (.con (.val (.int .i64 2))))])
 .ret)
 .skip))
 (.seq (.regN [] [
 kZ 2])
 .ret)
theorem chkN_len {i:Nat}{x:Nd}{u u':List Int}(h:chkN i x u=some u'):u'.length=u.length:=by
 unfold chkN at h
 split at h
 ·exact bump_len i _ u u' h
 ·cases h
theorem chkL_len:∀(R:List Nd) (i:Nat) (u u':List Int),chkL i R u=some u'→u'.length=u.length
 | [],i,u,u',h=>by simp only[chkL,Option.some.injEq]at h;rw[h]
 | x::r,i,u,u',h=>by
  simp only[chkL]at h
  split at h
  ·rename_i u1 h1
   exact(chkL_len r (i+1) u1 u' h).trans (chkN_len h1)
  ·cases h
def Cl4 (x:Nd):Prop:=∃a b c d,x.cs=[U a,U b,U c,U d]
set_option maxRecDepth 20000 in
theorem check_code {R:List Nd}{v:AV}(hv:(v= .e0∧R=[])∨v= .sl R.length (rxC R))(hR:∀x∈R,NdOk x)(hcl:∀x∈R,Cl4 x)(hks:∀x∈R,x.ks.length≤100000)(hlk:lk≤H.length):
  callW X A lk lim 36 [v] H=some (I (if chkR R then 0 else 2),H):=by
 have hX:X lk lim 36 [v] H=none:=noX1 (by decide) (by decide) (by decide)
 refine wb_callB [5] hX A36 rfl (by rcases hv with⟨rfl,_⟩ | rfl<;>rfl) ?_
 have hC:∀kd:Int,∀x,callW X A lk H.length 57 [I kd] (H++[x])=some (.tup [I (arV kd).1,I (arV kd).2.1,Bo (arV kd).2.2],H++[x]):=fun kd x=>ar_code kd
 have hc2:∀(u:List Int) m,m≤u.length→u.length≤1000000→callW X A lk H.length 58 [.hs H.length u.length 0 m 1,.fn 59 []] (H++[.cells (ints u)])=some (Bo (decide (0≤notOne 0 (u.take m))),H++[.cells (ints u)]):=fun u m h1 h2=>cont_code h1 h2
 generalize callW X A=C at hC hc2 ⊢
 have key:∀v,v= .sl R.length (rxC R)→1≤R.length→R.length≤512→WB ⟨C,lk,H.length,[5]⟩ (.seq (.block 0 (.loop [0,3,22,23,24] t36L2)) e36) (FinT [.tmp 2] true H (I (if chkR R then 0 else 2),H)) [(24,I 0),(23,I R.length),(22,v),(0,v),(3,.hs H.length R.length 0 R.length 1)] (H++[.cells (ints (List.replicate R.length 0))]):=by
  intro v hv h1 h2
  have hrl:∀u,chkL 0 R (List.replicate R.length 0)=some u→chkR R=(u.take (R.length-1)).all (·==1):=fun x hx=>by
   unfold chkR
   rw[decide_eq_true h1,decide_eq_true h2,hx]
   rfl
  have hrl2:chkL 0 R (List.replicate R.length 0)=none→chkR R=false:=fun hx=>by
   unfold chkR
   rw[decide_eq_true h1,decide_eq_true h2,hx]
   rfl
  rw[wb_seq]
  refine chk_out hv hR hcl (by omega) hks hlk (Nat.le_refl _) hC rfl ?_ ?_
  ·intro u' hu' E' hE'
   rw[hrl _ hu',fol_nrm]
   have hul:=chkL_len R 0 _ u' hu'
   rw[List.length_replicate]at hul
   have hc3:=hc2 u' (R.length-1) (by omega) (by omega)
   rw[hul]at hc3
   have hil:(ints u').length=R.length:=by rw[ints_len,hul]
   have w:IntKind.i64.wrap ((R.length:Int)-1)=((R.length-1:Nat):Int):=by rw[wrap64 (by omega) (by omega)];omega
   have h8:((R.length-1:Nat):Int)≤(R.length:Int):=by omega
   unfold e36
   rw[wb_seq,wb_seq,wb_regN,hE']
   subst hv
   rcases notOne_ge (u'.take (R.length-1)) 0 with⟨h3,h4⟩ | ⟨h3,h4⟩
   ·have h5:¬(0≤notOne 0 (u'.take (R.length-1))):=by omega
    rw[h4]
    simp[hc3,w,h5,bnd,h8,FinT]
   ·rw[h4]
    simp[hc3,w,h3,bnd,h8,FinT]
  ·intro hno y
   rw[hrl2 hno]
   simp[FinT]
 have e:t36B= .seq (.regN [0] [kZ 2]) (.seq (.seq (.regN [0] [kM 11 0,kN 12 11,kx 13 (.bini .lss (ux 12) c1),kM 14 13,zM 15 14 0,zN 16 14 15,kz 17 14 (.bini .gtr (ux 16) (.con (.val (.int .i64 512)))),kO 18 14 17])
  (.cond (ux 18) (.seq (.regN [] [kx 2 (.mv (.con (.val (.int .i64 2))))]) .ret) .skip))
  (.seq (.regN [0] [kM 19 0,kN 20 19,kx 21 (.mks 1 8 [(.val (.int .i64 0))] (ux 20)),kM 3 21])
  (.seq (.seq (.regN [0,3] [kM 22 0,kN 23 22,kZ 24]) (.block 0 (.loop [0,3,22,23,24] t36L2))) e36))):=rfl
 have bad:chkR R=false→(R.length<1∨512<R.length)→WB ⟨C,lk,H.length,[5]⟩ t36B (FinT [.tmp 2] true H (I (if chkR R then 0 else 2),H)) (enterFrom 0 [v]) H:=by
  intro h0 hb
  rw[h0,e]
  rcases hv with⟨rfl,rfl⟩ | rfl
  ·simp[FinT]
  ·rcases hb with hb | hb
   ·have hb2:(R.length:Int)<1:=by omega
    simp[FinT,hb2]
   ·have h1:¬(R.length<1):=by omega
    have h2:(512:Int)<(R.length:Int):=by omega
    have h3:¬((R.length:Int)<1):=by omega
    simp[FinT,h1,h2,h3,hb]
 by_cases h1:1≤R.length
 case neg=>exact bad (by simp[chkR,h1]) (by omega)
 by_cases h2:R.length≤512
 case neg=>exact bad (by simp[chkR,h2]) (by omega)
 obtain rfl:v= .sl R.length (rxC R):=by
  rcases hv with⟨_,rfl⟩ | rfl
  ·simp at h1
  ·rfl
 have k:=key _ rfl h1 h2
 clear key bad hc2 hC
 have h3:¬((R.length:Int)<1):=by omega
 have h4:¬((512:Int)<(R.length:Int)):=by omega
 rw[e]
 generalize (rxC R)=cells at k ⊢
 generalize FinT [.tmp 2] true H (I (if chkR R then 0 else 2),H)=P at k ⊢
 generalize e36=e3 at k ⊢
 generalize hL:AC.block 0 (.loop [0,3,22,23,24] t36L2)=L at k ⊢
 rw[wb_seq,wb_regN]
 simp[-wb_true,-wb_false,-wb_seq,-wb_regN,-wb_block]
 rw[wb_seq,wb_seq,wb_regN]
 simp[-wb_true,-wb_false,-wb_seq,-wb_regN,-wb_block,h3,h4]
 rw[wb_false (ev_bo rfl),wb_skip,fol_nrm,wb_seq,wb_regN]
 have hro:(R.length:Int)*8≤(room:Int):=by unfold room;omega
 have hrp:repl R.length [.val (.int .i64 0)]=ints (List.replicate R.length 0):=by simp[repl,ints]
 simp[-wb_true,-wb_false,-wb_seq,-wb_regN,-wb_block,hro,hrp]
 rw[wb_seq,wb_seq,wb_regN]
 simp[-wb_true,-wb_false,-wb_seq,-wb_regN,-wb_block]
 rw[wb_seq]at k
 exact k
end
end Go.Proofs.Ytnhennjliinplaa

namespace Go.Proofs.Ytnhennjliinplaa
open Go Go.Hm

def fillC (z:Int):List Int→List AV→List AV
 | [],cs=>cs
 | k::l,cs=>fillC z l (cs.set k.toNat (I z))
@[simp] theorem fillC_len (z:Int):∀(l:List Int) (cs:List AV),(fillC z l cs).length=cs.length
 | [],_=>rfl
 | k::l,cs=>by simp[fillC,fillC_len z l]
theorem fillC_get (z:Int):∀(l:List Int) (cs:List AV) (j:Nat),(∀k∈l,0≤k)→(fillC z l cs)[j]?=if (j:Int)∈l then cs[j]?.map (fun _=>I z) else cs[j]?
 | [],cs,j,_=>by simp[fillC]
 | k::l,cs,j,h=>by
  have h0:=h k List.mem_cons_self
  show (fillC z l (cs.set k.toNat (I z)))[j]?=_
  rw[fillC_get z l _ j fun q hq=>h q (List.mem_cons_of_mem _ hq)]
  by_cases hk:k.toNat=j
  ·have hj:(j:Int)=k:=by omega
   subst hk
   have hm:((k.toNat:Nat):Int)∈k::l:=by rw[hj];exact List.mem_cons_self
   rw[if_pos hm,List.getElem?_set_self']
   cases cs[k.toNat]?<;>simp
  ·have hj:(j:Int)≠k:=by omega
   rw[List.getElem?_set_ne hk]
   simp[hj]
abbrev kp13:List Nat:=[2,7,8,9,11,33,37,38,39]
theorem fill_rd {C:Orc}{lk lim L p rb k b N:Nat}{z:Int}{c0 c1 c3 v2 v8 v11 v33 v37 v38 v39:AV}{cs:List AV}{h:Heap}{K:Heap→Prop}{e0:Env}(he:e0=[(57,.hp L 0 0),(2,v2),(7,.hp p 4 0),(8,v8),(9,I z),(11,v11),(33,v33),(37,v37),(38,v38),(39,v39)])
  (hp:h[p]?=some (.cells [c0,c1,.hs rb cs.length 0 cs.length 1,c3])) (hx:h[rb]?=some (.cells cs)) (hk:k<cs.length) (hlk:lk≤rb) (hK:okM (h.set rb (.cells (cs.set k (I z)))) b N L=true∧K (h.set rb (.cells (cs.set k (I z))))):
  WB ⟨C,lk,lim,[]⟩ t13R1 (RmE (57::kp13) e0 b N L K) ((60,.tup [I k,.agg []])::e0) h:=by
 subst he
 have hkm:(k:Int)<(cs.length:Int):=by omega
 have hk1:k+1≤cs.length:=hk
 have hrl:rb<h.length:=(List.getElem?_eq_some_iff.1 hx).1
 have hpl:p<h.length:=(List.getElem?_eq_some_iff.1 hp).1
 have hr:replaceAt cs k [I z]=cs.set k (I z):=replaceAt_one _ hk
 unfold t13R1
 simp[hp,hx,hk,hkm,hk1,hlk,setH,hr]
 refine⟨?_,hK⟩
 simp[restrict,find]
theorem fill_rounds {C:Orc}{lk lim L p rb b:Nat}{z:Int}{c0 c1 c3 v2 v8 v11 v33 v37 v38 v39:AV}{l0:List Int}{K:Heap→Prop}{e0:Env}(he:e0=[(57,.hp L 0 0),(2,v2),(7,.hp p 4 0),(8,v8),(9,I z),(11,v11),(33,v33),(37,v37),(38,v38),(39,v39)])(hlk:lk≤rb)(hpr:p≠rb)(hL:L≠rb){n:Nat}:
  ∀(l:List Int) {cs:List AV} {h:Heap},cs.length=n→h[p]?=some (.cells [c0,c1,.hs rb n 0 n 1,c3])→h[rb]?=some (.cells cs)→(∀k∈l,0≤k∧k<(n:Int))→h[b]?=some (.map (sE l0))→h[L]?=some (.cells [])→
   K (h.set rb (.cells (fillC z l cs)))→rmB (WB ⟨C,lk,lim,[]⟩ t13R1) (57::kp13) 60 e0 b l0.length L K (sE l) h
 | [],cs,h,_,_,hx,_,_,_,hK=>by
  rw[show fillC z [] cs=cs from rfl,set_self hx]at hK
  exact hK
 | k::l,cs,h,hn,hp,hx,hl,hb,hLc,hK=>by
  obtain⟨h0,h1⟩:=hl k List.mem_cons_self
  obtain⟨k,rfl⟩:=Int.eq_ofNat_of_zero_le h0
  have hrl:rb<h.length:=(List.getElem?_eq_some_iff.1 hx).1
  have keep:∀{i:Nat} {x:HB} (y:HB),i≠rb→h[i]?=some x→(h.set rb y)[i]?=some x:=fun y hne hi=>by
   rw[List.getElem?_set_ne (Ne.symm hne),hi]
  have notb:b≠rb:=fun e=>by subst e;rw[hx]at hb;cases hb
  have hok:okM (h.set rb (.cells (cs.set k (I z)))) b l0.length L=true:=by
   rw[←sE_len l0]
   exact okM_of (keep _ notb hb) (keep _ hL hLc)
  subst hn
  refine wb_mono (fill_rd (K:=fun h'=>h'=h.set rb (.cells (cs.set k (I z)))) he hp hx (by omega) hlk ⟨hok,rfl⟩) fun x e h' hh=>?_
  cases x with
  | exit id=>exact hh
  | ret=>exact hh
  | nrm=>
   obtain⟨h1,h2,rfl⟩:=hh
   refine⟨h1,h2,?_⟩
   refine fill_rounds he hlk hpr hL l (by simp) (keep _ hpr hp) (List.getElem?_set_self hrl) (fun q hq=>hl q (List.mem_cons_of_mem _ hq)) (keep _ notb hb) (keep _ hL hLc) ?_
   rw[List.set_set]
   exact hK
theorem noBx_inv:∀{env:Env},noBx env=true→Inv [] env
 | [],_=>fun _ h=>nomatch h
 | (t,v)::r,h=>by
  have hv:noBx r=true∧vOk [] t v=true:=by cases v<;>first | exact⟨h,rfl⟩ | (simp[noBx]at h;done)
  intro p hp
  rcases List.mem_cons.1 hp with rfl | hp
  ·exact hv.2
  ·exact noBx_inv hv.1 p hp
theorem rm13 {C:Orc}{n lk lim:Nat}:RmIso (fun e H=>exec C n lk lim t13R1 e H) kp13 (preN 13 57 lk lim) 57 60:=by
 intro env H Hp b es _ hr hrun es1 hp
 obtain⟨hb,⟨l,rfl,hl⟩,hnb,hpre⟩:=rangeOf_get hr
 have hpre:preFill lk (sE l) (restrict kp13 env) H=true:=hpre
 unfold preFill at hpre
 split at hpre
 case h_2=>cases hpre
 rename_i p hp0
 split at hpre
 case h_2=>cases hpre
 rename_i c0 c1 rb g' n' c3 hpc
 simp only[Bool.and_eq_true,Nat.ble_eq]at hpre
 obtain⟨⟨⟨h1,hlk⟩,hkeys⟩,hz,hpb⟩:=hpre
 split at h1
 case h_2=>cases h1
 rename_i cs hcs
 simp only[Bool.and_eq_true,Nat.beq_eq]at h1
 obtain⟨rfl,hn'⟩:=h1
 subst hn'
 split at hz
 case h_2=>cases hz
 rename_i z hz9
 have lt:∀{i:Nat} {x:HB},H[i]?=some x→i<H.length:=fun h=>(List.getElem?_eq_some_iff.1 h).1
 have up:∀{i:Nat} {x:HB},H[i]?=some x→(H++[HB.cells []])[i]?=some x:=fun h=>by rw[List.getElem?_append_left (lt h),h]
 have he:(57,AV.hp H.length 0 0)::restrict kp13 env=[(57,.hp H.length 0 0),(2,find env 2),(7,.hp p 4 0),(8,find env 8),(9,I z),(11,find env 11),(33,find env 33),(37,find env 37),(38,find env 38),(39,find env 39)]:=by
  have e7:find env 7= .hp p 4 0:=hp0
  have e9:find env 9=I z:=hz9
  simp only[restrict,List.map_cons,List.map_nil,e7,e9]
 have hpb:p≠rb:=by
  cases h:Nat.decEq p rb with
  | isTrue h'=>rw[h]at hpb;cases hpb
  | isFalse h'=>exact h'
 have hks:=keysIn_get hkeys
 have hbH:=lt hcs
 have go:∀l1:List Int,(∀k∈l1,k∈l)→∃h,roundsM (fun e H=>exec C n lk lim t13R1 e H) (57::kp13) 60 ((57,.hp H.length 0 0)::restrict kp13 env) b (sE l).length H.length (sE l1) (H++[.cells []])=some h∧h=(H++[HB.cells []]).set rb (.cells (fillC z l1 cs)):=fun l1 hl1=>by
  rw[sE_len]
  exact rounds_wb (S:=⟨C,lk,lim,[]⟩) rfl (noBx_inv (env:=(57,.hp H.length 0 0)::restrict kp13 env) hnb)
   (fill_rounds he hlk hpb (by omega) (l0:=l) l1 rfl (up hpc) (up hcs) (fun k hk=>hks k (hl1 k hk)) (up hb) (by rw[List.getElem?_append_right (Nat.le_refl _)];simp) rfl)
 obtain⟨l1,rfl,hp1⟩:=perm_sE hp
 obtain⟨_,g1,rfl⟩:=go l (fun _ h=>h)
 rw[g1]at hrun
 cases hrun
 obtain⟨_,g2,rfl⟩:=go l1 (fun k h=>hp1.mem_iff.1 h)
 have e:fillC z l1 cs=fillC z l cs:=by
  apply List.ext_getElem?
  intro j
  rw[fillC_get z l1 cs j fun k hk=>(hks k (hp1.mem_iff.1 hk)).1,fillC_get z l cs j fun k hk=>(hks k hk).1]
  simp only[hp1.mem_iff]
 rw[e]at g2
 exact⟨_,_,_,g2,Iso.same rfl fun b' x hx=>.inl hx⟩
end Go.Proofs.Ytnhennjliinplaa
