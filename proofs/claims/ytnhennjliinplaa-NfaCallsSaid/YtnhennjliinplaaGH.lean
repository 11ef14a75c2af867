/- The document's Ends, Rule, Go, Step, Run: walked. -/
import Derived.Test.YtnhennjliinplaaGG
set_option linter.all false
namespace Go.Proofs.Ytnhennjliinplaa
open Go Go.Hm
section
variable {lk lim:Nat}{H:Heap}{N:Nf}{vs:List AV}{sv:AV}{set:List Int}
def f51:AC:=.seq (.regN [5] [kM 49 5,kM 4 49]) .ret
set_option maxRecDepth 20000 in
theorem ends51 (hs:RowI sv set)(hn:set.length≤1000000):callW X A lk lim 51 [nfV N vs,sv] H=some (I (ruleM N.rl set),H):=by
 have hX:X lk lim 51 [nfV N vs,sv] H=none:=noX1 (by decide) (by decide) (by decide)
 refine wb_callB [2] hX A51 rfl (by rcases hs with⟨rfl,_⟩ | rfl<;>simp[argOk]) ?_
 show WB ⟨callW X A,lk,H.length,[2]⟩ t51B _ _ _
 generalize callW X A=C
 generalize hP:FinT [.tmp 4] true H (I (ruleM N.rl set),H)=P
 have fin:∀out,out=ruleM N.rl set→∀env,find env 5=I out→WB ⟨C,lk,H.length,[2]⟩ f51 P env H:=by
  intro out ho env h5
  subst ho
  rw[←hP]
  unfold f51
  simp[restrict,h5,FinT,finish,resOf,resList,resOne,find,frz,below]
 clear hP
 have hloop:∀env,restrict [1,2,5,6] env=[(1,sv),(2,bxV N vs),(5,I (-1)),(6,I 0)]→WB ⟨C,lk,H.length,[2]⟩ (.block 0 (.loop [1,2,5,6] t51L1)) (Fol ⟨C,lk,H.length,[2]⟩ f51 P) env H:=by
  intro env hE
  refine wb_loop (σ:=Nat×Int) (fun z=>[(1,sv),(2,bxV N vs),(5,I z.2),(6,I z.1)]) (fun _=>H) (fun z=>z.1≤set.length∧(set.drop z.1).foldl (ruleS N.rl) z.2=ruleM N.rl set) (fun z=>set.length-z.1) ?_ (0,-1) ⟨Nat.zero_le _,rfl⟩ hE rfl
  rintro⟨i,out⟩ ⟨hi,ho⟩
  dsimp only at hi ho ⊢
  unfold t51L1
  generalize hR:Rnd _ _ _ _ _ _ _=R
  by_cases hk:i<set.length
  case neg=>
   obtain rfl:i=set.length:=by omega
   rw[List.drop_length]at ho
   have hx:∀env,find env 5=I out→R (.exit 0) env H:=fun env h=>by
    rw[←hR]
    exact fin out ho _ h
   rcases hs with⟨rfl,rfl⟩ | rfl
   ·simp
    exact hx _ rfl
   ·simp
    exact hx _ rfl
  obtain⟨k,hki⟩:=get_of hk
  obtain rfl:=hs.sl (by omega)
  rw[List.drop_eq_getElem_cons hk,get_some hki hk]at ho
  have ho:(set.drop (i+1)).foldl (ruleS N.rl) (ruleS N.rl out k)=ruleM N.rl set:=ho
  have hii:=get_some (ints_at hki) (by rw[ints_len];exact hk)
  have w:IntKind.i64.wrap ((i:Int)+1)=(i:Int)+1:=wrap64 (by omega) (by omega)
  have next:∀out',ruleS N.rl out k=out'→∀env,restrict [1,2,5,6] env=[(1,.sl set.length (ints set)),(2,bxV N vs),(5,I out'),(6,I ((i+1:Nat):Int))]→R .nrm env H:=by
   intro out' h1 env h3
   rw[←hR,rnd_nrm]
   exact⟨(i+1,out'),⟨hk,by rw[←h1];exact ho⟩,by show set.length-(i+1)<set.length-i;omega,h3,rfl⟩
  clear hR ho fin hE
  by_cases hk0:k<0
  ·have hrs:ruleS N.rl out k=out:=by unfold ruleS;rw[if_neg (by omega)]
   have hk1:¬0≤k:=by omega
   simp[hk,hii,hk1,w]
   exact next out hrs _ rfl
  have hk1:0≤k:=by omega
  by_cases hkn:(N.rl.length:Int)≤k
  ·have hrs:ruleS N.rl out k=out:=by unfold ruleS;rw[if_neg (by omega)]
   have hkn2:¬k<(N.rl.length:Int):=by omega
   simp[hk,hii,hk1,hkn2,w]
   exact next out hrs _ rfl
  obtain⟨k,rfl⟩:=Int.eq_ofNat_of_zero_le hk1
  have hkl:k<N.rl.length:=by omega
  have hkn2:(k:Int)<(N.rl.length:Int):=by omega
  obtain⟨r,hrk⟩:=get_of hkl
  have hrr:=get_some (ints_at hrk) (by rw[ints_len];exact hkl)
  have hgd:N.rl.getD k 0=r:=by rw[List.getD_eq_getElem?_getD,hrk];rfl
  have hrs:ruleS N.rl out k=if 0≤r∧(out<0∨r<out) then r else out:=by
   unfold ruleS;rw[if_pos (by omega),Int.toNat_natCast,hgd]
  clear hrk hgd
  by_cases h1:0≤r
  ·by_cases h2:out<0
   ·rw[if_pos ⟨h1,.inl h2⟩]at hrs
    simp[hk,hii,hk1,hkn2,hkl,hrr,h1,h2,w]
    exact next r hrs _ rfl
   ·by_cases h3:r<out
    ·rw[if_pos ⟨h1,.inr h3⟩]at hrs
     simp[hk,hii,hk1,hkn2,hkl,hrr,h1,h2,h3,w]
     exact next r hrs _ rfl
    ·rw[if_neg (by omega)]at hrs
     simp[hk,hii,hk1,hkn2,hkl,hrr,h1,h2,h3,w]
     exact next out hrs _ rfl
  ·rw[if_neg (by omega)]at hrs
   simp[hk,hii,hk1,hkn2,hkl,hrr,h1,w]
   exact next out hrs _ rfl
 have e51:t51B= .seq (.regN [0,1] [kB 2 3 0,kZ 4]) (.seq (.regN [1,2] [kx 5 (.mv (.con (.val (.int .i64 (-1)))))]) (.seq (.seq (.regN [1,2,5] [kZ 6]) (.block 0 (.loop [1,2,5,6] t51L1))) f51)):=rfl
 rw[e51]
 generalize (.block 0 (.loop [1,2,5,6] t51L1):AC)=LL at hloop ⊢
 generalize f51=F at hloop ⊢
 rcases hs with⟨rfl,rfl⟩ | rfl
 ·simp
  exact hloop _ rfl
 ·simp
  exact hloop _ rfl
theorem rule29 (hN:NfE N vs)(hsz:SzOk N)(hs:RowI sv set)(hn:set.length≤1000000):callW X A lk lim 29 [nfV N vs,sv] H=some (I (if chkF N then ruleM N.rl set else -1),H):=by
 have hX:X lk lim 29 [nfV N vs,sv] H=none:=noX1 (by decide) (by decide) (by decide)
 refine wb_callB [2] hX A29 rfl (by rcases hs with⟨rfl,_⟩ | rfl<;>simp[argOk]) ?_
 show WB ⟨callW X A,lk,H.length,[2]⟩ t29B _ _ _
 have h27:=check27 (lk:=lk) (lim:=H.length) (H:=H) hN hsz
 have h51:=ends51 (lk:=lk) (lim:=H.length) (H:=H) (N:=N) (vs:=vs) hs hn
 generalize callW X A=C at h27 h51 ⊢
 unfold t29B
 cases hc:chkF N<;>rw[hc]at h27
 ·rw[if_neg (by decide)]at h27 ⊢
  rcases hs with⟨rfl,rfl⟩ | rfl<;>simp[h27]
 ·rw[if_pos rfl]at h27 ⊢
  rcases hs with⟨rfl,rfl⟩ | rfl<;>simp[h27,h51]
end
end Go.Proofs.Ytnhennjliinplaa

namespace Go.Proofs.Ytnhennjliinplaa
open Go Go.Hm
theorem mk_mks {env:Env}{l:AO}{b n es bytes:Nat}{z:List AV}(h:ev env l=I (n:Int))(hz:z.length=es)(hr:n*bytes≤room):mkOp (.mks es bytes z l) env b=some (.hs b (n*es) 0 n es,.cells (repl n z)):=by
 have h2:(n:Int)*(bytes:Int)≤(room:Int):=by
  have:=Int.ofNat_le.2 hr
  simpa using this
 simp only[mkOp,h]
 rw[if_pos ⟨Int.natCast_nonneg n,h2,hz⟩]
 simp
def bF (k:Nat)(hit:List Int):List Bool:=(List.range k).map fun (j:Nat)=>decide ((j:Int)∈hit)
theorem bF_len (k:Nat)(hit:List Int):(bF k hit).length=k:=by simp[bF]
theorem bF_get {k j:Nat}(hit:List Int)(h:j<k):(bF k hit)[j]?=some (decide ((j:Int)∈hit)):=by
 unfold bF
 rw[List.getElem?_map,List.getElem?_range h];rfl
theorem bF_set {k t:Nat}(hit:List Int)(h:t<k):(bF k hit).set t true=bF k (addI hit t):=by
 apply List.ext_getElem?
 intro j
 by_cases hj:j<k
 ·rw[bF_get _ hj]
  by_cases e:t=j
  ·subst e
   rw[List.getElem?_set_self (by rw[bF_len];exact h)]
   simp[mem_addI]
  ·rw[List.getElem?_set_ne e,bF_get _ hj]
   have:((j:Int)∈addI hit t)↔(j:Int)∈hit:=by
    rw[mem_addI]
    constructor
    ·rintro (h | h)
     ·exact h
     ·omega
    ·exact .inl
   simp[this]
 ·rw[List.getElem?_eq_none (by rw[List.length_set,bF_len];omega),List.getElem?_eq_none (by rw[bF_len];omega)]
theorem bF_rep {k t:Nat}(hit:List Int)(h:t<k):replaceAt (bools (bF k hit)) t [Bo true]=bools (bF k (addI hit t)):=by
 rw[replaceAt_one _ (by rw[bools_len,bF_len];exact h),bools_set,bF_set _ h]
theorem bF_nil (k:Nat):repl k [Bo false]=bools (bF k []):=by
 have:∀n,repl n [Bo false]=List.replicate n (Bo false):=fun n=>by
  induction n with
  | zero=>rfl
  | succ n ih=>
   show [Bo false]++repl n [Bo false]=_
   rw[ih];rfl
 rw[this]
 apply List.ext_getElem?
 intro j
 rw[bools_get,List.getElem?_replicate]
 by_cases hj:j<k
 ·rw[bF_get _ hj,if_pos hj];simp
 ·rw[if_neg hj,List.getElem?_eq_none (by rw[bF_len];omega)];rfl
def oF (hit:List Int):Nat→List Int
 | 0=>[]
 | i+1=>if (i:Int)∈hit then oF hit i++[(i:Int)] else oF hit i
theorem mem_oF {hit:List Int}{z:Int}:∀{i:Nat},z∈oF hit i↔z∈hit∧0≤z∧z<(i:Int)
 | 0=>by
  constructor
  ·intro h;cases h
  ·rintro⟨_,h1,h2⟩;exact absurd h2 (by simpa using h1)
 | i+1=>by
  simp only[oF]
  split
  ·rename_i h
   rw[List.mem_append,mem_oF (i:=i),List.mem_singleton]
   constructor
   ·rintro (h1 | h1)
    ·exact⟨h1.1,h1.2.1,by omega⟩
    ·subst h1;exact⟨h,by omega,by omega⟩
   ·rintro⟨h1,h2,h3⟩
    by_cases e:z=i
    ·exact .inr e
    ·exact .inl ⟨h1,h2,by omega⟩
  ·rename_i h
   rw[mem_oF (i:=i)]
   constructor
   ·rintro⟨h1,h2,h3⟩;exact⟨h1,h2,by omega⟩
   ·rintro⟨h1,h2,h3⟩
    refine⟨h1,h2,?_⟩
    have:z≠i:=fun e=>h (e▸h1)
    omega
theorem up_oF {hit:List Int}:∀(i:Nat),UpI (oF hit i)
 | 0=>List.Pairwise.nil
 | i+1=>by
  simp only[oF]
  split
  ·refine List.pairwise_append.2 ⟨up_oF i,List.pairwise_singleton _ _,fun a ha b hb=>?_⟩
   have:=(mem_oF.1 ha).2.2
   simp at hb
   omega
  ·exact up_oF i
theorem oF_norm {hit:List Int}{k:Nat}(h:InB k hit):oF hit k=normI hit:=up_extI (up_oF k) (up_normI _) fun x=>by
 rw[mem_oF,mem_normI]
 exact⟨fun h=>h.1,fun hx=>⟨hx,h x hx⟩⟩
theorem oF_len {hit:List Int}:∀(i:Nat),(oF hit i).length≤i
 | 0=>Nat.le_refl _
 | i+1=>by
  have:=oF_len (hit:=hit) i
  simp only[oF]
  split
  ·simp;omega
  ·omega
def rowN (l:List Int):AV:=if l=[] then .e0 else .sl l.length (ints l)
theorem rowN_I (l:List Int):RowI (rowN l) l:=by
 unfold rowN
 split
 ·rename_i h;exact .inl ⟨rfl,h⟩
 ·exact .inr rfl
section
variable {lk lim:Nat}{H:Heap}{N:Nf}{vs:List AV}{sv lv:AV}{l set hit:List Int}{b i n:Nat}{C:Orc}{Q:Ex→Kt}{E:Env}
set_option maxRecDepth 20000 in
theorem go_in (hN:NfE N vs)(hi:i<N.nx.length)(hlv:vs[i]?=some lv)(hl:RowI lv l)(hln:l.length≤1000000)(hin:InB N.k l)(hlk:lk≤H.length)(hC:∀a b' c d (Z:Heap),C lk H.length 19 [.agg [U a,U b',U c,U d],.val (.int .u8 b)] Z=some (Bo (hasC [U a,U b',U c,U d] b),Z))
  (hE:restrict [1,2,3,7,8,9,10] E=[(1,sv),(2,.val (.int .u8 b)),(3,bxV N vs),(7,.hs H.length N.k 0 N.k 1),(8,I n),(9,lv),(10,I 0)])
  (hQ:∀E',restrict [1,2,3,7,8] E'=[(1,sv),(2,.val (.int .u8 b)),(3,bxV N vs),(7,.hs H.length N.k 0 N.k 1),(8,I n)]→Q .nrm E' (H++[.cells (bools (bF N.k (l.foldl (hitI N.cl b) hit)))])):
  WB ⟨C,lk,H.length,[3]⟩ (.block 2 (.loop [1,2,3,7,8,9,10] t50L1)) Q E (H++[.cells (bools (bF N.k hit))]):=by
 refine wb_loop (σ:=Nat×List Int) (fun z=>[(1,sv),(2,.val (.int .u8 b)),(3,bxV N vs),(7,.hs H.length N.k 0 N.k 1),(8,I n),(9,lv),(10,I z.1)]) (fun z=>H++[.cells (bools (bF N.k z.2))])
  (fun z=>z.1≤l.length∧(l.drop z.1).foldl (hitI N.cl b) z.2=l.foldl (hitI N.cl b) hit) (fun z=>l.length-z.1) ?_ (0,hit) ⟨Nat.zero_le _,rfl⟩ hE rfl
 rintro⟨j,ht⟩ ⟨hj,hf⟩
 dsimp only at hj hf ⊢
 unfold t50L1
 generalize hP:Rnd _ _ _ _ _ _ _=P
 by_cases hk:j<l.length
 case neg=>
  obtain rfl:j=l.length:=by omega
  rw[List.drop_length]at hf
  have hf:ht=l.foldl (hitI N.cl b) hit:=hf
  rw[←hf]at hQ
  rcases hl with⟨rfl,rfl⟩ | rfl
  ·simp
   rw[←hP]
   exact hQ _ rfl
  ·simp
   rw[←hP]
   exact hQ _ rfl
 obtain⟨t,htj⟩:=get_of hk
 obtain rfl:=hl.sl (by omega)
 have ht2:=hin t (List.mem_of_getElem? htj)
 obtain⟨t,rfl⟩:=Int.eq_ofNat_of_zero_le ht2.1
 have htk:t<N.k:=by omega
 have htk2:(t:Int)<(N.k:Int):=ht2.2
 rw[List.drop_eq_getElem_cons hk,get_some htj hk]at hf
 have hf:(l.drop (j+1)).foldl (hitI N.cl b) (hitI N.cl b ht t)=l.foldl (hitI N.cl b) hit:=hf
 have hii:=get_some (ints_at htj) (by rw[ints_len];exact hk)
 have w:IntKind.i64.wrap ((j:Int)+1)=(j:Int)+1:=wrap64 (by omega) (by omega)
 obtain⟨a0,a1,a2,a3,hcl,h4⟩:=cls_at hN.lc hN.u htk
 have hCc:=hC a0 a1 a2 a3 (H++[.cells (bools (bF N.k ht))])
 have hrep:=bF_rep ht htk
 have hbl:(bools (bF N.k ht)).length=N.k:=by rw[bools_len,bF_len]
 have hval:hitI N.cl b ht t=if hasC [U a0,U a1,U a2,U a3] b=true then addI ht t else ht:=by unfold hitI;rw[Int.toNat_natCast,hcl]
 obtain⟨B,hB⟩:∃B,bools (bF N.k ht)=B:=⟨_,rfl⟩
 rw[hB]at hrep hbl hCc ⊢
 have htk1:t+1≤N.k:=htk
 cases hc:hasC [U a0,U a1,U a2,U a3] b with
 | true=>
  rw[hc]at hCc hval
  rw[if_pos rfl]at hval
  simp[-wi_st,hk,hii,htk,htk2,hcl,h4,hCc]
  rw[wi_st]
  simp[setH,hlk,hbl,hrep,htk,htk1,w]
  rw[←hP,rnd_nrm]
  exact⟨(j+1,addI ht t),⟨hk,by rw[←hval];exact hf⟩,by show l.length-(j+1)<l.length-j;omega,rfl,rfl⟩
 | false=>
  rw[hc]at hCc hval
  rw[if_neg (by decide)]at hval
  simp[hk,hii,htk,htk2,hcl,h4,hCc,w]
  rw[←hP,rnd_nrm]
  exact⟨(j+1,ht),⟨hk,by rw[←hval];exact hf⟩,by show l.length-(j+1)<l.length-j;omega,rfl,by rw[←hB]⟩
set_option maxRecDepth 20000 in
theorem go_set (hN:NfE N vs)(hs:RowI sv set)(hn:set.length≤1000000)(hx:∀l∈N.nx,InB N.k l∧l.length≤1000000)(hkk:N.nx.length=N.k)(hlk:lk≤H.length)(hC:∀a b' c d (Z:Heap),C lk H.length 19 [.agg [U a,U b',U c,U d],.val (.int .u8 b)] Z=some (Bo (hasC [U a,U b',U c,U d] b),Z))
  (hE:restrict [1,2,3,7,8] E=[(1,sv),(2,.val (.int .u8 b)),(3,bxV N vs),(7,.hs H.length N.k 0 N.k 1),(8,I 0)])
  (hQ:∀E',restrict [7] E'=[(7,.hs H.length N.k 0 N.k 1)]→Q .nrm E' (H++[.cells (bools (bF N.k (set.foldl (hitS N b) [])))])):
  WB ⟨C,lk,H.length,[3]⟩ (.block 0 (.loop [1,2,3,7,8] t50L2)) Q E (H++[.cells (bools (bF N.k []))]):=by
 refine wb_loop (σ:=Nat×List Int) (fun z=>[(1,sv),(2,.val (.int .u8 b)),(3,bxV N vs),(7,.hs H.length N.k 0 N.k 1),(8,I z.1)]) (fun z=>H++[.cells (bools (bF N.k z.2))])
  (fun z=>z.1≤set.length∧(set.drop z.1).foldl (hitS N b) z.2=set.foldl (hitS N b) []) (fun z=>set.length-z.1) ?_ (0,[]) ⟨Nat.zero_le _,rfl⟩ hE rfl
 rintro⟨i,hit⟩ ⟨hi,ho⟩
 dsimp only at hi ho ⊢
 generalize hP:Rnd _ _ _ _ _ _ _=P
 by_cases hk:i<set.length
 case neg=>
  obtain rfl:i=set.length:=by omega
  rw[List.drop_length]at ho
  have ho:hit=set.foldl (hitS N b) []:=ho
  rw[←ho]at hQ
  unfold t50L2
  rcases hs with⟨rfl,rfl⟩ | rfl
  ·simp
   rw[←hP]
   exact hQ _ rfl
  ·simp
   rw[←hP]
   exact hQ _ rfl
 obtain⟨k,hki⟩:=get_of hk
 obtain rfl:=hs.sl (by omega)
 rw[List.drop_eq_getElem_cons hk,get_some hki hk]at ho
 have ho:(set.drop (i+1)).foldl (hitS N b) (hitS N b hit k)=set.foldl (hitS N b) []:=ho
 have hii:=get_some (ints_at hki) (by rw[ints_len];exact hk)
 have w:IntKind.i64.wrap ((i:Int)+1)=(i:Int)+1:=wrap64 (by omega) (by omega)
 have next:∀hit',hitS N b hit k=hit'→∀env,restrict [1,2,3,7,8] env=[(1,.sl set.length (ints set)),(2,.val (.int .u8 b)),(3,bxV N vs),(7,.hs H.length N.k 0 N.k 1),(8,I ((i+1:Nat):Int))]→P .nrm env (H++[.cells (bools (bF N.k hit'))]):=by
  intro hit' h1 env h3
  rw[←hP,rnd_nrm]
  exact⟨(i+1,hit'),⟨hk,by rw[←h1];exact ho⟩,by show set.length-(i+1)<set.length-i;omega,h3,rfl⟩
 clear hP ho hE
 obtain⟨B,hB⟩:∃B,bools (bF N.k hit)=B:=⟨_,rfl⟩
 by_cases hk0:k<0
 ·have hrs:hitS N b hit k=hit:=by unfold hitS;rw[if_neg (by omega)]
  have next:=next hit hrs
  unfold t50L2
  rw[hB]at next ⊢
  simp[hk,hii,hk0,w]
  exact next _ rfl
 by_cases hkn:(N.k:Int)≤k
 ·have hrs:hitS N b hit k=hit:=by unfold hitS;rw[if_neg (by omega)]
  have next:=next hit hrs
  unfold t50L2
  rw[hB]at next ⊢
  simp[hk,hii,hk0,hkn,w]
  exact next _ rfl
 obtain⟨k,rfl⟩:=Int.eq_ofNat_of_zero_le (by omega:0≤k)
 have hkl:k<N.nx.length:=by omega
 have hkl2:(k:Int)<(N.nx.length:Int):=by omega
 obtain⟨l,hll⟩:=get_of hkl
 obtain⟨lv,hlv,hrow⟩:=hN.v k l hll
 obtain⟨hin,hlen⟩:=hx l (List.mem_of_getElem? hll)
 have hrs:hitS N b hit k=l.foldl (hitI N.cl b) hit:=by
  unfold hitS;rw[if_pos (by omega),Int.toNat_natCast,List.getD_eq_getElem?_getD,hll];rfl
 have fin2:∀E,restrict [1,2,3,7,8,9,10] E=[(1,.sl set.length (ints set)),(2,.val (.int .u8 b)),(3,bxV N vs),(7,.hs H.length N.k 0 N.k 1),(8,I i),(9,lv),(10,I 0)]→WB ⟨C,lk,H.length,[3]⟩ (.block 2 (.loop [1,2,3,7,8,9,10] t50L1)) (BlkE 1 (Fol ⟨C,lk,H.length,[3]⟩ (.regN [1,2,3,7,8] [kM 21 8,kU 22 21,kM 8 22]) P)) E (H++[.cells (bools (bF N.k hit))]):=fun E hE=>
  go_in hN hkl hlv hrow hlen hin hlk hC hE fun E' hE'=>by
   rw[blk_nrm,fol_nrm,wb_regN,hE']
   simp[w]
   exact next _ hrs _ rfl
 rw[hB]at fin2 ⊢
 unfold t50L2
 generalize hLL:AC.block 2 (.loop [1,2,3,7,8,9,10] t50L1)=LL at fin2 ⊢
 rcases hrow with⟨rfl,rfl⟩ | rfl
 ·simp[hk,hii,hk0,hkn,hkl,hkl2,hlv]
  exact fin2 _ rfl
 ·simp[hk,hii,hk0,hkn,hkl,hkl2,hlv]
  exact fin2 _ rfl
def oV (L:Nat)(o:List Int):AV:=if o=[] then .e0 else .hs L o.length 0 o.length 1
def oH (H:Heap)(o:List Int):Heap:=if o=[] then H else H++[.cells (ints o)]
set_option maxRecDepth 20000 in
theorem go_out {k:Nat}(hk1:k≤1000000)(hH:H[n]?=some (.cells (bools (bF k hit))))(hnl:n<H.length)(hlk:lk≤H.length)(hlim:lim≤H.length)
  (hE:restrict [7,11,12] E=[(7,.hs n k 0 k 1),(11,.e0),(12,I 0)])
  (hQ:∀E',restrict [11] E'=[(11,oV H.length (oF hit k))]→Q .nrm E' (oH H (oF hit k))):
  WB ⟨C,lk,lim,[3]⟩ (.block 4 (.loop [7,11,12] t50L3)) Q E H:=by
 refine wb_loop (σ:=Nat) (fun i=>[(7,.hs n k 0 k 1),(11,oV H.length (oF hit i)),(12,I i)]) (fun i=>oH H (oF hit i)) (fun i=>i≤k) (fun i=>k-i) ?_ 0 (Nat.zero_le _) hE rfl
 intro i hi
 generalize hP:Rnd _ _ _ _ _ _ _=P
 have hHo:(oH H (oF hit i))[n]?=some (.cells (bools (bF k hit))):=by
  unfold oH
  split
  ·exact hH
  ·rw[List.getElem?_append_left hnl,hH]
 unfold t50L3
 by_cases hk:i<k
 case neg=>
  obtain rfl:i=k:=by omega
  have hfin:∀env,restrict [11] env=[(11,oV H.length (oF hit i))]→P (.exit 4) env (oH H (oF hit i)):=fun env h=>by
   rw[←hP]
   exact hQ _ h
  unfold oV at hfin ⊢
  split<;>rename_i h
  ·rw[if_pos h]at hfin
   simp
   exact hfin _ rfl
  ·rw[if_neg h]at hfin
   simp
   exact hfin _ rfl
 have hbl:(bools (bF k hit)).length=k:=by rw[bools_len,bF_len]
 have hbi:=bF_get hit hk
 have hbb:(bools (bF k hit))[i]?=some (Bo (decide ((i:Int)∈hit))):=by rw[bools_get,hbi];rfl
 have hbe:=get_some hbb (by rw[hbl];exact hk)
 have w:IntKind.i64.wrap ((i:Int)+1)=(i:Int)+1:=wrap64 (by omega) (by omega)
 have next:∀env,restrict [7,11,12] env=[(7,.hs n k 0 k 1),(11,oV H.length (oF hit (i+1))),(12,I ((i+1:Nat):Int))]→P .nrm env (oH H (oF hit (i+1))):=fun env h=>by
  rw[←hP,rnd_nrm]
  exact⟨i+1,hk,by omega,h,rfl⟩
 clear hP hE hQ
 have hol:=oF_len (hit:=hit) i
 have hr:room=140737488355328:=rfl
 have r1:(1:Nat)*8≤room:=by omega
 have r2:((oF hit i).length+1)*8≤room:=by omega
 clear hr
 generalize bools (bF k hit)=B at hHo hbl hbb hbe
 have hi1:i+1≤k:=hk
 by_cases hm:(i:Int)∈hit
 ·rw[decide_eq_true hm]at hbb hbe
  have e:oF hit (i+1)=oF hit i++[(i:Int)]:=by simp only[oF];rw[if_pos hm]
  rw[e]at next
  have hne:¬oF hit i++[(i:Int)]=[]:=by simp
  generalize oF hit i=o at *
  unfold oV oH at next
  rw[if_neg hne,if_neg hne]at next
  by_cases ho:o=[]
  ·subst ho
   have hHo:H[n]?=some (.cells B):=hHo
   show WB _ _ _ [(7,.hs n k 0 k 1),(11,.e0),(12,I i)] H
   simp[hk,hHo,hbl,hbb,hbe,hi1,srcCells,r1,w]
   exact next _ rfl
  ·have h0:¬o.length=0:=fun e=>ho (List.length_eq_zero_iff.1 e)
   unfold oV oH at *
   rw[if_neg ho]at hHo ⊢
   rw[if_neg ho]
   have hset:setH lk lim 0 (H++[HB.cells (ints o)]) H.length (ints o++[I i]) [I i]=some (H++[HB.cells (ints o++[I i])]):=by
    unfold setH
    rw[if_pos ⟨hlk,.inl hlim,.inl (Nat.zero_le _)⟩,set_last]
   simp[hk,hHo,hbl,hbb,hbe,hi1,srcCells,r2,appC,appG,hset,w]
   rw[List.length_append,ints_app]at next
   exact next _ rfl
 ·rw[decide_eq_false hm]at hbb hbe
  have e:oF hit (i+1)=oF hit i:=by simp only[oF];rw[if_neg hm]
  rw[e]at next
  generalize oF hit i=o at *
  by_cases ho:o=[]
  ·subst ho
   have hHo:H[n]?=some (.cells B):=hHo
   show WB _ _ _ [(7,.hs n k 0 k 1),(11,.e0),(12,I i)] H
   simp[hk,hHo,hbl,hbb,hbe,hi1,w]
   exact next _ rfl
  ·unfold oV oH at *
   rw[if_neg ho]at hHo next ⊢
   rw[if_neg ho]at next ⊢
   simp[hk,hHo,hbl,hbb,hbe,hi1,w]
   exact next _ rfl
end
end Go.Proofs.Ytnhennjliinplaa

namespace Go.Proofs.Ytnhennjliinplaa
open Go Go.Hm
section
variable {lk lim:Nat}{H:Heap}{N:Nf}{vs:List AV}{sv:AV}{set:List Int}{b:Nat}
theorem e50:t50B= .seq (.regN [0,1,2] [kB 3 3 0,kx 6 (.mv (.con .e0))]) (.seq (.regN [1,2,3] [kF 13 0 3,kS 14 3 13,kN 15 14,kx 16 (.mks 1 1 [(.val (.bool false))] (ux 15)),kM 7 16]) (.seq (.seq (.regN [1,2,3,7] [kZ 8]) (.block 0 (.loop [1,2,3,7,8] t50L2))) (.seq (.regN [7] [kx 11 (.mv (.con .e0))]) (.seq (.seq (.regN [7,11] [kZ 12]) (.block 4 (.loop [7,11,12] t50L3))) (.seq (.regN [11] [kM 82 11,kM 6 82]) .ret))))):=rfl
set_option maxRecDepth 20000 in
theorem go50 (hN:NfE N vs)(hs:RowI sv set)(hn:set.length≤1000000)(hx:∀l∈N.nx,InB N.k l∧l.length≤1000000)(hkk:N.nx.length=N.k)(hk:N.k≤1000000)(hb:b≤255)(hlk:lk≤H.length):
  callW X A lk lim 50 [nfV N vs,sv,.val (.int .u8 b)] H=some (rowN (stepM N set b),H):=by
 have hX:X lk lim 50 [nfV N vs,sv,.val (.int .u8 b)] H=none:=noX1 (by decide) (by decide) (by decide)
 refine wb_callB [3] hX A50 rfl (by rcases hs with⟨rfl,_⟩ | rfl<;>simp[argOk]) ?_
 show WB ⟨callW X A,lk,H.length,[3]⟩ t50B _ _ _
 have h19:∀a b' c d (Z:Heap),callW X A lk H.length 19 [.agg [U a,U b',U c,U d],.val (.int .u8 b)] Z=some (Bo (hasC [U a,U b',U c,U d] b),Z):=fun a b' c d Z=>has19 hb
 generalize callW X A=C at h19 ⊢
 obtain⟨hi0,hnd0⟩:=in_hitS (b:=b) (fun l h=>(hx l h).1) set [] in_nil List.nodup_nil
 have ho:=oF_norm hi0
 have hst:normI (set.foldl (hitS N b) [])=stepM N set b:=rfl
 rw[hst]at ho
 generalize hP:FinT [.tmp 6] true H (rowN (stepM N set b),H)=P
 obtain⟨H1,hH1⟩:∃H1,H++[HB.cells (bools (bF N.k (set.foldl (hitS N b) [])))]=H1:=⟨_,rfl⟩
 have hl1:H1.length=H.length+1:=by rw[←hH1];simp
 have hg1:H1[H.length]?=some (.cells (bools (bF N.k (set.foldl (hitS N b) [])))):=by rw[←hH1];simp
 have ht1:∀x:Heap,(H1++x).take H.length=H:=fun x=>by rw[←hH1,List.append_assoc];simp
 have hfin:∀env,restrict [11] env=[(11,oV H1.length (stepM N set b))]→WB ⟨C,lk,H.length,[3]⟩ (.seq (.regN [11] [kM 82 11,kM 6 82]) .ret) P env (oH H1 (stepM N set b)):=fun env hE=>by
  rw[wb_seq,wb_regN,hE,←hP]
  have hbe:=bel_i H.length (stepM N set b)
  have hfz:=frz_i H.length (oH H1 (stepM N set b))
  generalize stepM N set b=o at hbe hfz ⊢
  unfold oV rowN
  by_cases h0:o=[]
  ·subst h0
   have ht:H1.take H.length=H:=by have:=ht1 [];simpa using this
   simp[oH,FinT,finish,resOf,resList,resOne,find,frz,below,ht]
  ·have h1:(oH H1 o)[H1.length]?=some (.cells (ints o)):=by unfold oH;rw[if_neg h0];simp
   have ht:(oH H1 o).take H.length=H:=by unfold oH;rw[if_neg h0];exact ht1 _
   have h9:¬H1.length<H.length:=by omega
   simp[h0]
   simp[FinT,finish,resOf,resList,resOne,find,frz,slCells,h1,h9,hfz,below,belowL,hbe,ht]
 have hl2:∀env,restrict [7,11,12] env=[(7,.hs H.length N.k 0 N.k 1),(11,.e0),(12,I 0)]→WB ⟨C,lk,H.length,[3]⟩ (.block 4 (.loop [7,11,12] t50L3)) (Fol ⟨C,lk,H.length,[3]⟩ (.seq (.regN [11] [kM 82 11,kM 6 82]) .ret) P) env H1:=fun env hE=>
  go_out hk hg1 (by omega) (by omega) (by omega) hE fun E' hE'=>by
   rw[fol_nrm]
   rw[ho]at hE' ⊢
   exact hfin E' hE'
 rw[e50]
 generalize (.block 4 (.loop [7,11,12] t50L3):AC)=L4 at hl2 ⊢
 have hl0:∀env,restrict [1,2,3,7,8] env=[(1,sv),(2,.val (.int .u8 b)),(3,bxV N vs),(7,.hs H.length N.k 0 N.k 1),(8,I 0)]→WB ⟨C,lk,H.length,[3]⟩ (.block 0 (.loop [1,2,3,7,8] t50L2)) (Fol ⟨C,lk,H.length,[3]⟩ (.seq (.regN [7] [kx 11 (.mv (.con .e0))]) (.seq (.seq (.regN [7,11] [kZ 12]) L4) (.seq (.regN [11] [kM 82 11,kM 6 82]) .ret))) P) env (H++[.cells (bools (bF N.k []))]):=fun env hE=>
  go_set hN hs hn hx hkk hlk h19 hE fun E' hE'=>by
   rw[fol_nrm,wb_seq,wb_regN,hE',hH1]
   simp
   exact hl2 _ rfl
 generalize (.block 0 (.loop [1,2,3,7,8] t50L2):AC)=L0 at hl0 ⊢
 generalize (.seq (.regN [7] [kx 11 (.mv (.con .e0))]) (.seq (.seq (.regN [7,11] [kZ 12]) L4) (.seq (.regN [11] [kM 82 11,kM 6 82]) .ret)):AC)=T0 at hl0 ⊢
 clear hl2 hfin hst
 have hr:room=140737488355328:=rfl
 have hmk:∀env,ev env (.tmp 15)=I (N.k:Int)→mkOp (.mks 1 1 [Bo false] (.tmp 15)) env H.length=some (.hs H.length N.k 0 N.k 1,.cells (bools (bF N.k []))):=fun env h=>by
  rw[mk_mks (z:=[Bo false]) (es:=1) (n:=N.k) h rfl (by omega),bF_nil,Nat.mul_one]
 have hr1:∀E,restrict [1,2,3] E=[(1,sv),(2,.val (.int .u8 b)),(3,bxV N vs)]→WB ⟨C,lk,H.length,[3]⟩ (.regN [1,2,3] [kF 13 0 3,kS 14 3 13,kN 15 14,kx 16 (.mks 1 1 [(.val (.bool false))] (ux 15)),kM 7 16]) (Fol ⟨C,lk,H.length,[3]⟩ (.seq (.seq (.regN [1,2,3,7] [kZ 8]) L0) T0) P) E H:=fun E hE=>by
  rw[wb_regN,hE]
  rcases hs with⟨rfl,hs0⟩ | rfl
  all_goals
   simp[-wi_mks,-wb_seq,-wb_regN]
   rw[wi_mks,hmk _ rfl]
   simp[-wb_seq,-wb_regN]
   rw[wb_seq,wb_seq,wb_regN]
   simp
   exact hl0 _ rfl
 rw[wb_seq,wb_regN]
 generalize (.regN [1,2,3] [kF 13 0 3,kS 14 3 13,kN 15 14,kx 16 (.mks 1 1 [(.val (.bool false))] (ux 15)),kM 7 16]:AC)=R1 at hr1 ⊢
 rcases hs with⟨rfl,hs0⟩ | rfl
 ·simp
  exact hr1 _ rfl
 ·simp
  exact hr1 _ rfl
noncomputable def stepW (N:Nf)(set:List Int)(b:Nat):AV:=if chkF N then rowN (stepM N set b) else .e0
theorem step28 (hN:NfE N vs)(hsz:SzOk N)(hs:RowI sv set)(hn:set.length≤1000000)(hb:b≤255)(hlk:lk≤H.length):callW X A lk lim 28 [nfV N vs,sv,.val (.int .u8 b)] H=some (stepW N set b,H):=by
 have hX:X lk lim 28 [nfV N vs,sv,.val (.int .u8 b)] H=none:=noX1 (by decide) (by decide) (by decide)
 refine wb_callB [3] hX A28 rfl (by rcases hs with⟨rfl,_⟩ | rfl<;>simp[argOk]) ?_
 show WB ⟨callW X A,lk,H.length,[3]⟩ t28B _ _ _
 have h27:=check27 (lk:=lk) (lim:=H.length) (H:=H) hN hsz
 unfold stepW
 cases hc:chkF N<;>rw[hc]at h27
 ·rw[if_neg (by decide)]at h27 ⊢
  generalize callW X A=C at h27 ⊢
  unfold t28B
  rcases hs with⟨rfl,rfl⟩ | rfl<;>simp[h27]
 ·obtain⟨_,hk,h3,_,hin⟩:=chkF_get hc
  have h50:=go50 (lk:=lk) (lim:=H.length) (H:=H) hN hs hn (fun l hl=>⟨hin l hl,hsz.1 l hl⟩) h3 (by omega) hb hlk
  rw[if_pos rfl]at h27 ⊢
  generalize callW X A=C at h27 h50 ⊢
  unfold t28B
  have hbe:=bel_i H.length (stepM N set b)
  generalize stepM N set b=r at h50 hbe ⊢
  unfold rowN at h50 ⊢
  by_cases h0:r=[]
  ·rw[if_pos h0]at h50 ⊢
   rcases hs with⟨rfl,rfl⟩ | rfl<;>simp[h27,h50,below]
  ·rw[if_neg h0]at h50 ⊢
   rcases hs with⟨rfl,rfl⟩ | rfl<;>simp[h27,h50,below,hbe]
set_option maxRecDepth 20000 in
theorem run30 (hN:NfE N vs)(hsz:SzOk N)(s:List UInt8)(hn:s.length≤1000000)(hlk:lk≤H.length):callW X A lk lim 30 [nfV N vs,Sg s] H=some (I (if chkF N then ruleM N.rl (runM N [0] s) else -1),H):=by
 have hX:X lk lim 30 [nfV N vs,Sg s] H=none:=noX1 (by decide) (by decide) (by decide)
 refine wb_callB [2] hX A30 rfl (by simp[argOk]) ?_
 show WB ⟨callW X A,lk,H.length,[2]⟩ t30B _ _ _
 have h27:=check27 (lk:=lk) (lim:=H.length) (H:=H) hN hsz
 generalize hP:FinT [.tmp 4] true H (I (if chkF N then ruleM N.rl (runM N [0] s) else -1),H)=P
 have fin:∀e env,find env 4=I e→(if chkF N then ruleM N.rl (runM N [0] s) else -1)=e→P .ret env H:=by
  intro e env h2 he
  rw[←hP,he]
  simp[FinT,finish,resOf,resList,resOne,h2,frz,below]
 have hsz1:(⟨⟨s⟩⟩:ByteArray).size=s.length:=rfl
 cases hc:chkF N with
 | false=>
  rw[hc]at h27 fin
  generalize callW X A=C at h27 ⊢
  unfold t30B
  simp[h27]
  exact fin _ _ rfl rfl
 | true=>
  rw[hc]at h27 fin
  obtain⟨_,hk,h3,_,hin⟩:=chkF_get hc
  have h50:∀(sv:AV) (set:List Int) (b:Nat),RowI sv set→set.length≤1000000→b≤255→callW X A lk H.length 50 [nfV N vs,sv,.val (.int .u8 b)] H=some (rowN (stepM N set b),H):=fun sv set b h0 h1 h2=>go50 hN h0 h1 (fun l hl=>⟨hin l hl,hsz.1 l hl⟩) h3 (by omega) h2 hlk
  have h51:∀(sv:AV) (set:List Int),RowI sv set→set.length≤1000000→callW X A lk H.length 51 [nfV N vs,sv] H=some (I (ruleM N.rl set),H):=fun sv set h0 h=>ends51 h0 h
  generalize callW X A=C at h27 h50 h51 ⊢
  have hloop:∀env,restrict [1,2,5,6] env=[(1,Sg s),(2,bxV N vs),(5,.sl 1 [I 0]),(6,I 0)]→WB ⟨C,lk,H.length,[2]⟩ (.block 0 (.loop [1,2,5,6] t30L1)) (Fol ⟨C,lk,H.length,[2]⟩ (.seq (.regN [2,5] [kP 23 2 3 2,kM 24 5,kx 25 (.call 51 [(ux 23),(ux 24)]),kM 4 25]) .ret) P) env H:=by
   intro env hE
   refine wb_loop (σ:=Nat×AV×List Int) (fun z=>[(1,Sg s),(2,bxV N vs),(5,z.2.1),(6,I z.1)]) (fun _=>H) (fun z=>z.1≤s.length∧RowI z.2.1 z.2.2∧z.2.2.length≤1000000∧runM N z.2.2 (s.drop z.1)=runM N [0] s) (fun z=>s.length-z.1) ?_ (0,.sl 1 [I 0],[0]) ⟨Nat.zero_le _,.inr rfl,by simp,rfl⟩ hE rfl
   rintro⟨i,sv,set⟩ ⟨hi,hrw,hsl,hr⟩
   dsimp only at hi hrw hsl hr ⊢
   unfold t30L1
   generalize hR:Rnd _ _ _ _ _ _ _=R
   by_cases hk:i<s.length
   case neg=>
    obtain rfl:i=s.length:=by omega
    rw[List.drop_length]at hr
    have hr:set=runM N [0] s:=hr
    have h4:=h51 sv set hrw hsl
    have hx:∀env,restrict [2,5] env=[(2,bxV N vs),(5,sv)]→R (.exit 0) env H:=fun env hE=>by
     rw[←hR]
     show WB ⟨C,lk,H.length,[2]⟩ (.seq (.regN [2,5] [kP 23 2 3 2,kM 24 5,kx 25 (.call 51 [(ux 23),(ux 24)]),kM 4 25]) .ret) P env H
     rw[wb_seq,wb_regN,hE]
     rcases hrw with⟨rfl,rfl⟩ | rfl
     ·simp[h4]
      exact fin _ _ rfl (by rw[if_pos rfl,←hr])
     ·simp[h4]
      exact fin _ _ rfl (by rw[if_pos rfl,←hr])
    rcases hrw with⟨rfl,rfl⟩ | rfl
    ·simp[hsz1]
     exact hx _ rfl
    ·simp[hsz1]
     exact hx _ rfl
   obtain⟨b,hb⟩:=get_of hk
   rw[List.drop_eq_getElem_cons hk,get_some hb hk]at hr
   have hr:runM N (stepM N set b.toNat) (s.drop (i+1))=runM N [0] s:=hr
   have hb255:b.toNat≤255:=by have:=b.toNat_lt;omega
   have h4:=h50 sv set b.toNat hrw hsl hb255
   have hfew:=(stepM_few hin set b.toNat).2
   have w:IntKind.i64.wrap ((i:Int)+1)=(i:Int)+1:=wrap64 (by omega) (by omega)
   have hbb:(⟨⟨s⟩⟩:ByteArray)[i]?=some b:=by
    rw[Sg_get,hb]
   have hb1:(⟨⟨s⟩⟩:ByteArray)[i]'hk=b:=by
    have h:=hbb
    rw[getElem?_pos (⟨⟨s⟩⟩:ByteArray) i hk]at h
    exact Option.some.inj h
   have hnx:∀env,restrict [1,2,5,6] env=[(1,Sg s),(2,bxV N vs),(5,rowN (stepM N set b.toNat)),(6,I ((i+1:Nat):Int))]→R .nrm env H:=fun env h=>by
    rw[←hR,rnd_nrm]
    exact⟨(i+1,rowN (stepM N set b.toNat),stepM N set b.toNat),⟨hk,rowN_I _,by show (stepM N set b.toNat).length≤1000000;omega,hr⟩,by show s.length-(i+1)<s.length-i;omega,h,rfl⟩
   generalize stepM N set b.toNat=o at h4 hnx
   unfold rowN at h4 hnx
   rcases hrw with⟨rfl,rfl⟩ | rfl<;>split at h4<;>rename_i h0
   all_goals
    first
    | rw[if_pos h0]at hnx
    | rw[if_neg h0]at hnx
    simp[hsz1,hk,hb1,h4,w]
    exact hnx _ rfl
  unfold t30B
  generalize hLL:(.block 0 (.loop [1,2,5,6] t30L1):AC)=LL at hloop ⊢
  simp[h27]
  exact hloop _ rfl
end
end Go.Proofs.Ytnhennjliinplaa
