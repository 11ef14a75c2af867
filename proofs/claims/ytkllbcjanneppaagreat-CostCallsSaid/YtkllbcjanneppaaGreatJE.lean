import Derived.Test.YtkllbcjanneppaaGreatJA
set_option maxRecDepth 20000
set_option linter.all false
namespace Go.Proofs.YtkllbcjanneppaaGreat
open Go Go.Hm

section
variable {C:Orc}{Q:Ex->Kt}{E:Env}{lk L:Nat}{H:Heap}{t gn k:Int}{ps:List Pr}{em:List Bool}{n b i j:Nat}{mo:Bool}{pl:Nat}{pr:List Int}{v:Int}{o:List Int}
def d4 (t gn k:Int)(ps:List Pr)(em:List Bool)(b n:Nat)(e:Env):Env:=(1,.box [I t,I gn,I k,.sl ps.length (psC ps)])::(3,.sl n (bools em))::(4,.hs b n 0 n 1)::e
theorem RC (hE:ab [1,3,4,5,6] E=d4 t gn k ps em b n [(5,Bo mo),(6,I i)])
  (hQ:∀E',find E' 21=Bo (decide (i<ps.length))->ab [1,3,4,5] E'=d4 t gn k ps em b n [(5,Bo mo)]->ab [1,3,4,5,6] E'=d4 t gn k ps em b n [(5,Bo mo),(6,I i)]->Q .nrm E' H):
  WB ⟨C,lk,L,[1]⟩ (.regN [1,3,4,5,6] [ kM 17 6,kF 18 3 1,kS 19 1 18,kN 20 19,kT 21 17 20]) Q E H:=by
 unfold d4 at *;rw[ae,hE];simp;refine hQ _ ?_ ?_ ?_
 ·simp[find]
 ·rfl
 ·rfl
theorem RD (hil:i<ps.length)(hs:(psC ps)[i*2+1]?=some (.sl pr.length (ints pr)))
  (kc:∀K M,C K M 38 [.agg [I t,I gn,I k,.sl ps.length (psC ps)],.sl n (bools em),.hs b n 0 n 1,.sl pr.length (ints pr)] H=some (I v,H)) (hv:IntKind.i64.wrap (1+v)=1+v)
  (hE:ab [1,3,4,5,6] E=d4 t gn k ps em b n [(5,Bo mo),(6,I i)])
  (hQ:∀E',ab [1,3,4,5,6,7] E'=d4 t gn k ps em b n [(5,Bo mo),(6,I i),(7,I (1+v))]->Q .nrm E' H):
  WB ⟨C,lk,L,[1]⟩ (.regD [1,3,4,5,6] 0 [ kP 24 1 4 1,kM 25 3,kM 26 4,kF 27 3 1,kS 28 1 27,kM 29 6,kI 30 2 28 29,kF 31 1 30,kL 32 31,kf 33 (.call 38 [(ux 24),(ux 25),(ux 26),(ux 32)]),kx 34 (.bini .add c1 (ux 33)),kM 7 34]) Q E H:=by
 have hll:=aY ps;have h2:i*2+1<2*ps.length:=by omega
 have hsE:∀h,(psC ps)[i*2+1]'h= .sl pr.length (ints pr):=fun h=>(List.getElem?_eq_some_iff.1 hs).2;unfold d4 at *;rw[aB rfl,hE];simp[hil,hll,h2,hsE,kc,hv];refine hQ _ ?_;rfl
theorem RE (hil:i<ps.length)(hs:(psC ps)[i*2]?=some (I (pl:Nat)))(hb:H[b]?=some (.cells (ints o)))(hn:o.length=n)(hpl:pl<n)
  (hE:ab [1,3,4,5,6,7] E=d4 t gn k ps em b n [(5,Bo mo),(6,I i),(7,I v)])
  (hQ:∀E',find E' 45=Bo (decide (o.getD pl 0<v))->ab [1,3,4,6,7] E'=d4 t gn k ps em b n [(6,I i),(7,I v)]->ab [1,3,4,5,6] E'=d4 t gn k ps em b n [(5,Bo mo),(6,I i)]->Q .nrm E' H):
  WB ⟨C,lk,L,[1]⟩ (.regN [1,3,4,5,6,7] [ kM 35 7,kM 36 4,kF 37 3 1,kS 38 1 37,kM 39 6,kI 40 2 38 39,kF 41 0 40,kL 42 41,kI 43 1 36 42,kL 44 43,kx 45 (.bini .gtr (ux 35) (ux 44))]) Q E H:=by
 have hll:=aY ps;have h2:i*2<2*ps.length:=by omega
 have hsE:∀h,(psC ps)[i*2]'h=I (pl:Nat):=fun h=>(List.getElem?_eq_some_iff.1 hs).2;have hpo:pl<o.length:=by omega
 have hje:∀h,(ints o)[pl]'h=I (o.getD pl 0):=fun h=>by rw[R3,R4 hpo];exact bv hpo h
 have hil2:=aV o;generalize o.getD pl 0=w at *;unfold d4 at *;rw[ae,hE];simp[hil,hll,h2,hsE,hb,hje,hil2,hn,hpl];refine hQ _ ?_ ?_ ?_
 ·simp[find]
 ·rfl
 ·rfl
theorem RF (hil:i<ps.length)(hs:(psC ps)[i*2]?=some (I (pl:Nat)))(hb:H[b]?=some (.cells (ints o)))(hlk:lk<=b)(hn:o.length=n)(hpl:pl<n)
  (hE:ab [1,3,4,6,7] E=d4 t gn k ps em b n [(6,I i),(7,I v)])
  (hQ:∀E',ab [1,3,4,5,6] E'=d4 t gn k ps em b n [(5,Bo true),(6,I i)]->Q .nrm E' (H.set b (.cells (ints (o.set pl v))))):
  WB ⟨C,lk,L,[1]⟩ (.regN [1,3,4,6,7] [ kM 46 4,kF 47 3 1,kS 48 1 47,kM 49 6,kI 50 2 48 49,kF 51 0 50,kL 52 51,kM 53 7,kI 54 1 46 52,kn (.st none 1 (ux 54) (ux 53)),kx 5 (.mv cT)]) Q E H:=by
 have hll:=aY ps;have h2:i*2<2*ps.length:=by omega
 have hsE:∀h,(psC ps)[i*2]'h=I (pl:Nat):=fun h=>(List.getElem?_eq_some_iff.1 hs).2;have hil2:=aV o;unfold d4 at *;rw[ae,hE];simp[hil,hll,h2,hsE,hb,hil2,hn,hpl];rw[F7 (by omega),Mr hlk,if_pos (by omega)]
 refine hQ _ ?_;rfl
theorem Rx (hps:ps.length<=64)(hil:i<ps.length)(hE:ab [1,3,4,5,6] E=d4 t gn k ps em b n [(5,Bo mo),(6,I i)])
  (hQ:∀E',ab [1,3,4,5,6] E'=d4 t gn k ps em b n [(5,Bo mo),(6,I (i+1:Nat))]->Q .nrm E' H):
  WB ⟨C,lk,L,[1]⟩ (.regN [1,3,4,5,6] [ kM 22 6,kU 23 22,kM 6 23]) Q E H:=by
 have w1:IntKind.i64.wrap ((i:Int)+1)=(i:Int)+1:=au (by omega) (by omega)
 unfold d4 at *;rw[ae,hE];simp[w1];refine hQ _ ?_;simp
theorem QB {g:Gm}{o:List Int}{i:Nat}(h:i<g.ps.length):(g.ps.take (i+1)).foldl (stD g) o=stD g ((g.ps.take i).foldl (stD g) o) g.ps[i]:=by
 rw[List.take_succ_eq_append_getElem h,List.foldl_append];rfl
theorem Q9 {Z:Heap}(ha:AOk ⟨t,gn,k,ps⟩)(hn:n=gn.toNat)(hlk:lk<=Z.length)(ho:DOk ⟨t,gn,k,ps⟩ o)
  (kc:∀K M (o:List Int),DOk ⟨t,gn,k,ps⟩ o->∀p∈ps,C K M 38 [.agg [I t,I gn,I k,.sl ps.length (psC ps)],.sl n (bools em),.hs Z.length n 0 n 1,.sl p.r.length (ints p.r)] (Z++[.cells (ints o)])=some (I (dpS o (bgM ⟨t,gn,k,ps⟩ p.r) 0),Z++[.cells (ints o)]))
  (hE:ab [1,3,4,5,6] E=d4 t gn k ps em Z.length n [(5,Bo false),(6,I (0:Nat))])
  (hQ:∀E' m,ab [1,3,4,5] E'=d4 t gn k ps em Z.length n [(5,Bo m)]->(m=false->gK ⟨t,gn,k,ps⟩ o=o)->(m=true->szD (gK ⟨t,gn,k,ps⟩ o)<szD o)->Q .nrm E' (Z++[.cells (ints (gK ⟨t,gn,k,ps⟩ o))])):
  WB ⟨C,lk,L,[1]⟩ (.block 2 (.loop [1,3,4,5,6] QU)) Q E (Z++[.cells (ints o)]):=by
 rw[ap];refine ax (σ:=Nat×List Int×Bool) (fun s=>d4 t gn k ps em Z.length n [(5,Bo s.2.2),(6,I s.1)]) (fun s=>Z++[.cells (ints s.2.1)])
  (fun s=>s.1<=ps.length/\s.2.1=(ps.take s.1).foldl (stD ⟨t,gn,k,ps⟩) o/\(s.2.2=false->s.2.1=o)/\(s.2.2=true->szD s.2.1<szD o)) (fun s=>ps.length-s.1) ?_ (0,o,false) ⟨Nat.zero_le _,rfl,fun _=>rfl,fun h=>by cases h⟩ hE rfl
 rintro⟨i,o2,m⟩ ⟨hi,ho2,hm1,hm2⟩;simp only at hi ho2 hm1 hm2;unfold QU;have hE0:ab [1,3,4,5,6] (d4 t gn k ps em Z.length n [(5,Bo m),(6,I i)])=d4 t gn k ps em Z.length n [(5,Bo m),(6,I i)]:=rfl;rw[ai,ai];refine RC hE0 fun E1 g1 h1' h1=>?_;rw[ah];by_cases hil:i<ps.length;case neg=>
  obtain rfl:i=ps.length:=by omega
  rw[List.take_of_length_le (Nat.le_refl _)]at ho2;rw[decide_eq_false hil]at g1;rw[af (aI g1),bT,a8,bQ,aG,if_pos rfl];have:=hQ E1 m h1' (fun h=>ho2.symm.trans (hm1 h)) (fun h=>by have:=hm2 h;rw[ho2]at this;exact this)
  rw[show gK ⟨t,gn,k,ps⟩ o=o2 from ho2.symm]at this;exact this
 rw[decide_eq_true hil]at g1;rw[ak (aI g1),aA,ah,ai,ap,ai];have ok2:DOk ⟨t,gn,k,ps⟩ o2:=by rw[ho2];exact(gh ha _ (fun p hp=>List.mem_of_mem_take hp) o ho).1
 have kc2:=fun K M=>kc K M o2 ok2 _ (List.getElem_mem hil);have hnext:(ps.take (i+1)).foldl (stD ⟨t,gn,k,ps⟩) o=stD ⟨t,gn,k,ps⟩ o2 ps[i]:=by rw[ho2];exact QB (g:=⟨t,gn,k,ps⟩) hil
 have hdec:=(Q6 ha ok2 (List.getElem_mem hil)).2;have h17:=Q5 ha ok2 (List.getElem_mem hil);have h18:=uU ha (ps[i].l.toNat);have okp:=ha.ok.p _ (List.getElem_mem hil);have hs1:=Ae hil;have hs2:=qF hil;have hol:o2.length=n:=by rw[ok2.len,hn]
 have hps:ps.length<=64:=ha.ok.l2;generalize ps[i]=p at *;obtain⟨pl,pr⟩:=p;obtain⟨q1,q2,q3,q4⟩:=okp;simp only at hnext hdec q1 q2 q3 q4 hs1 hs2 kc2 h17 h18;obtain⟨pl,rfl⟩:=Int.eq_ofNat_of_zero_le q2;have hpl:pl<n:=by omega
 have hst:stD ⟨t,gn,k,ps⟩ o2 ⟨(pl:Nat),pr⟩=(if o2.getD pl 0<1+dpS o2 (bgM ⟨t,gn,k,ps⟩ pr) 0 then o2.set pl (1+dpS o2 (bgM ⟨t,gn,k,ps⟩ pr) 0) else o2):=rfl;rw[hst]at hnext hdec;have hHb:(Z++[HB.cells (ints o2)])[Z.length]?=some (.cells (ints o2)):=by simp
 generalize dpS o2 (bgM ⟨t,gn,k,ps⟩ pr) 0=v at *;refine RD hil hs2 kc2 (au (by omega) (by omega)) h1 fun E2 h2=>?_
 rw[ah,ai];refine RE hil hs1 hHb hol hpl h2 fun E3 g3 h3 h3'=>?_;rw[ah];by_cases hc:o2.getD pl 0<1+v
 ·rw[decide_eq_true hc]at g3;rw[ak (aI g3)];refine RF hil hs1 hHb hlk hol hpl h3 fun E4 h4=>?_;rw[a6,ah];refine Rx hps hil h4 fun E5 h5=>?_;rw[if_pos hc]at hnext hdec;rw[ao];refine⟨(i+1,o2.set pl (1+v),true),⟨hil,hnext.symm,fun h=>absurd h (by simp),fun _=>?_⟩,by simp only;omega,h5,by simp⟩
  have hlt:szD (o2.set pl (1+v))<szD o2:=by
   rcases hdec with h | h
   ·have hget:=lH (o:=o2) (i:=pl) (by omega) (1+v) pl
    rw[h,if_pos rfl]at hget;omega
   ·exact h
  simp only;cases m with
  | false=>rw[hm1 rfl]at hlt |-;exact hlt
  | true=>have:=hm2 rfl;omega
 ·rw[decide_eq_false hc]at g3;rw[af (aI g3),aA,a6,ah];rw[if_neg hc]at hnext;refine Rx hps hil h3' fun E5 h5=>?_;rw[ao];exact⟨(i+1,o2,m),⟨hil,hnext.symm,hm1,hm2⟩,by simp only;omega,h5,rfl⟩
theorem RG (hE:ab [1,3,4,5] E=d4 t gn k ps em b n [(5,Bo mo)])
  (hQ:∀E',find E' 16=Bo mo->ab [1,3,4] E'=d4 t gn k ps em b n []->ab [4] E'=[(4,.hs b n 0 n 1)]->Q .nrm E' H):
  WB ⟨C,lk,L,[1]⟩ (.regN [1,3,4,5] [ kM 16 5]) Q E H:=by
 unfold d4 at *;rw[ae,hE];simp;refine hQ _ ?_ ?_ ?_<;>rfl
theorem cg5 (hE:ab [1,3,4] E=d4 t gn k ps em b n [])
  (hQ:∀E',ab [1,3,4,5] E'=d4 t gn k ps em b n [(5,Bo false)]->Q .nrm E' H):
  WB ⟨C,lk,L,[1]⟩ (.regN [1,3,4] [ kx 5 (.mv cF)]) Q E H:=by
 unfold d4 at *;rw[ae,hE];simp;refine hQ _ ?_;rfl
theorem cg6 (hE:ab [1,3,4,5] E=d4 t gn k ps em b n [(5,Bo mo)])
  (hQ:∀E',ab [1,3,4,5,6] E'=d4 t gn k ps em b n [(5,Bo mo),(6,I (0:Nat))]->Q .nrm E' H):
  WB ⟨C,lk,L,[1]⟩ (.regN [1,3,4,5] [ kZ 6]) Q E H:=by
 unfold d4 at *;rw[ae,hE];simp;refine hQ _ ?_;rfl
theorem Ra {Z:Heap}(ha:AOk ⟨t,gn,k,ps⟩)(hn:n=gn.toNat)(hlk:lk<=Z.length)(hno:o=List.replicate n 0)
  (kc:∀K M (o:List Int),DOk ⟨t,gn,k,ps⟩ o->∀p∈ps,C K M 38 [.agg [I t,I gn,I k,.sl ps.length (psC ps)],.sl n (bools em),.hs Z.length n 0 n 1,.sl p.r.length (ints p.r)] (Z++[.cells (ints o)])=some (I (dpS o (bgM ⟨t,gn,k,ps⟩ p.r) 0),Z++[.cells (ints o)]))
  (hE:ab [1,3,4,5] E=d4 t gn k ps em Z.length n [(5,Bo true)])
  (hQ:∀E',ab [4] E'=[(4,.hs Z.length n 0 n 1)]->Q .nrm E' (Z++[.cells (ints (dp ⟨t,gn,k,ps⟩))])):
  WB ⟨C,lk,L,[1]⟩ (.block 0 (.loop [1,3,4,5] QV)) Q E (Z++[.cells (ints o)]):=by
 rw[ap];refine ax (σ:=List Int×Bool) (fun s=>d4 t gn k ps em Z.length n [(5,Bo s.2)]) (fun s=>Z++[.cells (ints s.1)])
  (fun s=>DOk ⟨t,gn,k,ps⟩ s.1/\cH (gK ⟨t,gn,k,ps⟩) (szD s.1+1) s.1=dp ⟨t,gn,k,ps⟩/\(s.2=false->gK ⟨t,gn,k,ps⟩ s.1=s.1)) (fun s=>2*szD s.1+if s.2=true then 1 else 0) ?_ (o,true)
  ⟨by rw[hno,hn];exact DOk.start _,by rw[hno,hn];rfl,fun h=>by cases h⟩ hE rfl
 clear hno hE;rintro⟨o,mo⟩ ⟨ho,hcl,hm⟩;simp only at ho hcl hm;unfold QV;have hE0:ab [1,3,4,5] (d4 t gn k ps em Z.length n [(5,Bo mo)])=d4 t gn k ps em Z.length n [(5,Bo mo)]:=rfl;rw[ai,ai];refine RG hE0 fun E1 g1 h1 h1'=>?_;rw[ah];rw[x8 ha ho]at hcl;cases mo with
 | false=>
  rw[af (aI g1),bT,a8,bQ,aG,if_pos rfl];rw[if_pos (hm rfl)]at hcl;have:=hQ E1 h1';rw[<-hcl]at this;exact this
 | true=>
  rw[ak (aI g1),aA,ah,ap,ai];refine cg5 h1 fun E2 h2=>?_;rw[ah,ai];refine cg6 h2 fun E3 h3=>?_;rw[ah];refine Q9 ha hn hlk ho kc h3 fun E4 m h4 hf ht=>?_;rw[a6,ao];have hk:=(eb ha).keep o ho;cases m with
  | false=>
   have he:=hf rfl;simp only at he;simp only[he];rw[if_pos he]at hcl;exact⟨(o,false),⟨ho,by rw[x8 ha ho,if_pos he];exact hcl,fun _=>he⟩,by simp,h4,rfl⟩
  | true=>
   have hl:=ht rfl;simp only at hl;have hne:¬gK ⟨t,gn,k,ps⟩ o=o:=fun h=>by rw[h]at hl;omega
   rw[if_neg hne]at hcl;exact⟨(gK ⟨t,gn,k,ps⟩ o,true),⟨hk,hcl,fun h=>by cases h⟩,by simp;omega,h4,rfl⟩
end
abbrev Ax (g:Gm):AV:=if cN g=0 then .sl (bL g).length (ints (bL g)) else .e0
theorem mS {lk lim:Nat}{H:Heap}(hlk:lk<=H.length)(g:Gm)(hl:g.ps.length<=1000000)(hr:∀p∈g.ps,p.r.length<=1000000):
  aj X A lk lim 22 [gV g] H=some (Ax g,H):=by
 have ka:=fun (L:Nat)=>ef (lk:=lk) (lim:=L) hlk g hl hr;have kn:=fun (L:Nat)=>qV (lk:=lk) (lim:=L) (H:=H) (g:=g) hl hr hlk;refine ar [1] rfl A22 rfl rfl ?_;unfold Rq Ax;by_cases hacc:cN g=0;case neg=>
  rw[if_neg hacc];have hx:(cN g != 0)=true:=by simpa using hacc
  generalize cN g=e at *;generalize aj X A=C at *;obtain⟨t,gn,k,ps⟩:=g;simp only[gV,Gm.cells]at ka |-;simp[ka,hx,hacc]
 rw[if_pos hacc];have ha:=jL hacc;rw[<-Q8 ha];have hlen:=(t8 ha).len;have kc:∀K M (o:List Int),DOk g o->∀p∈g.ps,aj X A K M 38 [gV g,.sl g.n.toNat (bools (derM g false)),.hs H.length g.n.toNat 0 g.n.toNat 1,.sl p.r.length (ints p.r)] (H++[.cells (ints o)])=some (I (dpS o (bgM g p.r) 0),H++[.cells (ints o)]):=fun K M o ho p hp=>
  QA ha ho (by simp) hp
 rw[show jG g false= .sl g.n.toNat (bools (derM g false)) from if_pos ha.chk]at kn;generalize aj X A=C at *;have hg:=ha.ok;obtain⟨t,gn,k,ps⟩:=g;simp only[gV,Gm.cells]at ka kn kc hlen |-;rw[hacc]at ka;obtain⟨n,rfl⟩:∃n:Nat,gn=n:=⟨gn.toNat,by have:=hg.n1;simp only at this;omega⟩
 have hn2:=hg.n2;have hn1:=hg.n1;simp only at hn2 hn1;have hn0:0<n:=by omega
 have hro:(n:Int)*8<=(aM:Int):=by unfold aM;omega
 have hro2:(n:Int)<=(aM:Int):=by unfold aM;omega
 have hro3:n*8<=aM:=by unfold aM;omega
 simp only[Int.toNat_natCast]at kn kc hlen;generalize derM ⟨t,n,k,ps⟩ false=em at *;simp[-ak,-af,-ap,-ae,ka];rw[ae];simp[-ak,-af,-ap,-ae,ka];rw[ae];simp[-ak,-af,-ap,-ae,ka];rw[af rfl,aA,ah,ai,ae];simp[-ap,kn,hro,hro2,hro3,hn0,Qz];refine Ra (em:=em) ha rfl hlk rfl kc (by simp[d4]) fun E2 h=>?_
 have hb:=xf H.length (H++[.cells (ints (dp ⟨t,n,k,ps⟩))]) 7 (dp ⟨t,n,k,ps⟩);have hb2:=bel_ints 0 (dp ⟨t,n,k,ps⟩);have hl2:=aV (dp ⟨t,n,k,ps⟩);generalize dp ⟨t,n,k,ps⟩=N at *;have htk:(ints N).take n=ints N:=List.take_of_length_le (by rw[hl2];omega)
 rw[ah,ai,ae,h];simp[hl2,hlen,htk,hb,hb2]

def dEnt (g:Gm)(l:List Nat):List (AV×AV):=l.map fun (i:Nat)=>(I i,I (dptM g i))
def Gb (i:Nat)(l:List Nat):List Nat:=if i∈l then l else l++[i]
def ofF (g:Gm):Nat->Nat->List Nat->List Nat
 | 0,_,l=>l
 | f+1,i,l=>if i∈l then l else Gb i ((scM g i).foldl (fun l s=>ofF g f s l) l)
theorem pu (x y:Int):eI false [1] (I x) (I y)=some (decide (x=y)):=by
 simp[eI,bH];rw[Bool.eq_iff_iff];simp
theorem Gd (g:Gm)(i:Nat):∀l:List Nat,lK false [1] (I i) (dEnt g l)=some (if i∈l then some (I (dptM g i)) else none)
 | []=>rfl
 | j::l=>by
  have ih:=Gd g i l;unfold dEnt at ih |-;simp only[List.map_cons,lK,pu];by_cases e:i=j
  ·subst e;simp
  ·have e2:¬(i:Int)=j:=by omega
   simp only[decide_eq_false e2,ih,List.mem_cons,e,false_or]
theorem Gf (g:Gm)(i:Nat):∀l:List Nat,fc false [1] (I i) (I (dptM g i)) (dEnt g l)=some (dEnt g (Gb i l))
 | []=>by simp[dEnt,Gb,fc]
 | j::l=>by
  have ih:=Gf g i l;unfold dEnt Gb at ih |-;simp only[List.map_cons,fc,pu];by_cases e:i=j
  ·subst e;simp
  ·have e2:¬(i:Int)=j:=by omega
   simp only[decide_eq_false e2,ih,List.mem_cons,e,false_or];split<;>rfl
section
variable {C:Orc}{Q:Ex->Kt}{E:Env}{lk L:Nat}{H H':Heap}{t gn k:Int}{ps:List Pr}{em:List Bool}{n b mb i j a m q:Nat}{pl:Nat}{pr:List Int}{s:Int}{l l':List Nat}{ix:List Nat}{g:Gm}
def dcC (t gn k:Int)(ps:List Pr)(em:List Bool)(n mb:Nat):List AV:=[I t,I gn,I k,.sl ps.length (psC ps),.sl n (bools em),.mp mb]
def e0 (b i:Nat)(e:Env):Env:=(0,.hp b 6 0)::(1,I i)::e
theorem o13 (hb:H[b]?=some (.cells (dcC t gn k ps em n mb)))(hm:H[mb]?=some (.map (dEnt g l)))
  (hE:ab [0,1] E=e0 b i [])
  (hQ:∀E' v,(i∈l->v=(dptM g i:Int))->ab [5] E'=[(5,I v)]->find E' 6=Bo (decide (i∈l))->ab [0,1,5,6] E'=e0 b i [(5,I v),(6,Bo (decide (i∈l)))]->Q .nrm E' H):
  WB ⟨C,lk,L,[]⟩ (.regN [0,1] [ kM 13 0,kx 14 (.nilc (ux 13)),kF 15 5 14,kL 16 15,kM 17 1,kx 18 (.mlk false [1] (.val (.int .i64 0)) true (ux 16) (ux 17)),kM 12 18,kE 19 12 0,kE 20 12 1,kM 5 19,kM 6 20]) Q E H:=by
 have hg:=Gd g i l;have hk:dN false [1] (I (i:Nat))=true:=by simp[dN,pu]
 unfold e0 dcC at *;rw[ae,hE];by_cases hi:i∈l
 ·rw[if_pos hi]at hg;simp[hb,dw,hm,hk,hg];refine hQ _ (dptM g i) (fun _=>rfl) ?_ ?_ ?_
  ·rfl
  ·simp[find,hi]
  ·simp[hi]
 ·rw[if_neg hi]at hg;simp[hb,dw,hm,hk,hg];refine hQ _ 0 (fun h=>absurd h hi) ?_ ?_ ?_
  ·rfl
  ·simp[find,hi]
  ·simp[hi]
theorem o23 (hb:H[b]?=some (.cells (dcC t gn k ps em n mb)))(h0:ix≠[])(ko:C lk L 53 [.agg [I t,I gn,I k,.sl ps.length (psC ps)],I i] H=some (.sl ix.length (nts ix),H))
  (hE:ab [0,1,7] E=e0 b i [(7,I (0:Nat))])
  (hQ:∀E',ab [0,1,7,28,29,30] E'=e0 b i [(7,I (0:Nat)),(28,.sl ix.length (nts ix)),(29,I ix.length),(30,I (0:Nat))]->Q .nrm E' H):
  WB ⟨C,lk,L,[]⟩ (.regN [0,1,7] [ kM 23 0,kx 24 (.nilc (ux 23)),kF 25 0 24,kx 26 (.ldA none 4 (ux 25)),kM 27 1,kx 28 (.call 53 [(ux 26),(ux 27)]),kN 29 28,kZ 30]) Q E H:=by
 unfold e0 dcC at *;rw[ae,hE];simp[hb,ko];refine hQ _ ?_;rfl
theorem o82 (hb:H[b]?=some (.cells (dcC t gn k ps em n mb)))(hm:H[mb]?=some (.map (dEnt g l)))(hlk:lk<=mb)(hd:dptM g i=m+1)(hm17:m<=17)
  (hE:ab [0,1,7] E=e0 b i [(7,I m)])
  (hQ:∀E',ab [7] E'=[(7,I m)]->Q .nrm E' (H.set mb (.map (dEnt g (Gb i l))))):
  WB ⟨C,lk,L,[]⟩ (.regN [0,1,7] [ kM 82 0,kx 83 (.nilc (ux 82)),kF 84 5 83,kL 85 84,kM 86 1,kM 87 7,kU 88 87,kn (.mup false [1] (ux 85) (ux 86) (ux 88))]) Q E H:=by
 have hg:=Gf g i l;have hk:dN false [1] (I (i:Nat))=true:=by simp[dN,pu]
 have w1:IntKind.i64.wrap ((m:Int)+1)=(m:Int)+1:=au (by omega) (by omega)
 rw[show I ((dptM g i:Nat):Int)=I ((m:Int)+1) by rw[hd];rfl]at hg
 unfold e0 dcC at *;rw[ae,hE];simp[hb,hm,hk,hg,w1,hlk];refine hQ _ ?_;rfl
def rG (g:Gm)(f:Nat)(x:Nat×List Nat)(s:Nat):Nat×List Nat:=(max x.1 (dptM g s),ofF g f s x.2)
def e28 (ix:List Nat)(a:Nat)(e:Env):Env:=(28,.sl ix.length (nts ix))::(29,I ix.length)::(30,I a)::e
theorem PY {G:List Nat->Heap}{f:Nat}(hb:∀l,(G l)[b]?=some (.cells (dcC t gn k ps em n mb)))(heml:em.length=n)(hrl:pr.length<=8)(hss:∀s∈pr,0<=s/\s<t+n)(ht:1<=t/\t<=8)(hn16:n<=16)
  (kof:∀l,∀s∈bgL t em pr,C lk L 35 [.hp b 6 0,I s] (G l)=some (I (dptM g s),G (ofF g f s l)))
  (hE:ab [0,1,7,28,29,30,42,43,44] E=e0 b i ((7,I m)::e28 ix a [(42,.sl pr.length (ints pr)),(43,I pr.length),(44,I (0:Nat))]))
  (hQ:∀E',ab [0,1,7,28,29,30] E'=e0 b i ((7,I ((bgL t em pr).foldl (rG g f) (m,l)).1)::e28 ix a [])->Q .nrm E' (G ((bgL t em pr).foldl (rG g f) (m,l)).2)):
  WB ⟨C,lk,L,[]⟩ (.block 2 (.loop [0,1,7,28,29,30,42,43,44] EE)) Q E (G l):=by
 obtain⟨R,hR⟩:∃R,(bgL t em pr).foldl (rG g f) (m,l)=R:=⟨_,rfl⟩;rw[hR]at hQ;rw[ap];refine ax (σ:=Nat×Nat×List Nat) (fun x=>e0 b i ((7,I x.2.1)::e28 ix a [(42,.sl pr.length (ints pr)),(43,I pr.length),(44,I x.1)])) (fun x=>G x.2.2)
  (fun x=>x.1<=pr.length/\(∀s∈bgL t em (pr.drop x.1),s∈bgL t em pr)/\(bgL t em (pr.drop x.1)).foldl (rG g f) (x.2.1,x.2.2)=R) (fun x=>pr.length-x.1) ?_ (0,m,l) ⟨Nat.zero_le _,fun s h=>h,hR⟩ hE rfl
 clear hR hE;rintro⟨j,m,l⟩ ⟨hj,hsub,hinv⟩;simp only at hj hsub hinv;unfold EE e0 e28;unfold e0 e28 at hQ;unfold dcC at hb;have hbl:=hb l;have w1:IntKind.i64.wrap ((j:Int)+1)=(j:Int)+1:=au (by omega) (by omega)
 by_cases hjl:j<pr.length;case neg=>
  obtain rfl:j=pr.length:=by omega
  rw[List.drop_length]at hinv;simp only[bgL,List.foldl_nil]at hinv;subst hinv;clear kof hsub;generalize G l=Z at *;simp;refine hQ _ ?_;rfl
 rw[List.drop_eq_getElem_cons hjl]at hinv hsub;simp only[bgL]at hinv hsub;have hsE:=fun h=>bv (l:=pr) hjl h;have hs1:=hss _ (List.getElem_mem hjl);have hlen:=aV pr;generalize pr[j]=s at hinv hsE hs1 hsub;have w2:IntKind.i64.wrap (s-t)=s-t:=au (by omega) (by omega)
 by_cases hst:s<t
 ·rw[if_pos hst]at hinv;simp only[List.foldl_nil]at hinv;subst hinv;clear kof hsub;generalize G l=Z at *;simp[hjl,hsE,hlen,hst,hbl];refine hQ _ ?_;rfl
 rw[if_neg hst]at hinv hsub;obtain⟨q,hq⟩:∃q:Nat,s-t=q:=⟨(s-t).toNat,by omega⟩
 rw[hq]at hinv w2 hsub;simp only[Int.toNat_natCast]at hinv hsub;have hqn:q<n:=by omega
 have hqe:q<em.length:=by omega
 have hbe:∀h,(bools em)[q]'h=Bo (em.getD q false):=fun h=>by rw[R3,R4 hqe];exact lI hqe h
 have hle:=aH em;have kq:=kof l q (hsub q (List.mem_cons_self ..));rw[List.foldl_cons]at hinv;have hst2:rG g f (m,l) q=(max m (dptM g q),ofF g f q l):=rfl;rw[hst2]at hinv;generalize dptM g q=d at *;generalize ofF g f q l=l2 at *;have hb2:=hb l2;have hmx:(if m<d then (d:Int) else (m:Int))=((max m d:Nat):Int):=by split<;>omega
 obtain⟨e,he⟩:∃e,em.getD q false=e:=⟨_,rfl⟩;simp only[he]at hinv hbe hsub;clear kof hb;cases e with
 | false=>
  rw[if_neg (by simp)]at hinv
  simp only[List.foldl_nil]at hinv;subst hinv;generalize G l=Z at *;generalize G l2=Z2 at *;simp[hjl,hsE,hlen,hst,hbl,hb2,hq,w2,kq,bZ,hmx,hbe,hle,heml,hqn];refine hQ _ ?_;rfl
 | true=>
  rw[if_pos rfl]at hinv hsub;simp[hjl,hsE,hlen,hst,hbl,hb2,hq,w2,kq,bZ,hmx,hbe,hle,heml,hqn,w1,ao];exact⟨j+1,max m d,l2,⟨hjl,fun s h=>hsub s (List.mem_cons_of_mem _ h),hinv⟩,by omega,⟨rfl,by simp⟩,rfl⟩
end

section
variable {C:Orc}{Q:Ex->Kt}{E:Env}{lk L:Nat}{H H':Heap}{t gn k:Int}{ps:List Pr}{em:List Bool}{n b mb i j a m q c:Nat}{pl:Nat}{pr:List Int}{s:Int}{l l':List Nat}{ix:List Nat}{g:Gm}
theorem o31 (hE:ab [0,1,7,28,29,30] E=e0 b i ((7,I m)::e28 ix a []))
  (hQ:∀E',find E' 31=Bo (decide (a<ix.length))->ab [0,1,7] E'=e0 b i [(7,I m)]->ab [0,1,7,28,29,30] E'=e0 b i ((7,I m)::e28 ix a [])->Q .nrm E' H):
  WB ⟨C,lk,L,[]⟩ (.regN [0,1,7,28,29,30] [ kT 31 30 29]) Q E H:=by
 unfold e0 e28 at *;rw[ae,hE];simp;refine hQ _ ?_ ?_ ?_
 ·simp[find]
 ·rfl
 ·rfl
theorem o32 (ha:a<ix.length)(hc:ix[a]=c)(hE:ab [0,1,7,28,29,30] E=e0 b i ((7,I m)::e28 ix a []))
  (hQ:∀E',ab [0,1,7,9,28,29,30] E'=e0 b i ((7,I m)::(9,I c)::e28 ix a [])->Q .nrm E' H):
  WB ⟨C,lk,L,[]⟩ (.regN [0,1,7,28,29,30] [ kI 32 1 28 30,kL 33 32,kM 9 33]) Q E H:=by
 have hl:(nts ix).length=ix.length:=by simp[nts]
 have hg:∀h,(nts ix)[a]'h=I c:=fun h=>by simp[nts,hc]
 unfold e0 e28 at *;rw[ae,hE];simp[ha,hl,hg];refine hQ _ ?_;rfl
theorem o34 (hb:H[b]?=some (.cells (dcC t gn k ps em n mb)))(hc:c<ps.length)(hs:(psC ps)[c*2+1]?=some (.sl pr.length (ints pr)))
  (hE:ab [0,1,7,9,28,29,30] E=e0 b i ((7,I m)::(9,I c)::e28 ix a []))
  (hQ:∀E',ab [0,1,7,28,29,30,42,43,44] E'=e0 b i ((7,I m)::e28 ix a [(42,.sl pr.length (ints pr)),(43,I pr.length),(44,I (0:Nat))])->Q .nrm E' H):
  WB ⟨C,lk,L,[]⟩ (.regN [0,1,7,9,28,29,30] [ kM 34 0,kx 35 (.nilc (ux 34)),kF 36 0 35,kF 37 3 36,kL 38 37,kM 39 9,kI 40 2 38 39,kF 41 1 40,kL 42 41,kN 43 42,kZ 44]) Q E H:=by
 have hll:=aY ps;have h2:c*2+1<2*ps.length:=by omega
 have hsE:∀h,(psC ps)[c*2+1]'h= .sl pr.length (ints pr):=fun h=>(List.getElem?_eq_some_iff.1 hs).2;unfold e0 e28 dcC at *;rw[ae,hE];simp[hb,hc,hll,h2,hsE];refine hQ _ ?_;rfl
theorem o81 (ha:a<ix.length)(hx:ix.length<=64)(hE:ab [0,1,7,28,29,30] E=e0 b i ((7,I m)::e28 ix a []))
  (hQ:∀E',ab [0,1,7,28,29,30] E'=e0 b i ((7,I m)::e28 ix (a+1) [])->Q .nrm E' H):
  WB ⟨C,lk,L,[]⟩ (.regN [0,1,7,28,29,30] [ kU 81 30,kM 30 81]) Q E H:=by
 have w1:IntKind.i64.wrap ((a:Int)+1)=(a:Int)+1:=au (by omega) (by omega)
 unfold e0 e28 at *;rw[ae,hE];simp[w1];refine hQ _ ?_;simp
def sc2 (t:Int)(em:List Bool)(ps:List Pr)(ix:List Nat):List Nat:=ix.flatMap fun j=>bgL t em (ps.getD j ⟨0,[]⟩).r
theorem O2 {G:List Nat->Heap}{f:Nat}(hg:GOk ⟨t,gn,k,ps⟩)(hn:n=gn.toNat)(hb:∀l,(G l)[b]?=some (.cells (dcC t gn k ps em n mb)))(heml:em.length=n)(hix:∀j∈ix,j<ps.length)(hxl:ix.length<=64)
  (kof:∀l,∀s∈sc2 t em ps ix,C lk L 35 [.hp b 6 0,I s] (G l)=some (I (dptM g s),G (ofF g f s l)))
  (hE:ab [0,1,7,28,29,30] E=e0 b i ((7,I m)::e28 ix 0 []))
  (hQ:∀E',ab [0,1,7] E'=e0 b i [(7,I ((sc2 t em ps ix).foldl (rG g f) (m,l)).1)]->Q .nrm E' (G ((sc2 t em ps ix).foldl (rG g f) (m,l)).2)):
  WB ⟨C,lk,L,[]⟩ (.block 0 (.loop [0,1,7,28,29,30] EF)) Q E (G l):=by
 obtain⟨R,hR⟩:∃R,(sc2 t em ps ix).foldl (rG g f) (m,l)=R:=⟨_,rfl⟩;rw[hR]at hQ;rw[ap];refine ax (σ:=Nat×Nat×List Nat) (fun x=>e0 b i ((7,I x.2.1)::e28 ix x.1 [])) (fun x=>G x.2.2)
  (fun x=>x.1<=ix.length/\(∀s∈sc2 t em ps (ix.drop x.1),s∈sc2 t em ps ix)/\(sc2 t em ps (ix.drop x.1)).foldl (rG g f) (x.2.1,x.2.2)=R) (fun x=>ix.length-x.1) ?_ (0,m,l) ⟨Nat.zero_le _,fun s h=>h,hR⟩ hE rfl
 clear hR hE;rintro⟨a,m,l⟩ ⟨ha,hsub,hinv⟩;simp only at ha hsub hinv;unfold EF;have hE0:ab [0,1,7,28,29,30] (e0 b i ((7,I m)::e28 ix a []))=e0 b i ((7,I m)::e28 ix a []):=rfl;rw[ai];refine o31 hE0 fun E1 g1 h1' h1=>?_;rw[ah,ai];by_cases hal:a<ix.length;case neg=>
  obtain rfl:a=ix.length:=by omega
  rw[List.drop_length]at hinv;simp only[sc2,List.flatMap_nil,List.foldl_nil]at hinv;subst hinv;rw[decide_eq_false hal]at g1;rw[af (aI g1),bT,a8,bQ,aG,if_pos rfl];exact hQ _ h1'
 rw[decide_eq_true hal]at g1;rw[ak (aI g1),aA,ah,ai,ap,ai];obtain⟨c,hc⟩:∃c,ix[a]=c:=⟨_,rfl⟩;have hcl:c<ps.length:=hix c (hc▸List.getElem_mem hal);rw[List.drop_eq_getElem_cons hal,hc]at hinv hsub;have hcons:sc2 t em ps (c::ix.drop (a+1))=bgL t em (ps.getD c ⟨0,[]⟩).r++sc2 t em ps (ix.drop (a+1)):=rfl;have hget:ps.getD c ⟨0,[]⟩=ps[c]:=by rw[R3,R4 hcl];rfl
 rw[hcons,hget]at hinv hsub;rw[List.foldl_append]at hinv;have pok:=hg.p _ (List.getElem_mem hcl);have hs2:=qF hcl;generalize ps[c]=p at *;obtain⟨pl,pr⟩:=p;simp only at hs2 hinv hsub;refine o32 hal hc h1 fun E2 h2=>?_;rw[ah,ai];refine o34 (hb l) hcl hs2 h2 fun E3 h3=>?_;rw[ah];refine PY (g:=g) (f:=f) hb heml pok.len (fun s hs=>by have:=pok.s s hs;have:=hg.n1;simp only at *;omega) ⟨hg.t1,hg.t2⟩ (by have:=hg.n2;simp only at this;omega) (fun l s hs=>kof l s (hsub s (List.mem_append_left _ hs))) h3 fun E4 h4=>?_
 rw[a6,ah];refine o81 hal hxl h4 fun E5 h5=>?_;rw[ao];exact⟨(a+1,_),⟨hal,fun s h=>hsub s (List.mem_append_right _ h),hinv⟩,by simp only;omega,h5,rfl⟩
theorem o4 (hE:ab [0,1] E=e0 b i [])(hQ:∀E',ab [0,1] E'=e0 b i []->Q .nrm E' H):WB ⟨C,lk,L,[]⟩ (.regN [0,1] [ kZ 4]) Q E H:=by
 unfold e0 at *;rw[ae,hE];simp;refine hQ _ ?_;rfl
theorem o21 {v:Int}{is:Bool}(hE:ab [0,1,5,6] E=e0 b i [(5,I v),(6,Bo is)])(hQ:∀E',find E' 21=Bo is->ab [5] E'=[(5,I v)]->ab [0,1] E'=e0 b i []->Q .nrm E' H):WB ⟨C,lk,L,[]⟩ (.regN [0,1,5,6] [ kM 21 6]) Q E H:=by
 unfold e0 at *;rw[ae,hE];simp;refine hQ _ ?_ ?_ ?_<;>rfl
theorem o7 (hE:ab [0,1] E=e0 b i [])(hQ:∀E',ab [0,1,7] E'=e0 b i [(7,I (0:Nat))]->Q .nrm E' H):WB ⟨C,lk,L,[]⟩ (.regN [0,1] [ kZ 7]) Q E H:=by
 unfold e0 at *;rw[ae,hE];simp;refine hQ _ ?_;rfl
end

theorem rk (g:Gm)(f:Nat):∀(ss:List Nat) (m:Nat) (l:List Nat),ss.foldl (rG g f) (m,l)=(mxl (dptM g) ss m,ss.foldl (fun l s=>ofF g f s l) l)
 | [],_,_=>rfl
 | s::ss,m,l=>rk g f ss (max m (dptM g s)) (ofF g f s l)
structure MG (g:Gm)(b mb lk:Nat)(G:List Nat->Heap):Prop where
 b:∀l,(G l)[b]?=some (.cells (dcC g.t g.n g.k g.ps (derM g false) g.n.toNat mb))
 m:∀l,(G l)[mb]?=some (.map (dEnt g l))
 set:∀l l',(G l).set mb (.map (dEnt g l'))=G l'
 lk:lk<=mb
 len:∀l,mb<=(G l).length
section
variable {C:Orc}{Q:Ex->Kt}{E:Env}{lk L:Nat}{H:Heap}{v:Int}
theorem o22 (hE:ab [5] E=[(5,I v)])(hQ:∀E',find E' 4=I v->Q .ret E' H):WB ⟨C,lk,L,[]⟩ (.seq (.regN [5] [ kM 22 5,kM 4 22]) .ret) Q E H:=by
 rw[ai,ae,hE];simp;refine hQ _ ?_;rfl
theorem o89 {m:Nat}(hm:m<=17)(hE:ab [7] E=[(7,I m)])(hQ:∀E',find E' 4=I (m+1:Nat)->Q .ret E' H):WB ⟨C,lk,L,[]⟩ (.seq (.regN [7] [ kM 89 7,kU 90 89,kM 4 90]) .ret) Q E H:=by
 have w1:IntKind.i64.wrap ((m:Int)+1)=(m:Int)+1:=au (by omega) (by omega)
 rw[ai,ae,hE];simp[w1];refine hQ _ ?_;rfl
end
theorem sZ {lk lim b mb:Nat}{g:Gm}{G:List Nat->Heap}(ha:AOk g)(hG:MG g b mb lk G)(hr:∀p∈g.ps,p.r.length<=1000000):∀(f i:Nat) (l:List Nat),i<g.n.toNat->rkM g i<f->
  aj X A lk lim 35 [.hp b 6 0,I i] (G l)=some (I (dptM g i),G (ofF g f i l))
 | 0,i,l,_,h=>by omega
 | f+1,i,l,hi,hrk=>by
  have ko:=mC (lk:=lk) (lim:=lim) (H:=G l) g i (by have:=ha.ok.l2;omega) hr (Nat.le_trans hG.lk (hG.len l))
  have hgv:nL g i= .sl (ofN g.ps i g.ps.length).length (nts (ofN g.ps i g.ps.length)):=by
   unfold nL slvN;rw[if_pos ha.chk,if_neg];intro he;obtain⟨p,hp,hpl⟩:=ri ha hi;obtain⟨j,hj,rfl⟩:=List.getElem_of_mem hp;have:j∈ofN g.ps i g.ps.length:=d9.2 ⟨hj,by have:=(ha.ok.p _ hp).l0;omega⟩
   rw[he]at this;cases this
  rw[hgv]at ko;have kof:∀l,∀s∈scM g i,aj X A lk lim 35 [.hp b 6 0,I s] (G l)=some (I (dptM g s),G (ofF g f s l)):=fun l s hs=>by
   have he:=(j9 ha.ok).1 hs;exact sZ ha hG hr f s l (uT ha.ok he).2 (by have:=Av ha he;omega)
  have hdp:=mX ha i;have h17:=uU ha i;have hne:ofN g.ps i g.ps.length≠[]:=fun he=>by
   unfold nL slvN at hgv;rw[if_pos ha.chk,if_pos he]at hgv;cases hgv
  have hix:∀j∈ofN g.ps i g.ps.length,j<g.ps.length:=fun j hj=>(d9.1 hj).1;have hxl:(ofN g.ps i g.ps.length).length<=64:=by
   have h1:(ofN g.ps i g.ps.length).length<=(List.range g.ps.length).length:=List.length_filter_le ..;rw[List.length_range]at h1;have:=ha.ok.l2;omega
  refine ar [] rfl A35 rfl rfl ?_;show WB ⟨aj X A,lk,lim,[]⟩ LV _ _ _;unfold LV;generalize aj X A=C at *;rw[ai];refine o4 (b:=b) (i:=i) rfl fun E1 h1=>?_;rw[ah,ai,ai];refine o13 (l:=l) (hG.b l) (hG.m l) h1 fun E2 v hv h2' g2' h2=>?_;rw[ah,ai];refine o21 h2 fun E3 g3 h3' h3=>?_;rw[ah];simp only[ofF];by_cases hil:i∈l
  ·rw[decide_eq_true hil]at g3;rw[ak (aI g3),if_pos hil];refine o22 h3' fun E4 h4=>?_;rw[hv hil]at h4;simp[h4]
  rw[decide_eq_false hil]at g3;rw[af (aI g3),aA,ah,ai,if_neg hil];refine o7 h3 fun E4 h4=>?_;rw[ah,ai,ai];refine o23 (hG.b l) hne ko h4 fun E5 h5=>?_;rw[ah];refine O2 (g:=g) (f:=f) (G:=G) (l:=l) (ix:=ofN g.ps i g.ps.length) ha.ok rfl hG.b (fZ g false) hix hxl kof h5 fun E6 h6=>?_;rw[show sc2 g.t (derM g false) g.ps (ofN g.ps i g.ps.length)=scM g i from rfl,rk]at h6 |-;rw[ah,ai];refine o82 (hG.b _) (hG.m _) hG.lk (by omega) (by omega) h6 fun E7 h7=>?_
  rw[ah];refine o89 (by omega) h7 fun E8 h8=>?_
  simp only;rw[hG.set];have e:mxl (dptM g) (scM g i) 0+1=dptM g i:=by omega
  rw[e]at h8;simp[h8]

def dX (o:List Int):Heap:=if o=[] then [] else [.cells (ints o)]
def DZ (H:Heap)(g:Gm)(l:List Nat)(o:List Int):Heap:=H++(.map (dEnt g l):: .cells (dcC g.t g.n g.k g.ps (derM g false) g.n.toNat H.length)::dX o)
def dO (H:Heap)(o:List Int):AV:=if o=[] then .e0 else .hs (H.length+2) o.length 0 o.length 1
theorem O3 {H:Heap}{g:Gm}{lk:Nat}(hlk:lk<=H.length)(o:List Int):MG g (H.length+1) H.length lk (fun l=>DZ H g l o) where
 b:=fun l=>by unfold DZ;rw[List.getElem?_append_right (by omega),Nat.add_sub_cancel_left];rfl
 m:=fun l=>by unfold DZ;rw[List.getElem?_append_right (by omega),Nat.sub_self];rfl
 set:=fun l l'=>by unfold DZ;rw[List.set_append_right _ _ (by omega),Nat.sub_self];rfl
 lk:=hlk
 len:=fun l=>by unfold DZ;simp
def e14 (b n i:Nat):Env:=[(14,.hp b 6 0),(16,I n),(17,I i)]
def e34 (b:Nat)(v:AV)(e:Env):Env:=(3,.hp b 6 0)::(4,v)::e
section
variable {C:Orc}{Q:Ex->Kt}{E:Env}{lk L:Nat}{H:Heap}{b n i d:Nat}{o:List Int}{l l':List Nat}{g:Gm}
theorem p20 (hlk:lk<=H.length)(hoi:o.length<=1000)(kd:C lk L 35 [.hp (H.length+1) 6 0,I i] (DZ H g l o)=some (I d,DZ H g l' o))
  (hE:ab [3,4,5,14,16,17] E=e34 (H.length+1) (dO H o) ((5,I i)::e14 (H.length+1) n i))
  (hQ:∀E',ab [3,4,14,16,17] E'=e34 (H.length+1) (dO H (o++[(d:Int)])) (e14 (H.length+1) n i)->Q .nrm E' (DZ H g l' (o++[(d:Int)]))):
  WB ⟨C,lk,L,[1]⟩ (.regN [3,4,5,14,16,17] [ kM 20 4,kM 21 3,kM 22 5,kx 23 (.call 35 [(ux 21),(ux 22)]),kx 24 (.buildS 1 [(.val (.int .i64 0))] [(0,1,(ux 23))]),kx 25 (.app 1 8 (ux 20) (ux 24)),kM 4 25]) Q E (DZ H g l o):=by
 have hro1:8<=aM:=by unfold aM;omega
 have hro:(o.length+1)*8<=aM:=by unfold aM;omega
 have hlen:=aV o;unfold e34 e14 at *;rw[ae,hE];by_cases ho:o=[]
 ·subst ho;have e1:DZ H g l' ([]++[(d:Int)])=DZ H g l' []++[.cells [I d]]:=by simp[DZ,dX,ints]
  have e2:(DZ H g l' []).length=H.length+2:=by simp[DZ,dX]
  have e3:dO H ([]++[(d:Int)])= .hs (H.length+2) 1 0 1 1:=by simp[dO]
  have e4:dO H []= .e0:=rfl;rw[e1,e3]at hQ;rw[e4]at hE |-;generalize DZ H g l []=Z1 at *;generalize DZ H g l' []=Z2 at *;simp[kd,hro1,aN,e2];refine hQ _ ?_;rfl
 ·have e1:dO H o= .hs (H.length+2) o.length 0 o.length 1:=if_neg ho;have e2:dO H (o++[(d:Int)])= .hs (H.length+2) (o.length+1) 0 (o.length+1) 1:=by simp[dO]
  have e3:(DZ H g l' o)[H.length+2]?=some (.cells (ints o)):=by
   unfold DZ dX;rw[List.getElem?_append_right (by omega),Nat.add_sub_cancel_left,if_neg ho];rfl
  have e4:(DZ H g l' o).set (H.length+2) (.cells (ints (o++[(d:Int)])))=DZ H g l' (o++[(d:Int)]):=by
   unfold DZ dX;rw[List.set_append_right _ _ (by omega),Nat.add_sub_cancel_left,if_neg ho,if_neg (by simp)];rfl
  have e5:ints o++[I d]=ints (o++[(d:Int)]):=by simp[ints]
  rw[e2,<-e4,<-e5]at hQ;rw[e1]at hE |-;generalize DZ H g l o=Z1 at *;generalize DZ H g l' o=Z2 at *;have hlk2:lk<=H.length+2:=by omega
  simp[kd,hro,aN,e3,hlen,aR,hlk2];have e6:eh o.length o.length 1=o.length+1:=by simp[eh]
  have e7:cS o.length o.length (ints o) [I d]=ints o++[I d]:=by
   unfold cS;simp[List.take_of_length_le,hlen]
  rw[e6,e7];refine hQ _ ?_;rfl
theorem p19 {v:AV}(hv:fb 5 (e34 b v (e14 b n i))=true)(hE:ab [3,4,14,16,17] E=e34 b v (e14 b n i))
  (hQ:∀E',ab [3,4,5,14,16,17] E'=e34 b v ((5,I i)::e14 b n i)->Q .nrm E' H):WB ⟨C,lk,L,[1]⟩ (.regN [3,4,14,16,17] [ kM 19 17,kM 5 19]) Q E H:=by
 unfold e34 e14 at *;rw[ae,hE];simp[hv];refine hQ _ ?_;rfl
theorem p18 {v:AV}(hE:ab [3,4,14,16,17] E=e34 b v (e14 b n i))
  (hQ:∀E',find E' 18=Bo (decide (i<n))->ab [4] E'=[(4,v)]->ab [3,4,14,16,17] E'=e34 b v (e14 b n i)->Q .nrm E' H):WB ⟨C,lk,L,[1]⟩ (.regN [3,4,14,16,17] [ kT 18 17 16]) Q E H:=by
 unfold e34 e14 at *;rw[ae,hE];simp;refine hQ _ ?_ ?_ ?_
 ·simp[find]
 ·rfl
 ·rfl
theorem p26 {v:AV}(hi:i<=1000)(hE:ab [3,4,14,16,17] E=e34 b v (e14 b n i))
  (hQ:∀E',ab [3,4,14,16,17] E'=e34 b v (e14 b n (i+1))->Q .nrm E' H):WB ⟨C,lk,L,[1]⟩ (.regN [3,4,14,16,17] [ kU 26 17,kM 17 26]) Q E H:=by
 have w1:IntKind.i64.wrap ((i:Int)+1)=(i:Int)+1:=au (by omega) (by omega)
 unfold e34 e14 at *;rw[ae,hE];simp[w1];refine hQ _ ?_;simp
end

def oU (g:Gm)(i:Nat):List Int:=(List.range i).map fun i=>(dptM g i:Int)
theorem xl (g:Gm)(i:Nat):(oU g i).length=i:=by simp[oU]
theorem Cn (g:Gm)(i:Nat):oU g (i+1)=oU g i++[(dptM g i:Int)]:=by simp[oU,List.range_succ]
theorem O4 (d:Nat)(H:Heap)(o:List Int)(b n i:Nat):fb d (e34 b (dO H o) (e14 b n i))=true:=by
 unfold dO e34 e14;split<;>rfl
section
variable {C:Orc}{Q:Ex->Kt}{E:Env}{lk L:Nat}{H:Heap}{b n i d:Nat}{o:List Int}{l l':List Nat}{g:Gm}
theorem Gg (hlk:lk<=H.length)(hn:n=g.n.toNat)(hn16:n<=16)
  (kd:∀i l o,i<n->C lk L 35 [.hp (H.length+1) 6 0,I (i:Nat)] (DZ H g l o)=some (I (dptM g i),DZ H g (ofF g 18 i l) o))
  (hE:ab [3,4,14,16,17] E=e34 (H.length+1) (dO H []) (e14 (H.length+1) n 0))
  (hQ:∀E' l,ab [4] E'=[(4,dO H (oU g n))]->Q .nrm E' (DZ H g l (oU g n))):
  WB ⟨C,lk,L,[1]⟩ (.block 0 (.loop [3,4,14,16,17] ED)) Q E (DZ H g [] []):=by
 rw[ap];refine ax (σ:=Nat×List Nat) (fun s=>e34 (H.length+1) (dO H (oU g s.1)) (e14 (H.length+1) n s.1)) (fun s=>DZ H g s.2 (oU g s.1)) (fun s=>s.1<=n) (fun s=>n-s.1) ?_ (0,[]) (Nat.zero_le _) hE rfl;rintro⟨i,l⟩ hi;simp only at hi;unfold ED;have hE0:ab [3,4,14,16,17] (e34 (H.length+1) (dO H (oU g i)) (e14 (H.length+1) n i))=e34 (H.length+1) (dO H (oU g i)) (e14 (H.length+1) n i):=by
  unfold dO e34 e14;split<;>rfl
 rw[ai];refine p18 hE0 fun E1 g1 h1' h1=>?_;rw[ah,ai];by_cases hin:i<n;case neg=>
  obtain rfl:i=n:=by omega
  rw[decide_eq_false hin]at g1;rw[af (aI g1),bT,a8,bQ,aG,if_pos rfl];exact hQ _ _ h1'
 rw[decide_eq_true hin]at g1;rw[ak (aI g1),aA,ah,ai,ap,ai];refine p19 (O4 _ _ _ _ _ _) h1 fun E2 h2=>?_;rw[ah];refine p20 hlk (by rw[xl];omega) (kd i l _ hin) h2 fun E3 h3=>?_
 rw[a6,ah];refine p26 (by omega) h3 fun E4 h4=>?_
 rw[ao];rw[<-Cn]at h4 |-;exact⟨(i+1,ofF g 18 i l),hin,by simp only;omega,h4,rfl⟩
end
theorem Je {S:Cx}{Q:Ex->Kt}{env:Env}{H:Heap}{keep:List Nat}{m:Nat}{ops:List AI}(hm:¬m=0)(h:WD S m ops (Q .nrm) (ab keep env) H):WB S (.regD keep m ops) Q env H:=by
 simp only[WB];rw[if_neg (fun h=>hm h.1)];exact h
theorem p9 {C:Orc}{Q:Ex->Kt}{E:Env}{lk L:Nat}{H:Heap}{t gn k:Int}{ps:List Pr}{em:List Bool}{n:Nat}(kn:C H.length L 34 [.agg [I t,I gn,I k,.sl ps.length (psC ps)]] H=some (.sl n (bools em),H))(hE:ab [1] E=[(1,.box [I t,I gn,I k,.sl ps.length (psC ps)])])
  (hbl:belowL H.length [.agg [I t,I gn,I k,.sl ps.length (psC ps)]]=true)
  (hQ:∀E',ab [1,3,14] E'=[(1,.box [I t,I gn,I k,.sl ps.length (psC ps)]),(3,.hp (H.length+1) 6 0),(14,.hp (H.length+1) 6 0)]->Q .nrm E' (H++[.map [],.cells (dcC t gn k ps em n H.length)])):
  WB ⟨C,lk,L,[1]⟩ (.regD [1] 2 [ kP 9 1 4 1,kP 10 1 4 1,kC 11 34 10,kx 12 (.mkm),kx 13 (.build [(.val (.int .i64 0)),(.val (.int .i64 0)),(.val (.int .i64 0)),.e0,.e0,(.val (.map none))] [(0,4,(ux 9)),(4,1,(ux 11)),(5,1,(ux 12))]),⟨some 14,none,.boxH 6 (ux 13),1,false⟩,kM 3 14]) Q E H:=by
 refine Je (by decide) ?_
 unfold WD;rw[hE];have ht1:(H++[HB.hole,.hole]).take H.length=H:=by simp
 have ht2:(H++[HB.map [],.hole]).take H.length=H:=by simp
 have hs1:(H++[HB.hole,.hole]).set H.length (.map [])=H++[.map [],.hole]:=by simp
 have hs2:∀x,(H++[HB.map [],.hole]).set (H.length+1) x=H++[.map [],x]:=fun x=>by
  rw[List.set_append_right _ _ (by omega),Nat.add_sub_cancel_left];rfl
 have hg1:(H++[HB.hole,.hole])[H.length]?=some .hole:=by simp
 have hg2:(H++[HB.map [],.hole])[H.length+1]?=some .hole:=by rw[List.getElem?_append_right (by omega),Nat.add_sub_cancel_left];rfl
 have hr:List.replicate 2 HB.hole=[.hole,.hole]:=rfl;rw[hr];simp[cX,dq,fG,je,okT,cls,b9,eJ,isFree,isRow,guardI,bj,kn,hbl,ht1,ht2,hs1,hs2,hg1,hg2,cA,isCall,cls2,an];refine⟨_,_,⟨rfl,rfl⟩,?_,hQ _ rfl⟩;exact bm rfl (bm rfl (bm rfl (bm rfl (bm rfl (bm rfl (bm rfl (bm rfl (ma _))))))))
theorem oG {lk lim:Nat}{H:Heap}(hlk:lk<=H.length)(g:Gm)(hl:g.ps.length<=1000000)(hr:∀p∈g.ps,p.r.length<=1000000):
  aj X A lk lim 15 [gV g] H=some (Ax g,H):=by
 have ka:=fun (L:Nat)=>jJ (lk:=lk) (lim:=L) hlk g hl hr;refine ar [1] rfl A15 rfl rfl ?_;unfold N4 Ax;by_cases hacc:cN g=0;case neg=>
  rw[if_neg hacc];have hx:(cN g != 0)=true:=by simpa using hacc
  generalize cN g=e at *;generalize aj X A=C at *;obtain⟨t,gn,k,ps⟩:=g;simp only[gV,Gm.cells]at ka |-;simp[ka,hx,hacc]
 rw[if_pos hacc];have ha:=jL hacc;have kn:=sN (lk:=H.length) (lim:=H.length) (H:=H) (g:=g) hl hr (Nat.le_refl _);rw[show jG g false= .sl g.n.toNat (bools (derM g false)) from if_pos ha.chk]at kn;have kd:∀i l o,i<g.n.toNat->aj X A lk H.length 35 [.hp (H.length+1) 6 0,I (i:Nat)] (DZ H g l o)=some (I (dptM g i),DZ H g (ofF g 18 i l) o):=fun i l o hi=>
  sZ ha (O3 hlk o) hr 18 i l hi (by have:=F8 g i;have:=ha.ok.n2;omega)
 have hdz:DZ H g [] []=H++[.map [],.cells (dcC g.t g.n g.k g.ps (derM g false) g.n.toNat H.length)]:=rfl;have hP:oU g g.n.toNat=bL g:=rfl;generalize aj X A=C at *;have hg:=ha.ok;have hn16:g.n.toNat<=16:=by have:=hg.n2;omega
 have hmain:=fun (Q:Ex->Kt) E=>Gg (C:=C) (lk:=lk) (L:=H.length) (Q:=Q) (E:=E) hlk rfl hn16 kd;have hlen:(bL g).length=g.n.toNat:=by rw[<-hP,xl]
 have hDZ:∀l,DZ H g l (bL g)=H++(.map (dEnt g l):: .cells (dcC g.t g.n g.k g.ps (derM g false) g.n.toNat H.length)::dX (bL g)):=fun _=>rfl;rw[hP,hdz]at hmain;have hn1:=hg.n1;clear kd hdz hP;obtain⟨N,hN⟩:∃N,bL g=N:=⟨_,rfl⟩;rw[hN]at hmain hlen hDZ |-;obtain⟨t,gn,k,ps⟩:=g;simp only[gV,Gm.cells]at ka kn hmain hlen hDZ hn1 hn16 |-;rw[hacc]at ka;obtain⟨n,rfl⟩:∃n:Nat,gn=n:=⟨gn.toNat,by omega⟩
 simp only[Int.toNat_natCast]at kn hmain hlen hDZ hn16;have hn0:0<n:=by omega
 have hNe:¬N=[]:=fun e=>by rw[e]at hlen;simp at hlen;omega
 simp only[dcC]at hmain;generalize derM ⟨t,n,k,ps⟩ false=em at *;simp[-ak,-af,-ap,-ae,-aB];rw[ae];simp[-ak,-af,-ap,-ae,-aB];rw[ae];simp[-ak,-af,-ap,-ae,-aB,ka];rw[af rfl,aA,ah,ai];refine p9 (em:=em) (n:=n) kn rfl (by simp[belowL,Hm.below]) fun E1 h1=>?_
 rw[ah,ai,ae,h1];simp[-ap,dcC];refine hmain _ _ (by simp[e34,e14,dO]) fun E2 l h=>?_
 have hb:=xf H.length (H++(.map (dEnt ⟨t,n,k,ps⟩ l):: .cells (dcC t n k ps em n H.length)::[.cells (ints N)])) 7 N;have hb2:=bel_ints 0 N;have hl2:=aV N;have htk:(ints N).take n=ints N:=List.take_of_length_le (by rw[hl2];omega)
 have hZ:=hDZ l;unfold dX at hZ;rw[if_neg hNe]at hZ;rw[ah,ai,ae,h,hZ];unfold dO;rw[if_neg hNe];have hg2:(H++(HB.map (dEnt ⟨t,n,k,ps⟩ l)::HB.cells (dcC t n k ps em n H.length)::[HB.cells (ints N)]))[H.length+2]?=some (.cells (ints N)):=by rw[List.getElem?_append_right (by omega),Nat.add_sub_cancel_left];rfl
 have hlt:¬(H.length+2<H.length):=by omega
 simp[hl2,hlen,htk,hb,hb2,hg2,hlt,Hm.below]

def uV (ps:List Pr):Nat:=ps.foldl (fun m p=>max m p.r.length) 0
def ce (g:Gm):Int:=gj (bL g)*(1+uV g.ps*max 0 (gj (nullM g)))+1
abbrev oW (g:Gm):Int:=if cN g=0 then ce g else 0
theorem Gh:∀(ps:List Pr) (m M:Nat),m<=M->(∀p∈ps,p.r.length<=M)->ps.foldl (fun m p=>max m p.r.length) m<=M
 | [],_,_,h,_=>h
 | p::ps,m,M,h,hp=>Gh ps (max m p.r.length) M (by have:=hp p (by simp);omega) fun q hq=>hp q (by simp[hq])
theorem xm:∀(r:List Int) (x:Int),r.foldl max x=x\/r.foldl max x∈r
 | [],x=>.inl rfl
 | y::r,x=>by
  rcases xm r (max x y) with h | h
  ·by_cases hc:x<=y
   ·exact .inr (by rw[List.foldl_cons,h,Int.max_eq_right hc];simp)
   ·exact .inl (by rw[List.foldl_cons,h];omega)
  ·exact .inr (List.mem_cons_of_mem _ h)
theorem Ay {l:List Int}(h:l≠[]):gj l∈l:=by
 obtain⟨x,r,rfl⟩:=List.exists_cons_of_ne_nil h;rcases xm r x with e | e
 ·show r.foldl max x∈_;rw[e];simp
 ·exact List.mem_cons_of_mem _ e
theorem nT {g:Gm}(ha:AOk g):bL g≠[]/\nullM g≠[]/\1<=gj (bL g)/\gj (bL g)<=17/\uV g.ps<=8∧-1<=gj (nullM g)/\gj (nullM g)<=40210710958665/\(bL g).length<=16/\(nullM g).length<=16:=by
 have hn:=bn ha.ok;have h1:=ha.ok.n1;have h2:=ha.ok.n2;have hd1:(bL g).length=g.n.toNat:=by simp[bL]
 have hd0:bL g≠[]:=fun e=>by rw[e]at hd1;simp at hd1;omega
 have hn0:nullM g≠[]:=fun e=>by have:=hn.len;rw[e]at this;simp at this;omega
 have hm:=Ay hd0;unfold bL at hm;obtain⟨i,_,hi⟩:=List.mem_map.1 hm;have h17:=uU ha i;have hm2:=Ay hn0;have h3:uV g.ps<=8:=Gh g.ps 0 8 (by omega) fun p hp=>(ha.ok.p p hp).len
 have hi2:(dptM g i:Int)=gj (bL g):=hi;exact⟨hd0,hn0,by omega,by omega,h3,hn.lo _ hm2,hn.hi2 ha.ok _ hm2,by omega,by rw[hn.len];omega⟩
section
variable {C:Orc}{Q:Ex->Kt}{E:Env}{lk L:Nat}{H:Heap}{t gn k:Int}{ps:List Pr}{v:AV}{m i:Nat}{d w:Int}{dl nl:List Int}
def k13 (t gn k:Int)(ps:List Pr)(dl:List Int)(m i:Nat):Env:=[(1,.box [I t,I gn,I k,.sl ps.length (psC ps)]),(3,.sl dl.length (ints dl)),(4,I m),(13,.sl ps.length (psC ps)),(14,I ps.length),(15,I i)]
theorem Gi (hl:ps.length<=1000000)(hE:ab [1,3,4,13,14,15] E=k13 t gn k ps dl 0 0)
  (hQ:∀E',ab [1,3,4] E'=[(1,.box [I t,I gn,I k,.sl ps.length (psC ps)]),(3,.sl dl.length (ints dl)),(4,I (uV ps:Nat))]->Q .nrm E' H):
  WB ⟨C,lk,L,[1,6]⟩ (.block 0 (.loop [1,3,4,13,14,15] EC)) Q E H:=by
 rw[ap];refine ax (σ:=Nat×Nat) (fun s=>k13 t gn k ps dl s.2 s.1) (fun _=>H) (fun s=>s.1<=ps.length/\(ps.drop s.1).foldl (fun m p=>max m p.r.length) s.2=uV ps) (fun s=>ps.length-s.1) ?_ (0,0) ⟨Nat.zero_le _,rfl⟩ hE rfl;rintro⟨i,m⟩ ⟨hi,hinv⟩;simp only at hi hinv;unfold EC k13;have w1:IntKind.i64.wrap ((i:Int)+1)=(i:Int)+1:=au (by omega) (by omega)
 by_cases hil:i<ps.length;case neg=>
  obtain rfl:i=ps.length:=by omega
  rw[List.drop_length]at hinv;simp only[List.foldl_nil]at hinv;subst hinv;simp;refine hQ _ ?_;rfl
 rw[List.drop_eq_getElem_cons hil,List.foldl_cons]at hinv;have hs:=cd hil;simp only[Pr.cells]at hs;have hll:=aY ps;have h2:i*2+2<=2*ps.length:=by omega
 generalize ps[i]=p at *;obtain⟨pl,pr⟩:=p;simp only at hs hinv;have hmx:(if m<pr.length then (pr.length:Int) else (m:Int))=((max m pr.length:Nat):Int):=by split<;>omega
 clear hQ;simp[-bd,hil,hll,hs,h2];rw[bd];simp[an,bZ,hmx,w1,ao];exact⟨i+1,max m pr.length,⟨by omega,hinv⟩,by omega,by simp⟩
theorem k25 {lg:Nat}{mx mn:Int}(ka:∀K M,C K M 36 [.sl dl.length (ints dl)] H=some (I mx,H))(kb:C lk L 14 [.agg [I t,I gn,I k,.sl ps.length (psC ps)]] H=some (.sl nl.length (ints nl),H))(kc:∀K M,C K M 36 [.sl nl.length (ints nl)] H=some (I mn,H))
  (h1:1<=mx/\mx<=17) (h2:lg<=8) (h3: -1<=mn/\mn<=40210710958665)
  (hE:ab [1,3,4] E=[(1,.box [I t,I gn,I k,.sl ps.length (psC ps)]),(3,.sl dl.length (ints dl)),(4,I lg)])
  (hQ:∀E',find E' 2=I (mx*(1+lg*max 0 mn)+1)->Q .nrm E' H):
  WB ⟨C,lk,L,[1,6]⟩ (.regD [1,3,4] 0 [ kM 25 3,kf 26 (.call 36 [.tmp 25]),kM 27 4,kP 28 1 4 1,kf 29 (.call 14 [.tmp 28]),kf 30 (.call 36 [.tmp 29]),kx 31 (.mm true [c0,(ux 30)]),kx 32 (.bini .mul (ux 27) (ux 31)),kx 33 (.bini .add c1 (ux 32)),kx 34 (.bini .mul (ux 26) (ux 33)),kU 35 34,kM 2 35]) Q E H:=by
 have hmx:(if 0<mn then mn else 0)=max 0 mn:=by rw[Int.max_def];split<;>split<;>omega
 have hq:0<=max 0 mn/\max 0 mn<=40210710958665:=by omega
 generalize max 0 mn=q at *;have b1:0<=(lg:Int)*q/\(lg:Int)*q<=8*40210710958665:=⟨Int.mul_nonneg (by omega) hq.1,Int.mul_le_mul (by omega) hq.2 hq.1 (by omega)⟩
 have w1:IntKind.i64.wrap ((lg:Int)*q)=lg*q:=au (Int.le_trans (by decide) b1.1) (Int.le_trans b1.2 (by decide))
 obtain⟨p,hp⟩:∃p,(lg:Int)*q=p:=⟨_,rfl⟩;rw[hp]at b1 w1 hQ;have w2:IntKind.i64.wrap (1+p)=1+p:=au (by omega) (by omega)
 have b2:0<=mx*(1+p)/\mx*(1+p)<=17*(1+8*40210710958665):=⟨Int.mul_nonneg (by omega) (by omega),Int.mul_le_mul h1.2 (by omega) (by omega) (by omega)⟩
 obtain⟨r,hr⟩:∃r,mx*(1+p)=r:=⟨_,rfl⟩;rw[hr]at b2 hQ;have w3:IntKind.i64.wrap r=r:=au (by omega) (by omega)
 have w4:IntKind.i64.wrap (r+1)=r+1:=au (by omega) (by omega)
 rw[aB rfl,hE];simp[ka,kb,kc,bZ,hmx,hp,w1,w2,hr,w3,w4];refine hQ _ ?_;rfl
end
theorem cG {lk lim:Nat}{H:Heap}(hlk:lk<=H.length)(g:Gm)(hl:g.ps.length<=1000000)(hr:∀p∈g.ps,p.r.length<=1000000):
  aj X A lk lim 16 [gV g] H=some (I (oW g),H):=by
 have kd:=fun (L:Nat)=>oG (lk:=lk) (lim:=L) hlk g hl hr;refine ar [1,6] rfl A16 rfl rfl ?_;unfold N3 oW;unfold Ax at kd;by_cases hacc:cN g=0;case neg=>
  rw[if_neg hacc];simp only[if_neg hacc]at kd;generalize aj X A=C at *;obtain⟨t,gn,k,ps⟩:=g;simp only[gV,Gm.cells]at kd |-;simp[kd]
 rw[if_pos hacc];simp only[if_pos hacc]at kd;have ha:=jL hacc;obtain⟨q1,q2,q3,q4,q5,q6,q7,q8,q9⟩:=nT ha;have ka:∀K M,aj X A K M 36 [.sl (bL g).length (ints (bL g))] H=some (I (gj (bL g)),H):=fun K M=>rh _ q1 (by omega)
 have kc:∀K M,aj X A K M 36 [.sl (nullM g).length (ints (nullM g))] H=some (I (gj (nullM g)),H):=fun K M=>rh _ q2 (by omega)
 have kb:∀K M,K<=H.length->aj X A K M 14 [gV g] H=some (.sl (nullM g).length (ints (nullM g)),H):=fun K M hK=>by
  have:=oE (lk:=K) (lim:=M) hK g hl hr;rw[show Au g= .sl (nullM g).length (ints (nullM g)) from if_pos hacc]at this;exact this
 unfold ce;generalize aj X A=C at *;generalize bL g=dl at *;generalize nullM g=nl at *;have hd:0<dl.length:=by cases dl with
  | nil=>exact absurd rfl q1
  | cons=>simp
 have hd2:((dl.length:Int)==0)=false:=by rw[beq_eq_false_iff_ne];omega
 obtain⟨t,gn,k,ps⟩:=g;simp only[gV,Gm.cells]at kd kb |- q5 hl;simp[-ak,-af,-ap,-ae,-aB];rw[ae];simp[-ak,-af,-ap,-ae,-aB];rw[ae];simp[-ak,-af,-ap,-ae,-aB,kd];rw[ae];simp[-ak,-af,-ap,-ae,-aB,hd2];rw[af rfl,aA,ah,ai,ae];simp[-ap,-aB];refine Gi (dl:=dl) (ps:=ps) (t:=t) (gn:=gn) (k:=k) hl (by simp[k13]) fun E1 h1=>?_
 rw[ah,ai];refine k25 (lg:=uV ps) ka (kb lk _ hlk) kc ⟨q3,q4⟩ q5 ⟨q6,q7⟩ h1 fun E2 h2=>?_;simp[h2]

theorem y4 (a:Int):∀(l:List Int) (b:Int),l.foldl max (max a b)=max a (l.foldl max b)
 | [],_=>rfl
 | x::l,b=>by rw[List.foldl_cons,List.foldl_cons,Int.max_assoc,y4 a l]
theorem u9 {l:List Int}(h:l≠[]):l.foldl max 0=max 0 (gj l):=by
 obtain⟨x,r,rfl⟩:=List.exists_cons_of_ne_nil h;exact y4 0 r x
section
variable {C:Orc}{Q:Ex->Kt}{E:Env}{lk L:Nat}{H:Heap}{t gn k:Int}{ps:List Pr}{d w:Int}{dl nl:List Int}{lg:Nat}
theorem Rf (hl:dl.length<=1000000)(hnl:nl.length=dl.length)
  (hE:ab [1,3,4,5,6,7,8] E=[(1,.box [I t,I gn,I k,.sl ps.length (psC ps)]),(3,.sl nl.length (ints nl)),(4,.sl dl.length (ints dl)),(5,I 0),(6,I 0),(7,I 0),(8,I 0)])
  (hQ:∀E',ab [1,5,6,7] E'=[(1,.box [I t,I gn,I k,.sl ps.length (psC ps)]),(5,I (dl.foldl max 0)),(6,I (nl.foldl max 0)),(7,I 0)]->Q .nrm E' H):
  WB ⟨C,lk,L,[1]⟩ (.block 0 (.loop [1,3,4,5,6,7,8] QO)) Q E H:=by
 rw[ap];refine ax (σ:=Nat×Int×Int) (fun s=>[(1,.box [I t,I gn,I k,.sl ps.length (psC ps)]),(3,.sl nl.length (ints nl)),(4,.sl dl.length (ints dl)),(5,I s.2.1),(6,I s.2.2),(7,I 0),(8,I s.1)]) (fun _=>H)
  (fun s=>s.1<=dl.length/\(dl.drop s.1).foldl max s.2.1=dl.foldl max 0/\(nl.drop s.1).foldl max s.2.2=nl.foldl max 0) (fun s=>dl.length-s.1) ?_ (0,0,0) ⟨Nat.zero_le _,rfl,rfl⟩ hE rfl
 rintro⟨i,a,b⟩ ⟨hi,h1,h2⟩;simp only at hi h1 h2;unfold QO;have w1:IntKind.i64.wrap ((i:Int)+1)=(i:Int)+1:=au (by omega) (by omega)
 by_cases hil:i<dl.length;case neg=>
  obtain rfl:i=dl.length:=by omega
  rw[List.drop_length]at h1;rw[<-hnl,List.drop_length]at h2;simp only[List.foldl_nil]at h1 h2;rw[<-h1,<-h2]at hQ;simp;refine hQ _ ?_;rfl
 have hin:i<nl.length:=by omega
 rw[List.drop_eq_getElem_cons hil,List.foldl_cons]at h1;rw[List.drop_eq_getElem_cons hin,List.foldl_cons]at h2;have g1:=fun h=>bv hil h;have g2:=fun h=>bv hin h;have l1:=aV dl;have l2:=aV nl;generalize dl[i]=x at *;generalize nl[i]=y at *;have m1:(if a<x then x else a)=max a x:=by rw[Int.max_def];split<;>split<;>omega
 have m2:(if b<y then y else b)=max b y:=by rw[Int.max_def];split<;>split<;>omega
 clear hQ;simp[hil,hin,hnl,g1,g2,l1,l2,bZ,m1,m2,w1,ao];exact⟨i+1,max a x,max b y,⟨by omega,h1,h2⟩,by omega,by simp⟩
theorem Rg (hl:ps.length<=1000000)
  (hE:ab [1,5,6,7,9] E=[(1,.box [I t,I gn,I k,.sl ps.length (psC ps)]),(5,I d),(6,I w),(7,I 0),(9,I 0)])
  (hQ:∀E',ab [5,6,7] E'=[(5,I d),(6,I w),(7,I (uV ps:Nat))]->Q .nrm E' H):
  WB ⟨C,lk,L,[1]⟩ (.block 2 (.loop [1,5,6,7,9] QP)) Q E H:=by
 rw[ap];refine ax (σ:=Nat×Nat) (fun s=>[(1,.box [I t,I gn,I k,.sl ps.length (psC ps)]),(5,I d),(6,I w),(7,I s.2),(9,I s.1)]) (fun _=>H) (fun s=>s.1<=ps.length/\(ps.drop s.1).foldl (fun m p=>max m p.r.length) s.2=uV ps) (fun s=>ps.length-s.1) ?_ (0,0) ⟨Nat.zero_le _,rfl⟩ hE rfl;rintro⟨i,m⟩ ⟨hi,hinv⟩;simp only at hi hinv;unfold QP;have w1:IntKind.i64.wrap ((i:Int)+1)=(i:Int)+1:=au (by omega) (by omega)
 by_cases hil:i<ps.length;case neg=>
  obtain rfl:i=ps.length:=by omega
  rw[List.drop_length]at hinv;simp only[List.foldl_nil]at hinv;subst hinv;simp;refine hQ _ ?_;rfl
 rw[List.drop_eq_getElem_cons hil,List.foldl_cons]at hinv;have hs:=qF hil;have hll:=aY ps;have h2:i*2+1<2*ps.length:=by omega
 have hsE:∀h,(psC ps)[i*2+1]'h= .sl ps[i].r.length (ints ps[i].r):=fun h=>(List.getElem?_eq_some_iff.1 hs).2;generalize ps[i]=p at *;obtain⟨pl,pr⟩:=p;simp only at hsE hinv;have hmx:(if m<pr.length then (pr.length:Int) else (m:Int))=((max m pr.length:Nat):Int):=by split<;>omega
 clear hQ;simp[hil,hll,hsE,h2,bZ,hmx,w1,ao];exact⟨i+1,max m pr.length,⟨by omega,hinv⟩,by omega,by simp⟩
end
theorem g8 {lk lim:Nat}{H:Heap}(hlk:lk<=H.length)(g:Gm)(hl:g.ps.length<=1000000)(hr:∀p∈g.ps,p.r.length<=1000000):
  aj X A lk lim 23 [gV g] H=some (I (oW g),H):=by
 have kd:=fun (L:Nat)=>mS (lk:=lk) (lim:=L) hlk g hl hr;have kn:=fun (L:Nat)=>l3 (lk:=lk) (lim:=L) hlk g hl hr;refine ar [1] rfl A23 rfl rfl ?_;unfold Ro oW;unfold Ax at kd;unfold Au at kn;by_cases hacc:cN g=0;case neg=>
  rw[if_neg hacc];simp only[if_neg hacc]at kd kn;generalize aj X A=C at *;obtain⟨t,gn,k,ps⟩:=g;simp only[gV,Gm.cells]at kd kn |-;simp[kd,kn]
 rw[if_pos hacc];simp only[if_pos hacc]at kd kn;have ha:=jL hacc;obtain⟨q1,q2,q3,q4,q5,q6,q7,q8,q9⟩:=nT ha;have hnd:(nullM g).length=(bL g).length:=by rw[(bn ha.ok).len];simp[bL]
 unfold ce;have f1:=u9 q1;have f2:=u9 q2;generalize aj X A=C at *;generalize bL g=dl at *;generalize nullM g=nl at *;have hd:0<dl.length:=by cases dl with
  | nil=>exact absurd rfl q1
  | cons=>simp
 have hd2:((dl.length:Int)==0)=false:=by rw[beq_eq_false_iff_ne];omega
 obtain⟨t,gn,k,ps⟩:=g;simp only[gV,Gm.cells]at kd kn |- q5 hl;simp[-ak,-af,-ap,kd,kn,hd2];rw[af rfl,aA,ah,ai,ae];simp[-ap];refine Rf (dl:=dl) (nl:=nl) (ps:=ps) (t:=t) (gn:=gn) (k:=k) (by omega) hnd (by simp) fun E1 h1=>?_
 rw[ah,ai,ai,ae,h1];simp[-ap];refine Rg (ps:=ps) (t:=t) (gn:=gn) (k:=k) (d:=dl.foldl max 0) (w:=nl.foldl max 0) hl (by simp) fun E2 h2=>?_
 rw[ah,ai,ae,h2,f1,f2,Int.max_eq_right (show (0:Int)<=gj dl by omega)]
 have hq:0<=max 0 (gj nl)/\max 0 (gj nl)<=40210710958665:=by omega
 generalize max 0 (gj nl)=q at *;generalize gj dl=mx at *;generalize uV ps=lg at *;have b1:0<=(lg:Int)*q/\(lg:Int)*q<=8*40210710958665:=⟨Int.mul_nonneg (by omega) hq.1,Int.mul_le_mul (by omega) hq.2 hq.1 (by omega)⟩
 have w1:IntKind.i64.wrap ((lg:Int)*q)=lg*q:=au (Int.le_trans (by decide) b1.1) (Int.le_trans b1.2 (by decide))
 obtain⟨p,hp⟩:∃p,(lg:Int)*q=p:=⟨_,rfl⟩;rw[hp]at b1 w1 |-;have w2:IntKind.i64.wrap (1+p)=1+p:=au (by omega) (by omega)
 have b2:0<=mx*(1+p)/\mx*(1+p)<=17*(1+8*40210710958665):=⟨Int.mul_nonneg (by omega) (by omega),Int.mul_le_mul q4 (by omega) (by omega) (by omega)⟩
 obtain⟨r,hr2⟩:∃r,mx*(1+p)=r:=⟨_,rfl⟩;rw[hr2]at b2 |-;have w3:IntKind.i64.wrap r=r:=au (by omega) (by omega)
 have w4:IntKind.i64.wrap (r+1)=r+1:=au (by omega) (by omega)
 simp[hp,w1,w2,hr2,w3,w4]

abbrev iV (l:List Int):AV:=.sl l.length (ints l)
def IV (v:AV)(l:List Int):Prop:=v=iV l\/(v= .e0/\l=[])
theorem Jf {lk lim:Nat}{H:Heap}(a b:List Int)(hl:a.length<=1000000000)(he:a.length=b.length):aj X A lk lim 13 [(iV a),(iV b)] H=some (Bo (decide (a=b)),H):=by
 refine ar [] rfl A13 rfl rfl ?_;unfold IG;generalize aj X A=C;have hne:((a.length:Int) != b.length)=false:=by simp[he]
 simp[hne];refine ax (σ:=Nat) (fun i=>[(0,(iV a)),(1,(iV b)),(5,I i)]) (fun _=>H)
  (fun i=>i<=a.length/\decide (a=b)=decide (a.drop i=b.drop i)) (fun i=>a.length-i) ?_ 0 (by simp) (by simp[ab,find]) rfl
 rintro i ⟨hi,hinv⟩;unfold sx;have w:IntKind.i64.wrap ((i:Int)+1)=(i:Int)+1:=au (by omega) (by omega)
 by_cases hil:i<a.length
 ·have hil2:i<b.length:=by omega
  have ga:=fun h=>bv hil h;have gb:=fun h=>bv hil2 h;rw[List.drop_eq_getElem_cons hil,List.drop_eq_getElem_cons hil2]at hinv;generalize a[i]=x at ga hinv;generalize b[i]=y at gb hinv;have l1:=aV a;have l2:=aV b;by_cases hxy:x=y
  ·subst hxy;simp[hil,hil2,ga,gb,l1,l2,w,ao];exact⟨i+1,⟨by omega,(decide_eq_decide.1 hinv).trans (by simp)⟩,by omega,by simp⟩
  ·have hb:(x != y)=true:=by simpa using hxy
   have hb2:¬x=y:=hxy;have:decide (a=b)=false:=by rw[hinv];simp[hxy]
   rw[this];simp[hil,hil2,ga,gb,l1,l2,hb,hb2]
 ·obtain rfl:i=a.length:=by omega
  rw[List.drop_length,he,List.drop_length]at hinv;have h2:decide (a=b)=true:=by rw[hinv];simp
  rw[h2];simp
theorem jM {lk lim:Nat}{H:Heap}{va vb:AV}{a b:List Int}(ha:IV va a)(hb:IV vb b)(hl:a.length<=1000000000):aj X A lk lim 13 [va,vb] H=some (Bo (decide (a=b)),H):=by
 by_cases he:a.length=b.length
 ·by_cases h0:a=[]
  ·subst h0;have hb0:b=[]:=List.eq_nil_of_length_eq_zero he.symm;subst hb0;rw[show decide (([]:List Int)=[])=true from rfl];rcases ha with rfl | ⟨rfl,_⟩<;>rcases hb with rfl | ⟨rfl,_⟩;all_goals
    refine ar [] rfl A13 rfl rfl ?_;unfold IG;generalize aj X A=C;simp
   ·exact ax (σ:=Unit) (fun i=>[(0,(iV [])),(1,(iV [])),(5,I 0)]) (fun _=>H) (fun i=>True) (fun i=>0) (fun i _=>by unfold sx;simp) () trivial (by simp[ab,find]) rfl
   ·exact ax (σ:=Unit) (fun i=>[(0,(iV [])),(1,.e0),(5,I 0)]) (fun _=>H) (fun i=>True) (fun i=>0) (fun i _=>by unfold sx;simp) () trivial (by simp[ab,find]) rfl
   ·exact ax (σ:=Unit) (fun i=>[(0,.e0),(1,(iV [])),(5,I 0)]) (fun _=>H) (fun i=>True) (fun i=>0) (fun i _=>by unfold sx;simp) () trivial (by simp[ab,find]) rfl
   ·exact ax (σ:=Unit) (fun i=>[(0,.e0),(1,.e0),(5,I 0)]) (fun _=>H) (fun i=>True) (fun i=>0) (fun i _=>by unfold sx;simp) () trivial (by simp[ab,find]) rfl
  ·have h1:va=(iV a):=ha.resolve_right fun h=>h0 h.2;have h2:vb=(iV b):=hb.resolve_right fun h=>h0 (List.eq_nil_of_length_eq_zero (by rw[he,h.2];rfl))
   rw[h1,h2];exact Jf a b hl he
 ·have hne:((a.length:Int) != b.length)=true:=by simp;omega
  have hd:decide (a=b)=false:=decide_eq_false fun e=>he (by rw[e])
  rw[hd];rcases ha with rfl | ⟨rfl,rfl⟩<;>rcases hb with rfl | ⟨rfl,rfl⟩;all_goals
   refine ar [] rfl A13 rfl rfl ?_;unfold IG;generalize aj X A=C
   try simp only[List.length_nil,Int.natCast_zero]at hne he
   simp[hne]
  all_goals simp at he

theorem iY {lk lim:Nat}{H:Heap}(hlk:lk<=H.length)(g:Gm)(hl:g.ps.length<=1000000)(hr:∀p∈g.ps,p.r.length<=1000000):
  ∃tv,aj X A lk lim 12 [gV g] H=some (.agg [tv],H)/\TV tv (eW g):=by
 obtain⟨tv,kb,hT⟩:=mV (lim:=H.length) hlk g hl hr;refine⟨tv,?_,hT⟩;obtain⟨l,a,b,x,hx⟩:=RX (jF g);rw[hx]at kb;refine ar [1,2,3,4] rfl A12 rfl rfl ?_;unfold Nq;generalize fX g=e at *;generalize eW g=T at *;generalize aj X A=C at *;obtain⟨t,gn,k,ps⟩:=g;simp only[gV,Gm.cells]at kb |-;rcases hT with⟨rfl,_⟩ | ⟨cs,rfl,_⟩;all_goals
  simp[kb,an]

def rwK (s:List UInt8)(k:Int):List UInt8:=(s++[255]).take (min k.toNat (s.length+1))
theorem QD {lk lim:Nat}{H:Heap}(s:List UInt8)(k:Int)(hs:s.length<=1000000)(hk:0<=k)(hk2:k<=1000000):
  aj X A lk lim 56 [Sg s,I k] H=some (Sg (rwK s k),H):=by
 refine ar [] rfl A56 rfl rfl ?_;unfold Rt rwK;generalize aj X A=C;have hadd:=qH (a:=s) (b:=[255]) (by simp;omega)
 obtain⟨k,rfl⟩:=Int.eq_ofNat_of_zero_le hk;have hsz:(⟨⟨s++[255]⟩⟩:ByteArray).size=s.length+1:=by simp[ByteArray.size]
 obtain⟨q,hq⟩:∃q,min k (s.length+1)=q:=⟨_,rfl⟩;have hmn:(if (s.length:Int)+1<(k:Int) then (s.length:Int)+1 else (k:Int))=(q:Nat):=by split<;>omega
 have hle:(q:Int)<=(s.length:Int)+1:=by omega
 have hq0:(0:Int)<=(q:Nat):=by omega
 rw[show min (k:Int).toNat (s.length+1)=q from hq];simp[dF,hadd,bZ,hsz,bnd,ly,hmn,hle,hq0]

def exC:Gm:=⟨1,1,1,[⟨0,[0,1]⟩,⟨0,[]⟩]⟩
theorem Co {lk lim:Nat}{H:Heap}:aj X A lk lim 10 [] H=some (gV exC,H):=by
 refine eB (r:=(gV exC,H)) ?_;show bU 60 fw (bU 10 exG (dn 32 yr X0)) lk lim 10 [] H=_;unfold bU;rw[if_neg (by decide),if_pos rfl]
 rfl
theorem ze:AOk exC:=⟨br (by decide+kernel),by decide+kernel,by decide+kernel,by decide+kernel,by decide+kernel⟩
theorem Az:ce exC=4:=by decide+kernel



theorem nU (g:Gm){i:Nat}(h:i<g.n.toNat):(bL g).getD i 0=dptM g i:=by
 unfold bL;rw[R3,List.getElem?_map,List.getElem?_range h];rfl
theorem fj {ps:List Pr}{left:Int}{m j:Nat}:j∈ofN ps left m↔j<m/\(ps.getD j ⟨0,[]⟩).l=left:=by
 unfold ofN;rw[List.mem_filter,List.mem_range,decide_eq_true_eq]
theorem bW {ps:List Pr}{j:Nat}(h:j<ps.length):ps.getD j ⟨0,[]⟩∈ps:=by
 rw[R3,R4 h];exact List.getElem_mem h
end Go.Proofs.YtkllbcjanneppaaGreat
