import Derived.Test.YtkllbcjanneppaaGreatGA
import Derived.Test.YtkllbcjanneppaaGreatGB
import Derived.Test.YtkllbcjanneppaaGreatHA
import Derived.Test.YtkllbcjanneppaaGreatGN
import Derived.Test.YtkllbcjanneppaaGreatGK
set_option maxRecDepth 20000
set_option linter.all false
namespace Go.Proofs.YtkllbcjanneppaaGreat
open Go Go.Hm

theorem aI {E:Env}{n:Nat}{b:Bool}(h:find E n=Bo b):ev E (.tmp n)=Bo b:=by
 show (match find E n with | .box _=>AV.rp n 0 | v=>v)=_
 rw[h]
theorem bv {l:List Int}{i:Nat}(h:i<l.length)(h2:i<(ints l).length):(ints l)[i]'h2=I l[i]:=by simp[ints]
abbrev F5:Option Int->AV
 | some n=>.tup [I n,Bo true]
 | none=>.tup [I 0,Bo false]
theorem xe {lk lim:Nat}{H:Heap}{g:Gm}(hg:GOk g){o:List Int}(ho:NOk g o){b:Nat}(hb:H[b]?=some (.cells (ints o))){p:Pr}(hp:POk g p):
  aj X A lk lim 33 [gV g,.hs b o.length 0 o.length 1,.sl p.r.length (ints p.r)] H=some (F5 (bq g.t o p.r 0),H):=by
 have hrl:=hp.len;have hsy:=eE hg ho.len hp;have hss:=hp.s;have hM:=ho.hi2 hg;have hlo:=ho.lo;have hg1:=hg.t1;have hg2:=hg.t2;have hn2:=hg.n2;have hol:=ho.len;clear ho hg;obtain⟨pl,r⟩:=p;simp only at hrl hsy hss |-;refine ar [3] rfl A33 rfl rfl ?_;unfold N7;generalize aj X A=C;obtain⟨t,gn,k,ps⟩:=g;simp only[gV,Gm.cells]at hsy hss hg1 hg2 hn2 |-;obtain⟨R,hR⟩:∃R,bq t o r 0=R:=⟨_,rfl⟩;rw[hR];simp[-ap];rw[ap];refine ax (σ:=Nat×Int) (fun s=>[(1,.hs b o.length 0 o.length 1),(3,.box [I t,I gn,I k,.sl ps.length (psC ps)]),(8,I s.2),(11,.sl r.length (ints r)),(12,I r.length),(13,I s.1)]) (fun _=>H)
  (fun s=>s.1<=r.length/\0<=s.2/\s.2<=s.1*40210710958665/\bq t o (r.drop s.1) s.2=R) (fun s=>r.length-s.1) ?_ (0,0) ⟨Nat.zero_le _,by omega,by simp,hR⟩ (by simp) rfl
 rintro⟨i,n⟩ ⟨hi,hn0,hnM,hinv⟩;simp only at hi hn0 hnM hinv;unfold Kd;have w1:IntKind.i64.wrap ((i:Int)+1)=(i:Int)+1:=au (by omega) (by omega)
 by_cases hil:i<r.length;case neg=>
  obtain rfl:i=r.length:=by omega
  rw[List.drop_length]at hinv;subst hinv;simp[bq]
 rw[List.drop_eq_getElem_cons hil]at hinv;simp only[bq]at hinv;have hsE:=bv hil;have hs1:=hss _ (List.getElem_mem hil);have hs2:=hsy _ (List.getElem_mem hil);generalize r[i]=s at hinv hsE hs1 hs2;have w2:IntKind.i64.wrap (s-t)=s-t:=au (by omega) (by omega)
 have hlen:=aV r;by_cases hst:s<t
 ·rw[if_pos (.inl hst)]at hinv;subst hinv;simp[hil,hsE,hst]
 obtain⟨j,hj⟩:∃j:Nat,s-t=j:=⟨(s-t).toNat,by omega⟩
 rw[hj]at hinv hs2 w2;simp only[Int.toNat_natCast]at hinv hs2;have hmem:=fT hs2;have hv1:=hM _ hmem;have hv2:=hlo _ hmem;have hje:∀h,(ints o)[j]'h=I (o.getD j 0):=fun h=>by rw[R3,R4 hs2];exact bv hs2 h
 generalize o.getD j 0=v at hinv hv1 hv2 hje;have hlo2:=aV o;by_cases hv:v<0
 ·rw[if_pos (.inr hv)]at hinv;subst hinv;simp[hil,hsE,hst,hj,w2,hs2,hb,hje,hv,hlo2]
 ·rw[if_neg (by simp[hst,hv])]at hinv
  have w3:IntKind.i64.wrap (n+v)=n+v:=au (by omega) (by omega)
  simp[hil,hsE,hst,hj,w2,hs2,hb,hje,hv,hlo2,w1,w3,ao];exact⟨i+1,n+v,⟨by omega,by omega,by omega,hinv⟩,by omega,by simp⟩

theorem xf (lim:Nat)(H:Heap)(d:Nat)(l:List Int):ep (frz lim H d) (ints l)=some (ints l):=by
 induction l with
 | nil=>rfl
 | cons a l ih=>
  simp only[ints,List.map_cons,ep,gC]at ih |-;rw[ih]
theorem bel_ints (lim:Nat)(l:List Int):belowL lim (ints l)=true:=by
 induction l with
 | nil=>rfl
 | cons a l ih=>simp only[ints,List.map_cons,belowL,Hm.below,Bool.true_and];exact ih
theorem Mq {lk lim:Nat}{H:Heap}(m n:Int)(h1:1<=n)(h2:n<=1000000):aj X A lk lim 32 [.sl 1 [I m],I n] H=some (.hs H.length n.toNat 0 n.toNat 1,H++[.cells (ints (List.replicate n.toNat m))]):=by
 have h:dn 32 yr X0 lk lim 32 [.sl 1 [I m],I n] H=_:=yo (l:=List.replicate n.toNat m) (by show (if 1<=n/\n<=1000000 then some (List.replicate n.toNat m) else none)=_;rw[if_pos ⟨h1,h2⟩])
 rw[List.length_replicate]at h;refine eB ?_;show bU 60 fw (bU 10 exG (dn 32 yr X0)) lk lim 32 [.sl 1 [I m],I n] H=_;unfold bU;rw[if_neg (by decide),if_neg (by decide)]
 exact h
theorem xg {g:Gm}(h:cN g=0):chkE g=0:=by
 unfold cN at h;split at h
 ·exact h
 ·rename_i h2;simpa using h2
abbrev Au (g:Gm):AV:=if cN g=0 then .sl (nullM g).length (ints (nullM g)) else .e0
theorem zd {g:Gm}{o:List Int}{i:Nat}(h:i<g.ps.length):(g.ps.take (i+1)).foldl (stN g) o=stN g ((g.ps.take i).foldl (stN g) o) g.ps[i]:=by
 rw[List.take_succ_eq_append_getElem h,List.foldl_append];rfl
theorem F7 {o:List Int}{i:Nat}(h:i<o.length)(x:Int):an (ints o) i [I x]=ints (o.set i x):=by
 rw[List.set_eq_take_append_cons_drop,if_pos h];simp[an,ints]
theorem Mr {lk lim b:Nat}{H:Heap}(h:lk<=b)(cs:List AV)(x:Int):aR lk lim 0 H b cs [I x]=some (H.set b (.cells cs)):=by
 unfold aR;rw[if_pos ⟨h,.inr rfl,.inl (Nat.zero_le _)⟩]
section
variable {C:Orc}{Q:Ex->Kt}{E:Env}{lk L:Nat}{H:Heap}{t gn k:Int}{ps:List Pr}{n b i:Nat}{mo:Bool}{pl:Nat}{pr:List Int}{is:Bool}{v w:Int}{o:List Int}
def n4 (t gn k:Int)(ps:List Pr)(b n:Nat)(e:Env):Env:=(1,.box [I t,I gn,I k,.sl ps.length (psC ps)])::(3,.hs b n 0 n 1)::e
def eX (ps:List Pr)(i:Nat):Env:=[(18,.sl ps.length (psC ps)),(19,I ps.length),(20,I i)]
abbrev n6 (pl:Nat)(pr:List Int):Nat×AV:=(6,.box [I pl,.sl pr.length (ints pr)])
theorem a22 (hil:i<ps.length)(hs:((psC ps).drop (i*2)).take 2=[I (pl:Nat),.sl pr.length (ints pr)])
  (hE:ab [1,3,4,18,19,20] E=n4 t gn k ps b n ((4,Bo mo)::eX ps i))
  (hQ:∀E',ab [1,3,4,6,18,19,20] E'=n4 t gn k ps b n ((4,Bo mo)::n6 pl pr::eX ps i)->Q .nrm E' H):
  WB ⟨C,lk,L,[1,6]⟩ (.regN [1,3,4,18,19,20] [ kI 22 2 18 20,kx 23 (.ldA none 2 (ux 22)),kx 6 (.allocR [(.val (.int .i64 0)),.e0]),kn (.st (some 6) 2 (ux 6) (ux 23))]) Q E H:=by
 have hll:=aY ps;have h2:i*2+2<=2*ps.length:=by omega
 unfold n4 eX at *;rw[ae,hE];simp[-bd,hil,hll,hs,h2];rw[bd];simp[an];refine hQ _ ?_;rfl
theorem a25 (kc:C lk L 33 [.agg [I t,I gn,I k,.sl ps.length (psC ps)],.hs b n 0 n 1,.sl pr.length (ints pr)] H=some (.tup [I v,Bo is],H))
  (hE:ab [1,3,4,6,18,19,20] E=n4 t gn k ps b n ((4,Bo mo)::n6 pl pr::eX ps i))
  (hQ:∀E',ab [1,3,4,6,7,8,18,19,20] E'=n4 t gn k ps b n ((4,Bo mo)::n6 pl pr::(7,I v)::(8,Bo is)::eX ps i)->Q .nrm E' H):
  WB ⟨C,lk,L,[1,6]⟩ (.regN [1,3,4,6,18,19,20] [ kP 25 1 4 1,kM 26 3,kF 27 1 6,kS 28 6 27,kx 29 (.call 33 [(ux 25),(ux 26),(ux 28)]),kM 24 29,kE 30 24 0,kE 31 24 1,kM 7 30,kM 8 31]) Q E H:=by
 unfold n4 eX at *;rw[ae,hE];simp[kc];refine hQ _ ?_;rfl
theorem a32 (hb:H[b]?=some (.cells (ints o)))(hn:o.length=n)(hpl:pl<n)(hv:is=true->0<=v/\v<=1000000000000000)
  (hE:ab [1,3,4,6,7,8,18,19,20] E=n4 t gn k ps b n ((4,Bo mo)::n6 pl pr::(7,I v)::(8,Bo is)::eX ps i))
  (hQ:∀E',find E' 50=Bo (is&&decide (o.getD pl 0<0\/v+1<o.getD pl 0))->ab [1,3,6,7,18,19,20] E'=n4 t gn k ps b n (n6 pl pr::(7,I v)::eX ps i)->ab [1,3,4,18,19,20] E'=n4 t gn k ps b n ((4,Bo mo)::eX ps i)->Q .nrm E' H):
  WB ⟨C,lk,L,[1,6]⟩ (.regN [1,3,4,6,7,8,18,19,20] [ kM 32 8,kM 33 32,yM 34 33 3,yF 35 33 0 6,yS 36 33 6 35,yI 37 33 1 34 36,yL 38 33 37,ky 39 33 (.bini .lss (ux 38) c0),yM 40 33 39,zM 41 40 7,kz 42 40 (.bini .add (ux 41) c1),zM 43 40 3,zF 44 40 0 6,zS 45 40 6 44,zI 46 40 1 43 45,zL 47 40 46,kz 48 40 (.bini .lss (ux 42) (ux 47)),ky 49 33 (.pick (ux 40) cT (ux 48)),kx 50 (.pick (ux 33) (ux 49) cF)]) Q E H:=by
 have hpo:pl<o.length:=by omega
 have hje:∀h,(ints o)[pl]'h=I (o.getD pl 0):=fun h=>by rw[R3,R4 hpo];exact bv hpo h
 have hil2:=aV o;generalize o.getD pl 0=w at *;unfold n4 eX at *;rw[ae,hE];cases is with
 | false=>
  simp;refine hQ _ ?_ ?_ ?_<;>rfl
 | true=>
  obtain⟨h1,h2⟩:=hv rfl;have w1:IntKind.i64.wrap (v+1)=v+1:=au (by omega) (by omega)
  by_cases hw:w<0
  ·simp[hb,hje,hil2,hn,hpl,hw];refine hQ _ ?_ ?_ ?_
   ·simp[find,hw]
   ·rfl
   ·rfl
  ·simp[hb,hje,hil2,hn,hpl,hw,w1];refine hQ _ ?_ ?_ ?_
   ·simp[find,hw]
   ·rfl
   ·rfl
theorem a51 (hb:H[b]?=some (.cells (ints o)))(hlk:lk<=b)(hn:o.length=n)(hpl:pl<n)(hv:0<=v/\v<=1000000000000000)
  (hE:ab [1,3,6,7,18,19,20] E=n4 t gn k ps b n (n6 pl pr::(7,I v)::eX ps i))
  (hQ:∀E',ab [1,3,4,18,19,20] E'=n4 t gn k ps b n ((4,Bo true)::eX ps i)->Q .nrm E' (H.set b (.cells (ints (o.set pl (v+1)))))):
  WB ⟨C,lk,L,[1,6]⟩ (.regN [1,3,6,7,18,19,20] [ kM 51 3,kF 52 0 6,kS 53 6 52,kM 54 7,kU 55 54,kI 56 1 51 53,kn (.st none 1 (ux 56) (ux 55)),kx 4 (.mv cT)]) Q E H:=by
 have hil2:=aV o;have w1:IntKind.i64.wrap (v+1)=v+1:=au (by omega) (by omega)
 unfold n4 eX at *;rw[ae,hE];simp[hb,hil2,hn,hpl,w1];rw[F7 (by omega),Mr hlk,if_pos (by omega)]
 refine hQ _ ?_;rfl
theorem a57 (hps:ps.length<=64)(hil:i<ps.length)(hE:ab [1,3,4,18,19,20] E=n4 t gn k ps b n ((4,Bo mo)::eX ps i))
  (hQ:∀E',ab [1,3,4,18,19,20] E'=n4 t gn k ps b n ((4,Bo mo)::eX ps (i+1))->Q .nrm E' H):
  WB ⟨C,lk,L,[1,6]⟩ (.regN [1,3,4,18,19,20] [ kU 57 20,kM 20 57]) Q E H:=by
 have w1:IntKind.i64.wrap ((i:Int)+1)=(i:Int)+1:=au (by omega) (by omega)
 unfold n4 eX at *;rw[ae,hE];simp[w1];refine hQ _ ?_;simp
theorem a21 (hE:ab [1,3,4,18,19,20] E=n4 t gn k ps b n ((4,Bo mo)::eX ps i))
  (hQ:∀E',find E' 21=Bo (decide (i<ps.length))->ab [1,3,4] E'=n4 t gn k ps b n [(4,Bo mo)]->ab [1,3,4,18,19,20] E'=n4 t gn k ps b n ((4,Bo mo)::eX ps i)->Q .nrm E' H):
  WB ⟨C,lk,L,[1,6]⟩ (.regN [1,3,4,18,19,20] [ kT 21 20 19]) Q E H:=by
 unfold n4 eX at *;rw[ae,hE];simp;refine hQ _ ?_ ?_ ?_
 ·simp[find]
 ·rfl
 ·rfl
theorem Cj {Z:Heap}(hg:GOk ⟨t,gn,k,ps⟩)(hn:n=gn.toNat)(hlk:lk<=Z.length){o:List Int}(ho:NOk ⟨t,gn,k,ps⟩ o)
  (kn:∀K M (o:List Int),NOk ⟨t,gn,k,ps⟩ o->∀p∈ps,C K M 33 [.agg [I t,I gn,I k,.sl ps.length (psC ps)],.hs Z.length n 0 n 1,.sl p.r.length (ints p.r)] (Z++[.cells (ints o)])=some (F5 (bq t o p.r 0),Z++[.cells (ints o)]))
  (hE:ab [1,3,4,18,19,20] E=n4 t gn k ps Z.length n ((4,Bo false)::eX ps 0))
  (hQ:∀E' m,ab [1,3,4] E'=n4 t gn k ps Z.length n [(4,Bo m)]->(m=false->jw ⟨t,gn,k,ps⟩ o=o)->(m=true->szN (jw ⟨t,gn,k,ps⟩ o)<szN o)->Q .nrm E' (Z++[.cells (ints (jw ⟨t,gn,k,ps⟩ o))])):
  WB ⟨C,lk,L,[1,6]⟩ (.block 2 (.loop [1,3,4,18,19,20] EG)) Q E (Z++[.cells (ints o)]):=by
 rw[ap];refine ax (σ:=Nat×List Int×Bool) (fun s=>n4 t gn k ps Z.length n ((4,Bo s.2.2)::eX ps s.1)) (fun s=>Z++[.cells (ints s.2.1)])
  (fun s=>s.1<=ps.length/\s.2.1=(ps.take s.1).foldl (stN ⟨t,gn,k,ps⟩) o/\(s.2.2=false->s.2.1=o)/\(s.2.2=true->szN s.2.1<szN o)) (fun s=>ps.length-s.1) ?_ (0,o,false) ⟨Nat.zero_le _,rfl,fun _=>rfl,fun h=>by cases h⟩ hE rfl
 rintro⟨i,o2,m⟩ ⟨hi,ho2,hm1,hm2⟩;simp only at hi ho2 hm1 hm2;unfold EG;have hE0:ab [1,3,4,18,19,20] (n4 t gn k ps Z.length n ((4,Bo m)::eX ps i))=n4 t gn k ps Z.length n ((4,Bo m)::eX ps i):=rfl;rw[ai];refine a21 hE0 fun E1 g1 h1' h1=>?_;rw[ah,ai];by_cases hil:i<ps.length;case neg=>
  obtain rfl:i=ps.length:=by omega
  rw[List.take_of_length_le (Nat.le_refl _)]at ho2;rw[decide_eq_false hil]at g1;rw[af (aI g1),bT,a8,bQ,aG,if_pos rfl];have:=hQ E1 m h1' (fun h=>ho2.symm.trans (hm1 h)) (fun h=>by have:=hm2 h;rw[ho2]at this;exact this)
  rw[show jw ⟨t,gn,k,ps⟩ o=o2 from ho2.symm]at this;exact this
 rw[decide_eq_true hil]at g1;rw[ak (aI g1),aA,ah,ai,ap,ai];have okp:=hg.p _ (List.getElem_mem hil);have ok2:NOk ⟨t,gn,k,ps⟩ o2:=by rw[ho2];exact(jx hg _ (fun p hp=>hg.p p (List.mem_of_mem_take hp)) o ho).1
 have kn2:=kn lk L o2 ok2 _ (List.getElem_mem hil);have hnext:(ps.take (i+1)).foldl (stN ⟨t,gn,k,ps⟩) o=stN ⟨t,gn,k,ps⟩ o2 ps[i]:=by rw[ho2];exact zd (g:=⟨t,gn,k,ps⟩) hil
 have hdec:=(un hg ok2 okp).2;have hbig:=ok2.hi2 hg;have hs:=cd hil;simp only[Pr.cells]at hs;have hol:o2.length=n:=by rw[ok2.len,hn]
 have hsy:=eE hg ok2.len okp;have hps:ps.length<=64:=hg.l2;obtain⟨q1,q2,q3,q4⟩:=okp;generalize ps[i]=p at *;obtain⟨pl,pr⟩:=p;simp only at hnext hdec q1 q2 q3 q4 hs kn2 hsy;obtain⟨pl,rfl⟩:=Int.eq_ofNat_of_zero_le q2;have hpl:pl<n:=by omega
 have hst:stN ⟨t,gn,k,ps⟩ o2 ⟨(pl:Nat),pr⟩=(match bq t o2 pr 0 with
  | some n=>if o2.getD pl 0<0\/n+1<o2.getD pl 0 then o2.set pl (n+1) else o2
  | none=>o2):=rfl
 rw[hst]at hnext hdec;have hsum:=fun v h=>dh hbig (by omega) pr 0 v hsy h
 have hHb:(Z++[HB.cells (ints o2)])[Z.length]?=some (.cells (ints o2)):=by simp
 refine a22 hil hs h1 fun E2 h2=>?_;rw[ah,ai];obtain⟨v,is,hvi,hcase⟩:∃v is,F5 (bq t o2 pr 0)= .tup [I v,Bo is]/\((is=true/\bq t o2 pr 0=some v)\/(is=false/\bq t o2 pr 0=none)):=by
  cases bq t o2 pr 0 with
  | none=>exact⟨0,false,rfl,.inr ⟨rfl,rfl⟩⟩
  | some v=>exact⟨v,true,rfl,.inl ⟨rfl,rfl⟩⟩
 rw[hvi]at kn2;have hv:is=true->0<=v/\v<=1000000000000000:=fun h=>by
  rcases hcase with⟨_,h2⟩ | ⟨h1,_⟩
  ·have h3:=hsum v h2;have:(pr.length:Int)*40210710958665<=8*40210710958665:=by omega
   omega
  ·rw[h1]at h;cases h
 refine a25 kn2 h2 fun E3 h3=>?_;rw[ah,ai];refine a32 hHb hol hpl hv h3 fun E4 g4 h4 h4'=>?_;rw[ah];by_cases hc:(is&&decide (o2.getD pl 0<0\/v+1<o2.getD pl 0))=true
 ·rw[hc]at g4;rw[ak (aI g4)];rw[Bool.and_eq_true,decide_eq_true_eq]at hc;refine a51 hHb hlk hol hpl (hv hc.1) h4 fun E5 h5=>?_;rw[a6,ah];refine a57 hps hil h5 fun E6 h6=>?_;rcases hcase with⟨_,hx⟩ | ⟨hx,_⟩
  ·rw[hx]at hnext hdec;simp only[if_pos hc.2]at hnext hdec;rw[ao];refine⟨(i+1,o2.set pl (v+1),true),⟨hil,hnext.symm,fun h=>absurd h (by simp),fun _=>?_⟩,by simp only;omega,h6,by simp⟩
   have hz:=uk o2 pl (v+1) (by omega)
   have hlt:szN (o2.set pl (v+1))<szN o2:=by
    rcases hdec with h | h
    ·rw[h]at hz;have hget:(o2.set pl (v+1)).getD pl 0=v+1:=by
      rw[R3,List.getElem?_set_self (by omega)];rfl
     rw[h]at hget;have:=(hv hc.1).1;omega
    ·exact h
   simp only;cases m with
   | false=>rw[hm1 rfl]at hlt |-;exact hlt
   | true=>have:=hm2 rfl;omega
  ·rw[hx]at hc;cases hc.1
 ·have hcf:(is&&decide (o2.getD pl 0<0\/v+1<o2.getD pl 0))=false:=by simpa using hc
  rw[hcf]at g4;rw[af (aI g4),aA,a6,ah];refine a57 hps hil h4' fun E6 h6=>?_;rw[ao];refine⟨(i+1,o2,m),⟨hil,?_,hm1,hm2⟩,by simp only;omega,h6,rfl⟩
  show o2=(ps.take (i+1)).foldl (stN ⟨t,gn,k,ps⟩) o;rw[hnext];rcases hcase with⟨hx,hy⟩ | ⟨_,hy⟩
  ·rw[hy];rw[hx,Bool.true_and,decide_eq_false_iff_not]at hcf;simp only;rw[if_neg hcf]
  ·rw[hy]
end

section
variable {C:Orc}{Q:Ex->Kt}{E:Env}{lk L:Nat}{H:Heap}{t gn k:Int}{ps:List Pr}{n b i:Nat}{mo:Bool}{o:List Int}
theorem a16 (hE:ab [1,3,4] E=n4 t gn k ps b n [(4,Bo mo)])
  (hQ:∀E',find E' 16=Bo mo->ab [1,3] E'=n4 t gn k ps b n []->ab [3] E'=[(3,.hs b n 0 n 1)]->Q .nrm E' H):
  WB ⟨C,lk,L,[1,6]⟩ (.regN [1,3,4] [ kM 16 4]) Q E H:=by
 unfold n4 at *;rw[ae,hE];simp;refine hQ _ ?_ ?_ ?_<;>rfl
theorem a4 (hE:ab [1,3] E=n4 t gn k ps b n [])
  (hQ:∀E',ab [1,3,4] E'=n4 t gn k ps b n [(4,Bo false)]->Q .nrm E' H):
  WB ⟨C,lk,L,[1,6]⟩ (.regN [1,3] [ kx 4 (.mv cF)]) Q E H:=by
 unfold n4 at *;rw[ae,hE];simp;refine hQ _ ?_;rfl
theorem a17 (hE:ab [1,3,4] E=n4 t gn k ps b n [(4,Bo mo)])
  (hQ:∀E',ab [1,3,4,18,19,20] E'=n4 t gn k ps b n ((4,Bo mo)::eX ps 0)->Q .nrm E' H):
  WB ⟨C,lk,L,[1,6]⟩ (.regN [1,3,4] [ kF 17 3 1,kS 18 1 17,kN 19 18,kZ 20]) Q E H:=by
 unfold n4 eX at *;rw[ae,hE];simp;refine hQ _ ?_;rfl
theorem Ck {Z:Heap}(hg:GOk ⟨t,gn,k,ps⟩)(hn:n=gn.toNat)(hlk:lk<=Z.length)(hno:o=List.replicate n (-1))
  (kn:∀K M (o:List Int),NOk ⟨t,gn,k,ps⟩ o->∀p∈ps,C K M 33 [.agg [I t,I gn,I k,.sl ps.length (psC ps)],.hs Z.length n 0 n 1,.sl p.r.length (ints p.r)] (Z++[.cells (ints o)])=some (F5 (bq t o p.r 0),Z++[.cells (ints o)]))
  (hE:ab [1,3,4] E=n4 t gn k ps Z.length n [(4,Bo true)])
  (hQ:∀E',ab [3] E'=[(3,.hs Z.length n 0 n 1)]->Q .nrm E' (Z++[.cells (ints (nullM ⟨t,gn,k,ps⟩))])):
  WB ⟨C,lk,L,[1,6]⟩ (.block 0 (.loop [1,3,4] EH)) Q E (Z++[.cells (ints o)]):=by
 rw[ap];refine ax (σ:=List Int×Bool) (fun s=>n4 t gn k ps Z.length n [(4,Bo s.2)]) (fun s=>Z++[.cells (ints s.1)])
  (fun s=>NOk ⟨t,gn,k,ps⟩ s.1/\cH (jw ⟨t,gn,k,ps⟩) (szN s.1+1) s.1=nullM ⟨t,gn,k,ps⟩/\(s.2=false->jw ⟨t,gn,k,ps⟩ s.1=s.1)) (fun s=>2*szN s.1+if s.2=true then 1 else 0) ?_ (o,true)
  ⟨by rw[hno,hn];exact NOk.start _,by rw[hno,hn];rfl,fun h=>by cases h⟩ hE rfl
 clear hno hE;rintro⟨o,mo⟩ ⟨ho,hcl,hm⟩;simp only at ho hcl hm;unfold EH;have hE0:ab [1,3,4] (n4 t gn k ps Z.length n [(4,Bo mo)])=n4 t gn k ps Z.length n [(4,Bo mo)]:=rfl;rw[ai,ai];refine a16 hE0 fun E1 g1 h1 h1'=>?_;rw[ah];rw[wh hg ho]at hcl;cases mo with
 | false=>
  rw[af (aI g1),bT,a8,bQ,aG,if_pos rfl];rw[if_pos (hm rfl)]at hcl;have:=hQ E1 h1';rw[<-hcl]at this;exact this
 | true=>
  rw[ak (aI g1),aA,ah,ap,ai];refine a4 h1 fun E2 h2=>?_;rw[ah,ai];refine a17 h2 fun E3 h3=>?_;rw[ah];refine Cj hg hn hlk ho kn h3 fun E4 m h4 hf ht=>?_;rw[a6,ao];have hk:=(di hg).keep o ho;cases m with
  | false=>
   have he:=hf rfl;simp only at he;simp only[he];rw[if_pos he]at hcl;exact⟨(o,false),⟨ho,by rw[wh hg ho,if_pos he];exact hcl,fun _=>he⟩,by simp,h4,rfl⟩
  | true=>
   have hl:=ht rfl;simp only at hl;have hne:¬jw ⟨t,gn,k,ps⟩ o=o:=fun h=>by rw[h]at hl;omega
   rw[if_neg hne]at hcl;exact⟨(jw ⟨t,gn,k,ps⟩ o,true),⟨hk,hcl,fun h=>by cases h⟩,by simp;omega,h4,rfl⟩
end
theorem oE {lk lim:Nat}{H:Heap}(hlk:lk<=H.length)(g:Gm)(hl:g.ps.length<=1000000)(hr:∀p∈g.ps,p.r.length<=1000000):
  aj X A lk lim 14 [gV g] H=some (Au g,H):=by
 have ka:=fun (L:Nat)=>jJ (lk:=lk) (lim:=L) hlk g hl hr;refine ar [1,6] rfl A14 rfl rfl ?_;unfold N6 Au;by_cases ha:cN g=0;case neg=>
  rw[if_neg ha];have hx:(cN g != 0)=true:=by simpa using ha
  generalize cN g=e at *;generalize aj X A=C at *;obtain⟨t,gn,k,ps⟩:=g;simp only[gV,Gm.cells]at ka |-;simp[ka,hx,ha]
 rw[if_pos ha];have hg:=br (xg ha);have kr:=fun (L:Nat)=>Mq (lk:=lk) (lim:=L) (H:=H) (-1) g.n hg.n1 (by have:=hg.n2;omega)
 have kn:∀K M (o:List Int),NOk g o->∀p∈g.ps,aj X A K M 33 [gV g,.hs H.length g.n.toNat 0 g.n.toNat 1,.sl p.r.length (ints p.r)] (H++[.cells (ints o)])=some (F5 (bq g.t o p.r 0),H++[.cells (ints o)]):=fun K M o ho p hp=>by
  have:=xe (lk:=K) (lim:=M) (H:=H++[.cells (ints o)]) hg ho (b:=H.length) (by simp) (hg.p p hp)
  rw[ho.len]at this;exact this
 have hlen:=(bn hg).len;generalize aj X A=C at *;obtain⟨t,gn,k,ps⟩:=g;simp only[gV,Gm.cells]at ka kn kr hlen |-;rw[ha]at ka;have hn0:0<gn.toNat:=by have:=hg.n1;simp only at this;omega
 simp[-ak,-af,-ap,ka];rw[af rfl,aA,ah,ai,ae];simp[-ap,kr];refine Ck hg rfl hlk rfl kn (by simp[n4]) fun E' h=>?_
 have hb:=xf H.length (H++[.cells (ints (nullM ⟨t,gn,k,ps⟩))]) 7 (nullM ⟨t,gn,k,ps⟩);have hb2:=bel_ints 0 (nullM ⟨t,gn,k,ps⟩);have hl2:=aV (nullM ⟨t,gn,k,ps⟩);generalize nullM ⟨t,gn,k,ps⟩=N at *;have htk:(ints N).take gn.toNat=ints N:=List.take_of_length_le (by rw[hl2];omega)
 rw[ah,ai,ae,h];simp[hl2,hlen,htk,hb,hb2]

theorem jK (t:Int)(o:List Int):∀(r:List Int) (a b:Int),bq t o r (a+b)=(bq t o r a).map (·+b)
 | [],a,b=>rfl
 | s::r,a,b=>by
  simp only[bq];split
  ·rfl
  ·rw[show a+b+o.getD (s-t).toNat 0=a+o.getD (s-t).toNat 0+b by omega,jK t o r]
def Re:Option Int->Int
 | some n=>n
 | none=>-1
section
variable {C:Orc}{Q:Ex->Kt}{E:Env}{lk L:Nat}{H:Heap}{t gn k:Int}{ps:List Pr}{n b i j:Nat}{mo:Bool}{pl:Nat}{pr:List Int}{v w s:Int}{o:List Int}
def r6 (mo:Bool)(i pl:Nat)(pr:List Int)(e:Env):Env:=(5,Bo mo)::(6,I i)::(7,.box [I pl,.sl pr.length (ints pr)])::e
theorem b39 (hE:ab [1,3,5,6,7,8,9] E=n4 t gn k ps b n (r6 mo i pl pr [(8,I v),(9,I j)]))
  (hQ:∀E',find E' 47=Bo (decide (j<pr.length)&&decide (0<v))->ab [1,3,5,6,7,8] E'=n4 t gn k ps b n (r6 mo i pl pr [(8,I v)])->ab [1,3,5,6,7,8,9] E'=n4 t gn k ps b n (r6 mo i pl pr [(8,I v),(9,I j)])->Q .nrm E' H):
  WB ⟨C,lk,L,[1,7]⟩ (.regN [1,3,5,6,7,8,9] [ kM 39 9,kF 40 1 7,kS 41 7 40,kN 42 41,kT 43 39 42,kM 44 43,yM 45 44 8,ky 46 44 (.bini .gtr (ux 45) c0),kx 47 (.pick (ux 44) (ux 46) cF)]) Q E H:=by
 unfold n4 r6 at *;rw[ae,hE];by_cases hj:j<pr.length
 ·simp[hj];refine hQ _ ?_ ?_ ?_
  ·simp[find,hj]
  ·rfl
  ·rfl
 ·simp[hj];refine hQ _ ?_ ?_ ?_
  ·simp[find,hj]
  ·rfl
  ·rfl
theorem b50 (hj:j<pr.length)(hs:pr[j]=s)(hw:IntKind.i64.wrap (s-t)=s-t)(hE:ab [1,3,5,6,7,8,9] E=n4 t gn k ps b n (r6 mo i pl pr [(8,I v),(9,I j)]))
  (hQ:∀E',ab [1,3,5,6,7,8,9,10] E'=n4 t gn k ps b n (r6 mo i pl pr [(8,I v),(9,I j),(10,I (s-t))])->Q .nrm E' H):
  WB ⟨C,lk,L,[1,7]⟩ (.regD [1,3,5,6,7,8,9] 0 [ kF 50 1 7,kS 51 7 50,kM 52 9,kI 53 1 51 52,kL 54 53,kF 55 0 1,kS 56 1 55,kx 57 (.bini .sub (ux 54) (ux 56)),kM 10 57]) Q E H:=by
 have hl:=aV pr;have hsE:=fun h=>bv (l:=pr) hj h;unfold n4 r6 at *;rw[aB rfl,hE];simp[hj,hl,hsE,hs,hw];refine hQ _ ?_;rfl
theorem b58 (hb:H[b]?=some (.cells (ints o)))(hn:o.length=n)(hw:s-t=w)(hwn:w<n)
  (hE:ab [1,3,5,6,7,8,9,10] E=n4 t gn k ps b n (r6 mo i pl pr [(8,I v),(9,I j),(10,I w)]))
  (hQ:∀E',find E' 66=Bo (decide (s<t\/o.getD w.toNat 0<0))->ab [1,3,5,6,7,9] E'=n4 t gn k ps b n (r6 mo i pl pr [(9,I j)])->ab [1,3,5,6,7,8,9,10] E'=n4 t gn k ps b n (r6 mo i pl pr [(8,I v),(9,I j),(10,I w)])->Q .nrm E' H):
  WB ⟨C,lk,L,[1,7]⟩ (.regN [1,3,5,6,7,8,9,10] [ kM 58 10,kx 59 (.bini .lss (ux 58) c0),kM 60 59,zM 61 60 3,zM 62 60 10,zI 63 60 1 61 62,zL 64 60 63,kz 65 60 (.bini .lss (ux 64) c0),kO 66 60 65]) Q E H:=by
 have hl:=aV o;unfold n4 r6 at *;rw[ae,hE];by_cases hs:s<t
 ·have hw0:w<0:=by omega
  simp[hw0];refine hQ _ ?_ ?_ ?_
  ·simp[find,hs]
  ·rfl
  ·rfl
 ·obtain⟨q,rfl⟩:=Int.eq_ofNat_of_zero_le (show 0<=w by omega)
  have hq:q<o.length:=by omega
  have hje:∀h,(ints o)[q]'h=I (o.getD q 0):=fun h=>by rw[R3,R4 hq];exact bv hq h
  have hqn:q<n:=by omega
  simp only[Int.toNat_natCast]at hQ;have h0:¬((q:Int)<0):=by omega
  simp[h0,hb,hl,hn,hje,hqn];refine hQ _ ?_ ?_ ?_
  ·simp[find,hs,R4 hq]
  ·rfl
  ·rfl
theorem b67 (hb:H[b]?=some (.cells (ints o)))(hn:o.length=n){q:Nat}(hq:q<n)(hw:IntKind.i64.wrap (v+o.getD q 0)=v+o.getD q 0)
  (hE:ab [1,3,5,6,7,8,9,10] E=n4 t gn k ps b n (r6 mo i pl pr [(8,I v),(9,I j),(10,I q)]))
  (hQ:∀E',ab [1,3,5,6,7,8,9] E'=n4 t gn k ps b n (r6 mo i pl pr [(8,I (v+o.getD q 0)),(9,I j)])->Q .nrm E' H):
  WB ⟨C,lk,L,[1,7]⟩ (.regN [1,3,5,6,7,8,9,10] [ kM 67 8,kM 68 3,kM 69 10,kI 70 1 68 69,kL 71 70,kx 72 (.bini .add (ux 67) (ux 71)),kM 8 72]) Q E H:=by
 have hl:=aV o;have hqo:q<o.length:=by omega
 have hje:∀h,(ints o)[q]'h=I (o.getD q 0):=fun h=>by rw[R3,R4 hqo];exact bv hqo h
 generalize o.getD q 0=u at *;unfold n4 r6 at *;rw[ae,hE];simp[hb,hl,hn,hje,hq,hw];refine hQ _ ?_;rfl
theorem b8 (hE:ab [1,3,5,6,7,9] E=n4 t gn k ps b n (r6 mo i pl pr [(9,I j)]))
  (hQ:∀E',ab [1,3,5,6,7,8,9] E'=n4 t gn k ps b n (r6 mo i pl pr [(8,I (-1)),(9,I j)])->Q .nrm E' H):
  WB ⟨C,lk,L,[1,7]⟩ (.regN [1,3,5,6,7,9] [kx 8 (.mv (.con (.val (.int .i64 (-1)))))]) Q E H:=by
 unfold n4 r6 at *;rw[ae,hE];simp;refine hQ _ ?_;rfl
theorem b48 (hj:j<=8)(hE:ab [1,3,5,6,7,8,9] E=n4 t gn k ps b n (r6 mo i pl pr [(8,I v),(9,I j)]))
  (hQ:∀E',ab [1,3,5,6,7,8,9] E'=n4 t gn k ps b n (r6 mo i pl pr [(8,I v),(9,I (j+1:Nat))])->Q .nrm E' H):
  WB ⟨C,lk,L,[1,7]⟩ (.regN [1,3,5,6,7,8,9] [ kM 48 9,kU 49 48,kM 9 49]) Q E H:=by
 have w1:IntKind.i64.wrap ((j:Int)+1)=(j:Int)+1:=au (by omega) (by omega)
 unfold n4 r6 at *;rw[ae,hE];simp[w1];refine hQ _ ?_;simp
theorem Q0 (hg:GOk ⟨t,gn,k,ps⟩)(hn:n=gn.toNat)(ho:NOk ⟨t,gn,k,ps⟩ o)(hp:POk ⟨t,gn,k,ps⟩ ⟨pl,pr⟩)(hb:H[b]?=some (.cells (ints o)))
  (hE:ab [1,3,5,6,7,8,9] E=n4 t gn k ps b n (r6 mo i pl pr [(8,I 1),(9,I (0:Nat))]))
  (hQ:∀E',ab [1,3,5,6,7,8] E'=n4 t gn k ps b n (r6 mo i pl pr [(8,I (Re (bq t o pr 1)))])->Q .nrm E' H):
  WB ⟨C,lk,L,[1,7]⟩ (.block 6 (.loop [1,3,5,6,7,8,9] QR)) Q E H:=by
 rw[ap];have hrl:pr.length<=8:=hp.len;have hol:o.length=n:=by rw[ho.len,hn]
 refine ax (σ:=Nat×Int) (fun s=>n4 t gn k ps b n (r6 mo i pl pr [(8,I s.2),(9,I s.1)])) (fun _=>H)
  (fun s=>s.1<=pr.length/\((1<=s.2/\s.2<=1+s.1*40210710958665/\bq t o (pr.drop s.1) s.2=bq t o pr 1)\/(s.2= -1/\bq t o pr 1=none))) (fun s=>pr.length-s.1) ?_ (0,1) ⟨Nat.zero_le _,.inl ⟨by omega,by simp,rfl⟩⟩ hE rfl
 clear hE;rintro⟨j,v⟩ ⟨hj,hinv⟩;simp only at hj hinv;unfold QR;have hE0:ab [1,3,5,6,7,8,9] (n4 t gn k ps b n (r6 mo i pl pr [(8,I v),(9,I j)]))=n4 t gn k ps b n (r6 mo i pl pr [(8,I v),(9,I j)]):=rfl;rw[ai,ai];refine b39 hE0 fun E1 g1 h1' h1=>?_;rw[ah];rcases hinv with⟨hv1,hv2,hinv⟩ | ⟨rfl,hinv⟩;case inr=>
  rw[show (decide (j<pr.length)&&decide (0<(-1:Int)))=false by simp]at g1
  rw[af (aI g1),bT,a8,bQ,aG,if_pos rfl];rw[hinv]at hQ;exact hQ _ h1'
 by_cases hjl:j<pr.length;case neg=>
  obtain rfl:j=pr.length:=by omega
  rw[show (decide (pr.length<pr.length)&&decide (0<v))=false by simp]at g1
  rw[af (aI g1),bT,a8,bQ,aG,if_pos rfl];rw[List.drop_length]at hinv;rw[<-hinv]at hQ;exact hQ _ h1'
 rw[show (decide (j<pr.length)&&decide (0<v))=true by simp[hjl];omega]at g1
 rw[ak (aI g1),aA,ah,ai,ap,ai];obtain⟨s,hs⟩:∃s,pr[j]=s:=⟨_,rfl⟩;have hsm:s∈pr:=hs▸List.getElem_mem hjl;have hs0:=hp.s s hsm;have hsy:=eE hg ho.len hp s hsm;have ht1:=hg.t1;have ht2:=hg.t2;have hn2:=hg.n2;simp only at hs0 hsy ht1 ht2 hn2;rw[List.drop_eq_getElem_cons hjl,hs]at hinv;simp only[bq]at hinv;refine b50 hjl hs (au (by omega) (by omega)) h1 fun E2 h2=>?_
 rw[ah,ai];refine b58 hb hol rfl (by omega) h2 fun E3 g3 h3' h3=>?_
 rw[ah];by_cases hc:s<t\/o.getD (s-t).toNat 0<0
 ·rw[decide_eq_true hc]at g3;rw[ak (aI g3)];refine b8 h3' fun E4 h4=>?_;rw[a6,ah];refine b48 (by omega) h4 fun E5 h5=>?_
  rw[ao];rw[if_pos hc]at hinv;exact⟨(j+1,-1),⟨hjl,.inr ⟨rfl,hinv.symm⟩⟩,by simp only;omega,h5,rfl⟩
 ·rw[decide_eq_false hc]at g3;rw[af (aI g3)];rw[if_neg hc]at hinv;have hmem:=fT hsy;have hM:=ho.hi2 hg _ hmem;have hst:¬s<t:=fun h=>hc (.inl h);have hnn:¬o.getD (s-t).toNat 0<0:=fun h=>hc (.inr h);obtain⟨q,hq⟩:=Int.eq_ofNat_of_zero_le (show 0<=s-t by omega)
  rw[hq]at h3 hinv hM hnn hsy;simp only[Int.toNat_natCast]at hinv hM hnn hsy;refine b67 hb hol (by omega) (au (by omega) (by omega)) h3 fun E4 h4=>?_
  rw[a6,ah];refine b48 (by omega) h4 fun E5 h5=>?_
  rw[ao];exact⟨(j+1,v+o.getD q 0),⟨hjl,.inl ⟨by simp only;omega,by simp only;omega,hinv⟩⟩,by simp only;omega,h5,rfl⟩
end

section
variable {C:Orc}{Q:Ex->Kt}{E:Env}{lk L:Nat}{H:Heap}{t gn k:Int}{ps:List Pr}{n b i j:Nat}{mo:Bool}{pl:Nat}{pr:List Int}{v:Int}{o:List Int}
abbrev n7 (pl:Nat)(pr:List Int):Nat×AV:=(7,.box [I pl,.sl pr.length (ints pr)])
theorem b27 (hE:ab [1,3,5,6] E=n4 t gn k ps b n [(5,Bo mo),(6,I i)])
  (hQ:∀E',find E' 31=Bo (decide (i<ps.length))->ab [1,3,5] E'=n4 t gn k ps b n [(5,Bo mo)]->ab [1,3,5,6] E'=n4 t gn k ps b n [(5,Bo mo),(6,I i)]->Q .nrm E' H):
  WB ⟨C,lk,L,[1,7]⟩ (.regN [1,3,5,6] [ kM 27 6,kF 28 3 1,kS 29 1 28,kN 30 29,kT 31 27 30]) Q E H:=by
 unfold n4 at *;rw[ae,hE];simp;refine hQ _ ?_ ?_ ?_
 ·simp[find]
 ·rfl
 ·rfl
theorem b34 (hil:i<ps.length)(hs:((psC ps).drop (i*2)).take 2=[I (pl:Nat),.sl pr.length (ints pr)])
  (hE:ab [1,3,5,6] E=n4 t gn k ps b n [(5,Bo mo),(6,I i)])
  (hQ:∀E',ab [1,3,5,6,7] E'=n4 t gn k ps b n (r6 mo i pl pr [])->Q .nrm E' H):
  WB ⟨C,lk,L,[1,7]⟩ (.regN [1,3,5,6] [ kF 34 3 1,kS 35 1 34,kM 36 6,kI 37 2 35 36,kx 38 (.ldA none 2 (ux 37)),kx 7 (.allocR [(.val (.int .i64 0)),.e0]),kn (.st (some 7) 2 (ux 7) (ux 38))]) Q E H:=by
 have hll:=aY ps;have h2:i*2+2<=2*ps.length:=by omega
 unfold n4 r6 at *;rw[ae,hE];simp[-bd,hil,hll,hs,h2];rw[bd];simp[an];refine hQ _ ?_;rfl
theorem b8i (hE:ab [1,3,5,6,7] E=n4 t gn k ps b n (r6 mo i pl pr []))
  (hQ:∀E',ab [1,3,5,6,7,8] E'=n4 t gn k ps b n (r6 mo i pl pr [(8,I 1)])->Q .nrm E' H):
  WB ⟨C,lk,L,[1,7]⟩ (.regN [1,3,5,6,7] [ kx 8 (.mv c1)]) Q E H:=by
 unfold n4 r6 at *;rw[ae,hE];simp;refine hQ _ ?_;rfl
theorem b9i (hE:ab [1,3,5,6,7,8] E=n4 t gn k ps b n (r6 mo i pl pr [(8,I 1)]))
  (hQ:∀E',ab [1,3,5,6,7,8,9] E'=n4 t gn k ps b n (r6 mo i pl pr [(8,I 1),(9,I (0:Nat))])->Q .nrm E' H):
  WB ⟨C,lk,L,[1,7]⟩ (.regN [1,3,5,6,7,8] [ kZ 9]) Q E H:=by
 unfold n4 r6 at *;rw[ae,hE];simp;refine hQ _ ?_;rfl
theorem b73 (hb:H[b]?=some (.cells (ints o)))(hn:o.length=n)(hpl:pl<n)(hE:ab [1,3,5,6,7,8] E=n4 t gn k ps b n (r6 mo i pl pr [(8,I v)]))
  (hQ:∀E',find E' 91=Bo (decide (0<v)&&decide (o.getD pl 0<0\/v<o.getD pl 0))->ab [1,3,6,7,8] E'=n4 t gn k ps b n [(6,I i),n7 pl pr,(8,I v)]->ab [1,3,5,6] E'=n4 t gn k ps b n [(5,Bo mo),(6,I i)]->Q .nrm E' H):
  WB ⟨C,lk,L,[1,7]⟩ (.regN [1,3,5,6,7,8] [ kM 73 8,kx 74 (.bini .gtr (ux 73) c0),kM 75 74,yM 76 75 3,yF 77 75 0 7,yS 78 75 7 77,yI 79 75 1 76 78,yL 80 75 79,ky 81 75 (.bini .lss (ux 80) c0),yM 82 75 81,zM 83 82 8,zM 84 82 3,zF 85 82 0 7,zS 86 82 7 85,zI 87 82 1 84 86,zL 88 82 87,kz 89 82 (.bini .lss (ux 83) (ux 88)),ky 90 75 (.pick (ux 82) cT (ux 89)),kx 91 (.pick (ux 75) (ux 90) cF)]) Q E H:=by
 have hpo:pl<o.length:=by omega
 have hje:∀h,(ints o)[pl]'h=I (o.getD pl 0):=fun h=>by rw[R3,R4 hpo];exact bv hpo h
 have hil2:=aV o;generalize o.getD pl 0=w at *;unfold n4 r6 at *;rw[ae,hE];by_cases hv:0<v
 ·by_cases hw:w<0
  ·simp[hv,hb,hje,hil2,hn,hpl,hw];refine hQ _ ?_ ?_ ?_
   ·simp[find,hv,hw]
   ·rfl
   ·rfl
  ·simp[hv,hb,hje,hil2,hn,hpl,hw];refine hQ _ ?_ ?_ ?_
   ·simp[find,hv,hw]
   ·rfl
   ·rfl
 ·simp[hv];refine hQ _ ?_ ?_ ?_
  ·simp[find,hv]
  ·rfl
  ·rfl
theorem b92 (hb:H[b]?=some (.cells (ints o)))(hlk:lk<=b)(hn:o.length=n)(hpl:pl<n)
  (hE:ab [1,3,6,7,8] E=n4 t gn k ps b n [(6,I i),n7 pl pr,(8,I v)])
  (hQ:∀E',ab [1,3,5,6] E'=n4 t gn k ps b n [(5,Bo true),(6,I i)]->Q .nrm E' (H.set b (.cells (ints (o.set pl v))))):
  WB ⟨C,lk,L,[1,7]⟩ (.regN [1,3,6,7,8] [ kM 92 3,kF 93 0 7,kS 94 7 93,kM 95 8,kI 96 1 92 94,kn (.st none 1 (ux 96) (ux 95)),kx 5 (.mv cT)]) Q E H:=by
 have hil2:=aV o;unfold n4 at *;rw[ae,hE];simp[hb,hil2,hn,hpl];rw[F7 (by omega),Mr hlk,if_pos (by omega)]
 refine hQ _ ?_;rfl
theorem b32 (hps:ps.length<=64)(hil:i<ps.length)(hE:ab [1,3,5,6] E=n4 t gn k ps b n [(5,Bo mo),(6,I i)])
  (hQ:∀E',ab [1,3,5,6] E'=n4 t gn k ps b n [(5,Bo mo),(6,I (i+1:Nat))]->Q .nrm E' H):
  WB ⟨C,lk,L,[1,7]⟩ (.regN [1,3,5,6] [ kM 32 6,kU 33 32,kM 6 33]) Q E H:=by
 have w1:IntKind.i64.wrap ((i:Int)+1)=(i:Int)+1:=au (by omega) (by omega)
 unfold n4 at *;rw[ae,hE];simp[w1];refine hQ _ ?_;simp
theorem Q1 {Z:Heap}(hg:GOk ⟨t,gn,k,ps⟩)(hn:n=gn.toNat)(hlk:lk<=Z.length)(ho:NOk ⟨t,gn,k,ps⟩ o)
  (hE:ab [1,3,5,6] E=n4 t gn k ps Z.length n [(5,Bo false),(6,I (0:Nat))])
  (hQ:∀E' m,ab [1,3,5] E'=n4 t gn k ps Z.length n [(5,Bo m)]->(m=false->jw ⟨t,gn,k,ps⟩ o=o)->(m=true->szN (jw ⟨t,gn,k,ps⟩ o)<szN o)->Q .nrm E' (Z++[.cells (ints (jw ⟨t,gn,k,ps⟩ o))])):
  WB ⟨C,lk,L,[1,7]⟩ (.block 4 (.loop [1,3,5,6] QS)) Q E (Z++[.cells (ints o)]):=by
 rw[ap];refine ax (σ:=Nat×List Int×Bool) (fun s=>n4 t gn k ps Z.length n [(5,Bo s.2.2),(6,I s.1)]) (fun s=>Z++[.cells (ints s.2.1)])
  (fun s=>s.1<=ps.length/\s.2.1=(ps.take s.1).foldl (stN ⟨t,gn,k,ps⟩) o/\(s.2.2=false->s.2.1=o)/\(s.2.2=true->szN s.2.1<szN o)) (fun s=>ps.length-s.1) ?_ (0,o,false) ⟨Nat.zero_le _,rfl,fun _=>rfl,fun h=>by cases h⟩ hE rfl
 rintro⟨i,o2,m⟩ ⟨hi,ho2,hm1,hm2⟩;simp only at hi ho2 hm1 hm2;unfold QS;have hE0:ab [1,3,5,6] (n4 t gn k ps Z.length n [(5,Bo m),(6,I i)])=n4 t gn k ps Z.length n [(5,Bo m),(6,I i)]:=rfl;rw[ai,ai];refine b27 hE0 fun E1 g1 h1' h1=>?_;rw[ah];by_cases hil:i<ps.length;case neg=>
  obtain rfl:i=ps.length:=by omega
  rw[List.take_of_length_le (Nat.le_refl _)]at ho2;rw[decide_eq_false hil]at g1;rw[af (aI g1),bT,a8,bQ,aG,if_pos rfl];have:=hQ E1 m h1' (fun h=>ho2.symm.trans (hm1 h)) (fun h=>by have:=hm2 h;rw[ho2]at this;exact this)
  rw[show jw ⟨t,gn,k,ps⟩ o=o2 from ho2.symm]at this;exact this
 rw[decide_eq_true hil]at g1;rw[ak (aI g1),aA,ah,ai,ap,ai];have okp:=hg.p _ (List.getElem_mem hil);have ok2:NOk ⟨t,gn,k,ps⟩ o2:=by rw[ho2];exact(jx hg _ (fun p hp=>hg.p p (List.mem_of_mem_take hp)) o ho).1
 have hnext:(ps.take (i+1)).foldl (stN ⟨t,gn,k,ps⟩) o=stN ⟨t,gn,k,ps⟩ o2 ps[i]:=by rw[ho2];exact zd (g:=⟨t,gn,k,ps⟩) hil
 have hdec:=(un hg ok2 okp).2;have hbig:=ok2.hi2 hg;have hs:=cd hil;simp only[Pr.cells]at hs;have hol:o2.length=n:=by rw[ok2.len,hn]
 have hsy:=eE hg ok2.len okp;have hps:ps.length<=64:=hg.l2;generalize ps[i]=p at *;obtain⟨pl,pr⟩:=p;have okp2:=okp;obtain⟨q1,q2,q3,q4⟩:=okp2;simp only at hnext hdec q1 q2 q3 q4 hs hsy;obtain⟨pl,rfl⟩:=Int.eq_ofNat_of_zero_le q2;have hpl:pl<n:=by omega
 have hst:stN ⟨t,gn,k,ps⟩ o2 ⟨(pl:Nat),pr⟩=(match bq t o2 pr 0 with
  | some n=>if o2.getD pl 0<0\/n+1<o2.getD pl 0 then o2.set pl (n+1) else o2
  | none=>o2):=rfl
 rw[hst]at hnext hdec;have h10:bq t o2 pr 1=(bq t o2 pr 0).map (·+1):=jK t o2 pr 0 1;have hsum:=fun v h=>dh hbig (by omega) pr 0 v hsy h
 have hHb:(Z++[HB.cells (ints o2)])[Z.length]?=some (.cells (ints o2)):=by simp
 refine b34 hil hs h1 fun E2 h2=>?_;rw[ah,ai];refine b8i h2 fun E3 h3=>?_;rw[ah,ai,ai];refine b9i h3 fun E4 h4=>?_;rw[ah];refine Q0 hg hn ok2 okp hHb h4 fun E5 h5=>?_;rw[ah,ai];refine b73 hHb hol hpl h5 fun E6 g6 h6 h6'=>?_;rw[ah];rw[h10]at g6 h6;have stay:stN ⟨t,gn,k,ps⟩ o2 ⟨(pl:Nat),pr⟩=o2->∀E',ab [1,3,5,6] E'=n4 t gn k ps Z.length n [(5,Bo m),(6,I i)]->WB ⟨C,lk,L,[1,7]⟩ (.regN [1,3,5,6] [ kM 32 6,kU 33 32,kM 6 33]) (Rnd [1,3,5,6] (fun s:Nat×List Int×Bool=>n4 t gn k ps Z.length n [(5,Bo s.2.2),(6,I s.1)]) (fun s=>Z++[.cells (ints s.2.1)])
  (fun s=>s.1<=ps.length/\s.2.1=(ps.take s.1).foldl (stN ⟨t,gn,k,ps⟩) o/\(s.2.2=false->s.2.1=o)/\(s.2.2=true->szN s.2.1<szN o)) (fun s=>ps.length-s.1) (i,o2,m) (tP 4 Q)) E' (Z++[.cells (ints o2)]):=fun he E' hE'=>by
  refine b32 hps hil hE' fun E7 h7=>?_;rw[ao];exact⟨(i+1,o2,m),⟨hil,(hnext.trans (hst.symm.trans he)).symm,hm1,hm2⟩,by simp only;omega,h7,rfl⟩
 cases hx:bq t o2 pr 0 with
 | none=>
  rw[hx]at g6 hst;rw[show (decide (0<Re ((none:Option Int).map (·+1)))&&decide (o2.getD pl 0<0\/Re ((none:Option Int).map (·+1))<o2.getD pl 0))=false from rfl]at g6;rw[af (aI g6),aA,a6,ah];exact stay hst E6 h6'
 | some v=>
  rw[hx]at g6 h6 hst hnext hdec;have hv:=hsum v hx;have hv0:0<v+1:=by omega
  have e1:Re ((some v).map (·+1))=v+1:=rfl;rw[e1]at g6 h6;rw[decide_eq_true hv0,Bool.true_and]at g6;by_cases hc:o2.getD pl 0<0\/v+1<o2.getD pl 0
  ·rw[decide_eq_true hc]at g6;rw[ak (aI g6)];refine b92 hHb hlk hol hpl h6 fun E7 h7=>?_;rw[a6,ah];refine b32 hps hil h7 fun E8 h8=>?_;simp only[if_pos hc]at hnext hdec;rw[ao];refine⟨(i+1,o2.set pl (v+1),true),⟨hil,hnext.symm,fun h=>absurd h (by simp),fun _=>?_⟩,by simp only;omega,h8,by simp⟩
   have hz:=uk o2 pl (v+1) (by omega)
   have hlt:szN (o2.set pl (v+1))<szN o2:=by
    rcases hdec with h | h
    ·have hget:(o2.set pl (v+1)).getD pl 0=v+1:=by
      rw[R3,List.getElem?_set_self (by omega)];rfl
     rw[h]at hget;omega
    ·exact h
   simp only;cases m with
   | false=>rw[hm1 rfl]at hlt |-;exact hlt
   | true=>have:=hm2 rfl;omega
  ·rw[decide_eq_false hc]at g6;rw[af (aI g6),aA,a6,ah];simp only[if_neg hc]at hst;exact stay hst E6 h6'
end

section
variable {C:Orc}{Q:Ex->Kt}{E:Env}{lk L:Nat}{H:Heap}{t gn k:Int}{ps:List Pr}{n b i j:Nat}{mo:Bool}{o:List Int}
theorem b26 (hE:ab [1,3,5] E=n4 t gn k ps b n [(5,Bo mo)])
  (hQ:∀E',find E' 26=Bo mo->ab [1,3] E'=n4 t gn k ps b n []->ab [3] E'=[(3,.hs b n 0 n 1)]->Q .nrm E' H):
  WB ⟨C,lk,L,[1,7]⟩ (.regN [1,3,5] [ kM 26 5]) Q E H:=by
 unfold n4 at *;rw[ae,hE];simp;refine hQ _ ?_ ?_ ?_<;>rfl
theorem b5 (hE:ab [1,3] E=n4 t gn k ps b n [])
  (hQ:∀E',ab [1,3,5] E'=n4 t gn k ps b n [(5,Bo false)]->Q .nrm E' H):
  WB ⟨C,lk,L,[1,7]⟩ (.regN [1,3] [ kx 5 (.mv cF)]) Q E H:=by
 unfold n4 at *;rw[ae,hE];simp;refine hQ _ ?_;rfl
theorem b6 (hE:ab [1,3,5] E=n4 t gn k ps b n [(5,Bo mo)])
  (hQ:∀E',ab [1,3,5,6] E'=n4 t gn k ps b n [(5,Bo mo),(6,I (0:Nat))]->Q .nrm E' H):
  WB ⟨C,lk,L,[1,7]⟩ (.regN [1,3,5] [ kZ 6]) Q E H:=by
 unfold n4 at *;rw[ae,hE];simp;refine hQ _ ?_;rfl
theorem Q2 {Z:Heap}(hg:GOk ⟨t,gn,k,ps⟩)(hn:n=gn.toNat)(hlk:lk<=Z.length)(hno:o=List.replicate n (-1))
  (hE:ab [1,3,5] E=n4 t gn k ps Z.length n [(5,Bo true)])
  (hQ:∀E',ab [3] E'=[(3,.hs Z.length n 0 n 1)]->Q .nrm E' (Z++[.cells (ints (nullM ⟨t,gn,k,ps⟩))])):
  WB ⟨C,lk,L,[1,7]⟩ (.block 2 (.loop [1,3,5] QT)) Q E (Z++[.cells (ints o)]):=by
 rw[ap];refine ax (σ:=List Int×Bool) (fun s=>n4 t gn k ps Z.length n [(5,Bo s.2)]) (fun s=>Z++[.cells (ints s.1)])
  (fun s=>NOk ⟨t,gn,k,ps⟩ s.1/\cH (jw ⟨t,gn,k,ps⟩) (szN s.1+1) s.1=nullM ⟨t,gn,k,ps⟩/\(s.2=false->jw ⟨t,gn,k,ps⟩ s.1=s.1)) (fun s=>2*szN s.1+if s.2=true then 1 else 0) ?_ (o,true)
  ⟨by rw[hno,hn];exact NOk.start _,by rw[hno,hn];rfl,fun h=>by cases h⟩ hE rfl
 clear hno hE;rintro⟨o,mo⟩ ⟨ho,hcl,hm⟩;simp only at ho hcl hm;unfold QT;have hE0:ab [1,3,5] (n4 t gn k ps Z.length n [(5,Bo mo)])=n4 t gn k ps Z.length n [(5,Bo mo)]:=rfl;rw[ai,ai];refine b26 hE0 fun E1 g1 h1 h1'=>?_;rw[ah];rw[wh hg ho]at hcl;cases mo with
 | false=>
  rw[af (aI g1),bT,a8,bQ,aG,if_pos rfl];rw[if_pos (hm rfl)]at hcl;have:=hQ E1 h1';rw[<-hcl]at this;exact this
 | true=>
  rw[ak (aI g1),aA,ah,ap,ai];refine b5 h1 fun E2 h2=>?_;rw[ah,ai];refine b6 h2 fun E3 h3=>?_;rw[ah];refine Q1 hg hn hlk ho h3 fun E4 m h4 hf ht=>?_;rw[a6,ao];have hk:=(di hg).keep o ho;cases m with
  | false=>
   have he:=hf rfl;simp only at he;simp only[he];rw[if_pos he]at hcl;exact⟨(o,false),⟨ho,by rw[wh hg ho,if_pos he];exact hcl,fun _=>he⟩,by simp,h4,rfl⟩
  | true=>
   have hl:=ht rfl;simp only at hl;have hne:¬jw ⟨t,gn,k,ps⟩ o=o:=fun h=>by rw[h]at hl;omega
   rw[if_neg hne]at hcl;exact⟨(jw ⟨t,gn,k,ps⟩ o,true),⟨hk,hcl,fun h=>by cases h⟩,by simp;omega,h4,rfl⟩
theorem Q3 {Z:Heap}(hn:gn=n)(hlk:lk<=Z.length)(hn2:n<=1000000)(hE:ab [1,3,4] E=n4 t gn k ps Z.length n [(4,I (0:Nat))])
  (hQ:∀E',ab [1,3] E'=n4 t gn k ps Z.length n []->Q .nrm E' (Z++[.cells (ints (List.replicate n (-1)))])):
  WB ⟨C,lk,L,[1,7]⟩ (.block 0 (.loop [1,3,4] QQ)) Q E (Z++[.cells (ints (List.replicate n 0))]):=by
 rw[ap];refine ax (σ:=Nat) (fun i=>n4 t gn k ps Z.length n [(4,I i)]) (fun i=>Z++[.cells (ints (List.replicate i (-1)++List.replicate (n-i) 0))]) (fun i=>i<=n) (fun i=>n-i) ?_ 0 (Nat.zero_le _) hE (by simp)
 intro i hi;unfold QQ n4;subst hn;have w1:IntKind.i64.wrap ((i:Int)+1)=(i:Int)+1:=au (by omega) (by omega)
 by_cases hin:i<n;case neg=>
  obtain rfl:i=n:=by omega
  unfold n4 at hQ;rw[show List.replicate i (-1:Int)++List.replicate (i-i) 0=List.replicate i (-1) by simp]
  generalize Z++[HB.cells (ints (List.replicate i (-1)))]=ZZ at *;simp;refine hQ _ ?_;rfl
 have hl:=aV (List.replicate i (-1)++List.replicate (n-i) 0);have hl2:(List.replicate i (-1:Int)++List.replicate (n-i) 0).length=n:=by simp;omega
 have hset:(List.replicate i (-1:Int)++List.replicate (n-i) 0).set i (-1)=List.replicate (i+1) (-1)++List.replicate (n-(i+1)) 0:=by
  rw[List.set_append_right _ _ (by simp),List.length_replicate,Nat.sub_self,show n-i=(n-(i+1))+1 by omega,List.replicate_succ,List.set_cons_zero,List.replicate_succ' (n:=i),List.append_assoc]
  rfl
 generalize List.replicate i (-1:Int)++List.replicate (n-i) 0=o at *;simp[hin,hl,hl2];rw[F7 (by omega),Mr (by omega),if_pos (by omega),hset]
 simp[w1,ao];exact⟨i+1,hin,by omega,by simp,rfl⟩
end
theorem Qz (n:Nat):repl n [I 0]=ints (List.replicate n 0):=by
 simp[repl,ints]
theorem l3 {lk lim:Nat}{H:Heap}(hlk:lk<=H.length)(g:Gm)(hl:g.ps.length<=1000000)(hr:∀p∈g.ps,p.r.length<=1000000):
  aj X A lk lim 21 [gV g] H=some (Au g,H):=by
 have ka:=fun (L:Nat)=>ef (lk:=lk) (lim:=L) hlk g hl hr;refine ar [1,7] rfl A21 rfl rfl ?_;unfold Rp Au;by_cases ha:cN g=0;case neg=>
  rw[if_neg ha];have hx:(cN g != 0)=true:=by simpa using ha
  generalize cN g=e at *;generalize aj X A=C at *;obtain⟨t,gn,k,ps⟩:=g;simp only[gV,Gm.cells]at ka |-;simp[ka,hx,ha]
 rw[if_pos ha];have hg:=br (xg ha);have hlen:=(bn hg).len;generalize aj X A=C at *;obtain⟨t,gn,k,ps⟩:=g;simp only[gV,Gm.cells]at ka hlen |-;rw[ha]at ka;obtain⟨n,rfl⟩:∃n:Nat,gn=n:=⟨gn.toNat,by have:=hg.n1;simp only at this;omega⟩
 have hn2:=hg.n2;have hn1:=hg.n1;simp only at hn2 hn1;have hn0:0<n:=by omega
 have hro:(n:Int)*8<=(aM:Int):=by unfold aM;omega
 have hro2:(n:Int)<=(aM:Int):=by unfold aM;omega
 have hro3:n*8<=aM:=by unfold aM;omega
 simp[-ak,-af,-ap,ka];rw[af rfl,aA,ah,ai,ae];simp[-ap,hro,hro2,hro3,hn0,Qz];refine Q3 (t:=t) (k:=k) (ps:=ps) rfl hlk (by omega) (by simp[n4]) fun E1 h1=>?_
 rw[ah,ai,ai,ae,h1];unfold n4;simp[-ap];refine Q2 hg rfl hlk rfl (by simp[n4]) fun E2 h=>?_
 have hb:=xf H.length (H++[.cells (ints (nullM ⟨t,n,k,ps⟩))]) 7 (nullM ⟨t,n,k,ps⟩);have hb2:=bel_ints 0 (nullM ⟨t,n,k,ps⟩);have hl2:=aV (nullM ⟨t,n,k,ps⟩);simp only[Int.toNat_natCast]at hlen;generalize nullM ⟨t,n,k,ps⟩=N at *;have htk:(ints N).take n=ints N:=List.take_of_length_le (by rw[hl2];omega)
 rw[ah,ai,ae,h];simp[hl2,hlen,htk,hb,hb2]

def gj:List Int->Int
 | []=>0
 | x::r=>r.foldl max x
theorem rh {lk lim:Nat}{H:Heap}(l:List Int)(h0:l≠[])(hl:l.length<=1000000):
  aj X A lk lim 36 [.sl l.length (ints l)] H=some (I (gj l),H):=by
 refine ar [] rfl A36 rfl rfl ?_;unfold N5;generalize aj X A=C;obtain⟨x,r,rfl⟩:=List.exists_cons_of_ne_nil h0;obtain⟨l,hx⟩:∃l,x::r=l:=⟨_,rfl⟩;have hR:((x::r).drop 1).foldl max x=gj l:=by rw[<-hx];rfl
 have hp:0<l.length:=by rw[<-hx];simp
 have hg:∀h,(ints l)[0]'h=I x:=fun h=>by rw[bv hp h];subst hx;rfl
 rw[hx]at hR hl |-;have hle:=aV l;have hn:¬((l.length:Int)<1):=by omega
 have hn0:¬l=[]:=fun e=>by rw[e]at hp;simp at hp
 simp[-ak,-af,-ap,hn];rw[af rfl,aA,ah,ai,ae];simp[-ap,hg,hle,hp];rw[ap];refine ax (σ:=Nat×Int) (fun s=>[(0,.sl l.length (ints l)),(3,I s.2),(4,I s.1)]) (fun _=>H) (fun s=>1<=s.1/\s.1<=l.length/\(l.drop s.1).foldl max s.2=gj l) (fun s=>l.length-s.1) ?_ (1,x) ⟨Nat.le_refl _,hp,hR⟩ (by simp) rfl
 rintro⟨i,m⟩ ⟨hi1,hi,hinv⟩;simp only at hi1 hi hinv;unfold Kc;have w1:IntKind.i64.wrap ((i:Int)+1)=(i:Int)+1:=au (by omega) (by omega)
 by_cases hil:i<l.length;case neg=>
  obtain rfl:i=l.length:=by omega
  rw[List.drop_length]at hinv;simp only[List.foldl_nil]at hinv;subst hinv;simp
 rw[List.drop_eq_getElem_cons hil,List.foldl_cons]at hinv;have hgi:=fun h=>bv hil h;generalize l[i]=y at *;have hmx:(if m<y then y else m)=max m y:=by rw[Int.max_def];split<;>split<;>omega
 simp[hil,hgi,hle,bZ,w1,ao,hmx];exact⟨i+1,max m y,⟨by omega,hil,hinv⟩,by omega,by simp⟩

theorem sV {α:Type}{p q:α->Bool}:∀{l:List α},(∀x∈l,p x=true->q x=true)->(∃y∈l,q y=true/\p y=false)->l.countP p<l.countP q
 | [],_,⟨y,hy,_⟩=>by cases hy
 | x::l,h,⟨y,hy,h1,h2⟩=>by
  have hx:=h x (by simp)
  have hle:l.countP p<=l.countP q:=List.countP_mono_left fun z hz=>h z (by simp[hz])
  rcases List.mem_cons.1 hy with rfl | hy
  ·rw[List.countP_cons,List.countP_cons,h1,h2];simp;omega
  ·have ih:=sV (fun z hz=>h z (by simp[hz])) ⟨y,hy,h1,h2⟩
   rw[List.countP_cons,List.countP_cons];cases hp:p x with
   | true=>rw[hx hp];omega
   | false=>cases q x<;>simp<;>omega
def rkM (g:Gm)(i:Nat):Nat:=(List.range g.n.toNat).countP fun k=>(gI g.n.toNat g.t (derM g false) g.ps).getD (i*g.n.toNat+k) false
def scM (g:Gm)(i:Nat):List Nat:=(ofN g.ps i g.ps.length).flatMap fun j=>bgL g.t (derM g false) (g.ps.getD j ⟨0,[]⟩).r
def mxl (f:Nat->Nat)(l:List Nat)(m:Nat):Nat:=l.foldl (fun m s=>max m (f s)) m
def xh (g:Gm):Nat->Nat->Nat
 | 0,_=>0
 | f+1,i=>1+mxl (xh g f) (scM g i) 0
def dptM (g:Gm)(i:Nat):Nat:=xh g (rkM g i+1) i
theorem F8 (g:Gm)(i:Nat):rkM g i<=g.n.toNat:=by
 have:rkM g i<=(List.range g.n.toNat).length:=List.countP_le_length;simpa using this
theorem j8 {f f':Nat->Nat}:∀{l:List Nat} {m:Nat},(∀s∈l,f s=f' s)->mxl f l m=mxl f' l m
 | [],_,_=>rfl
 | s::l,m,h=>by
  show mxl f l (max m (f s))=mxl f' l (max m (f' s));rw[h s (by simp),j8 fun x hx=>h x (by simp[hx])]
theorem F9 {f:Nat->Nat}:∀{l:List Nat} {m:Nat},m<=mxl f l m/\∀s∈l,f s<=mxl f l m
 | [],m=>⟨Nat.le_refl _,fun s h=>by cases h⟩
 | s::l,m=>by
  have ih:=F9 (f:=f) (l:=l) (m:=max m (f s));refine⟨Nat.le_trans (Nat.le_max_left _ _) ih.1,fun x hx=>?_⟩;rcases List.mem_cons.1 hx with rfl | hx
  ·exact Nat.le_trans (Nat.le_max_right _ _) ih.1
  ·exact ih.2 x hx
theorem uS {f:Nat->Nat}{M:Nat}:∀{l:List Nat} {m:Nat},m<=M->(∀s∈l,f s<=M)->mxl f l m<=M
 | [],_,h,_=>h
 | s::l,m,h,hs=>uS (l:=l) (m:=max m (f s)) (Nat.max_le.2 ⟨h,hs s (by simp)⟩) fun x hx=>hs x (by simp[hx])
theorem j9 {g:Gm}(hg:GOk g){i s:Nat}:s∈scM g i↔gd g.t (derM g false) g.ps i s:=by
 unfold scM gd;rw[List.mem_flatMap];constructor
 ·rintro⟨j,hj,hs⟩;obtain⟨hjl,hjp⟩:=d9.1 hj;rw[R3,R4 hjl]at hs;exact⟨g.ps[j],List.getElem_mem _,by rw[hjp];rfl,hs⟩
 ·rintro⟨p,hp,hl,hs⟩;obtain⟨j,hj,rfl⟩:=List.getElem_of_mem hp;have h0:=(hg.p _ (List.getElem_mem hj)).l0;refine⟨j,d9.2 ⟨hj,by omega⟩,?_⟩
  rw[R3,R4 hj];exact hs
theorem uT {g:Gm}(hg:GOk g){i s:Nat}(h:gd g.t (derM g false) g.ps i s):i<g.n.toNat/\s<g.n.toNat:=by
 obtain⟨p,hp,rfl,hs⟩:=h;obtain⟨h1,h2⟩:=uO hg p hp;exact⟨h1,lD h2 s hs⟩
theorem xi {n:Nat}{o:List Bool}:∀(m i:Nat),(dgL n o m i).2=false->∀j,i<=j->j<i+m->o.getD (j*n+j) false=false
 | 0,i,_,j,h1,h2=>by omega
 | m+1,i,h,j,h1,h2=>by
  simp only[dgL]at h;split at h
  ·cases h
  ·rename_i h3;rcases Nat.lt_or_eq_of_le h1 with h4 | rfl
   ·exact xi m (i+1) h j h4 (by omega)
   ·simpa using h3
structure AOk (g:Gm):Prop where
 ok:GOk g
 chk:chkE g=0
 red:(redP g).2=true
 left:(leftR g).2=false
 conf:confM g=none
theorem jL {g:Gm}(h:cN g=0):AOk g:=by
 have hc:=xg h;unfold cN at h;rw[if_neg (fun h=>h hc)]at h;split at h
 ·cases h
 ·rename_i h1;split at h
  ·cases h
  ·rename_i h2;exact⟨br hc,hc,by simpa using h1,by simpa using h2,(ip hc).1 h⟩
theorem mW {g:Gm}:cN g=0↔AOk g:=⟨jL,fun h=>by
 unfold cN;rw[if_neg (fun e=>e h.chk),if_neg (by simp[h.red]),if_neg (by simp[h.left])]
 exact(ip h.chk).2 h.conf⟩
theorem Av {g:Gm}(h:AOk g){i s:Nat}(he:gd g.t (derM g false) g.ps i s):rkM g s<rkM g i:=by
 obtain⟨hi,hs⟩:=uT h.ok he;have hcl:=fun k hk hx=>iX (uO h.ok) he (k:=k) hk hx;have hir:(gI g.n.toNat g.t (derM g false) g.ps).getD (s*g.n.toNat+s) false=false:=by
  have h1:=h.left;unfold leftR at h1;rw[if_pos h.chk]at h1;exact xi _ _ h1 s (Nat.zero_le _) (by omega)
 unfold rkM;refine sV (fun k hk hx=>?_) ⟨s,List.mem_range.2 hs,?_,hir⟩
 ·exact hcl k (List.mem_range.1 hk) (.inr hx)
 ·exact hcl s hs (.inl rfl)
theorem km {g:Gm}(h:AOk g):∀(f i:Nat),rkM g i<f->xh g f i=dptM g i
 | 0,i,hf=>by omega
 | f+1,i,hf=>by
  unfold dptM;simp only[xh];congr 1;refine j8 fun s hs=>?_;have hr:=Av h ((j9 h.ok).1 hs);rw[km h f s (by omega)]
  by_cases e:rkM g i=f
  ·rw[e];exact(km h f s (by omega)).symm
  ·rw[km h (rkM g i) s hr]
termination_by f=>f
theorem mX {g:Gm}(h:AOk g)(i:Nat):dptM g i=1+mxl (dptM g) (scM g i) 0:=by
 show 1+mxl (xh g (rkM g i)) (scM g i) 0=_;congr 1;exact j8 fun s hs=>km h _ s (Av h ((j9 h.ok).1 hs))
theorem Aw {g:Gm}(h:AOk g):∀(k i:Nat),rkM g i<=k->dptM g i<=rkM g i+1
 | k,i,hk=>by
  rw[mX h];have:mxl (dptM g) (scM g i) 0<=rkM g i:=uS (Nat.zero_le _) fun s hs=>by
   have hr:=Av h ((j9 h.ok).1 hs)
   match k with
   | 0=>omega
   | k+1=>exact Nat.le_trans (Aw h k s (by omega)) hr
  omega
theorem uU {g:Gm}(h:AOk g)(i:Nat):1<=dptM g i/\dptM g i<=17:=by
 have h1:=Aw h _ i (Nat.le_refl _);have h2:=F8 g i;have h3:=h.ok.n2;have h4:=mX h i;omega

def bgM (g:Gm)(r:List Int):List Nat:=bgL g.t (derM g false) r
def dpS (o:List Int)(l:List Nat)(m:Int):Int:=l.foldl (fun m s=>max m (o.getD s 0)) m
def stD (g:Gm)(o:List Int)(p:Pr):List Int:=if o.getD p.l.toNat 0<1+dpS o (bgM g p.r) 0 then o.set p.l.toNat (1+dpS o (bgM g p.r) 0) else o
def gK (g:Gm)(o:List Int):List Int:=g.ps.foldl (stD g) o
def wD (x:Int):Nat:=(17-x).toNat
def szD (o:List Int):Nat:=(o.map wD).sum
def dp (g:Gm):List Int:=cH (gK g) (szD (List.replicate g.n.toNat 0)+1) (List.replicate g.n.toNat 0)
def bL (g:Gm):List Int:=(List.range g.n.toNat).map fun i=>(dptM g i:Int)
structure DOk (g:Gm)(o:List Int):Prop where
 len:o.length=g.n.toNat
 lo:∀i,0<=o.getD i 0
 hi:∀i,o.getD i 0<=dptM g i
theorem Q4 {o:List Int}{f:Nat->Nat}(h:∀i,o.getD i 0<=f i):∀(l:List Nat) (m:Int) (k:Nat),m<=k->dpS o l m<=mxl f l k
 | [],_,_,h1=>h1
 | s::l,m,k,h1=>Q4 h l (max m (o.getD s 0)) (max k (f s)) (by have:=h s;omega)
theorem t7 (o:List Int):∀(l:List Nat) (m:Int),m<=dpS o l m/\∀s∈l,o.getD s 0<=dpS o l m
 | [],m=>⟨Int.le_refl _,fun s h=>by cases h⟩
 | s::l,m=>by
  have ih:=t7 o l (max m (o.getD s 0));have e:dpS o (s::l) m=dpS o l (max m (o.getD s 0)):=rfl;rw[e];refine⟨by omega,fun x hx=>?_⟩
  rcases List.mem_cons.1 hx with rfl | hx
  ·omega
  ·exact ih.2 x hx
theorem Jc {f:Nat->Nat}{l l':List Nat}(h:∀s∈l,s∈l'):mxl f l 0<=mxl f l' 0:=uS (Nat.zero_le _) fun s hs=>F9.2 s (h s hs)
theorem Ga {g:Gm}{p:Pr}(hp:p∈g.ps){s:Nat}(hs:s∈bgM g p.r):gd g.t (derM g false) g.ps p.l.toNat s:=⟨p,hp,rfl,hs⟩
theorem lH {o:List Int}{i:Nat}(h:i<o.length)(v:Int)(j:Nat):(o.set i v).getD j 0=if j=i then v else o.getD j 0:=by
 rw[R3,List.getElem?_set];by_cases e:i=j
 ·subst e;rw[if_pos rfl,if_pos rfl,if_pos h];rfl
 ·rw[if_neg e,if_neg (fun h=>e h.symm),R3]
theorem QH:∀(o:List Int) (i:Nat) (v:Int),i<o.length->szD (o.set i v)+wD (o.getD i 0)=szD o+wD v
 | [],i,v,h=>by simp at h
 | x::o,0,v,_=>by simp[szD];omega
 | x::o,i+1,v,h=>by
  have:=QH o i v (by simpa using h)
  simp[szD]at this |-;omega
theorem Q5 {g:Gm}(ha:AOk g){o:List Int}(h:DOk g o){p:Pr}(hp:p∈g.ps):0<=dpS o (bgM g p.r) 0/\1+dpS o (bgM g p.r) 0<=dptM g p.l.toNat:=by
 have h1:=(t7 o (bgM g p.r) 0).1;have h2:=Q4 h.hi (bgM g p.r) 0 0 (Int.le_refl _);have h3:=mX ha p.l.toNat;have h4:=Jc (f:=dptM g) (l:=bgM g p.r) (l':=scM g p.l.toNat) fun s hs=>(j9 ha.ok).2 (Ga hp hs);omega
theorem Q6 {g:Gm}(ha:AOk g){o:List Int}(h:DOk g o){p:Pr}(hp:p∈g.ps):DOk g (stD g o p)/\(stD g o p=o\/szD (stD g o p)<szD o):=by
 unfold stD;split;case isFalse=>exact⟨h,.inl rfl⟩
 rename_i hc;have hb:=Q5 ha h hp;have pok:=ha.ok.p p hp;have hl:p.l.toNat<o.length:=by rw[h.len];have:=pok.l0;have:=pok.l1;omega
 have hz:=QH o p.l.toNat (1+dpS o (bgM g p.r) 0) hl;have h17:=uU ha p.l.toNat;generalize dpS o (bgM g p.r) 0=v at *;refine⟨⟨by rw[List.length_set];exact h.len,fun i=>?_,fun i=>?_⟩,.inr ?_⟩
 ·rw[lH hl];split
  ·omega
  ·exact h.lo i
 ·rw[lH hl];split
  ·rename_i e;subst e;exact hb.2
  ·exact h.hi i
 ·unfold wD at hz;omega
theorem gh {g:Gm}(ha:AOk g):∀(ps:List Pr),(∀p∈ps,p∈g.ps)->∀o,DOk g o->DOk g (ps.foldl (stD g) o)/\(ps.foldl (stD g) o=o\/szD (ps.foldl (stD g) o)<szD o)/\(ps.foldl (stD g) o=o->∀p∈ps,stD g o p=o)
 | [],_,o,h=>⟨h,.inl rfl,fun _ p hp=>by cases hp⟩
 | p::ps,hp,o,h=>by
  obtain⟨h1,h2⟩:=Q6 ha h (hp p (by simp))
  obtain⟨h3,h4,h5⟩:=gh ha ps (fun q hq=>hp q (by simp[hq])) _ h1
  simp only[List.foldl_cons];rcases h2 with e | l
  ·rw[e]at h4 h5 h3 |-;exact⟨h3,h4,fun hf q hq=>by
    rcases List.mem_cons.1 hq with rfl | hq
    ·exact e
    ·exact h5 hf q hq⟩
  ·have hlt:szD (ps.foldl (stD g) (stD g o p))<szD o:=by
    rcases h4 with e | l2
    ·rw[e];exact l
    ·omega
   exact⟨h3,.inr hlt,fun hf=>by rw[hf]at hlt;omega⟩
theorem eb {g:Gm}(ha:AOk g):Climbs (gK g) (DOk g) szD:=⟨fun o h=>(gh ha g.ps (fun _ h=>h) o h).1,fun o h=>(gh ha g.ps (fun _ h=>h) o h).2.1⟩
theorem sW (n i:Nat):(List.replicate n (0:Int)).getD i 0=0:=by
 rw[R3,List.getElem?_replicate];split<;>rfl
theorem DOk.start (g:Gm):DOk g (List.replicate g.n.toNat 0):=⟨by simp,fun i=>by rw[sW];exact Int.le_refl _,fun i=>by rw[sW];omega⟩
theorem t8 {g:Gm}(ha:AOk g):DOk g (dp g):=ie (eb ha).keep _ _ (DOk.start g)
theorem x8 {g:Gm}(ha:AOk g){o:List Int}(h:DOk g o):cH (gK g) (szD o+1) o=if gK g o=o then o else cH (gK g) (szD (gK g o)+1) (gK g o):=by
 rw[cH];split
 ·rfl
 ·rename_i hne;have h1:=(eb ha).keep o h;have h2:=((eb ha).down o h).resolve_left hne;exact dL (eb ha) (szD o) _ h1 h2
theorem xj {a b:List Bool}:∀(m i:Nat),(oQ a b m i).2=true->∀j,i<=j->j<i+m->a.getD j false=true/\b.getD j false=true
 | 0,i,_,j,h1,h2=>by omega
 | m+1,i,h,j,h1,h2=>by
  simp only[oQ]at h;split at h
  ·rename_i h3;rw[Bool.and_eq_true]at h3;rcases Nat.lt_or_eq_of_le h1 with h4 | rfl
   ·exact xj m (i+1) h j h4 (by omega)
   ·exact h3
  ·cases h
theorem ri {g:Gm}(ha:AOk g){i:Nat}(hi:i<g.n.toNat):∃p∈g.ps,p.l.toNat=i:=by
 have h:=ha.red;unfold redP at h;rw[if_pos ha.chk]at h;obtain⟨p,h1,h2,_⟩:=Cf g true i (xj _ _ h i (Nat.zero_le _) (by omega)).1
 exact⟨p,h1,h2⟩
theorem Q7 {g:Gm}(ha:AOk g):∀(k i:Nat),rkM g i<=k->i<g.n.toNat->(dp g).getD i 0=dptM g i:=by
 have hd:=t8 ha;have hfix:gK g (dp g)=dp g:=jY (eb ha) _ _ (DOk.start g) (Nat.lt_succ_self _);have hst:=(gh ha g.ps (fun _ h=>h) _ hd).2.2 hfix;intro k;induction k with
 | zero=>
  intro i hk hi;have h1:=hd.hi i;obtain⟨p,hp,hpl⟩:=ri ha hi;have h2:=hst p hp;unfold stD at h2;have hl:p.l.toNat<(dp g).length:=by rw[hd.len,hpl];exact hi
  have h3:=mX ha i;have h4:scM g i=[]:=by
   match he:scM g i with
   | []=>rfl
   | s::l=>
    have:=Av ha ((j9 ha.ok).1 (he▸List.mem_cons_self .. :s∈scM g i));omega
  rw[h4]at h3;have h5:=(t7 (dp g) (bgM g p.r) 0).1;split at h2
  ·rename_i hc;have h6:=lH hl (1+dpS (dp g) (bgM g p.r) 0) p.l.toNat;rw[h2,if_pos rfl]at h6;omega
  ·rename_i hc;rw[hpl]at hc;simp only[mxl,List.foldl_nil]at h3;omega
 | succ k ih=>
  intro i hk hi;have h1:=hd.hi i;have hge:∀p∈g.ps,p.l.toNat=i->1+dpS (dp g) (bgM g p.r) 0<=(dp g).getD i 0:=fun p hp hpl=>by
   have h2:=hst p hp;unfold stD at h2;have hl:p.l.toNat<(dp g).length:=by rw[hd.len,hpl];exact hi
   split at h2
   ·rename_i hc;have h6:=lH hl (1+dpS (dp g) (bgM g p.r) 0) p.l.toNat;rw[h2,if_pos rfl]at h6;omega
   ·rename_i hc;rw[hpl]at hc;omega
  have h3:=mX ha i;have h4:(mxl (dptM g) (scM g i) 0:Int)+1<=(dp g).getD i 0:=by
   have:mxl (dptM g) (scM g i) 0<=((dp g).getD i 0-1).toNat:=uS (Nat.zero_le _) fun s hs=>by
    obtain⟨p,hp,hpl,hsp⟩:=(j9 ha.ok).1 hs;have h5:=hge p hp hpl;have h6:=(t7 (dp g) (bgM g p.r) 0).2 s hsp;have hr:=Av ha ⟨p,hp,hpl,hsp⟩;rw[ih s (by omega) (uT ha.ok ⟨p,hp,hpl,hsp⟩).2]at h6
    omega
   obtain⟨p,hp,hpl⟩:=ri ha hi;have h5:=hge p hp hpl;have h6:=(t7 (dp g) (bgM g p.r) 0).1;omega
  omega
theorem Q8 {g:Gm}(ha:AOk g):dp g=bL g:=by
 have hd:=t8 ha;apply List.ext_getElem
 ·rw[hd.len];simp[bL]
 ·intro i h1 h2;have h3:=Q7 ha _ i (Nat.le_refl _) (by rw[<-hd.len];exact h1)
  rw[R3,R4 h1]at h3;simp only[Option.getD_some]at h3;simp[bL,h3]

theorem lI {l:List Bool}{i:Nat}(h:i<l.length)(h2:i<(bools l).length):(bools l)[i]'h2=Bo l[i]:=by simp[bools]
theorem QA {lk lim:Nat}{H:Heap}{g:Gm}(ha:AOk g){o:List Int}(ho:DOk g o){b:Nat}(hb:H[b]?=some (.cells (ints o))){p:Pr}(hp:p∈g.ps):
  aj X A lk lim 38 [gV g,.sl g.n.toNat (bools (derM g false)),.hs b g.n.toNat 0 g.n.toNat 1,.sl p.r.length (ints p.r)] H=some (I (dpS o (bgM g p.r) 0),H):=by
 have hg:=ha.ok;have pok:=hg.p p hp;have hrl:=pok.len;have hss:=pok.s;have hg1:=hg.t1;have hg2:=hg.t2;have hn2:=hg.n2;have hol:=ho.len;have heml:=fZ g false;unfold bgM;generalize derM g false=em at *;clear ho ha hp pok;obtain⟨pl,r⟩:=p;simp only at hrl hss |-;refine ar [4] rfl A38 rfl rfl ?_;unfold Rr;generalize aj X A=C;obtain⟨t,gn,k,ps⟩:=g;simp only[gV,Gm.cells]at hss hg1 hg2 hn2 hol heml |-;obtain⟨n,hn⟩:∃n,gn.toNat=n:=⟨_,rfl⟩;rw[hn]at hol heml |-;obtain⟨R,hR⟩:∃R,dpS o (bgL t em r) 0=R:=⟨_,rfl⟩;rw[hR];simp[-ap];rw[ap];refine ax (σ:=Nat×Int) (fun s=>[(1,.sl n (bools em)),(2,.hs b n 0 n 1),(3,.sl r.length (ints r)),(4,.box [I t,I gn,I k,.sl ps.length (psC ps)]),(9,I s.2),(10,I s.1)]) (fun _=>H)
  (fun s=>s.1<=r.length/\dpS o (bgL t em (r.drop s.1)) s.2=R) (fun s=>r.length-s.1) ?_ (0,0) ⟨Nat.zero_le _,hR⟩ (by simp) rfl
 rintro⟨j,m⟩ ⟨hj,hinv⟩;simp only at hj hinv;unfold Rj;have w1:IntKind.i64.wrap ((j:Int)+1)=(j:Int)+1:=au (by omega) (by omega)
 by_cases hjl:j<r.length;case neg=>
  obtain rfl:j=r.length:=by omega
  rw[List.drop_length]at hinv;simp only[bgL,dpS,List.foldl_nil]at hinv;subst hinv;simp
 rw[List.drop_eq_getElem_cons hjl]at hinv;simp only[bgL]at hinv;have hsE:=fun h=>bv (l:=r) hjl h;have hs1:=hss _ (List.getElem_mem hjl);have hlen:=aV r;generalize r[j]=s at hinv hsE hs1;have w2:IntKind.i64.wrap (s-t)=s-t:=au (by omega) (by omega)
 by_cases hst:s<t
 ·rw[if_pos hst]at hinv;simp only[dpS,List.foldl_nil]at hinv;subst hinv;have hge:¬t<=s:=by omega
  simp[hjl,hsE,hlen,hge,hst]
 rw[if_neg hst]at hinv;have hge:t<=s:=by omega
 obtain⟨q,hq⟩:∃q:Nat,s-t=q:=⟨(s-t).toNat,by omega⟩
 rw[hq]at hinv w2;simp only[Int.toNat_natCast]at hinv;have hqn:q<n:=by omega
 have hqo:q<o.length:=by omega
 have hqe:q<em.length:=by omega
 have hje:∀h,(ints o)[q]'h=I (o.getD q 0):=fun h=>by rw[R3,R4 hqo];exact bv hqo h
 have hbe:∀h,(bools em)[q]'h=Bo (em.getD q false):=fun h=>by rw[R3,R4 hqe];exact lI hqe h
 have hlo:=aV o;have hle:=aH em;have hdp:∀l,dpS o (q::l) m=dpS o l (max m (o.getD q 0)):=fun _=>rfl;rw[hdp]at hinv;clear hdp;generalize o.getD q 0=v at hinv hje;obtain⟨e,he⟩:∃e,em.getD q false=e:=⟨_,rfl⟩;simp only[he]at hinv hbe;have hmx:(if m<v then v else m)=max m v:=by rw[Int.max_def];split<;>split<;>omega
 cases e with
 | false=>
  rw[if_neg (by simp)]at hinv
  simp only[dpS,List.foldl_nil]at hinv;simp[hjl,hsE,hlen,hge,hst,hq,w2,hqn,hb,hje,hbe,hlo,hle,hol,heml,bZ,hmx,hinv]
 | true=>
  rw[if_pos rfl]at hinv;simp[hjl,hsE,hlen,hge,hst,hq,w2,hqn,hb,hje,hbe,hlo,hle,hol,heml,bZ,hmx,w1,ao];exact⟨j+1,max m v,⟨hjl,hinv⟩,by omega,by simp⟩

def LeN (o' o:List Int):Prop:=∀i,0<=o.getD i 0->i<o.length->0<=o'.getD i 0/\o'.getD i 0<=o.getD i 0
theorem nR {t:Int}{o o':List Int}(h:LeN o' o):∀(r:List Int) (a a' v:Int),(∀s∈r,(s-t).toNat<o.length)->a'<=a->bq t o r a=some v->∃v',bq t o' r a'=some v'/\v'<=v
 | [],a,a',v,_,ha,hv=>by
  simp only[bq,RZ]at hv;subst hv;exact⟨a',rfl,ha⟩
 | s::r,a,a',v,hs,ha,hv=>by
  simp only[bq]at hv;split at hv
  ·cases hv
  ·rename_i hc;have h1:¬s<t:=fun e=>hc (.inl e);have h2:¬o.getD (s-t).toNat 0<0:=fun e=>hc (.inr e);have h3:=h (s-t).toNat (by omega) (hs s (by simp))
   simp only[bq];rw[if_neg (by omega)]
   exact nR h r _ _ v (fun x hx=>hs x (by simp[hx])) (by omega) hv
def Cm (g:Gm)(o:List Int):Prop:=∀a,a<g.n.toNat->0<=o.getD a 0->∃p∈g.ps,p.l.toNat=a/\∃v,bq g.t o p.r 0=some v/\v+1<=o.getD a 0
theorem Ms {g:Gm}(hg:GOk g){o:List Int}(h:NOk g o){p:Pr}(hp:POk g p):LeN (stN g o p) o:=by
 intro i hi hil;unfold stN;cases hn:bq g.t o p.r 0 with
 | none=>exact⟨hi,Int.le_refl _⟩
 | some n=>
  simp only;split;case isFalse=>exact⟨hi,Int.le_refl _⟩
  rename_i hc;have hb:=dh (h.hi2 hg) (by omega) p.r 0 n (eE hg h.len hp) hn
  have hl:p.l.toNat<o.length:=by rw[h.len];have:=hp.l0;have:=hp.l1;omega
  rw[lH hl];split
  ·rename_i e;subst e;omega
  ·exact⟨hi,Int.le_refl _⟩
theorem Jd {g:Gm}(hg:GOk g){o:List Int}(h:NOk g o){p:Pr}(hpm:p∈g.ps)(hf:Cm g o):Cm g (stN g o p):=by
 have hp:=hg.p p hpm;have hle:=Ms hg h hp;have hl:p.l.toNat<o.length:=by rw[h.len];have:=hp.l0;have:=hp.l1;omega
 intro a ha hpos;have keep:(stN g o p).getD a 0=o.getD a 0->0<=o.getD a 0->∃q∈g.ps,q.l.toNat=a/\∃v,bq g.t (stN g o p) q.r 0=some v/\v+1<=(stN g o p).getD a 0:=fun e h0=>by
  obtain⟨q,h1,h2,v,h3,h4⟩:=hf a ha h0;obtain⟨v',h5,h6⟩:=nR hle q.r 0 0 v (eE hg h.len (hg.p q h1)) (Int.le_refl _) h3;exact⟨q,h1,h2,v',h5,by rw[e];omega⟩
 by_cases hch:(stN g o p).getD a 0=o.getD a 0
 ·exact keep hch (hch▸hpos)
 ·have hst:∃n,bq g.t o p.r 0=some n/\stN g o p=o.set p.l.toNat (n+1):=by
   unfold stN at hch |-;cases hn:bq g.t o p.r 0 with
   | none=>rw[hn]at hch;exact absurd rfl hch
   | some n=>
    rw[hn]at hch;simp only at hch |-;split
    ·exact⟨n,rfl,rfl⟩
    ·rename_i hc;rw[if_neg hc]at hch;exact absurd rfl hch
  obtain⟨n,hn,hs⟩:=hst;have hgs:=lH hl (n+1) a;have ha2:p.l.toNat=a:=by
   by_cases e:a=p.l.toNat
   ·exact e.symm
   ·rw[if_neg e,<-hs]at hgs;exact absurd hgs hch
  obtain⟨v',h5,h6⟩:=nR hle p.r 0 0 n (eE hg h.len hp) (Int.le_refl _) hn;refine⟨p,hpm,ha2,v',h5,?_⟩;rw[if_pos ha2.symm,<-hs]at hgs;omega
theorem sX {g:Gm}(hg:GOk g):∀(ps:List Pr),(∀p∈ps,p∈g.ps)->∀o,NOk g o->Cm g o->Cm g (ps.foldl (stN g) o)
 | [],_,_,_,h=>h
 | p::ps,hp,o,ho,h=>sX hg ps (fun q hq=>hp q (by simp[hq])) _ (un hg ho (hg.p p (hp p (by simp)))).1 (Jd hg ho (hp p (by simp)) h)
theorem iu {g:Gm}(hg:GOk g):Cm g (nullM g):=
 (ie (f:=jw g) (R:=fun o=>NOk g o/\Cm g o) (fun o h=>⟨(di hg).keep o h.1,sX hg g.ps (fun _ h=>h) o h.1 h.2⟩) _ _ ⟨NOk.start g,fun a ha h=>by
  rw[R3,List.getElem?_replicate,if_pos ha]at h;simp at h⟩).2
theorem sY {g:Gm}(hg:GOk g):∀(ps:List Pr),(∀p∈ps,POk g p)->∀o,NOk g o->ps.foldl (stN g) o=o->∀p∈ps,stN g o p=o
 | [],_,_,_,_,p,hp=>by cases hp
 | p::ps,hp,o,ho,h,q,hq=>by
  obtain⟨h1,h2⟩:=un hg ho (hp p (by simp))
  obtain⟨_,h4⟩:=jx hg ps (fun q hq=>hp q (by simp[hq])) _ h1
  simp only[List.foldl_cons]at h;have he:stN g o p=o:=by
   rcases h2 with e | l
   ·exact e
   ·rw[h]at h4;rcases h4 with e | l2
    ·exact e.symm
    ·omega
  rcases List.mem_cons.1 hq with rfl | hq
  ·exact he
  ·rw[he]at h;exact sY hg ps (fun q hq=>hp q (by simp[hq])) o ho h q hq
theorem kA {g:Gm}(hg:GOk g){p:Pr}(hp:p∈g.ps){v:Int}(hv:bq g.t (nullM g) p.r 0=some v):0<=(nullM g).getD p.l.toNat 0/\(nullM g).getD p.l.toNat 0<=v+1:=by
 have ho:=bn hg;have h1:=sY hg g.ps hg.p _ ho (BP hg) p hp;have hpk:=hg.p p hp;have hl:p.l.toNat<(nullM g).length:=by rw[ho.len];have:=hpk.l0;have:=hpk.l1;omega
 have hb:=dh (ho.hi2 hg) (by omega) p.r 0 v (eE hg ho.len hpk) hv
 unfold stN at h1;rw[hv]at h1;simp only at h1;split at h1
 ·have h2:=lH hl (v+1) p.l.toNat;rw[h1,if_pos rfl]at h2;omega
 ·omega

theorem nS {t:Int}{o:List Int}:∀(r:List Int) (a:Int),(∀s∈r,¬s<t/\0<=o.getD (s-t).toNat 0)->∃v,bq t o r a=some v
 | [],a,_=>⟨a,rfl⟩
 | s::r,a,h=>by
  have hs:=h s (by simp)
  simp only[bq];rw[if_neg (by omega)]
  exact nS r _ fun x hx=>h x (by simp[hx])
theorem xk {t:Int}{o:List Int}:∀(r:List Int) (a v:Int),bq t o r a=some v->∀s∈r,¬s<t/\0<=o.getD (s-t).toNat 0
 | [],_,_,_,s,hs=>by cases hs
 | x::r,a,v,h,s,hs=>by
  simp only[bq]at h;split at h
  ·cases h
  ·rename_i hc;rcases List.mem_cons.1 hs with rfl | hs
   ·exact⟨fun e=>hc (.inl e),by have:=fun e=>hc (.inr e);omega⟩
   ·exact xk r _ v h s hs
theorem rj {g:Gm}(hg:GOk g){a:Nat}(ha:a<g.n.toNat):0<=(nullM g).getD a 0↔tr (derM g false) a:=by
 constructor
 ·have key:∀(k a:Nat),a<g.n.toNat->0<=(nullM g).getD a 0->(nullM g).getD a 0<=k->tr (derM g false) a:=by
   intro k;induction k with
   | zero=>
    intro a ha h1 h2;obtain⟨p,hp,hpl,v,hv,hle⟩:=iu hg a ha h1;have:=(dh ((bn hg).hi2 hg) (by omega) p.r 0 v (eE hg (bn hg).len (hg.p p hp)) hv).1
    omega
   | succ k ih=>
    intro a ha h1 h2;obtain⟨p,hp,hpl,v,hv,hle⟩:=iu hg a ha h1;have hall:=xk p.r 0 v hv;rw[<-hpl];refine wR hg false p hp ?_;rw[List.all_eq_true];intro s hs;obtain⟨q1,q2⟩:=hall s hs;have hsl:=eE hg (bn hg).len (hg.p p hp) s hs;rw[(bn hg).len]at hsl;have hb:(nullM g).getD (s-g.t).toNat 0<=v:=by
     have gen:∀(r:List Int) (a v:Int),0<=a->(∀x∈r,¬x<g.t/\0<=(nullM g).getD (x-g.t).toNat 0)->bq g.t (nullM g) r a=some v->a<=v/\∀x∈r,(nullM g).getD (x-g.t).toNat 0<=v:=by
      intro r;induction r with
      | nil=>intro a v _ _ h;simp only[bq,RZ]at h;exact⟨by omega,fun x hx=>by cases hx⟩
      | cons y r ihr=>
       intro a v h0 hx h;simp only[bq]at h;have hy:=hx y (by simp)
       rw[if_neg (by omega)]at h
       obtain⟨i1,i2⟩:=ihr _ v (by omega) (fun z hz=>hx z (by simp[hz])) h
       refine⟨by omega,fun z hz=>?_⟩
       rcases List.mem_cons.1 hz with rfl | hz
       ·omega
       ·exact i2 z hz
     exact(gen p.r 0 v (Int.le_refl _) hall hv).2 s hs
    have:=ih (s-g.t).toNat hsl q2 (by omega)
    unfold okS;rw[if_neg q1];exact this
  intro h;exact key ((nullM g).getD a 0).toNat a ha h (by omega)
 ·intro h;have key:=mQ (g:=g) (tok:=false) (fun o=>∀i,tr o i->0<=(nullM g).getD i 0) (fun o p hp ho i hi=>by
   unfold ek at hi;split at hi
   ·exact ho i hi
   ·split at hi
    ·rename_i hall;rcases qZ hi with e | e
     ·obtain⟨v,hv⟩:=nS (t:=g.t) (o:=nullM g) p.r 0 fun s hs=>by
       have h1:=List.all_eq_true.1 hall s hs;unfold okS at h1;split at h1
       ·cases h1
       ·rename_i h2;exact⟨h2,ho _ h1⟩
      have:=(kA hg hp hv).1
      first
       | (rw[e]at *;exact this)
       | (rw[<-e]at *;exact this)
       | (subst e;exact this)
       | exact ho i e
     ·first | exact ho i e | skip
      all_goals
       obtain⟨v,hv⟩:=nS (t:=g.t) (o:=nullM g) p.r 0 fun s hs=>by
        have h1:=List.all_eq_true.1 hall s hs;unfold okS at h1;split at h1
        ·cases h1
        ·rename_i h2;exact⟨h2,ho _ h1⟩
       have:=(kA hg hp hv).1;subst e;exact this
    ·exact ho i hi) (fun i hi=>absurd hi (pt _ _))
  exact key a h
end Go.Proofs.YtkllbcjanneppaaGreat
