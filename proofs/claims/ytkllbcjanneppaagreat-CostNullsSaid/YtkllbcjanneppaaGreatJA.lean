import Derived.Test.YtkllbcjanneppaaGreatGA
import Derived.Test.YtkllbcjanneppaaGreatGE
import Derived.Test.YtkllbcjanneppaaGreatHD
import Derived.Test.YtkllbcjanneppaaGreatGN
set_option maxRecDepth 20000
set_option linter.unusedSimpArgs false
set_option linter.unusedVariables false
namespace Go.Proofs.YtkllbcjanneppaaGreat
open Go Go.Hm

theorem aI {E:Env}{n:Nat}{b:Bool}(h:find E n=Bo b):ev E (.tmp n)=Bo b:=by
 show (match find E n with | .box _=>AV.rp n 0 | v=>v)=_
 rw [h]
theorem bv {l:List Int}{i:Nat}(h:i < l.length)(h2:i < (ints l).length):(ints l)[i]'h2=I l[i]:=by simp [ints]
abbrev F5:Option Int->AV
 | some n=>.tup [I n,Bo true]
 | none=>.tup [I 0,Bo false]
theorem xe {lk lim:Nat}{H:Heap}{g:Gm}(hg:GOk g){o:List Int}(ho:NOk g o){b:Nat}(hb:H[b]?=some (.cells (ints o))){p:Pr}(hp:POk g p):
  aj X A lk lim 33 [gV g,.hs b o.length 0 o.length 1,.sl p.r.length (ints p.r)] H=some (F5 (bq g.t o p.r 0),H):=by
 have hrl:=hp.len;have hsy:=eE hg ho.len hp;have hss:=hp.s;have hM:=ho.hi2 hg;have hlo:=ho.lo;have hg1:=hg.t1;have hg2:=hg.t2;have hn2:=hg.n2;have hol:=ho.len;clear ho hg;obtain ⟨pl,r⟩:=p;simp only at hrl hsy hss |-;refine ar [3] rfl A33 rfl rfl ?_;unfold N7;generalize aj X A=C;obtain ⟨t,gn,k,ps⟩:=g;simp only [gV,Gm.cells] at hsy hss hg1 hg2 hn2 |-;obtain ⟨R,hR⟩:∃R,bq t o r 0=R:=⟨_,rfl⟩;rw [hR];simp [-ap];rw [ap];refine ax (σ:=Nat×Int) (fun s=>[(1,.hs b o.length 0 o.length 1),(3,.box [I t,I gn,I k,.sl ps.length (psC ps)]),(8,I s.2),(11,.sl r.length (ints r)),(12,I r.length),(13,I s.1)]) (fun _=>H)
  (fun s=>s.1<=r.length/\0<=s.2/\s.2<=s.1 * 40210710958665/\bq t o (r.drop s.1) s.2=R) (fun s=>r.length - s.1) ?_ (0,0) ⟨Nat.zero_le _,by omega,by simp,hR⟩ (by simp) rfl
 rintro ⟨i,n⟩ ⟨hi,hn0,hnM,hinv⟩;simp only at hi hn0 hnM hinv;unfold Kd;have w1:IntKind.i64.wrap ((i:Int)+1)=(i:Int)+1:=au (by omega) (by omega)
 by_cases hil:i < r.length;case neg=>
  obtain rfl:i=r.length:=by omega
  rw [List.drop_length] at hinv;subst hinv;simp [bq]
 rw [List.drop_eq_getElem_cons hil] at hinv;simp only [bq] at hinv;have hsE:=bv hil;have hs1:=hss _ (List.getElem_mem hil);have hs2:=hsy _ (List.getElem_mem hil);generalize r[i]=s at hinv hsE hs1 hs2;have w2:IntKind.i64.wrap (s - t)=s - t:=au (by omega) (by omega)
 have hlen:=aV r;by_cases hst:s < t
 ·rw [if_pos (.inl hst)] at hinv;subst hinv;simp [hil,hsE,hst]
 obtain ⟨j,hj⟩:∃j:Nat,s - t=j:=⟨(s - t).toNat,by omega⟩
 rw [hj] at hinv hs2 w2;simp only [Int.toNat_natCast] at hinv hs2;have hmem:=fT hs2;have hv1:=hM _ hmem;have hv2:=hlo _ hmem;have hje:∀h,(ints o)[j]'h=I (o.getD j 0):=fun h=>by rw [List.getD_eq_getElem?_getD,List.getElem?_eq_getElem hs2];exact bv hs2 h
 generalize o.getD j 0=v at hinv hv1 hv2 hje;have hlo2:=aV o;by_cases hv:v < 0
 ·rw [if_pos (.inr hv)] at hinv;subst hinv;simp [hil,hsE,hst,hj,w2,hs2,hb,hje,hv,hlo2]
 ·rw [if_neg (by simp [hst,hv])] at hinv
  have w3:IntKind.i64.wrap (n+v)=n+v:=au (by omega) (by omega)
  simp [hil,hsE,hst,hj,w2,hs2,hb,hje,hv,hlo2,w1,w3,ao];exact ⟨i+1,n+v,⟨by omega,by omega,by omega,hinv⟩,by omega,by simp⟩

theorem xf (lim:Nat)(H:Heap)(d:Nat)(l:List Int):ep (frz lim H d) (ints l)=some (ints l):=by
 induction l with
 | nil=>rfl
 | cons a l ih=>
  simp only [ints,List.map_cons,ep,gC] at ih |-;rw [ih]
theorem bel_ints (lim:Nat)(l:List Int):belowL lim (ints l)=true:=by
 induction l with
 | nil=>rfl
 | cons a l ih=>simp only [ints,List.map_cons,belowL,Hm.below,Bool.true_and];exact ih
theorem Mq {lk lim:Nat}{H:Heap}(m n:Int)(h1:1<=n)(h2:n<=1000000):aj X A lk lim 32 [.sl 1 [I m],I n] H=some (.hs H.length n.toNat 0 n.toNat 1,H++[.cells (ints (List.replicate n.toNat m))]):=by
 have h:dn 32 yr X0 lk lim 32 [.sl 1 [I m],I n] H=_:=yo (l:=List.replicate n.toNat m) (by show (if 1<=n/\n<=1000000 then some (List.replicate n.toNat m) else none)=_;rw [if_pos ⟨h1,h2⟩])
 rw [List.length_replicate] at h;refine eB ?_;show bU 60 fw (bU 10 exG (dn 32 yr X0)) lk lim 32 [.sl 1 [I m],I n] H=_;unfold bU;rw [if_neg (by decide),if_neg (by decide)]
 exact h
theorem xg {g:Gm}(h:cN g=0):chkE g=0:=by
 unfold cN at h;split at h
 ·exact h
 ·rename_i h2;simpa using h2
abbrev Au (g:Gm):AV:=if cN g=0 then .sl (nullM g).length (ints (nullM g)) else .e0
theorem zd {g:Gm}{o:List Int}{i:Nat}(h:i < g.ps.length):(g.ps.take (i+1)).foldl (stN g) o=stN g ((g.ps.take i).foldl (stN g) o) g.ps[i]:=by
 rw [List.take_succ_eq_append_getElem h,List.foldl_append];rfl
theorem F7 {o:List Int}{i:Nat}(h:i < o.length)(x:Int):an (ints o) i [I x]=ints (o.set i x):=by
 rw [List.set_eq_take_append_cons_drop,if_pos h];simp [an,ints]
theorem Mr {lk lim b:Nat}{H:Heap}(h:lk<=b)(cs:List AV)(x:Int):aR lk lim 0 H b cs [I x]=some (H.set b (.cells cs)):=by
 unfold aR;rw [if_pos ⟨h,.inr rfl,.inl (Nat.zero_le _)⟩]
section
variable {C:Orc}{Q:Ex->Kt}{E:Env}{lk L:Nat}{H:Heap}{t gn k:Int}{ps:List Pr}{n b i:Nat}{mo:Bool}{pl:Nat}{pr:List Int}{is:Bool}{v w:Int}{o:List Int}
def n4 (t gn k:Int)(ps:List Pr)(b n:Nat)(e:Env):Env:=(1,.box [I t,I gn,I k,.sl ps.length (psC ps)])::(3,.hs b n 0 n 1)::e
def eX (ps:List Pr)(i:Nat):Env:=[(18,.sl ps.length (psC ps)),(19,I ps.length),(20,I i)]
abbrev n6 (pl:Nat)(pr:List Int):Nat×AV:=(6,.box [I pl,.sl pr.length (ints pr)])
theorem a22 (hil:i < ps.length)(hs:((psC ps).drop (i * 2)).take 2=[I (pl:Nat),.sl pr.length (ints pr)])
  (hE:ab [1,3,4,18,19,20] E=n4 t gn k ps b n ((4,Bo mo)::eX ps i))
  (hQ:∀E',ab [1,3,4,6,18,19,20] E'=n4 t gn k ps b n ((4,Bo mo)::n6 pl pr::eX ps i)->Q .nrm E' H):
  WB ⟨C,lk,L,[1,6]⟩ (.regN [1,3,4,18,19,20] [ kI 22 2 18 20,kx 23 (.ldA none 2 (ux 22)),kx 6 (.allocR [(.val (.int .i64 0)),.e0]),kn (.st (some 6) 2 (ux 6) (ux 23))]) Q E H:=by
 have hll:=aY ps;have h2:i * 2+2<=2 * ps.length:=by omega
 unfold n4 eX at *;rw [ae,hE];simp [-bd,hil,hll,hs,h2];rw [bd];simp [an];refine hQ _ ?_;rfl
theorem a25 (kc:C lk L 33 [.agg [I t,I gn,I k,.sl ps.length (psC ps)],.hs b n 0 n 1,.sl pr.length (ints pr)] H=some (.tup [I v,Bo is],H))
  (hE:ab [1,3,4,6,18,19,20] E=n4 t gn k ps b n ((4,Bo mo)::n6 pl pr::eX ps i))
  (hQ:∀E',ab [1,3,4,6,7,8,18,19,20] E'=n4 t gn k ps b n ((4,Bo mo)::n6 pl pr::(7,I v)::(8,Bo is)::eX ps i)->Q .nrm E' H):
  WB ⟨C,lk,L,[1,6]⟩ (.regN [1,3,4,6,18,19,20] [ kP 25 1 4 1,kM 26 3,kF 27 1 6,kS 28 6 27,kx 29 (.call 33 [(ux 25),(ux 26),(ux 28)]),kM 24 29,kE 30 24 0,kE 31 24 1,kM 7 30,kM 8 31]) Q E H:=by
 unfold n4 eX at *;rw [ae,hE];simp [kc];refine hQ _ ?_;rfl
theorem a32 (hb:H[b]?=some (.cells (ints o)))(hn:o.length=n)(hpl:pl < n)(hv:is=true->0<=v/\v<=1000000000000000)
  (hE:ab [1,3,4,6,7,8,18,19,20] E=n4 t gn k ps b n ((4,Bo mo)::n6 pl pr::(7,I v)::(8,Bo is)::eX ps i))
  (hQ:∀E',find E' 50=Bo (is&&decide (o.getD pl 0 < 0\/v+1 < o.getD pl 0))->ab [1,3,6,7,18,19,20] E'=n4 t gn k ps b n (n6 pl pr::(7,I v)::eX ps i)->ab [1,3,4,18,19,20] E'=n4 t gn k ps b n ((4,Bo mo)::eX ps i)->Q .nrm E' H):
  WB ⟨C,lk,L,[1,6]⟩ (.regN [1,3,4,6,7,8,18,19,20] [ kM 32 8,kM 33 32,yM 34 33 3,yF 35 33 0 6,yS 36 33 6 35,yI 37 33 1 34 36,yL 38 33 37,ky 39 33 (.bini .lss (ux 38) c0),yM 40 33 39,zM 41 40 7,kz 42 40 (.bini .add (ux 41) c1),zM 43 40 3,zF 44 40 0 6,zS 45 40 6 44,zI 46 40 1 43 45,zL 47 40 46,kz 48 40 (.bini .lss (ux 42) (ux 47)),ky 49 33 (.pick (ux 40) cT (ux 48)),kx 50 (.pick (ux 33) (ux 49) cF)]) Q E H:=by
 have hpo:pl < o.length:=by omega
 have hje:∀h,(ints o)[pl]'h=I (o.getD pl 0):=fun h=>by rw [List.getD_eq_getElem?_getD,List.getElem?_eq_getElem hpo];exact bv hpo h
 have hil2:=aV o;generalize o.getD pl 0=w at *;unfold n4 eX at *;rw [ae,hE];cases is with
 | false=>
  simp;refine hQ _ ?_ ?_ ?_<;>rfl
 | true=>
  obtain ⟨h1,h2⟩:=hv rfl;have w1:IntKind.i64.wrap (v+1)=v+1:=au (by omega) (by omega)
  by_cases hw:w < 0
  ·simp [hb,hje,hil2,hn,hpl,hw];refine hQ _ ?_ ?_ ?_
   ·simp [find,hw]
   ·rfl
   ·rfl
  ·simp [hb,hje,hil2,hn,hpl,hw,w1];refine hQ _ ?_ ?_ ?_
   ·simp [find,hw]
   ·rfl
   ·rfl
theorem a51 (hb:H[b]?=some (.cells (ints o)))(hlk:lk<=b)(hn:o.length=n)(hpl:pl < n)(hv:0<=v/\v<=1000000000000000)
  (hE:ab [1,3,6,7,18,19,20] E=n4 t gn k ps b n (n6 pl pr::(7,I v)::eX ps i))
  (hQ:∀E',ab [1,3,4,18,19,20] E'=n4 t gn k ps b n ((4,Bo true)::eX ps i)->Q .nrm E' (H.set b (.cells (ints (o.set pl (v+1)))))):
  WB ⟨C,lk,L,[1,6]⟩ (.regN [1,3,6,7,18,19,20] [ kM 51 3,kF 52 0 6,kS 53 6 52,kM 54 7,kU 55 54,kI 56 1 51 53,kn (.st none 1 (ux 56) (ux 55)),kx 4 (.mv cT)]) Q E H:=by
 have hil2:=aV o;have w1:IntKind.i64.wrap (v+1)=v+1:=au (by omega) (by omega)
 unfold n4 eX at *;rw [ae,hE];simp [hb,hil2,hn,hpl,w1];rw [F7 (by omega),Mr hlk,if_pos (by omega)]
 refine hQ _ ?_;rfl
theorem a57 (hps:ps.length<=64)(hil:i < ps.length)(hE:ab [1,3,4,18,19,20] E=n4 t gn k ps b n ((4,Bo mo)::eX ps i))
  (hQ:∀E',ab [1,3,4,18,19,20] E'=n4 t gn k ps b n ((4,Bo mo)::eX ps (i+1))->Q .nrm E' H):
  WB ⟨C,lk,L,[1,6]⟩ (.regN [1,3,4,18,19,20] [ kU 57 20,kM 20 57]) Q E H:=by
 have w1:IntKind.i64.wrap ((i:Int)+1)=(i:Int)+1:=au (by omega) (by omega)
 unfold n4 eX at *;rw [ae,hE];simp [w1];refine hQ _ ?_;simp
theorem a21 (hE:ab [1,3,4,18,19,20] E=n4 t gn k ps b n ((4,Bo mo)::eX ps i))
  (hQ:∀E',find E' 21=Bo (decide (i < ps.length))->ab [1,3,4] E'=n4 t gn k ps b n [(4,Bo mo)]->ab [1,3,4,18,19,20] E'=n4 t gn k ps b n ((4,Bo mo)::eX ps i)->Q .nrm E' H):
  WB ⟨C,lk,L,[1,6]⟩ (.regN [1,3,4,18,19,20] [ kT 21 20 19]) Q E H:=by
 unfold n4 eX at *;rw [ae,hE];simp;refine hQ _ ?_ ?_ ?_
 ·simp [find]
 ·rfl
 ·rfl
theorem Cj {Z:Heap}(hg:GOk ⟨t,gn,k,ps⟩)(hn:n=gn.toNat)(hlk:lk<=Z.length){o:List Int}(ho:NOk ⟨t,gn,k,ps⟩ o)
  (kn:∀K M (o:List Int),NOk ⟨t,gn,k,ps⟩ o->∀p∈ps,C K M 33 [.agg [I t,I gn,I k,.sl ps.length (psC ps)],.hs Z.length n 0 n 1,.sl p.r.length (ints p.r)] (Z++[.cells (ints o)])=some (F5 (bq t o p.r 0),Z++[.cells (ints o)]))
  (hE:ab [1,3,4,18,19,20] E=n4 t gn k ps Z.length n ((4,Bo false)::eX ps 0))
  (hQ:∀E' m,ab [1,3,4] E'=n4 t gn k ps Z.length n [(4,Bo m)]->(m=false->jw ⟨t,gn,k,ps⟩ o=o)->(m=true->szN (jw ⟨t,gn,k,ps⟩ o) < szN o)->Q .nrm E' (Z++[.cells (ints (jw ⟨t,gn,k,ps⟩ o))])):
  WB ⟨C,lk,L,[1,6]⟩ (.block 2 (.loop [1,3,4,18,19,20] EG)) Q E (Z++[.cells (ints o)]):=by
 rw [ap];refine ax (σ:=Nat×List Int×Bool) (fun s=>n4 t gn k ps Z.length n ((4,Bo s.2.2)::eX ps s.1)) (fun s=>Z++[.cells (ints s.2.1)])
  (fun s=>s.1<=ps.length/\s.2.1=(ps.take s.1).foldl (stN ⟨t,gn,k,ps⟩) o/\(s.2.2=false->s.2.1=o)/\(s.2.2=true->szN s.2.1 < szN o)) (fun s=>ps.length - s.1) ?_ (0,o,false) ⟨Nat.zero_le _,rfl,fun _=>rfl,fun h=>by cases h⟩ hE rfl
 rintro ⟨i,o2,m⟩ ⟨hi,ho2,hm1,hm2⟩;simp only at hi ho2 hm1 hm2;unfold EG;have hE0:ab [1,3,4,18,19,20] (n4 t gn k ps Z.length n ((4,Bo m)::eX ps i))=n4 t gn k ps Z.length n ((4,Bo m)::eX ps i):=rfl;rw [ai];refine a21 hE0 fun E1 g1 h1' h1=>?_;rw [ah,ai];by_cases hil:i < ps.length;case neg=>
  obtain rfl:i=ps.length:=by omega
  rw [List.take_of_length_le (Nat.le_refl _)] at ho2;rw [decide_eq_false hil] at g1;rw [af (aI g1),bT,a8,bQ,aG,if_pos rfl];have:=hQ E1 m h1' (fun h=>ho2.symm.trans (hm1 h)) (fun h=>by have:=hm2 h;rw [ho2] at this;exact this)
  rw [show jw ⟨t,gn,k,ps⟩ o=o2 from ho2.symm] at this;exact this
 rw [decide_eq_true hil] at g1;rw [ak (aI g1),aA,ah,ai,ap,ai];have okp:=hg.p _ (List.getElem_mem hil);have ok2:NOk ⟨t,gn,k,ps⟩ o2:=by rw [ho2];exact (jx hg _ (fun p hp=>hg.p p (List.mem_of_mem_take hp)) o ho).1
 have kn2:=kn lk L o2 ok2 _ (List.getElem_mem hil);have hnext:(ps.take (i+1)).foldl (stN ⟨t,gn,k,ps⟩) o=stN ⟨t,gn,k,ps⟩ o2 ps[i]:=by rw [ho2];exact zd (g:=⟨t,gn,k,ps⟩) hil
 have hdec:=(un hg ok2 okp).2;have hbig:=ok2.hi2 hg;have hs:=cd hil;simp only [Pr.cells] at hs;have hol:o2.length=n:=by rw [ok2.len,hn]
 have hsy:=eE hg ok2.len okp;have hps:ps.length<=64:=hg.l2;obtain ⟨q1,q2,q3,q4⟩:=okp;generalize ps[i]=p at *;obtain ⟨pl,pr⟩:=p;simp only at hnext hdec q1 q2 q3 q4 hs kn2 hsy;obtain ⟨pl,rfl⟩:=Int.eq_ofNat_of_zero_le q2;have hpl:pl < n:=by omega
 have hst:stN ⟨t,gn,k,ps⟩ o2 ⟨(pl:Nat),pr⟩=(match bq t o2 pr 0 with
  | some n=>if o2.getD pl 0 < 0\/n+1 < o2.getD pl 0 then o2.set pl (n+1) else o2
  | none=>o2):=rfl
 rw [hst] at hnext hdec;have hsum:=fun v h=>dh hbig (by omega) pr 0 v hsy h
 have hHb:(Z++[HB.cells (ints o2)])[Z.length]?=some (.cells (ints o2)):=by simp
 refine a22 hil hs h1 fun E2 h2=>?_;rw [ah,ai];obtain ⟨v,is,hvi,hcase⟩:∃v is,F5 (bq t o2 pr 0)= .tup [I v,Bo is]/\((is=true/\bq t o2 pr 0=some v)\/(is=false/\bq t o2 pr 0=none)):=by
  cases bq t o2 pr 0 with
  | none=>exact ⟨0,false,rfl,.inr ⟨rfl,rfl⟩⟩
  | some v=>exact ⟨v,true,rfl,.inl ⟨rfl,rfl⟩⟩
 rw [hvi] at kn2;have hv:is=true->0<=v/\v<=1000000000000000:=fun h=>by
  rcases hcase with ⟨_,h2⟩ | ⟨h1,_⟩
  ·have h3:=hsum v h2;have:(pr.length:Int) * 40210710958665<=8 * 40210710958665:=by omega
   omega
  ·rw [h1] at h;cases h
 refine a25 kn2 h2 fun E3 h3=>?_;rw [ah,ai];refine a32 hHb hol hpl hv h3 fun E4 g4 h4 h4'=>?_;rw [ah];by_cases hc:(is&&decide (o2.getD pl 0 < 0\/v+1 < o2.getD pl 0))=true
 ·rw [hc] at g4;rw [ak (aI g4)];rw [Bool.and_eq_true,decide_eq_true_eq] at hc;refine a51 hHb hlk hol hpl (hv hc.1) h4 fun E5 h5=>?_;rw [a6,ah];refine a57 hps hil h5 fun E6 h6=>?_;rcases hcase with ⟨_,hx⟩ | ⟨hx,_⟩
  ·rw [hx] at hnext hdec;simp only [if_pos hc.2] at hnext hdec;rw [ao];refine ⟨(i+1,o2.set pl (v+1),true),⟨hil,hnext.symm,fun h=>absurd h (by simp),fun _=>?_⟩,by simp only;omega,h6,by simp⟩
   have hz:=uk o2 pl (v+1) (by omega)
   have hlt:szN (o2.set pl (v+1)) < szN o2:=by
    rcases hdec with h | h
    ·rw [h] at hz;have hget:(o2.set pl (v+1)).getD pl 0=v+1:=by
      rw [List.getD_eq_getElem?_getD,List.getElem?_set_self (by omega)];rfl
     rw [h] at hget;have:=(hv hc.1).1;omega
    ·exact h
   simp only;cases m with
   | false=>rw [hm1 rfl] at hlt |-;exact hlt
   | true=>have:=hm2 rfl;omega
  ·rw [hx] at hc;cases hc.1
 ·have hcf:(is&&decide (o2.getD pl 0 < 0\/v+1 < o2.getD pl 0))=false:=by simpa using hc
  rw [hcf] at g4;rw [af (aI g4),aA,a6,ah];refine a57 hps hil h4' fun E6 h6=>?_;rw [ao];refine ⟨(i+1,o2,m),⟨hil,?_,hm1,hm2⟩,by simp only;omega,h6,rfl⟩
  show o2=(ps.take (i+1)).foldl (stN ⟨t,gn,k,ps⟩) o;rw [hnext];rcases hcase with ⟨hx,hy⟩ | ⟨_,hy⟩
  ·rw [hy];rw [hx,Bool.true_and,decide_eq_false_iff_not] at hcf;simp only;rw [if_neg hcf]
  ·rw [hy]
end

section
variable {C:Orc}{Q:Ex->Kt}{E:Env}{lk L:Nat}{H:Heap}{t gn k:Int}{ps:List Pr}{n b i:Nat}{mo:Bool}{o:List Int}
theorem a16 (hE:ab [1,3,4] E=n4 t gn k ps b n [(4,Bo mo)])
  (hQ:∀E',find E' 16=Bo mo->ab [1,3] E'=n4 t gn k ps b n []->ab [3] E'=[(3,.hs b n 0 n 1)]->Q .nrm E' H):
  WB ⟨C,lk,L,[1,6]⟩ (.regN [1,3,4] [ kM 16 4]) Q E H:=by
 unfold n4 at *;rw [ae,hE];simp;refine hQ _ ?_ ?_ ?_<;>rfl
theorem a4 (hE:ab [1,3] E=n4 t gn k ps b n [])
  (hQ:∀E',ab [1,3,4] E'=n4 t gn k ps b n [(4,Bo false)]->Q .nrm E' H):
  WB ⟨C,lk,L,[1,6]⟩ (.regN [1,3] [ kx 4 (.mv cF)]) Q E H:=by
 unfold n4 at *;rw [ae,hE];simp;refine hQ _ ?_;rfl
theorem a17 (hE:ab [1,3,4] E=n4 t gn k ps b n [(4,Bo mo)])
  (hQ:∀E',ab [1,3,4,18,19,20] E'=n4 t gn k ps b n ((4,Bo mo)::eX ps 0)->Q .nrm E' H):
  WB ⟨C,lk,L,[1,6]⟩ (.regN [1,3,4] [ kF 17 3 1,kS 18 1 17,kN 19 18,kZ 20]) Q E H:=by
 unfold n4 eX at *;rw [ae,hE];simp;refine hQ _ ?_;rfl
theorem Ck {Z:Heap}(hg:GOk ⟨t,gn,k,ps⟩)(hn:n=gn.toNat)(hlk:lk<=Z.length)(hno:o=List.replicate n (-1))
  (kn:∀K M (o:List Int),NOk ⟨t,gn,k,ps⟩ o->∀p∈ps,C K M 33 [.agg [I t,I gn,I k,.sl ps.length (psC ps)],.hs Z.length n 0 n 1,.sl p.r.length (ints p.r)] (Z++[.cells (ints o)])=some (F5 (bq t o p.r 0),Z++[.cells (ints o)]))
  (hE:ab [1,3,4] E=n4 t gn k ps Z.length n [(4,Bo true)])
  (hQ:∀E',ab [3] E'=[(3,.hs Z.length n 0 n 1)]->Q .nrm E' (Z++[.cells (ints (nullM ⟨t,gn,k,ps⟩))])):
  WB ⟨C,lk,L,[1,6]⟩ (.block 0 (.loop [1,3,4] EH)) Q E (Z++[.cells (ints o)]):=by
 rw [ap];refine ax (σ:=List Int×Bool) (fun s=>n4 t gn k ps Z.length n [(4,Bo s.2)]) (fun s=>Z++[.cells (ints s.1)])
  (fun s=>NOk ⟨t,gn,k,ps⟩ s.1/\cH (jw ⟨t,gn,k,ps⟩) (szN s.1+1) s.1=nullM ⟨t,gn,k,ps⟩/\(s.2=false->jw ⟨t,gn,k,ps⟩ s.1=s.1)) (fun s=>2 * szN s.1+if s.2=true then 1 else 0) ?_ (o,true)
  ⟨by rw [hno,hn];exact NOk.start _,by rw [hno,hn];rfl,fun h=>by cases h⟩ hE rfl
 clear hno hE;rintro ⟨o,mo⟩ ⟨ho,hcl,hm⟩;simp only at ho hcl hm;unfold EH;have hE0:ab [1,3,4] (n4 t gn k ps Z.length n [(4,Bo mo)])=n4 t gn k ps Z.length n [(4,Bo mo)]:=rfl;rw [ai,ai];refine a16 hE0 fun E1 g1 h1 h1'=>?_;rw [ah];rw [wh hg ho] at hcl;cases mo with
 | false=>
  rw [af (aI g1),bT,a8,bQ,aG,if_pos rfl];rw [if_pos (hm rfl)] at hcl;have:=hQ E1 h1';rw [<-hcl] at this;exact this
 | true=>
  rw [ak (aI g1),aA,ah,ap,ai];refine a4 h1 fun E2 h2=>?_;rw [ah,ai];refine a17 h2 fun E3 h3=>?_;rw [ah];refine Cj hg hn hlk ho kn h3 fun E4 m h4 hf ht=>?_;rw [a6,ao];have hk:=(di hg).keep o ho;cases m with
  | false=>
   have he:=hf rfl;simp only at he;simp only [he];rw [if_pos he] at hcl;exact ⟨(o,false),⟨ho,by rw [wh hg ho,if_pos he];exact hcl,fun _=>he⟩,by simp,h4,rfl⟩
  | true=>
   have hl:=ht rfl;simp only at hl;have hne:¬jw ⟨t,gn,k,ps⟩ o=o:=fun h=>by rw [h] at hl;omega
   rw [if_neg hne] at hcl;exact ⟨(jw ⟨t,gn,k,ps⟩ o,true),⟨hk,hcl,fun h=>by cases h⟩,by simp;omega,h4,rfl⟩
end
theorem oE {lk lim:Nat}{H:Heap}(hlk:lk<=H.length)(g:Gm)(hl:g.ps.length<=1000000)(hr:∀p∈g.ps,p.r.length<=1000000):
  aj X A lk lim 14 [gV g] H=some (Au g,H):=by
 have ka:=fun (L:Nat)=>jJ (lk:=lk) (lim:=L) hlk g hl hr;refine ar [1,6] rfl A14 rfl rfl ?_;unfold N6 Au;by_cases ha:cN g=0;case neg=>
  rw [if_neg ha];have hx:(cN g != 0)=true:=by simpa using ha
  generalize cN g=e at *;generalize aj X A=C at *;obtain ⟨t,gn,k,ps⟩:=g;simp only [gV,Gm.cells] at ka |-;simp [ka,hx,ha]
 rw [if_pos ha];have hg:=br (xg ha);have kr:=fun (L:Nat)=>Mq (lk:=lk) (lim:=L) (H:=H) (-1) g.n hg.n1 (by have:=hg.n2;omega)
 have kn:∀K M (o:List Int),NOk g o->∀p∈g.ps,aj X A K M 33 [gV g,.hs H.length g.n.toNat 0 g.n.toNat 1,.sl p.r.length (ints p.r)] (H++[.cells (ints o)])=some (F5 (bq g.t o p.r 0),H++[.cells (ints o)]):=fun K M o ho p hp=>by
  have:=xe (lk:=K) (lim:=M) (H:=H++[.cells (ints o)]) hg ho (b:=H.length) (by simp) (hg.p p hp)
  rw [ho.len] at this;exact this
 have hlen:=(bn hg).len;generalize aj X A=C at *;obtain ⟨t,gn,k,ps⟩:=g;simp only [gV,Gm.cells] at ka kn kr hlen |-;rw [ha] at ka;have hn0:0 < gn.toNat:=by have:=hg.n1;simp only at this;omega
 simp [-ak,-af,-ap,ka];rw [af rfl,aA,ah,ai,ae];simp [-ap,kr];refine Ck hg rfl hlk rfl kn (by simp [n4]) fun E' h=>?_
 have hb:=xf H.length (H++[.cells (ints (nullM ⟨t,gn,k,ps⟩))]) 7 (nullM ⟨t,gn,k,ps⟩);have hb2:=bel_ints 0 (nullM ⟨t,gn,k,ps⟩);have hl2:=aV (nullM ⟨t,gn,k,ps⟩);generalize nullM ⟨t,gn,k,ps⟩=N at *;have htk:(ints N).take gn.toNat=ints N:=List.take_of_length_le (by rw [hl2];omega)
 rw [ah,ai,ae,h];simp [hl2,hlen,htk,hb,hb2]
end Go.Proofs.YtkllbcjanneppaaGreat
