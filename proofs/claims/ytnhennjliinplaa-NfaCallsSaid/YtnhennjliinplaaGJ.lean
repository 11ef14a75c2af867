/- The document's union: walked. -/
import Derived.Test.YtnhennjliinplaaGI
set_option linter.all false
namespace Go.Proofs.Ytnhennjliinplaa
open Go Go.Hm
theorem oH_get {H:Heap}{o:List Int}(h:¬o=[]):(oH H o)[H.length]?=some (.cells (ints o)):=by
 unfold oH;rw[if_neg h];simp
section
variable {lk lim:Nat}{H:Heap}{o:List Int}{n:Int}
set_option maxRecDepth 20000 in
theorem in70 (hn:o.length≤1000000):callW X A lk lim 70 [oV H.length o,I n] (oH H o)=some (Bo (decide (n∈o)),oH H o):=by
 have hX:X lk lim 70 [oV H.length o,I n] (oH H o)=none:=noX1 (by decide) (by decide) (by decide)
 refine wb_callB [] hX A70 rfl (by unfold oV;split<;>rfl) ?_
 show WB ⟨callW X A,lk,(oH H o).length,[]⟩ t70B _ _ _
 generalize callW X A=C
 generalize hP:FinT [.tmp 4] true (oH H o) (Bo (decide (n∈o)),oH H o)=P
 have fin:∀env t,find env 4=Bo t→decide (n∈o)=t→P .ret env (oH H o):=fun env t h h2=>by
  rw[←hP,h2]
  simp[FinT,finish,resOf,resList,resOne,h,frz,below]
 clear hP
 have hloop:∀env,restrict [0,1,5] env=[(0,oV H.length o),(1,I n),(5,I 0)]→WB ⟨C,lk,(oH H o).length,[]⟩ (.block 0 (.loop [0,1,5] t70L1)) (Fol ⟨C,lk,(oH H o).length,[]⟩ (.seq (.regN [] [kx 4 (.mv cF)]) .ret) P) env (oH H o):=by
  intro env hE
  refine wb_loop (σ:=Nat) (fun i=>[(0,oV H.length o),(1,I n),(5,I i)]) (fun _=>oH H o) (fun i=>i≤o.length∧(n∈o↔n∈o.drop i)) (fun i=>o.length-i) ?_ 0 ⟨Nat.zero_le _,Iff.rfl⟩ hE rfl
  rintro i ⟨hi,hj⟩
  unfold t70L1
  generalize hR:Rnd _ _ _ _ _ _ _=P2
  by_cases hk:i<o.length
  case neg=>
   obtain rfl:i=o.length:=by omega
   rw[List.drop_length]at hj
   have hx:∀env,P2 (.exit 0) env (oH H o):=fun env=>by
    rw[←hR]
    show WB ⟨C,lk,(oH H o).length,[]⟩ (.seq (.regN [] [kx 4 (.mv cF)]) .ret) P env (oH H o)
    simp
    exact fin _ _ rfl (decide_eq_false fun h=>by cases hj.1 h)
   generalize oH H o=Z at hx ⊢
   unfold oV
   split
   ·rename_i h0
    rw[h0]
    simp
    exact hx _
   ·simp
    exact hx _
  obtain⟨z,hz⟩:=get_of hk
  have hne:¬o=[]:=fun h=>by rw[h]at hk;simp at hk
  have hz2:=get_some (ints_at hz) (by rw[ints_len];exact hk)
  have hg:=oH_get (H:=H) hne
  rw[List.drop_eq_getElem_cons hk,get_some hz hk]at hj
  have w:IntKind.i64.wrap ((i:Int)+1)=(i:Int)+1:=wrap64 (by omega) (by omega)
  have hi1:i+1≤o.length:=hk
  by_cases h1:z=n
  ·have hx:∀env,find env 4=Bo true→P2 .ret env (oH H o):=fun env h=>by
    rw[←hR]
    exact fin _ _ h (decide_eq_true (hj.2 (by rw[h1];exact List.mem_cons_self)))
   generalize oH H o=Z at hg hx ⊢
   unfold oV
   rw[if_neg hne]
   simp[hk,hg,hi1,hz2,h1,w]
   exact hx _ rfl
  ·have hx:∀env,restrict [0,1,5] env=[(0,oV H.length o),(1,I n),(5,I ((i+1:Nat):Int))]→P2 .nrm env (oH H o):=fun env h=>by
    rw[←hR,rnd_nrm]
    refine⟨i+1,⟨hk,hj.trans ?_⟩,by omega,h,rfl⟩
    rw[List.mem_cons]
    exact⟨fun h=>h.resolve_left fun e=>h1 e.symm,.inr⟩
   have h2:¬z=n:=h1
   generalize oH H o=Z at hg hx ⊢
   unfold oV at hx ⊢
   rw[if_neg hne]at hx ⊢
   simp[hk,hg,hi1,hz2,h2,w]
   exact hx _ rfl
 unfold t70B
 generalize (.block 0 (.loop [0,1,5] t70L1):AC)=LL at hloop ⊢
 generalize oH H o=Z at hloop ⊢
 unfold oV at hloop ⊢
 split at hloop<;>rename_i h0
 ·rw[if_pos h0]
  simp
  exact hloop _ rfl
 ·rw[if_neg h0]
  simp
  exact hloop _ rfl
end
def insS (P:List Int)(x:Int)(k:Nat)(rest:List Int):List Int:=P.take k++x::(P.drop k++rest)
theorem insS_len {P:List Int}{x:Int}{k:Nat}{rest:List Int}(hk:k≤P.length):(insS P x k rest).length=P.length+1+rest.length:=by
 simp[insS];omega
theorem insS_x {P:List Int}{x:Int}{k:Nat}{rest:List Int}(hk:k≤P.length):(insS P x k rest)[k]?=some x:=by
 unfold insS
 rw[List.getElem?_append_right (by rw[List.length_take];omega),List.length_take,Nat.min_eq_left hk,Nat.sub_self];rfl
theorem insS_p {P:List Int}{x:Int}{k:Nat}{rest:List Int}(hk:k+1≤P.length):(insS P x (k+1) rest)[k]?=P[k]?:=by
 unfold insS
 rw[List.getElem?_append_left (by rw[List.length_take];omega),List.getElem?_take,if_pos (by omega)]
theorem insS_swap {P:List Int}{x p:Int}{k:Nat}{rest:List Int}(hp:P[k]?=some p):((insS P x (k+1) rest).set k x).set (k+1) p=insS P x k rest:=by
 have hk:=get_lt hp
 have ht:P.take (k+1)=P.take k++[p]:=by rw[List.take_add_one,hp];rfl
 have hd:P.drop k=p::P.drop (k+1):=by rw[List.drop_eq_getElem_cons hk,get_some hp hk]
 unfold insS
 rw[ht,hd,List.append_assoc]
 have hl:(P.take k).length=k:=by rw[List.length_take];omega
 rw[List.set_append_right _ _ (by omega),hl,Nat.sub_self,List.set_append_right _ _ (by omega),hl,show k+1-k=1 from by omega]
 rfl
theorem up_take {l:List Int}(h:UpI l)(k:Nat):UpI (l.take k):=List.Pairwise.sublist (List.take_sublist k l) h
theorem insS_norm {P o:List Int}{x:Int}{i k:Nat}{rest:List Int}(hP:P=normI (o.take i))(hx:o[i]?=some x)(hxn:x∉o.take i)(hk:k≤P.length)(hhi:∀y∈P.drop k,x<y)(hlo:∀y∈P.take k,y<x):
  insS P x k rest=normI (o.take (i+1))++rest:=by
 have hup:UpI P:=by rw[hP];exact up_normI _
 have e:P.take k++x::P.drop k=normI (o.take (i+1)):=by
  refine up_extI ?_ (up_normI _) fun z=>?_
  ·refine List.pairwise_append.2 ⟨up_take hup k,List.pairwise_cons.2 ⟨hhi,List.Pairwise.sublist (List.drop_sublist k P) hup⟩,fun a ha b hb=>?_⟩
   rcases List.mem_cons.1 hb with rfl | hb
   ·exact hlo a ha
   ·have:=hlo a ha;have:=hhi b hb;omega
  ·rw[mem_normI,List.take_add_one,hx]
   have hm:z∈P↔z∈o.take i:=by rw[hP,mem_normI]
   have hPm:z∈P↔z∈P.take k∨z∈P.drop k:=by rw[←List.mem_append,List.take_append_drop]
   simp only[List.mem_append,List.mem_cons,Option.toList_some,List.not_mem_nil,or_false,←hm,hPm]
   constructor
   ·rintro (h | h | h)
    ·exact .inl (.inl h)
    ·exact .inr h
    ·exact .inl (.inr h)
   ·rintro ((h | h) | h)
    ·exact .inl h
    ·exact .inr (.inr h)
    ·exact .inr (.inl h)
 unfold insS
 rw[←e];simp
end Go.Proofs.Ytnhennjliinplaa

namespace Go.Proofs.Ytnhennjliinplaa
open Go Go.Hm
def w49:AC:=(.regD [5,7,8] 0 [ kM 39 8,kx 40 (.bini .gtr (ux 39) c0),kM 41 40,yM 42 41 5,yM 43 41 8,ky 44 41 (.bini .sub (ux 43) c1),yI 45 41 1 42 44,yL 46 41 45,yM 47 41 5,yM 48 41 8,yI 49 41 1 47 48,yL 50 41 49,ky 51 41 (.bini .gtr (ux 46) (ux 50)),kx 52 (.pick (ux 41) (ux 51) cF)])
def s49:AC:=(.regD [5,7,8] 0 [ kM 55 5,kM 56 8,kx 57 (.bini .sub (ux 56) c1),kM 58 5,kM 59 8,kM 60 5,kM 61 8,kI 62 1 60 61,kL 63 62,kM 64 5,kM 65 8,kx 66 (.bini .sub (ux 65) c1),kI 67 1 64 66,kL 68 67,kI 69 1 55 57,kn (.st none 1 (ux 69) (ux 63)),kI 70 1 58 59,kn (.st none 1 (ux 70) (ux 68))])
section
variable {C:Orc}{Q:Ex→Kt}{E:Env}{lk i k n:Nat}{H:Heap}{P o rest l:List Int}{x p:Int}
abbrev eS (L n i k:Nat):Env:=[(5,.hs L n 0 n 1),(7,I i),(8,I k)]
set_option maxRecDepth 20000 in
theorem w49_ok (hl:l.length=n)(hn:n≤1000000)(hk:k<n)(hx:l[k]?=some x)(hp:∀j,k=j+1→l[j]?=some p)
  (hE:restrict [5,7,8] E=eS H.length n i k)
  (hQ:∀E',find E' 52=Bo (decide (0<k)&&decide (x<p))→restrict [5,7,8] E'=eS H.length n i k→Q .nrm E' (H++[.cells (ints l)])):
  WB ⟨C,lk,H.length,[]⟩ w49 Q E (H++[.cells (ints l)]):=by
 have hx2:=get_some (ints_at hx) (by rw[ints_len];omega)
 have hx0:=ints_at hx
 have hil:(ints l).length=n:=by rw[ints_len,hl]
 have hk1:k+1≤n:=hk
 unfold w49
 rw[wb_regD rfl,hE]
 by_cases h0:k=0
 ·subst h0
  simp
  exact hQ _ rfl rfl
 ·obtain⟨j,rfl⟩:∃j,k=j+1:=⟨k-1,by omega⟩
  have hp2:=get_some (ints_at (hp j rfl)) (by rw[ints_len];omega)
  have hp0:=ints_at (hp j rfl)
  have b4:(0:Int)<(j:Int)+1:=by omega
  have b5:(0:Int)≤(j:Int)+1:=by omega
  have b6:(j:Int)+1<(n:Int):=by omega
  have b7:j<n:=by omega
  have b8:j+1≤n:=by omega
  have w:IntKind.i64.wrap (j:Int)=(j:Int):=wrap64 (by omega) (by omega)
  have b9:decide (0<j+1)=true:=by simp
  rw[b9,Bool.true_and]at hQ
  iterate 14 (rw[wrd_cons];simp[-wrd_cons,-wrd_nil,b4,b5,b6,b7,b8,hk1,hil,hx0,hp0,hx2,hp2,w])
  rw[wrd_nil]
  exact hQ _ rfl rfl
set_option maxRecDepth 20000 in
theorem s49_ok (hl:l.length=n)(hn:n≤1000000)(hk:k+1<n)(hx:l[k+1]?=some x)(hp:l[k]?=some p)(hlk:lk≤H.length)
  (hE:restrict [5,7,8] E=eS H.length n i (k+1))
  (hQ:∀E',restrict [5,7,8] E'=eS H.length n i (k+1)→Q .nrm E' (H++[.cells (ints ((l.set k x).set (k+1) p))])):
  WB ⟨C,lk,H.length,[]⟩ s49 Q E (H++[.cells (ints l)]):=by
 have hx2:=get_some (ints_at hx) (by rw[ints_len];omega)
 have hx0:=ints_at hx
 have hp2:=get_some (ints_at hp) (by rw[ints_len];omega)
 have hp0:=ints_at hp
 have hil:(ints l).length=n:=by rw[ints_len,hl]
 have b5:(0:Int)≤(k:Int)+1:=by omega
 have b6:(k:Int)+1<(n:Int):=by omega
 have b7:k<n:=by omega
 have b8:k+1≤n:=by omega
 have b9:k+1+1≤n:=hk
 have w:IntKind.i64.wrap (k:Int)=(k:Int):=wrap64 (by omega) (by omega)
 have r1:replaceAt (ints l) k [I x]=ints (l.set k x):=by
  rw[replaceAt_one _ (by rw[ints_len];omega)];simp[ints,List.map_set]
 have r2:replaceAt (ints (l.set k x)) (k+1) [I p]=ints ((l.set k x).set (k+1) p):=by
  rw[replaceAt_one _ (by rw[ints_len,List.length_set];omega)];simp[ints,List.map_set]
 have hil2:(ints (l.set k x)).length=n:=by rw[ints_len,List.length_set,hl]
 unfold s49
 rw[wb_regD rfl,hE]
 generalize hc1:ints (l.set k x)=c1 at r1 r2 hil2
 simp[-wi_stD,b5,b6,b7,b8,hil,hx0,hp0,hx2,hp2,w]
 rw[wi_stD]
 simp[-wi_stD,b5,b6,b7,b8,hil,hx0,hp0,hx2,hp2,w,setH,hlk,r1]
 rw[wi_stD]
 simp[b9,hil2,setH,hlk,r2]
 exact hQ _ rfl
theorem insS_full {P rest:List Int}{x:Int}:insS P x P.length rest=P++x::rest:=by
 unfold insS
 rw[List.take_length,List.drop_length,List.nil_append]
theorem e492:t49L2= .seq (.seq w49 (.cond (ux 52) .skip (.exit 4))) (.seq (.block 5 s49) (.regN [5,7,8] [kM 53 8,kx 54 (.bini .sub (ux 53) c1),kM 8 54])):=rfl
set_option maxRecDepth 20000 in
theorem ins49 (hn:o.length=n)(hn2:n≤1000000)(hP:P=normI (o.take i))(hPl:P.length=i)(hi:i<n)(hx:o[i]?=some x)(hxn:x∉o.take i)(hr:rest.length+i+1=n)(hlk:lk≤H.length)
  (hE:restrict [5,7,8] E=eS H.length n i i)
  (hQ:∀E',restrict [5,7] E'=[(5,.hs H.length n 0 n 1),(7,I i)]→Q .nrm E' (H++[.cells (ints (normI (o.take (i+1))++rest))])):
  WB ⟨C,lk,H.length,[]⟩ (.block 4 (.loop [5,7,8] t49L2)) Q E (H++[.cells (ints (P++x::rest))]):=by
 rw[←insS_full]
 have hup:UpI P:=by rw[hP];exact up_normI _
 have hxP:x∉P:=by rw[hP,mem_normI];exact hxn
 refine wb_loop (σ:=Nat) (fun k=>eS H.length n i k) (fun k=>H++[.cells (ints (insS P x k rest))]) (fun k=>k≤P.length∧∀y∈P.drop k,x<y) (fun k=>k) ?_ P.length ⟨Nat.le_refl _,fun y h=>by rw[List.drop_length]at h;cases h⟩ (by rw[hPl];exact hE) rfl
 rintro k ⟨hk,hhi⟩
 rw[e492]
 generalize hR:Rnd _ _ _ _ _ _ _=R
 have hl:(insS P x k rest).length=n:=by rw[insS_len hk];omega
 have hgx:=insS_x (x:=x) (rest:=rest) hk
 rw[wb_seq,wb_seq]
 rcases Nat.eq_zero_or_pos k with h0 | h0
 ·subst h0
  refine w49_ok (p:=0) hl hn2 (by omega) hgx (fun j h=>by omega) rfl fun E' h52 hE'=>?_
  rw[fol_nrm,wb_false (ev_bo h52),wb_exit,fol_exit,←hR]
  have e:=insS_norm hP hx hxn (Nat.zero_le _) hhi (fun y h=>by rw[List.take_zero]at h;cases h) (rest:=rest)
  rw[e]
  refine hQ E' ?_
  have h5:find E' 5= .hs H.length n 0 n 1:=by have:=congrArg (fun e=>find e 5) hE';exact this
  have h7:find E' 7=I i:=by have:=congrArg (fun e=>find e 7) hE';exact this
  simp[restrict,h5,h7]
 ·obtain⟨j,rfl⟩:∃j,k=j+1:=⟨k-1,by omega⟩
  obtain⟨p,hp⟩:=get_of (show j<P.length by omega)
  have hgp:(insS P x (j+1) rest)[j]?=some p:=by rw[insS_p hk,hp]
  refine w49_ok (p:=p) hl hn2 (by omega) hgx (fun m h=>(show j=m from by omega)▸hgp) rfl fun E' h52 hE'=>?_
  rw[fol_nrm]
  have hd:P.drop j=p::P.drop (j+1):=by rw[List.drop_eq_getElem_cons (by omega),get_some hp (by omega)]
  have ht:P.take (j+1)=P.take j++[p]:=by rw[List.take_add_one,hp];rfl
  by_cases hxp:x<p
  ·rw[decide_eq_true hxp,decide_eq_true h0]at h52
   rw[wb_true (ev_bo h52),wb_skip,fol_nrm,wb_seq,wb_block]
   refine s49_ok hl hn2 (by omega) hgx hgp hlk hE' fun E2 hE2=>?_
   rw[insS_swap hp,blk_nrm,fol_nrm,wb_regN,hE2]
   have w:IntKind.i64.wrap (j:Int)=(j:Int):=wrap64 (by omega) (by omega)
   simp[w]
   rw[←hR,rnd_nrm]
   exact⟨j,⟨by omega,fun y h=>by
    rw[hd]at h
    rcases List.mem_cons.1 h with rfl | h
    ·exact hxp
    ·exact hhi y h⟩,by omega,rfl,rfl⟩
  ·rw[decide_eq_false hxp,Bool.and_false]at h52
   rw[wb_false (ev_bo h52),wb_exit,fol_exit,←hR]
   have hpm:p∈P:=List.mem_of_getElem? hp
   have hpx:p<x:=by
    have:p≠x:=fun e=>hxP (e▸hpm)
    omega
   have hlo:∀y∈P.take (j+1),y<x:=fun y h=>by
    rw[ht]at h
    rcases List.mem_append.1 h with h | h
    ·have h9:UpI (P.take j++[p]):=by rw[←ht];exact up_take hup _
     have:=(List.pairwise_append.1 h9).2.2 y h p (by simp)
     omega
    ·simp at h;omega
   have e:=insS_norm hP hx hxn hk hhi hlo (rest:=rest)
   rw[e]
   refine hQ E' ?_
   have h5:find E' 5= .hs H.length n 0 n 1:=by have:=congrArg (fun e=>find e 5) hE';exact this
   have h7:find E' 7=I i:=by have:=congrArg (fun e=>find e 7) hE';exact this
   simp[restrict,h5,h7]
theorem normI_len {l:List Int}(h:l.Nodup):(normI l).length=l.length:=by rw[←merge_normI h,List.length_mergeSort]
theorem sort49 (hn:o.length=n)(hn2:n≤1000000)(hnd:o.Nodup)(h1:1≤n)(hlk:lk≤H.length)
  (hE:restrict [5,7] E=[(5,.hs H.length n 0 n 1),(7,I 1)])
  (hQ:∀E',restrict [5] E'=[(5,.hs H.length n 0 n 1)]→Q .nrm E' (H++[.cells (ints (normI o))])):
  WB ⟨C,lk,H.length,[]⟩ (.block 2 (.loop [5,7] t49L3)) Q E (H++[.cells (ints o)]):=by
 have e1:normI (o.take 1)++o.drop 1=o:=by
  obtain⟨a,r,rfl⟩:∃a r,o=a::r:=by
   cases o with
   | nil=>simp at hn;omega
   | cons a r=>exact⟨a,r,rfl⟩
  rfl
 refine wb_loop (σ:=Nat) (fun i=>[(5,.hs H.length n 0 n 1),(7,I i)]) (fun i=>H++[.cells (ints (normI (o.take i)++o.drop i))]) (fun i=>1≤i∧i≤n) (fun i=>n-i) ?_ 1 ⟨Nat.le_refl _,h1⟩ hE (by rw[e1])
 rintro i ⟨hi1,hi⟩
 unfold t49L3
 generalize hR:Rnd _ _ _ _ _ _ _=R
 by_cases hk:i<n
 case neg=>
  obtain rfl:i=n:=by omega
  have hx:∀env,restrict [5] env=[(5,.hs H.length i 0 i 1)]→R (.exit 2) env (H++[.cells (ints (normI (o.take i)++o.drop i))]):=fun env h=>by
   rw[←hR,List.take_of_length_le (by omega),List.drop_of_length_le (by omega),List.append_nil]
   exact hQ env h
  generalize (.block 4 (.loop [5,7,8] t49L2):AC)=LL
  simp
  exact hx _ rfl
 obtain⟨x,hx⟩:=get_of (show i<o.length by omega)
 have hnt:(o.take i).Nodup:=List.Nodup.sublist (List.take_sublist i o) hnd
 have hxn:x∉o.take i:=fun h=>by
  have h9:(o.take i++o.drop i).Nodup:=by rw[List.take_append_drop];exact hnd
  refine(List.nodup_append.1 h9).2.2 x h x ?_ rfl
  rw[List.drop_eq_getElem_cons (by omega),get_some hx (by omega)]
  exact List.mem_cons_self
 have hPl:(normI (o.take i)).length=i:=by rw[normI_len hnt,List.length_take];omega
 have hd:o.drop i=x::o.drop (i+1):=by rw[List.drop_eq_getElem_cons (by omega),get_some hx (by omega)]
 have w:IntKind.i64.wrap ((i:Int)+1)=(i:Int)+1:=wrap64 (by omega) (by omega)
 rw[hd]
 have hb:∀E,restrict [5,7,8] E=eS H.length n i i→WB ⟨C,lk,H.length,[]⟩ (.block 4 (.loop [5,7,8] t49L2)) (BlkE 3 (Fol ⟨C,lk,H.length,[]⟩ (.regN [5,7] [kM 36 7,kU 37 36,kM 7 37]) R)) E (H++[.cells (ints (normI (o.take i)++x::o.drop (i+1)))]):=fun E hE=>
  ins49 hn hn2 rfl hPl hk hx hxn (by rw[List.length_drop];omega) hlk hE fun E' hE'=>by
   rw[blk_nrm,fol_nrm,wb_regN,hE']
   simp[w]
   rw[←hR,rnd_nrm]
   exact⟨i+1,⟨by omega,hk⟩,by omega,rfl,rfl⟩
 generalize (.block 4 (.loop [5,7,8] t49L2):AC)=LL at hb ⊢
 simp[hk]
 exact hb _ rfl
end
end Go.Proofs.Ytnhennjliinplaa

namespace Go.Proofs.Ytnhennjliinplaa
open Go Go.Hm
def vc49:AC:=(.regN [1,5,6] [ kM 18 5,kM 19 1,kM 20 6,kI 21 1 19 20,kL 22 21,kx 23 (.call 70 [(ux 18),(ux 22)]),kx 24 (.not (ux 23))])
def p49:AC:=(.regN [1,5,6] [ kM 25 5,kM 26 1,kM 27 6,kI 28 1 26 27,kL 29 28,kx 30 (.buildS 1 [(.val (.int .i64 0))] [(0,1,(ux 29))]),kx 31 (.app 1 8 (ux 25) (ux 30)),kM 5 31])
theorem e491:t49L1= .seq (.seq (.regN [1,5,6] [kM 12 6,kM 13 1,kN 14 13,kT 15 12 14]) (.cond (ux 15) .skip (.exit 0))) (.seq (.block 1 (.seq vc49 (.cond (ux 24) p49 .skip))) (.regN [1,5,6] [kM 16 6,kU 17 16,kM 6 17])):=rfl
section
variable {C:Orc}{Q:Ex→Kt}{E:Env}{lk lim i:Nat}{H:Heap}{o a b:List Int}{av bv:AV}{z:Int}
abbrev eU (bv:AV)(L:Nat)(o:List Int)(i:Nat):Env:=[(1,bv),(5,oV L o),(6,I i)]
set_option maxRecDepth 20000 in
theorem vc49_ok {m:Nat}{bs:List Int}{t:Bool}{Z:Heap}(hi:i<bs.length)(hz:bs[i]?=some z)(hC:C lk H.length 70 [oV H.length o,I z] Z=some (Bo t,Z))
  (hE:restrict [1,5,6] E=eU (.sl bs.length (ints bs)) H.length o i)
  (hQ:∀E',find E' 24=Bo (!t)→restrict [1,5,6] E'=eU (.sl bs.length (ints bs)) H.length o i→Q .nrm E' Z):
  WB ⟨C,lk,H.length,[]⟩ vc49 Q E Z:=by
 have hz2:=get_some (ints_at hz) (by rw[ints_len];exact hi)
 unfold vc49
 rw[wb_regN,hE]
 unfold eU oV at *
 by_cases h0:o=[]
 ·simp only[if_pos h0]at *
  simp[hi,hz2,hC]
  exact hQ _ rfl rfl
 ·simp only[if_neg h0]at *
  simp[hi,hz2,hC]
  exact hQ _ rfl rfl
set_option maxRecDepth 20000 in
theorem p49_ok {bs:List Int}(hi:i<bs.length)(hz:bs[i]?=some z)(hlk:lk≤H.length)(hn:o.length≤1000000)
  (hE:restrict [1,5,6] E=eU (.sl bs.length (ints bs)) H.length o i)
  (hQ:∀E',restrict [1,5,6] E'=eU (.sl bs.length (ints bs)) H.length (o++[z]) i→Q .nrm E' (oH H (o++[z]))):
  WB ⟨C,lk,H.length,[]⟩ p49 Q E (oH H o):=by
 have hz2:=get_some (ints_at hz) (by rw[ints_len];exact hi)
 have hr:room=140737488355328:=rfl
 have r1:(1:Nat)*8≤room:=by omega
 have r2:(o.length+1)*8≤room:=by omega
 clear hr
 have hne:¬o++[z]=[]:=by simp
 unfold p49
 rw[wb_regN,hE]
 unfold eU oV oH at *
 simp only[if_neg hne]at hQ
 by_cases h0:o=[]
 ·subst h0
  simp[hi,hz2,srcCells,r1]
  exact hQ _ rfl
 ·have hl0:¬o.length=0:=fun e=>h0 (List.length_eq_zero_iff.1 e)
  simp only[if_neg h0]at *
  have hset:setH lk H.length 0 (H++[HB.cells (ints o)]) H.length (ints o++[I z]) [I z]=some (H++[HB.cells (ints o++[I z])]):=by
   unfold setH
   rw[if_pos ⟨hlk,.inl (Nat.le_refl _),.inl (Nat.zero_le _)⟩,set_last]
  simp[hi,hz2,srcCells,r2,appC,appG,hset]
  rw[List.length_append,ints_app]at hQ
  exact hQ _ rfl
theorem foldl_addI_len:∀(l o:List Int),(l.foldl addI o).length≤o.length+l.length
 | [],o=>Nat.le_refl _
 | x::l,o=>by
  have h:=foldl_addI_len l (addI o x)
  have h2:(addI o x).length≤o.length+1:=by unfold addI;split<;>simp
  show (l.foldl addI (addI o x)).length≤_
  simp only[List.length_cons]
  omega
set_option maxRecDepth 20000 in
theorem add49 (hb:RowI bv b)(hn:a.length+b.length≤1000000)(hlk:lk≤H.length)(hC:∀(o:List Int) (z:Int),o.length≤1000000→C lk H.length 70 [oV H.length o,I z] (oH H o)=some (Bo (decide (z∈o)),oH H o))
  (hE:restrict [1,5,6] E=eU bv H.length a 0)
  (hQ:∀E',restrict [5] E'=[(5,oV H.length (b.foldl addI a))]→Q .nrm E' (oH H (b.foldl addI a))):
  WB ⟨C,lk,H.length,[]⟩ (.block 0 (.loop [1,5,6] t49L1)) Q E (oH H a):=by
 refine wb_loop (σ:=Nat×List Int) (fun q=>eU bv H.length q.2 q.1) (fun q=>oH H q.2) (fun q=>q.1≤b.length∧(b.drop q.1).foldl addI q.2=b.foldl addI a∧q.2.length≤a.length+q.1) (fun q=>b.length-q.1) ?_ (0,a) ⟨Nat.zero_le _,rfl,Nat.le_refl _⟩ hE rfl
 rintro⟨i,o⟩ ⟨hi,hf,hol⟩
 dsimp only at hi hf hol ⊢
 rw[e491]
 generalize hR:Rnd _ _ _ _ _ _ _=R
 by_cases hk:i<b.length
 case neg=>
  obtain rfl:i=b.length:=by omega
  rw[List.drop_length]at hf
  have hf:o=b.foldl addI a:=hf
  have hx:∀env,restrict [5] env=[(5,oV H.length o)]→R (.exit 0) env (oH H o):=fun env h=>by
   rw[←hR]
   rw[←hf]at hQ
   exact hQ env h
  generalize vc49=F
  generalize p49=G
  generalize oH H o=Z at hx ⊢
  unfold eU
  unfold oV at hx ⊢
  by_cases h0:o=[]
  ·simp only[if_pos h0]at hx ⊢
   rcases hb with⟨rfl,rfl⟩ | rfl
   ·simp
    exact hx _ rfl
   ·simp
    exact hx _ rfl
  ·simp only[if_neg h0]at hx ⊢
   rcases hb with⟨rfl,rfl⟩ | rfl
   ·simp
    exact hx _ rfl
   ·simp
    exact hx _ rfl
 obtain⟨z,hz⟩:=get_of hk
 obtain rfl:=hb.sl (by omega)
 rw[List.drop_eq_getElem_cons hk,get_some hz hk]at hf
 have hf:(b.drop (i+1)).foldl addI (addI o z)=b.foldl addI a:=hf
 have w:IntKind.i64.wrap ((i:Int)+1)=(i:Int)+1:=wrap64 (by omega) (by omega)
 have next:∀o',addI o z=o'→o'.length≤o.length+1→∀env,restrict [1,5,6] env=eU (.sl b.length (ints b)) H.length o' i→WB ⟨C,lk,H.length,[]⟩ (.regN [1,5,6] [kM 16 6,kU 17 16,kM 6 17]) R env (oH H o'):=fun o' h1 h2 env hE=>by
  have hx:∀env,restrict [1,5,6] env=eU (.sl b.length (ints b)) H.length o' (i+1)→R .nrm env (oH H o'):=fun env h=>by
   rw[←hR,rnd_nrm]
   exact⟨(i+1,o'),⟨hk,by rw[←h1];exact hf,by show o'.length≤a.length+(i+1);omega⟩,by show b.length-(i+1)<b.length-i;omega,h,rfl⟩
  generalize oH H o'=Z at hx ⊢
  rw[wb_regN,hE]
  unfold eU at *
  unfold oV at hx ⊢
  by_cases h0:o'=[]
  ·simp only[if_pos h0]at hx ⊢
   simp[w]
   exact hx _ rfl
  ·simp only[if_neg h0]at hx ⊢
   simp[w]
   exact hx _ rfl
 have hb:∀E,restrict [1,5,6] E=eU (.sl b.length (ints b)) H.length o i→WB ⟨C,lk,H.length,[]⟩ (.block 1 (.seq vc49 (.cond (ux 24) p49 .skip))) (Fol ⟨C,lk,H.length,[]⟩ (.regN [1,5,6] [kM 16 6,kU 17 16,kM 6 17]) R) E (oH H o):=fun E hE=>by
  rw[wb_block,wb_seq]
  refine vc49_ok (m:=0) hk hz (hC o z (by omega)) hE fun E' h24 hE'=>?_
  rw[fol_nrm]
  by_cases hm:z∈o
  ·rw[decide_eq_true hm]at h24
   rw[wb_false (ev_bo h24),wb_skip,blk_nrm,fol_nrm]
   exact next o (if_pos hm) (Nat.le_succ _) _ hE'
  ·rw[decide_eq_false hm]at h24
   rw[wb_true (ev_bo h24)]
   refine p49_ok hk hz hlk (by omega) hE' fun E2 hE2=>?_
   rw[blk_nrm,fol_nrm]
   exact next _ (if_neg hm) (by simp) _ hE2
 generalize (.block 1 (.seq vc49 (.cond (ux 24) p49 .skip)):AC)=F at hb ⊢
 generalize oH H o=Z at hb ⊢
 unfold eU at *
 unfold oV at hb ⊢
 by_cases h0:o=[]
 ·simp only[if_pos h0]at hb ⊢
  simp[hk]
  exact hb _ rfl
 ·simp only[if_neg h0]at hb ⊢
  simp[hk]
  exact hb _ rfl
theorem mem_foldl_addI {l o:List Int}{z:Int}:z∈l.foldl addI o↔z∈o∨z∈l:=mem_mrgI
theorem e49:t49B= .seq (.regN [0,1] [kx 4 (.mv (.con .e0))]) (.seq (.regN [0,1] [kx 9 (.buildS 0 [] []),kM 10 0,kx 11 (.app 1 8 (ux 9) (ux 10)),kM 5 11]) (.seq (.seq (.regN [1,5] [kZ 6]) (.block 0 (.loop [1,5,6] t49L1))) (.seq (.seq (.regN [5] [kx 7 (.mv c1)]) (.block 2 (.loop [5,7] t49L3))) (.seq (.regN [5] [kM 71 5,kM 4 71]) .ret)))):=rfl
set_option maxRecDepth 20000 in
theorem union49 (ha:RowI av a)(hb:RowI bv b)(hnd:a.Nodup)(hn:a.length+b.length≤1000000)(hlk:lk≤H.length):callW X A lk lim 49 [av,bv] H=some (rowN (normI (a++b)),H):=by
 have hX:X lk lim 49 [av,bv] H=none:=noX1 (by decide) (by decide) (by decide)
 refine wb_callB [] hX A49 rfl (by rcases ha with⟨rfl,_⟩ | rfl<;>rcases hb with⟨rfl,_⟩ | rfl<;>rfl) ?_
 show WB ⟨callW X A,lk,H.length,[]⟩ t49B _ _ _
 have h70:∀(o:List Int) (z:Int),o.length≤1000000→callW X A lk H.length 70 [oV H.length o,I z] (oH H o)=some (Bo (decide (z∈o)),oH H o):=fun o z h=>in70 h
 generalize callW X A=C at h70 ⊢
 obtain⟨o,ho⟩:∃o,b.foldl addI a=o:=⟨_,rfl⟩
 have hod:o.Nodup:=by rw[←ho];exact nd_mrgI (b:=b) hnd
 have hol:o.length≤1000000:=by
  have:=foldl_addI_len b a
  rw[ho]at this
  omega
 have hno:normI o=normI (a++b):=normI_congr fun x=>by rw[←ho,mem_foldl_addI,List.mem_append]
 rw[←hno]
 generalize hP:FinT [.tmp 4] true H (rowN (normI o),H)=P
 have hnl:=normI_len hod
 have hfin:∀env,restrict [5] env=[(5,oV H.length o)]→WB ⟨C,lk,H.length,[]⟩ (.seq (.regN [5] [kM 71 5,kM 4 71]) .ret) P env (oH H (normI o)):=fun env hE=>by
  rw[wb_seq,wb_regN,hE,←hP]
  have hbe:=bel_i H.length (normI o)
  have hfz:=frz_i H.length (oH H (normI o))
  unfold rowN
  by_cases h0:o=[]
  ·subst h0
   simp[oV,oH,normI,FinT,finish,resOf,resList,resOne,find,frz,below]
  ·have h2:¬normI o=[]:=fun h=>by rw[h]at hnl;exact h0 (List.length_eq_zero_iff.1 (by simpa using hnl.symm))
   have hg:=oH_get (H:=H) h2
   have ht:(oH H (normI o)).take H.length=H:=by unfold oH;rw[if_neg h2];simp
   rw[if_neg h2]
   unfold oV
   rw[if_neg h0,←hnl]
   generalize normI o=q at hbe hfz hg ht ⊢
   simp
   simp[FinT,finish,resOf,resList,resOne,find,frz,slCells,hg,hfz,below,belowL,hbe,ht]
 have hs:∀env,restrict [5,7] env=[(5,oV H.length o),(7,I 1)]→WB ⟨C,lk,H.length,[]⟩ (.block 2 (.loop [5,7] t49L3)) (Fol ⟨C,lk,H.length,[]⟩ (.seq (.regN [5] [kM 71 5,kM 4 71]) .ret) P) env (oH H o):=fun env hE=>by
  by_cases h0:o=[]
  ·subst h0
   have hfin:=hfin
   have e1:oH H (normI [])=H:=rfl
   have e2:oH H []=H:=rfl
   have e3:oV H.length []= .e0:=rfl
   rw[e1,e3]at hfin
   rw[e3]at hE
   rw[e2]
   refine wb_loop0 ?_
   rw[hE]
   unfold t49L3
   generalize (.block 4 (.loop [5,7,8] t49L2):AC)=LL
   generalize (.seq (.regN [5] [kM 71 5,kM 4 71]) .ret:AC)=TT at hfin ⊢
   simp
   exact hfin _ rfl
  ·have e1:oH H o=H++[.cells (ints o)]:=if_neg h0
   have e2:oV H.length o= .hs H.length o.length 0 o.length 1:=if_neg h0
   have h2:¬normI o=[]:=fun h=>by rw[h]at hnl;exact h0 (List.length_eq_zero_iff.1 (by simpa using hnl.symm))
   have e3:oH H (normI o)=H++[.cells (ints (normI o))]:=if_neg h2
   rw[e3,e2]at hfin
   rw[e1]
   rw[e2]at hE
   have hop:1≤o.length:=Nat.one_le_iff_ne_zero.2 fun e=>h0 (List.length_eq_zero_iff.1 e)
   refine sort49 rfl hol hod hop hlk hE fun E' hE'=>?_
   rw[fol_nrm]
   exact hfin E' hE'
 rw[e49]
 generalize (.block 2 (.loop [5,7] t49L3):AC)=L2 at hs ⊢
 generalize (.seq (.regN [5] [kM 71 5,kM 4 71]) .ret:AC)=TT at hs ⊢
 have hs2:∀env,restrict [5] env=[(5,oV H.length o)]→WB ⟨C,lk,H.length,[]⟩ (.seq (.seq (.regN [5] [kx 7 (.mv c1)]) L2) TT) P env (oH H o):=fun env hE=>by
  generalize oH H o=Z at hs ⊢
  rw[wb_seq,wb_seq,wb_regN,hE]
  unfold oV at hs ⊢
  split<;>rename_i h0
  ·rw[if_pos h0]at hs
   simp
   exact hs _ rfl
  ·rw[if_neg h0]at hs
   simp
   exact hs _ rfl
 have hl:∀env,restrict [1,5,6] env=eU bv H.length a 0→WB ⟨C,lk,H.length,[]⟩ (.block 0 (.loop [1,5,6] t49L1)) (Fol ⟨C,lk,H.length,[]⟩ (.seq (.seq (.regN [5] [kx 7 (.mv c1)]) L2) TT) P) env (oH H a):=fun env hE=>
  add49 hb hn hlk h70 hE fun E' hE'=>by
   rw[fol_nrm]
   rw[ho]at hE' ⊢
   exact hs2 E' hE'
 generalize (.block 0 (.loop [1,5,6] t49L1):AC)=L0 at hl ⊢
 generalize (.seq (.seq (.regN [5] [kx 7 (.mv c1)]) L2) TT:AC)=T2 at hl ⊢
 have hroom:a.length*8≤room:=by have:room=140737488355328:=rfl;omega
 unfold eU at hl
 unfold oV oH at hl
 by_cases h0:a=[]
 ·simp only[if_pos h0]at hl
  rcases ha with⟨rfl,_⟩ | rfl<;>rcases hb with⟨rfl,_⟩ | rfl
  all_goals
   try rw[h0]
   simp[srcCells]
   exact hl _ rfl
 ·simp only[if_neg h0]at hl
  have hl0:¬a.length=0:=fun e=>h0 (List.length_eq_zero_iff.1 e)
  obtain rfl:=ha.sl (by omega)
  rcases hb with⟨rfl,_⟩ | rfl
  all_goals
   simp[-wi_app]
   rw[wi_app]
   simp[srcCells,hl0,hroom]
   exact hl _ rfl
end
end Go.Proofs.Ytnhennjliinplaa

namespace Go.Proofs.Ytnhennjliinplaa
open Go Go.Hm
def WfB (s:Bs):Prop:=s.cl.length=s.rl.length*4∧s.nx.length=s.rl.length
def rwN (l:List Int):AV:=rowN (normI l)
theorem rwN_I (l:List Int):RowI (rwN l) (normI l):=rowN_I _
def hdR (L n:Nat):HB:=.cells [.hs L (n*4) 0 n 4,.hs (L+1) n 0 n 1,.hs (L+2) n 0 n 1]
def memR (H:Heap)(s:Bs):Heap:=H++[.cells s.cl,.cells (s.nx.map rwN),.cells (ints s.rl),hdR H.length s.rl.length]
section
variable {H:Heap}{s:Bs}
theorem memR_len:(memR H s).length=H.length+4:=by simp[memR]
theorem memR0:(memR H s)[H.length]?=some (.cells s.cl):=by unfold memR;rw[get_at0];rfl
theorem memR1:(memR H s)[H.length+1]?=some (.cells (s.nx.map rwN)):=by unfold memR;rw[Hm.get_at];rfl
theorem memR2:(memR H s)[H.length+2]?=some (.cells (ints s.rl)):=by unfold memR;rw[Hm.get_at];rfl
theorem memR3:(memR H s)[H.length+3]?=some (hdR H.length s.rl.length):=by unfold memR;rw[Hm.get_at];rfl
theorem memR_nx {rows:List (List Int)}:(memR H s).set (H.length+1) (.cells (rows.map rwN))=memR H ⟨s.cl,s.rl,rows⟩:=by unfold memR;rw[set_at];rfl
theorem memR_take:(memR H s).take H.length=H:=by unfold memR;simp
end
theorem joinM_all {nx:List (List Int)}{l l' v:List Int}(h:∀z,z∈l↔z∈l'):joinM nx l v=joinM nx l' v:=by
 unfold joinM
 apply List.map_congr_left
 intro j _
 simp only[h]
theorem joinM_nil {nx:List (List Int)}{v:List Int}:joinM nx [] v=nx:=by
 apply List.ext_getElem?
 intro j
 by_cases hj:j<nx.length
 ·have h1:j<(joinM nx [] v).length:=by rw[joinM_len];exact hj
  have:=joinM_get (l:=[]) (v:=v) hj
  rw[if_neg (by simp),List.getD_eq_getElem?_getD,List.getD_eq_getElem?_getD,List.getElem?_eq_getElem h1,List.getElem?_eq_getElem hj]at this
  rw[List.getElem?_eq_getElem h1,List.getElem?_eq_getElem hj]
  exact congrArg some this
 ·rw[List.getElem?_eq_none (by rw[joinM_len];omega),List.getElem?_eq_none (by omega)]
theorem joinM_at {nx:List (List Int)}{l v:List Int}{j:Nat}(hj:j<nx.length):(joinM nx l v)[j]?=some (if (j:Int)∈l then unI (nx.getD j []) v else nx.getD j []):=by
 have h1:j<(joinM nx l v).length:=by rw[joinM_len];exact hj
 have:=joinM_get (l:=l) (v:=v) hj
 rw[List.getD_eq_getElem?_getD,List.getElem?_eq_getElem h1]at this
 rw[List.getElem?_eq_getElem h1]
 exact congrArg some this
theorem joinM_step {nx:List (List Int)}{l v:List Int}{k:Nat}(hk:k<nx.length):(joinM nx l v).set k (unI (nx.getD k []) v)=joinM nx (l++[(k:Int)]) v:=by
 apply List.ext_getElem?
 intro j
 by_cases hj:j<nx.length
 ·rw[joinM_at hj]
  by_cases e:k=j
  ·subst e
   rw[List.getElem?_set_self (by rw[joinM_len];exact hk),if_pos (by simp)]
  ·rw[List.getElem?_set_ne e,joinM_at hj]
   have:((j:Int)∈l++[(k:Int)])↔(j:Int)∈l:=by
    simp only[List.mem_append,List.mem_singleton]
    exact⟨fun h=>h.resolve_right fun h=>e (by omega),.inl⟩
   simp only[this]
 ·rw[List.getElem?_eq_none (by rw[List.length_set,joinM_len];omega),List.getElem?_eq_none (by rw[joinM_len];omega)]
theorem norm_un {a b:List Int}:normI (normI a++normI b)=normI (unI a b):=normI_congr fun x=>by
 rw[List.mem_append,mem_normI,mem_normI,mem_unI]
theorem nd_normI (l:List Int):(normI l).Nodup:=up_nd (up_normI l)
theorem inb_norm {n:Nat}{l:List Int}(h:InB n l):InB n (normI l):=fun x hx=>h x (mem_normI.1 hx)
def j69:AC:=(.regD [0,1,2,6] 0 [ kM 13 0,kx 14 (.nilc (ux 13)),kF 15 1 14,kL 16 15,kM 17 1,kM 18 6,kI 19 1 17 18,kL 20 19,kM 21 0,kx 22 (.nilc (ux 21)),kF 23 1 22,kL 24 23,kM 25 1,kM 26 6,kI 27 1 25 26,kL 28 27,kI 29 1 24 28,kL 30 29,kM 31 2,kx 32 (.call 49 [(ux 30),(ux 31)]),kI 33 1 16 20,kn (.st none 1 (ux 33) (ux 32))])
section
variable {C:Orc}{Q:Ex→Kt}{E:Env}{lk lim i n k:Nat}{H:Heap}{s:Bs}{ll:List Int}
set_option maxRecDepth 20000 in
theorem j69_ok {Z:Heap}{rows:List AV}{xv fv yv:AV}{x f y:List Int}(h3:Z[H.length+3]?=some (hdR H.length n))(h1:Z[H.length+1]?=some (.cells rows))(hr:rows.length=n)(hxv:rows[k]?=some xv)(hx:RowI xv x)(hf:RowI fv f)(hy:RowI yv y)(hkn:k<n)
  (hi:i<ll.length) (hk:ll[i]?=some (k:Int)) (hC:C Z.length lim 49 [xv,fv] Z=some (yv,Z)) (hlk:lk≤H.length) (hlim:lim≤H.length)
  (hE:restrict [0,1,2,6] E=[(0,.hp (H.length+3) 3 0),(1,.sl ll.length (ints ll)),(2,fv),(6,I i)])
  (hQ:∀E',restrict [0,1,2,6] E'=[(0,.hp (H.length+3) 3 0),(1,.sl ll.length (ints ll)),(2,fv),(6,I i)]→Q .nrm E' (Z.set (H.length+1) (.cells (rows.set k yv)))):
  WB ⟨C,lk,lim,[]⟩ j69 Q E Z:=by
 have hk2:=get_some (ints_at hk) (by rw[ints_len];exact hi)
 have hk1:k+1≤n:=hkn
 have hk3:(k:Int)<(n:Int):=by omega
 have hxe:=get_some hxv (by omega)
 have hl1:lk≤H.length+1:=by omega
 have hl2:lim≤H.length+1:=by omega
 have hrep:∀v,replaceAt rows k [v]=rows.set k v:=fun v=>replaceAt_one v (by omega)
 have hkr:k<rows.length:=by omega
 unfold hdR at h3
 unfold j69
 rw[wb_regD rfl,hE]
 rcases hx with⟨rfl,hx0⟩ | rfl<;>rcases hf with⟨rfl,hf0⟩ | rfl<;>rcases hy with⟨rfl,hy0⟩ | rfl
 all_goals
  simp[hi,hk2,h3,h1,hr,hkn,hk1,hxv,hxe,hkr,hC]
  simp[setH,hl1,hl2,hrep,below,belowL]
  exact hQ _ rfl
theorem inb_len {n:Nat}{l:List Int}(h:InB n l)(hd:l.Nodup):l.length≤n:=nd_len n l hd h
set_option maxRecDepth 20000 in
theorem join69 {l f:List Int}(hw:WfB s)(hb:NxB s)(hn:s.rl.length≤100000)(hl:InB s.rl.length l)(hf:InB s.rl.length f)(hlk:lk≤H.length)(hlim:lim≤H.length):
  callW X A lk lim 69 [.hp (H.length+3) 3 0,rwN l,rwN f] (memR H s)=some (.tup [],memR H (s.join l f)):=by
 have hX:X lk lim 69 [.hp (H.length+3) 3 0,rwN l,rwN f] (memR H s)=none:=noX1 (by decide) (by decide) (by decide)
 obtain⟨ll,hll⟩:∃ll,normI l=ll:=⟨_,rfl⟩
 have hmem:∀z,z∈ll↔z∈l:=fun z=>by rw[←hll,mem_normI]
 have hnd:ll.Nodup:=by rw[←hll];exact nd_normI l
 have hlb:InB s.rl.length ll:=by rw[←hll];exact inb_norm hl
 have hllen:=inb_len hlb hnd
 have hlv:RowI (rwN l) ll:=by rw[←hll];exact rwN_I l
 have hfv:=rwN_I f
 have hfl:=inb_len (inb_norm hf) (nd_normI f)
 have hj:s.join l f=⟨s.cl,s.rl,joinM s.nx ll f⟩:=by
  unfold Bs.join
  rw[joinM_all fun z=>(hmem z).symm]
 rw[hj]
 generalize rwN l=lv at hX hlv ⊢
 refine wb_callB [] hX A69 rfl (by rcases hlv with⟨rfl,_⟩ | rfl<;>rcases hfv with⟨h,_⟩ | h<;>rw[h]<;>rfl) ?_
 show WB ⟨callW X A,lk,lim,[]⟩ t69B _ _ _
 have h49:∀{Z:Heap} {av bv:AV} {a b:List Int},RowI av a→RowI bv b→a.Nodup→a.length+b.length≤1000000→callW X A Z.length lim 49 [av,bv] Z=some (rowN (normI (a++b)),Z):=fun h1 h2 h3 h4=>union49 h1 h2 h3 h4 (Nat.le_refl _)
 generalize callW X A=C at h49 ⊢
 generalize hP:FinT [] false (memR H s) (.tup [],memR H ⟨s.cl,s.rl,joinM s.nx ll f⟩)=P
 have fin:∀env,P .nrm env (memR H ⟨s.cl,s.rl,joinM s.nx ll f⟩):=fun env=>by
  rw[←hP]
  simp[FinT,finish,resOf,resList]
 clear hP
 have hloop:∀env,restrict [0,1,2,6] env=[(0,.hp (H.length+3) 3 0),(1,lv),(2,rwN f),(6,I 0)]→WB ⟨C,lk,lim,[]⟩ (.block 0 (.loop [0,1,2,6] t69L1)) P env (memR H s):=by
  intro env hE
  refine wb_loop (σ:=Nat) (fun i=>[(0,.hp (H.length+3) 3 0),(1,lv),(2,rwN f),(6,I i)]) (fun i=>memR H ⟨s.cl,s.rl,joinM s.nx (ll.take i) f⟩) (fun i=>i≤ll.length) (fun i=>ll.length-i) ?_ 0 (Nat.zero_le _) hE (by rw[List.take_zero,joinM_nil])
  intro i hi
  have he:t69L1= .seq (.seq (.regN [0,1,2,6] [kM 7 6,kM 8 1,kN 9 8,kT 10 7 9]) (.cond (ux 10) .skip (.exit 0))) (.seq (.block 1 j69) (.regN [0,1,2,6] [kM 11 6,kU 12 11,kM 6 12])):=rfl
  rw[he]
  generalize hR:Rnd _ _ _ _ _ _ _=R
  by_cases hk:i<ll.length
  case neg=>
   obtain rfl:i=ll.length:=by omega
   rw[List.take_length]
   have hx:∀env,R (.exit 0) env (memR H ⟨s.cl,s.rl,joinM s.nx ll f⟩):=fun env=>by
    rw[←hR]
    exact fin env
   generalize memR H ⟨s.cl,s.rl,joinM s.nx ll f⟩=Z at hx ⊢
   generalize rwN f=fv at hfv ⊢
   generalize j69=J
   rcases hlv with⟨rfl,rfl⟩ | rfl<;>rcases hfv with⟨rfl,_⟩ | rfl
   all_goals
    simp
    exact hx _
  obtain rfl:=hlv.sl (by omega)
  obtain⟨k,hk1⟩:=get_of hk
  have hkb:=hlb k (List.mem_of_getElem? hk1)
  obtain⟨k,rfl⟩:=Int.eq_ofNat_of_zero_le hkb.1
  have hkn:k<s.nx.length:=by rw[hw.2];omega
  have hni:(k:Int)∉ll.take i:=fun h=>by
   have h9:(ll.take i++ll.drop i).Nodup:=by rw[List.take_append_drop];exact hnd
   refine(List.nodup_append.1 h9).2.2 _ h _ ?_ rfl
   rw[List.drop_eq_getElem_cons hk,get_some hk1 hk]
   exact List.mem_cons_self
  have ht:ll.take (i+1)=ll.take i++[(k:Int)]:=by rw[List.take_add_one,hk1];rfl
  have hrow:=joinM_at (l:=ll.take i) (v:=f) hkn
  rw[if_neg hni]at hrow
  have hxi:InB s.rl.length (s.nx.getD k []):=by
   rw[List.getD_eq_getElem?_getD,List.getElem?_eq_getElem hkn]
   exact hb.1 _ (List.getElem_mem hkn)
  have hxl:=inb_len (inb_norm hxi) (nd_normI _)
  have hst:=joinM_step (l:=ll.take i) (v:=f) hkn
  rw[←ht]at hst
  have hnxt:∀env,restrict [0,1,2,6] env=[(0,.hp (H.length+3) 3 0),(1,.sl ll.length (ints ll)),(2,rwN f),(6,I ((i+1:Nat):Int))]→R .nrm env (memR H ⟨s.cl,s.rl,joinM s.nx (ll.take (i+1)) f⟩):=fun env h=>by
   rw[←hR,rnd_nrm]
   exact⟨i+1,hk,by omega,h,rfl⟩
  have hb:∀E,restrict [0,1,2,6] E=[(0,.hp (H.length+3) 3 0),(1,.sl ll.length (ints ll)),(2,rwN f),(6,I i)]→WB ⟨C,lk,lim,[]⟩ (.block 1 j69) (Fol ⟨C,lk,lim,[]⟩ (.regN [0,1,2,6] [kM 11 6,kU 12 11,kM 6 12]) R) E (memR H ⟨s.cl,s.rl,joinM s.nx (ll.take i) f⟩):=fun E hE=>by
   rw[wb_block]
   refine j69_ok (n:=s.rl.length) (xv:=rwN (s.nx.getD k [])) (yv:=rwN (unI (s.nx.getD k []) f)) memR3 memR1 (by rw[List.length_map,joinM_len,hw.2]) (by rw[List.getElem?_map,hrow];rfl) (rwN_I _) hfv (rwN_I _) (by omega) hk hk1 ?_ hlk hlim hE fun E' hE'=>?_
   ·have:=h49 (Z:=memR H ⟨s.cl,s.rl,joinM s.nx (ll.take i) f⟩) (rwN_I (s.nx.getD k [])) hfv (nd_normI _) (by omega)
    rw[norm_un]at this
    exact this
   ·have e:((joinM s.nx (ll.take i) f).map rwN).set k (rwN (unI (s.nx.getD k []) f))=(joinM s.nx (ll.take (i+1)) f).map rwN:=by rw[←hst,List.map_set]
    rw[e,memR_nx,blk_nrm,fol_nrm,wb_regN,hE']
    have w:IntKind.i64.wrap ((i:Int)+1)=(i:Int)+1:=wrap64 (by omega) (by omega)
    generalize memR H ⟨s.cl,s.rl,joinM s.nx (ll.take (i+1)) f⟩=Z at hnxt ⊢
    generalize rwN f=fv at hfv hnxt ⊢
    rcases hfv with⟨rfl,_⟩ | rfl
    ·simp[w]
     exact hnxt _ rfl
    ·simp[w]
     exact hnxt _ rfl
  generalize memR H ⟨s.cl,s.rl,joinM s.nx (ll.take i) f⟩=Z at hb ⊢
  generalize (.block 1 j69:AC)=F at hb ⊢
  generalize rwN f=fv at hfv hb ⊢
  rcases hfv with⟨rfl,_⟩ | rfl
  ·simp[hk]
   exact hb _ rfl
  ·simp[hk]
   exact hb _ rfl
 have e69:t69B= .seq (.regN [0,1,2] [kZ 6]) (.block 0 (.loop [0,1,2,6] t69L1)):=rfl
 rw[e69]
 generalize (.block 0 (.loop [0,1,2,6] t69L1):AC)=LL at hloop ⊢
 generalize memR H s=Z at hloop ⊢
 generalize rwN f=fv at hfv hloop ⊢
 rcases hlv with⟨rfl,_⟩ | rfl<;>rcases hfv with⟨rfl,_⟩ | rfl
 all_goals
  simp
  exact hloop _ rfl
end
end Go.Proofs.Ytnhennjliinplaa

namespace Go.Proofs.Ytnhennjliinplaa
open Go Go.Hm
def st48:AC:=(.regD [0,6,7,8] 0 [ kM 32 0,kM 33 0,kM 34 0,kM 35 0,kx 36 (.nilc (ux 35)),kF 37 0 36,kL 38 37,kF 39 1 7,kP 40 7 4 39,kx 41 (.buildS 1 [(.val (.int .u64 0)),(.val (.int .u64 0)),(.val (.int .u64 0)),(.val (.int .u64 0))] [(0,4,(ux 40))]),kf 42 (.app 4 32 (ux 38) (ux 41)),kM 43 0,kx 44 (.nilc (ux 43)),kF 45 1 44,kL 46 45,kx 47 (.buildS 1 [.e0] [(0,1,(.con .e0))]),kf 48 (.app 1 24 (ux 46) (ux 47)),kM 49 0,kx 50 (.nilc (ux 49)),kF 51 2 50,kL 52 51,kx 53 (.buildS 1 [(.val (.int .i64 0))] [(0,1,(.con (.val (.int .i64 (-1)))))]),kx 54 (.app 1 8 (ux 52) (ux 53)),kx 55 (.nilc (ux 32)),kF 56 0 55,kn (.st none 1 (ux 56) (ux 42)),kx 57 (.nilc (ux 33)),kF 58 1 57,kn (.st none 1 (ux 58) (ux 48)),kx 59 (.nilc (ux 34)),kF 60 2 59,kn (.st none 1 (ux 60) (ux 54))])
def nA48:AC:=(.regN [0,1,6,7,9,10] [ kM 82 0,kM 83 1,kF 84 5 7,kS 85 7 84,kM 86 10,kI 87 1 85 86,kL 88 87,kx 89 (.call 48 [(ux 82),(ux 83),(ux 88)]),kx 11 (.allocR [(.val (.bool false)),.e0,.e0]),kn (.st (some 11) 3 (ux 11) (ux 89))])
def nB48:AC:=(.regN [0,1,6,7,9,10,11] [ kM 90 0,kF 91 2 9,kS 92 9 91,kF 93 1 11,kS 94 11 93,kx 95 (.call 69 [(ux 90),(ux 92),(ux 94)])])
def C48c:AC:=(.regN [0,1,6,7,9,10,11] [ kF 96 0 9,kS 97 9 96])
def nC48:AC:=(.regN [0,1,6,7,9,10,11] [ kF 98 1 9,kS 99 9 98,kF 100 1 11,kS 101 11 100,kx 102 (.call 49 [(ux 99),(ux 101)]),kF 103 1 9,kn (.st (some 9) 1 (ux 103) (ux 102))])
def D48c:AC:=(.regN [0,1,6,7,9,10,11] [ kF 104 0 11,kS 105 11 104])
def nD48:AC:=(.regN [0,1,6,7,9,10,11] [ kF 106 2 9,kS 107 9 106,kF 108 2 11,kS 109 11 108,kx 110 (.call 49 [(ux 107),(ux 109)]),kF 111 2 11,kn (.st (some 11) 1 (ux 111) (ux 110))])
def nF48:AC:=(.regN [0,1,6,7,9,10,11] [ kF 112 0 9,kS 113 9 112,kM 114 113,yF 115 114 0 11,yS 116 114 11 115,kx 117 (.pick (ux 114) (ux 116) cF),kF 118 1 9,kS 119 9 118,kF 120 2 11,kS 121 11 120,kx 122 (.build [(.val (.bool false)),.e0,.e0] [(0,1,(ux 117)),(1,1,(ux 119)),(2,1,(ux 121))]),kn (.st (some 9) 3 (ux 9) (ux 122))])
theorem e481:t48L1= .seq (.seq (.regN [0,1,6,7,9,10] [kM 75 10,kF 76 5 7,kS 77 7 76,kN 78 77,kT 79 75 78]) (.cond (ux 79) .skip (.exit 1))) (.seq (.block 2 (.seq nA48 (.seq nB48 (.seq (.seq C48c (.cond (ux 97) nC48 .skip)) (.seq (.seq D48c (.cond (ux 105) nD48 .skip)) nF48))))) (.regN [0,1,6,7,9,10] [kM 80 10,kU 81 80,kM 10 81])):=rfl
abbrev B8:List Nat:=[6,7,9,11,12,14,15]
abbrev pA (L:Nat):AV:=.hp (L+3) 3 0
abbrev b0:AV:=.box [Bo false,.e0,.e0]
abbrev xB (kd c0 c1 c2 c3:AV)(ks:List Int):AV:=.box [kd,c0,c1,c2,c3,.sl ks.length (ints ks)]
abbrev pB (e:Bool)(f l:AV):AV:=.box [Bo e,f,l]
theorem memR_add {H:Heap}{s:Bs}{c:List AV}:((((memR H s).set H.length (.cells (s.cl++c))).set (H.length+1) (.cells (s.nx.map rwN++[.e0]))).set (H.length+2) (.cells (ints s.rl++[I (-1)]))).set (H.length+3) (hdR H.length (s.rl.length+1))=memR H (s.add c):=by
 unfold memR
 rw[set_at0,set_at,set_at,set_at]
 simp[Bs.add,ints,rwN,rowN,normI]
section
variable {C:Orc}{Q:Ex→Kt}{E:Env}{lk lim i n k:Nat}{H:Heap}{s:Bs}{c0 c1 c2 c3 kd kv rv:AV}
set_option maxRecDepth 20000 in
theorem st48_ok (hw:WfB s)(hn:s.rl.length≤1000000)(hlk:lk≤H.length)(hlim:lim≤H.length)
  (hE:restrict [0,6,7,8] E=[(0,.hp (H.length+3) 3 0),(6,.box [Bo false,.e0,.e0]),(7,.box [kd,c0,c1,c2,c3,kv]),(8,I s.rl.length)])
  (hQ:∀E',restrict [6,8] E'=[(6,.box [Bo false,.e0,.e0]),(8,I s.rl.length)]→Q .nrm E' (memR H (s.add [c0,c1,c2,c3]))):
  WB ⟨C,lk,lim,[6,7,9,11,12,14,15]⟩ st48 Q E (memR H s):=by
 have h0:=memR0 (H:=H) (s:=s)
 have h1:=memR1 (H:=H) (s:=s)
 have h2:=memR2 (H:=H) (s:=s)
 have h3:=memR3 (H:=H) (s:=s)
 have hml:=memR_len (H:=H) (s:=s)
 rw[←memR_add]at hQ
 obtain⟨lc,lx⟩:=hw
 generalize memR H s=Y at h0 h1 h2 h3 hml hQ ⊢
 obtain⟨n,hnn⟩:∃n,s.rl.length=n:=⟨_,rfl⟩
 rw[hnn]at lc lx h3 hE hQ hn
 have w1:(ints s.rl).length=n:=by rw[ints_len,hnn]
 have w2:(s.nx.map rwN).length=n:=by rw[List.length_map,lx]
 have a1:=app_end (k:=4) (new:=[c0,c1,c2,c3]) lc
 have a2:=app_end (g:=n) (k:=1) (new:=[I (-1)]) (cs:=ints s.rl) w1
 have a3:=app_end (g:=n) (k:=1) (new:=[AV.e0]) (cs:=s.nx.map rwN) w2
 have r1:(n+1)*32≤room:=by unfold room;omega
 have r2:(n+1)*8≤room:=by unfold room;omega
 have r3:(n+1)*24≤room:=by unfold room;omega
 have k1:lk≤H.length+1:=by omega
 have k2:lk≤H.length+2:=by omega
 have k3:lk≤H.length+3:=by omega
 have l1:lim≤H.length+1:=by omega
 have l2:lim≤H.length+2:=by omega
 have l3:lim≤H.length+3:=by omega
 generalize ints s.rl=xr at h2 w1 a2 hQ
 generalize s.nx.map rwN=xn at h1 w2 a3 hQ
 generalize s.cl=xc at h0 lc a1 hQ
 unfold hdR at h3 hQ
 refine wb_regV (by decide) ?_
 unfold WD
 rw[hE]
 generalize H.length=L at *
 have yt:(Y++List.replicate 0 HB.hole)=Y:=by simp
 have yk:Y.take Y.length=Y:=List.take_length
 have f1:∀(x y z:HB),(((Y.set L x).set (L+1) y).set (L+2) z)[L+3]?=some (.cells [.hs L (n*4) 0 n 4,.hs (L+1) n 0 n 1,.hs (L+2) n 0 n 1]):=fun x y z=>by
  rw[List.getElem?_set_ne (by omega),List.getElem?_set_ne (by omega),List.getElem?_set_ne (by omega),h3]
 have f2:∀(x y z w:HB),((((Y.set L x).set (L+1) y).set (L+2) z).set (L+3) w)[L+3]?=some w:=fun x y z w=>by
  rw[List.getElem?_set_self]
  simp;omega
 simp[f1,f2,runD,stepD,actD,wsSel,collW,okT,cls,rdTgt,wrTgt,isFree,isRow,guardI,clArgs,isCall,cls2,yk,srcCells,h0,h1,h2,h3,k1,k2,k3,hlk,l1,l2,l3,hlim,setH,a1,a2,a3,r1,r2,r3,w1,w2,lc,List.take_set]
 refine⟨_,_,⟨rfl,rfl⟩,?_,?_⟩
 ·repeat refine inv_cons2 rfl ?_
  exact inv_nil _
 ·have e4:(n+1)*4=n*4+4:=by omega
  rw[e4]at hQ
  exact hQ _ rfl
variable {L m:Nat}{cells:List AV}{ks pf pl qf ql uf:List Int}{pe qe:Bool}{pfv plv qfv qlv ufv:AV}{Z Z':Heap}
set_option maxRecDepth 20000 in
theorem nA48_ok {k':Int}(hi:i<ks.length)(hk:ks[i]?=some k')(hC:C lk lim 48 [pA L,.sl m cells,I k'] Z=some (.agg [Bo qe,qfv,qlv],Z'))
  (hE:restrict [0,1,6,7,9,10] E=[(0,pA L),(1,.sl m cells),(6,b0),(7,xB kd c0 c1 c2 c3 ks),(9,pB pe pfv plv),(10,I i)])
  (hQ:∀E',restrict [0,1,6,7,9,10,11] E'=[(0,pA L),(1,.sl m cells),(6,b0),(7,xB kd c0 c1 c2 c3 ks),(9,pB pe pfv plv),(10,I i),(11,pB qe qfv qlv)]→Q .nrm E' Z'):
  WB ⟨C,lk,lim,B8⟩ nA48 Q E Z:=by
 have hk2:=get_some (ints_at hk) (by rw[ints_len];exact hi)
 unfold nA48
 rw[wb_regN,hE]
 simp[hi,hk2,hC,replaceAt]
 exact hQ _ rfl
abbrev e11 (L m:Nat)(cells:List AV)(kd c0 c1 c2 c3:AV)(ks:List Int)(i:Nat)(p q:AV):Env:=[(0,pA L),(1,.sl m cells),(6,b0),(7,xB kd c0 c1 c2 c3 ks),(9,p),(10,I i),(11,q)]
set_option maxRecDepth 20000 in
theorem B48_ok (h1:RowI plv pl)(h2:RowI qfv qf)(hC:C lk lim 69 [pA L,plv,qfv] Z=some (.tup [],Z'))
  (hE:restrict [0,1,6,7,9,10,11] E=e11 L m cells kd c0 c1 c2 c3 ks i (pB pe pfv plv) (pB qe qfv qlv))
  (hQ:∀E',restrict [0,1,6,7,9,10,11] E'=e11 L m cells kd c0 c1 c2 c3 ks i (pB pe pfv plv) (pB qe qfv qlv)→Q .nrm E' Z'):
  WB ⟨C,lk,lim,B8⟩ nB48 Q E Z:=by
 unfold nB48
 rw[wb_regN,hE]
 rcases h1 with⟨rfl,_⟩ | rfl<;>rcases h2 with⟨rfl,_⟩ | rfl
 all_goals
  simp[hC]
  exact hQ _ rfl
set_option maxRecDepth 20000 in
theorem C48_ok (h1:RowI pfv pf)(h2:RowI qfv qf)(h3:RowI ufv uf)(hC:pe=true→C lk lim 49 [pfv,qfv] Z=some (ufv,Z))
  (hE:restrict [0,1,6,7,9,10,11] E=e11 L m cells kd c0 c1 c2 c3 ks i (pB pe pfv plv) (pB qe qfv qlv))
  (hQ:∀E',restrict [0,1,6,7,9,10,11] E'=e11 L m cells kd c0 c1 c2 c3 ks i (pB pe (if pe then ufv else pfv) plv) (pB qe qfv qlv)→Q .nrm E' Z):
  WB ⟨C,lk,lim,B8⟩ (.seq C48c (.cond (ux 97) nC48 .skip)) Q E Z:=by
 unfold C48c
 rw[wb_seq,wb_regN,hE]
 cases pe
 ·generalize nC48=F
  simp
  exact hQ _ rfl
 ·have hC:=hC rfl
  unfold nC48
  simp[-wb_true,-wb_regN]
  rw[wb_true (ev_bo rfl),wb_regN]
  rcases h1 with⟨rfl,_⟩ | rfl<;>rcases h2 with⟨rfl,_⟩ | rfl<;>rcases h3 with⟨rfl,_⟩ | rfl
  all_goals
   simp[hC,replaceAt]
   exact hQ _ rfl
set_option maxRecDepth 20000 in
theorem D48_ok (h1:RowI plv pl)(h2:RowI qlv ql)(h3:RowI ufv uf)(hC:qe=true→C lk lim 49 [plv,qlv] Z=some (ufv,Z))
  (hE:restrict [0,1,6,7,9,10,11] E=e11 L m cells kd c0 c1 c2 c3 ks i (pB pe pfv plv) (pB qe qfv qlv))
  (hQ:∀E',restrict [0,1,6,7,9,10,11] E'=e11 L m cells kd c0 c1 c2 c3 ks i (pB pe pfv plv) (pB qe qfv (if qe then ufv else qlv))→Q .nrm E' Z):
  WB ⟨C,lk,lim,B8⟩ (.seq D48c (.cond (ux 105) nD48 .skip)) Q E Z:=by
 unfold D48c
 rw[wb_seq,wb_regN,hE]
 cases qe
 ·generalize nD48=F
  simp
  exact hQ _ rfl
 ·have hC:=hC rfl
  unfold nD48
  simp[-wb_true,-wb_regN]
  rw[wb_true (ev_bo rfl),wb_regN]
  rcases h1 with⟨rfl,_⟩ | rfl<;>rcases h2 with⟨rfl,_⟩ | rfl<;>rcases h3 with⟨rfl,_⟩ | rfl
  all_goals
   simp[hC,replaceAt]
   exact hQ _ rfl
set_option maxRecDepth 20000 in
theorem F48_ok (h1:RowI pfv pf)(h2:RowI qlv ql)
  (hE:restrict [0,1,6,7,9,10,11] E=e11 L m cells kd c0 c1 c2 c3 ks i (pB pe pfv plv) (pB qe qfv qlv))
  (hQ:∀E',restrict [0,1,6,7,9,10] E'=[(0,pA L),(1,.sl m cells),(6,b0),(7,xB kd c0 c1 c2 c3 ks),(9,pB (pe&&qe) pfv qlv),(10,I i)]→Q .nrm E' Z):
  WB ⟨C,lk,lim,B8⟩ nF48 Q E Z:=by
 unfold nF48
 rw[wb_regN,hE]
 cases pe
 ·rcases h1 with⟨rfl,_⟩ | rfl<;>rcases h2 with⟨rfl,_⟩ | rfl
  all_goals
   simp[replaceAt]
   exact hQ _ rfl
 ·rcases h1 with⟨rfl,_⟩ | rfl<;>rcases h2 with⟨rfl,_⟩ | rfl
  all_goals
   simp[replaceAt]
   exact hQ _ rfl
end
end Go.Proofs.Ytnhennjliinplaa
