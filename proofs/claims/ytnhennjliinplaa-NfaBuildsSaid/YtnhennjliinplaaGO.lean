/- Tables in memory; places. -/
import Derived.Test.YtnhennjliinplaaGI
set_option linter.all false
namespace Go.Proofs.Ytnhennjliinplaa
open Go Go.Hm
def rb (L j:Nat):Nat:=if j=0 then L else L+1+j
def refT (L N m:Nat):List AV:=(List.range m).map fun (j:Nat)=>.hs (rb L j) N 0 N 1
def blkT (L N:Nat):List (List Bool)→List HB
 | []=>[]
 | r::rs=>.cells (bools r):: .cells (refT L N (rs.length+1))::rs.map fun r=>.cells (bools r)
def memT (H:Heap)(N:Nat)(rs:List (List Bool)):Heap:=H++blkT H.length N rs
theorem refT_get {L N m j:Nat}(h:j<m):(refT L N m)[j]?=some (.hs (rb L j) N 0 N 1):=by
 unfold refT
 rw[List.getElem?_map,List.getElem?_range h];rfl
theorem refT_len {L N m:Nat}:(refT L N m).length=m:=by simp[refT]
theorem refT_snoc {L N m:Nat}:refT L N (m+1)=refT L N m++[.hs (rb L m) N 0 N 1]:=by
 unfold refT
 rw[List.range_succ,List.map_append];rfl
section
variable {H:Heap}{N:Nat}{rs:List (List Bool)}
theorem memT_len (h:rs≠[]):(memT H N rs).length=H.length+1+rs.length:=by
 cases rs with
 | nil=>exact absurd rfl h
 | cons r rs=>simp[memT,blkT];omega
theorem memT_out (h:rs≠[]):(memT H N rs)[H.length+1]?=some (.cells (refT H.length N rs.length)):=by
 cases rs with
 | nil=>exact absurd rfl h
 | cons r rs=>unfold memT;rw[Hm.get_at];rfl
theorem memT_row {j:Nat}{r:List Bool}(h:rs[j]?=some r):(memT H N rs)[rb H.length j]?=some (.cells (bools r)):=by
 cases rs with
 | nil=>cases h
 | cons q rs=>
  unfold memT rb
  cases j with
  | zero=>simp at h;subst h;rw[if_pos rfl,get_at0];rfl
  | succ j=>
   rw[if_neg (by omega),show H.length+1+(j+1)=H.length+(j+2) from by omega,Hm.get_at]
   have h:rs[j]?=some r:=h
   show (rs.map fun r=>HB.cells (bools r))[j]?=_
   rw[List.getElem?_map,h];rfl
theorem memT_set {j:Nat}{r:List Bool}(h:j<rs.length):(memT H N rs).set (rb H.length j) (.cells (bools r))=memT H N (rs.set j r):=by
 cases rs with
 | nil=>simp at h
 | cons q rs=>
  unfold memT rb
  cases j with
  | zero=>rw[if_pos rfl,set_at0];rfl
  | succ j=>
   rw[if_neg (by omega),show H.length+1+(j+1)=H.length+(j+2) from by omega,set_at]
   show H++(HB.cells (bools q):: .cells (refT H.length N (rs.length+1))::(rs.map fun r=>HB.cells (bools r)).set j (.cells (bools r)))=H++(HB.cells (bools q):: .cells (refT H.length N ((rs.set j r).length+1))::(rs.set j r).map fun r=>HB.cells (bools r))
   rw[List.length_set,List.map_set]
theorem memT_old {b:Nat}{x:HB}(h:H[b]?=some x):(memT H N rs)[b]?=some x:=by
 unfold memT
 rw[List.getElem?_append_left (get_lt h),h]
theorem memT_one {r:List Bool}:memT H N [r]=H++[.cells (bools r),.cells [.hs H.length N 0 N 1]]:=rfl
theorem memT_snoc {r:List Bool}(h:rs≠[]):(memT H N rs++[HB.cells (bools r)]).set (H.length+1) (HB.cells (refT H.length N rs.length++[AV.hs (memT H N rs).length N 0 N 1]))=memT H N (rs++[r]):=by
 rw[memT_len h]
 cases rs with
 | nil=>exact absurd rfl h
 | cons q rs=>
  unfold memT
  rw[List.append_assoc,set_at]
  have e:H.length+1+(q::rs).length=rb H.length (rs.length+1):=by unfold rb;rw[if_neg (by omega)];rfl
  rw[e]
  have e2:refT H.length N (q::rs).length++[.hs (rb H.length (rs.length+1)) N 0 N 1]=refT H.length N ((rs++[r]).length+1):=by
   rw[List.length_cons,←refT_snoc];simp
  rw[e2]
  show H++(HB.cells (bools q):: .cells _::((rs.map fun r=>HB.cells (bools r))++[HB.cells (bools r)]))=H++(HB.cells (bools q):: .cells _::(rs++[r]).map fun r=>HB.cells (bools r))
  rw[List.map_append];rfl
end
def rowF (N:Nat)(g:Nat→Bool):List Bool:=(List.range N).map g
def mkR (N:Nat)(f:Nat→Nat→Bool):List (List Bool):=(List.range N).map fun i=>rowF N (f i)
theorem rowF_len {N:Nat}{g:Nat→Bool}:(rowF N g).length=N:=by simp[rowF]
theorem rowF_get {N k:Nat}{g:Nat→Bool}(h:k<N):(rowF N g)[k]?=some (g k):=by
 unfold rowF
 rw[List.getElem?_map,List.getElem?_range h];rfl
theorem rowF_congr {N:Nat}{f g:Nat→Bool}(h:∀k,k<N→f k=g k):rowF N f=rowF N g:=by
 unfold rowF
 exact List.map_congr_left fun k hk=>h k (List.mem_range.1 hk)
theorem rowF_set {N k:Nat}{g:Nat→Bool}{v:Bool}:(rowF N g).set k v=rowF N fun j=>if j=k then v else g j:=by
 apply List.ext_getElem?
 intro j
 by_cases hj:j<N
 ·rw[rowF_get hj]
  by_cases e:k=j
  ·subst e;rw[List.getElem?_set_self (by rw[rowF_len];exact hj),if_pos rfl]
  ·rw[List.getElem?_set_ne e,rowF_get hj,if_neg (fun h=>e h.symm)]
 ·rw[List.getElem?_eq_none (by rw[List.length_set,rowF_len];omega),List.getElem?_eq_none (by rw[rowF_len];omega)]
theorem mkR_len {N:Nat}{f:Nat→Nat→Bool}:(mkR N f).length=N:=by simp[mkR]
theorem mkR_ne {N:Nat}{f:Nat→Nat→Bool}(h:1≤N):mkR N f≠[]:=fun e=>by
 have:=congrArg List.length e
 rw[mkR_len]at this
 simp at this;omega
theorem mkR_get {N i:Nat}{f:Nat→Nat→Bool}(h:i<N):(mkR N f)[i]?=some (rowF N (f i)):=by
 unfold mkR
 rw[List.getElem?_map,List.getElem?_range h];rfl
theorem mkR_congr {N:Nat}{f g:Nat→Nat→Bool}(h:∀i k,i<N→k<N→f i k=g i k):mkR N f=mkR N g:=by
 unfold mkR
 exact List.map_congr_left fun i hi=>rowF_congr fun k hk=>h i k (List.mem_range.1 hi) hk
def updF (f:Nat→Nat→Bool)(i k:Nat)(v:Bool):Nat→Nat→Bool:=fun i' k'=>if i'=i∧k'=k then v else f i' k'
theorem mkR_set {N i k:Nat}{f:Nat→Nat→Bool}{v:Bool}(hi:i<N):(mkR N f).set i ((rowF N (f i)).set k v)=mkR N (updF f i k v):=by
 rw[rowF_set]
 apply List.ext_getElem?
 intro j
 by_cases hj:j<N
 ·rw[mkR_get hj]
  by_cases e:i=j
  ·subst e
   rw[List.getElem?_set_self (by rw[mkR_len];exact hj)]
   congr 1
   exact rowF_congr fun k' _=>by unfold updF;by_cases h:k'=k<;>simp[h]
  ·rw[List.getElem?_set_ne e,mkR_get hj]
   congr 1
   exact rowF_congr fun k' _=>by unfold updF;rw[if_neg (fun h=>e h.1.symm)]
 ·rw[List.getElem?_eq_none (by rw[List.length_set,mkR_len];omega),List.getElem?_eq_none (by rw[mkR_len];omega)]
def plA:AC:=(.regN [0,1,5,6] [ kM 12 5,kM 13 0,kx 14 (.mks 1 1 [(.val (.bool false))] (ux 13)),kx 15 (.buildS 1 [.e0] [(0,1,(ux 14))]),kx 16 (.app 1 24 (ux 12) (ux 15)),kM 5 16])
def plB:AC:=(.regN [0,1,5,6] [ kM 17 5,kM 18 6,kI 19 1 17 18,kL 20 19,kM 21 6,kM 22 1,kI 23 1 20 21,kn (.st none 1 (ux 23) (ux 22))])
theorem e531:t53L1= .seq (.seq (.regN [0,1,5,6] [kM 7 6,kM 8 0,kT 9 7 8]) (.cond (ux 9) .skip (.exit 0))) (.seq (.block 1 (.seq plA plB)) (.regN [0,1,5,6] [kM 10 6,kU 11 10,kM 6 11])):=rfl
def outV (L N m:Nat):AV:=if m=0 then .e0 else .hs (L+1) m 0 m 1
section
variable {C:Orc}{Q:Ex→Kt}{E:Env}{lk lim i N:Nat}{H:Heap}{sf:Bool}{rs:List (List Bool)}
set_option maxRecDepth 20000 in
theorem plA_ok (hm:rs.length=i)(hi:i≤1000000)(hN:N≤1000000)(hlk:lk≤H.length)(hlim:lim≤H.length)
  (hE:restrict [0,1,5,6] E=[(0,I N),(1,Bo sf),(5,outV H.length N i),(6,I i)])
  (hQ:∀E',restrict [0,1,5,6] E'=[(0,I N),(1,Bo sf),(5,outV H.length N (i+1)),(6,I i)]→Q .nrm E' (memT H N (rs++[rowF N fun _=>false]))):
  WB ⟨C,lk,lim,[]⟩ plA Q E (memT H N rs):=by
 have hr:room=140737488355328:=rfl
 have hmk:∀env b,ev env (.tmp 13)=I (N:Int)→mkOp (.mks 1 1 [Bo false] (.tmp 13)) env b=some (.hs b N 0 N 1,.cells (bools (rowF N fun _=>false))):=fun env b h=>by
  rw[mk_mks (z:=[Bo false]) (es:=1) (n:=N) h rfl (by omega),Nat.mul_one]
  have:repl N [Bo false]=bools (rowF N fun _=>false):=by
   rw[bF_nil]
   congr 1
  rw[this]
 have r1:(1:Nat)*24≤room:=by omega
 have r2:(i+1)*24≤room:=by omega
 have hl1:lk≤H.length+1:=by omega
 have hl2:lim≤H.length+1:=by omega
 clear hr
 unfold plA
 rw[wb_regN,hE]
 unfold outV at hQ ⊢
 rw[if_neg (by omega)]at hQ
 by_cases h0:i=0
 ·subst h0
  have hrs:rs=[]:=List.length_eq_zero_iff.1 hm
  subst hrs
  have e1:memT H N []=H:=by simp[memT,blkT]
  rw[List.nil_append,memT_one]at hQ
  rw[e1]
  simp[-wi_mks]
  rw[wi_mks,hmk _ _ rfl]
  simp[srcCells,r1]
  exact hQ _ rfl
 ·rw[if_neg h0]
  have hne:rs≠[]:=fun e=>h0 (by rw[←hm,e];rfl)
  have hg:=memT_out (H:=H) (N:=N) hne
  have hl:=memT_len (H:=H) (N:=N) hne
  have hsn:=memT_snoc (H:=H) (N:=N) (r:=rowF N fun _=>false) hne
  have hrl:=refT_len (L:=H.length) (N:=N) (m:=i)
  rw[hm]at hg hl hsn
  have hg2:∀x,(memT H N rs++[x])[H.length+1]?=some (.cells (refT H.length N i)):=fun x=>by
   rw[List.getElem?_append_left (by omega),hg]
  rw[←hsn]at hQ
  generalize memT H N rs=Z at hg2 hl hQ ⊢
  simp[-wi_mks,h0]
  rw[wi_mks,hmk _ _ rfl]
  simp[srcCells,r2,hg2,hrl,appC,appG,setH,hl1,hl2]
  exact hQ _ rfl
set_option maxRecDepth 20000 in
theorem plB_ok {f:Nat→Bool}{m:Nat}(hr:rs[i]?=some (rowF N f))(hm:rs.length=m)(him:i<m)(hiN:i<N)(hlk:lk≤H.length)(hlim:lim≤H.length)
  (hE:restrict [0,1,5,6] E=[(0,I N),(1,Bo sf),(5,.hs (H.length+1) m 0 m 1),(6,I i)])
  (hQ:∀E',restrict [0,1,5,6] E'=[(0,I N),(1,Bo sf),(5,.hs (H.length+1) m 0 m 1),(6,I i)]→Q .nrm E' (memT H N (rs.set i ((rowF N f).set i sf)))):
  WB ⟨C,lk,lim,[]⟩ plB Q E (memT H N rs):=by
 have hne:rs≠[]:=fun e=>by rw[e]at hr;cases hr
 have hg:=memT_out (H:=H) (N:=N) hne
 have hrw:=memT_row (H:=H) (N:=N) hr
 have hst:=memT_set (H:=H) (N:=N) (rs:=rs) (j:=i) (r:=(rowF N f).set i sf) (by omega)
 have hrl:=refT_len (L:=H.length) (N:=N) (m:=m)
 have hrg:=get_some (refT_get (L:=H.length) (N:=N) him) (by rw[refT_len];exact him)
 rw[hm]at hg
 have hbl:(bools (rowF N f)).length=N:=by rw[bools_len,rowF_len]
 have hrep:replaceAt (bools (rowF N f)) i [Bo sf]=bools ((rowF N f).set i sf):=by
  rw[replaceAt_one _ (by rw[hbl];exact hiN),bools_set]
 have hrb:lk≤rb H.length i∧lim≤rb H.length i:=by unfold rb;split<;>omega
 have hi1:i+1≤m:=him
 have hi2:i+1≤N:=hiN
 rw[←hst]at hQ
 generalize memT H N rs=Z at hg hrw hQ ⊢
 unfold plB
 rw[wb_regN,hE]
 simp[him,hiN,hi1,hg,hrl,hrg,hrw,hbl,hrep,setH,hrb.1,hrb.2,hi2]
 exact hQ _ rfl
end
def slF (sf:Bool):Nat→Nat→Bool:=fun i k=>decide (i=k)&&sf
section
variable {C:Orc}{Q:Ex→Kt}{E:Env}{lk lim i N:Nat}{H:Heap}{sf:Bool}{rs:List (List Bool)}
theorem slF_row {i N:Nat}{sf:Bool}:(rowF N fun _=>false).set i sf=rowF N (slF sf i):=by
 rw[rowF_set]
 exact rowF_congr fun k _=>by
  unfold slF
  by_cases h:k=i
  ·subst h;simp
  ·rw[if_neg h,decide_eq_false (fun e=>h e.symm)];rfl
set_option maxRecDepth 20000 in
theorem places53 (h1:1≤N)(hN:N≤1000000)(hlk:lk≤H.length)(hlim:lim≤H.length):callW X A lk lim 53 [I N,Bo sf] H=some (.hs (H.length+1) N 0 N 1,memT H N (mkR N (slF sf))):=by
 have hX:X lk lim 53 [I N,Bo sf] H=none:=noX1 (by decide) (by decide) (by decide)
 refine wb_callB [] hX A53 rfl rfl ?_
 show WB ⟨callW X A,lk,lim,[]⟩ t53B _ _ _
 generalize callW X A=C
 generalize hP:FinT [.tmp 4] false H (.hs (H.length+1) N 0 N 1,memT H N (mkR N (slF sf)))=P
 have fin:∀env,find env 4= .hs (H.length+1) N 0 N 1→P .ret env (memT H N (mkR N (slF sf))):=fun env h=>by
  rw[←hP]
  simp[FinT,finish,resOf,resList,resOne,h]
 clear hP
 have hloop:∀env,restrict [0,1,5,6] env=[(0,I N),(1,Bo sf),(5,.e0),(6,I 0)]→WB ⟨C,lk,lim,[]⟩ (.block 0 (.loop [0,1,5,6] t53L1)) (Fol ⟨C,lk,lim,[]⟩ (.seq (.regN [5] [kM 24 5,kM 4 24]) .ret) P) env H:=by
  intro env hE
  have e0:memT H N ((mkR N (slF sf)).take 0)=H:=by simp[memT,blkT]
  refine wb_loop (σ:=Nat) (fun i=>[(0,I N),(1,Bo sf),(5,outV H.length N i),(6,I i)]) (fun i=>memT H N ((mkR N (slF sf)).take i)) (fun i=>i≤N) (fun i=>N-i) ?_ 0 (Nat.zero_le _) hE e0.symm
  intro i hi
  rw[e531]
  generalize hR:Rnd _ _ _ _ _ _ _=R
  by_cases hk:i<N
  case neg=>
   obtain rfl:i=N:=by omega
   have hx:∀env,restrict [5] env=[(5,.hs (H.length+1) i 0 i 1)]→R (.exit 0) env (memT H i (mkR i (slF sf))):=fun env hE=>by
    rw[←hR]
    show WB ⟨C,lk,lim,[]⟩ (.seq (.regN [5] [kM 24 5,kM 4 24]) .ret) P env (memT H i (mkR i (slF sf)))
    generalize memT H i (mkR i (slF sf))=Z at fin ⊢
    rw[wb_seq,wb_regN,hE]
    simp
    exact fin _ rfl
   rw[List.take_of_length_le (by rw[mkR_len];exact Nat.le_refl _)]
   generalize memT H i (mkR i (slF sf))=Z at hx ⊢
   generalize plA=PA
   generalize plB=PB
   unfold outV
   rw[if_neg (by omega)]
   simp
   exact hx _ rfl
  have hgt:=mkR_get (f:=slF sf) hk
  have htl:((mkR N (slF sf)).take i).length=i:=by rw[List.length_take,mkR_len];omega
  have hts:(mkR N (slF sf)).take (i+1)=(mkR N (slF sf)).take i++[rowF N (slF sf i)]:=by rw[List.take_add_one,hgt];rfl
  have next:∀env,restrict [0,1,5,6] env=[(0,I N),(1,Bo sf),(5,.hs (H.length+1) (i+1) 0 (i+1) 1),(6,I ((i+1:Nat):Int))]→R .nrm env (memT H N ((mkR N (slF sf)).take (i+1))):=fun env h=>by
   rw[←hR,rnd_nrm]
   exact⟨i+1,hk,by omega,h,rfl⟩
  rw[hts]at next
  have w:IntKind.i64.wrap ((i:Int)+1)=(i:Int)+1:=wrap64 (by omega) (by omega)
  generalize (mkR N (slF sf)).take i=rs at htl next ⊢
  have hb:∀E,restrict [0,1,5,6] E=[(0,I N),(1,Bo sf),(5,outV H.length N i),(6,I i)]→WB ⟨C,lk,lim,[]⟩ (.block 1 (.seq plA plB)) (Fol ⟨C,lk,lim,[]⟩ (.regN [0,1,5,6] [kM 10 6,kU 11 10,kM 6 11]) R) E (memT H N rs):=fun E hE=>by
   rw[wb_block,wb_seq]
   refine plA_ok htl (by omega) hN hlk hlim hE fun E1 hE1=>?_
   rw[fol_nrm]
   have hE1:restrict [0,1,5,6] E1=[(0,I N),(1,Bo sf),(5,.hs (H.length+1) (i+1) 0 (i+1) 1),(6,I i)]:=hE1
   refine plB_ok (f:=fun _=>false) (m:=i+1) (by rw[List.getElem?_append_right (by omega),htl,Nat.sub_self];rfl) (by simp;omega) (by omega) hk hlk hlim hE1 fun E2 hE2=>?_
   have e:(rs++[rowF N fun _=>false]).set i ((rowF N fun _=>false).set i sf)=rs++[rowF N (slF sf i)]:=by
    rw[List.set_append_right _ _ (by omega),htl,Nat.sub_self,slF_row];rfl
   rw[e]
   generalize memT H N (rs++[rowF N (slF sf i)])=Z at next ⊢
   rw[blk_nrm,fol_nrm,wb_regN,hE2]
   simp[w]
   exact next _ rfl
  generalize (.block 1 (.seq plA plB):AC)=F at hb ⊢
  generalize memT H N rs=Z at hb ⊢
  unfold outV at hb ⊢
  split at hb<;>rename_i h0
  ·rw[if_pos h0]
   simp[hk]
   exact hb _ rfl
  ·rw[if_neg h0]
   simp[hk]
   exact hb _ rfl
 unfold t53B
 generalize (.block 0 (.loop [0,1,5,6] t53L1):AC)=LL at hloop ⊢
 simp
 exact hloop _ rfl
end
end Go.Proofs.Ytnhennjliinplaa

namespace Go.Proofs.Ytnhennjliinplaa
open Go Go.Hm
def TabH (H:Heap)(v:AV)(N:Nat)(f:Nat→Nat→Bool):Prop:=∃(b:Nat) (bs:List Nat),v= .hs b N 0 N 1∧H[b]?=some (.cells (bs.map fun (x:Nat)=>AV.hs x N 0 N 1))∧bs.length=N∧∀(i:Nat) x,bs[i]?=some x→H[x]?=some (.cells (bools (rowF N (f i))))
def ExtH (H Z:Heap):Prop:=∀(b:Nat) (x:HB),H[b]?=some x→Z[b]?=some x
theorem TabH.mono {H Z:Heap}{v:AV}{N:Nat}{f:Nat→Nat→Bool}(h:TabH H v N f)(e:ExtH H Z):TabH Z v N f:=by
 obtain⟨b,bs,h1,h2,h3,h4⟩:=h
 exact⟨b,bs,h1,e b _ h2,h3,fun i x hx=>e x _ (h4 i x hx)⟩
theorem ext_memT {H:Heap}{N:Nat}{rs:List (List Bool)}:ExtH H (memT H N rs):=fun _ _ h=>memT_old h
theorem tab_memT {H:Heap}{N:Nat}{f:Nat→Nat→Bool}(h:1≤N):TabH (memT H N (mkR N f)) (.hs (H.length+1) N 0 N 1) N f:=by
 refine⟨H.length+1,(List.range N).map (rb H.length),rfl,?_,by simp,fun i x hx=>?_⟩
 ·rw[memT_out (mkR_ne h),mkR_len]
  unfold refT
  rw[List.map_map];rfl
 ·rw[List.getElem?_map]at hx
  by_cases hi:i<N
  ·rw[List.getElem?_range hi]at hx
   simp only[Option.map_some,Option.some.injEq]at hx
   subst hx
   exact memT_row (mkR_get hi)
  ·rw[List.getElem?_eq_none (by simp;omega)]at hx
   cases hx
theorem TabH.row {H:Heap}{b N:Nat}{f:Nat→Nat→Bool}(h:TabH H (.hs b N 0 N 1) N f){i:Nat}(hi:i<N):∃(cs:List AV) (x:Nat),H[b]?=some (.cells cs)∧cs.length=N∧cs[i]?=some (.hs x N 0 N 1)∧H[x]?=some (.cells (bools (rowF N (f i)))):=by
 obtain⟨b',bs,h1,h2,h3,h4⟩:=h
 cases h1
 obtain⟨x,hx⟩:=get_of (show i<bs.length by omega)
 exact⟨_,x,h2,by rw[List.length_map,h3],by rw[List.getElem?_map,hx];rfl,h4 i x hx⟩
theorem bools_at {N k:Nat}{g:Nat→Bool}(h:k<N):(bools (rowF N g))[k]?=some (Bo (g k)):=by
 rw[bools_get,rowF_get h];rfl
def stF (g:Nat→Nat→Bool)(i k:Nat):Nat→Nat→Bool:=fun i' k'=>if i'<i∨(i'=i∧k'<k) then g i' k' else false
theorem stF_upd {N:Nat}{g:Nat→Nat→Bool}{i k:Nat}:mkR N (updF (stF g i k) i k (g i k))=mkR N (stF g i (k+1)):=mkR_congr fun i' k' _ _=>by
 unfold updF stF
 by_cases h1:i'=i
 ·subst h1
  by_cases h2:k'=k
  ·subst h2;rw[if_pos ⟨rfl,rfl⟩,if_pos (.inr ⟨rfl,by omega⟩)]
  ·rw[if_neg (fun h=>h2 h.2)]
   by_cases h3:k'<k
   ·rw[if_pos (.inr ⟨rfl,h3⟩),if_pos (.inr ⟨rfl,by omega⟩)]
   ·rw[if_neg (by omega),if_neg (by omega)]
 ·rw[if_neg (fun h=>h1 h.1)]
  by_cases h3:i'<i
  ·rw[if_pos (.inl h3),if_pos (.inl h3)]
  ·rw[if_neg (by omega),if_neg (by omega)]
theorem stF_next {N:Nat}{g:Nat→Nat→Bool}{i:Nat}:mkR N (stF g i N)=mkR N (stF g (i+1) 0):=mkR_congr fun i' k' _ hk=>by
 unfold stF
 by_cases h:i'<i+1
 ·rw[if_pos (by omega),if_pos (.inl h)]
 ·rw[if_neg (by omega),if_neg (by omega)]
theorem stF_all {N:Nat}{g:Nat→Nat→Bool}:mkR N (stF g N 0)=mkR N g:=mkR_congr fun i' k' hi _=>by
 unfold stF;rw[if_pos (.inl hi)]
theorem stF_zero {N:Nat}{g:Nat→Nat→Bool}:mkR N (stF g 0 0)=mkR N (slF false):=mkR_congr fun i' k' _ _=>by
 unfold stF slF;rw[if_neg (by omega),Bool.and_false]
def ei55:AC:=(.regD [0,1,5,6,7] 0 [ kM 23 5,kM 24 6,kI 25 1 23 24,kL 26 25,kM 27 7,kM 28 0,kM 29 6,kI 30 1 28 29,kL 31 30,kM 32 7,kI 33 1 31 32,kL 34 33,kM 35 34,zM 36 35 1,zM 37 35 6,zI 38 35 1 36 37,zL 39 35 38,zM 40 35 7,zI 41 35 1 39 40,zL 42 35 41,kO 43 35 42,kI 44 1 26 27,kn (.st none 1 (ux 44) (ux 43))])
theorem e551:t55L1= .seq (.seq (.regN [0,1,5,6,7] [kM 17 7,kM 18 0,kN 19 18,kT 20 17 19]) (.cond (ux 20) .skip (.exit 2))) (.seq (.block 3 ei55) (.regN [0,1,5,6,7] [kM 21 7,kU 22 21,kM 7 22])):=rfl
section
variable {C:Orc}{Q:Ex→Kt}{E:Env}{lk lim i k N ba bb:Nat}{H:Heap}{fa fb f:Nat→Nat→Bool}
abbrev eT (N ba bb L i k:Nat):Env:=[(0,.hs ba N 0 N 1),(1,.hs bb N 0 N 1),(5,.hs (L+1) N 0 N 1),(6,I i),(7,I k)]
set_option maxRecDepth 20000 in
theorem ei55_ok (ha:TabH H (.hs ba N 0 N 1) N fa)(hb:TabH H (.hs bb N 0 N 1) N fb)(hi:i<N)(hk:k<N)(hlk:lk≤H.length)(hlim:lim≤H.length)
  (hE:restrict [0,1,5,6,7] E=eT N ba bb H.length i k)
  (hQ:∀E',restrict [0,1,5,6,7] E'=eT N ba bb H.length i k→Q .nrm E' (memT H N (mkR N (updF f i k (fa i k||fb i k))))):
  WB ⟨C,lk,lim,[]⟩ ei55 Q E (memT H N (mkR N f)):=by
 obtain⟨ca,xa,a1,a2,a3,a4⟩:=(ha.mono (ext_memT (N:=N) (rs:=mkR N f))).row hi
 obtain⟨cb,xb,b1,b2,b3,b4⟩:=(hb.mono (ext_memT (N:=N) (rs:=mkR N f))).row hi
 have hne:mkR N f≠[]:=mkR_ne (by omega)
 have hg:=memT_out (H:=H) (N:=N) hne
 have hrw:=memT_row (H:=H) (N:=N) (mkR_get (f:=f) hi)
 have hst:=memT_set (H:=H) (N:=N) (rs:=mkR N f) (j:=i) (r:=(rowF N (f i)).set k (fa i k||fb i k)) (by rw[mkR_len];exact hi)
 rw[mkR_set hi]at hst
 rw[←hst]at hQ
 rw[mkR_len]at hg
 have hrl:=refT_len (L:=H.length) (N:=N) (m:=N)
 have hrg:=get_some (refT_get (L:=H.length) (N:=N) hi) (by rw[refT_len];exact hi)
 have a3':=get_some a3 (by omega)
 have b3':=get_some b3 (by omega)
 have hbl:∀g,(bools (rowF N g)).length=N:=fun g=>by rw[bools_len,rowF_len]
 have hrep:∀v,replaceAt (bools (rowF N (f i))) k [Bo v]=bools ((rowF N (f i)).set k v):=fun v=>by
  rw[replaceAt_one _ (by rw[hbl];exact hk),bools_set]
 have hrb:lk≤rb H.length i∧lim≤rb H.length i:=by unfold rb;split<;>omega
 have hi1:i+1≤N:=hi
 have hk1:k+1≤N:=hk
 have la:=hbl (fa i)
 have lb:=hbl (fb i)
 have lf:=hbl (f i)
 generalize memT H N (mkR N f)=Z at a1 a4 b1 b4 hg hrw hQ ⊢
 obtain⟨ra,hra⟩:∃ra,bools (rowF N (fa i))=ra:=⟨_,rfl⟩
 obtain⟨rb',hrb'⟩:∃ra,bools (rowF N (fb i))=ra:=⟨_,rfl⟩
 have a5:∀h:k<ra.length,ra[k]'h=Bo (fa i k):=fun h=>by
  subst hra;exact get_some (bools_at hk) h
 have b5:∀h:k<rb'.length,rb'[k]'h=Bo (fb i k):=fun h=>by
  subst hrb';exact get_some (bools_at hk) h
 rw[hra]at a4 la
 rw[hrb']at b4 lb
 have a5:=a5 (by omega)
 have b5:=b5 (by omega)
 clear hra hrb'
 obtain⟨rf,hrf⟩:∃ra,bools (rowF N (f i))=ra:=⟨_,rfl⟩
 rw[hrf]at hrw hrep lf
 clear hrf
 generalize fa i k=va at a5 hQ
 generalize fb i k=vb at b5 hQ
 unfold ei55
 rw[wb_regD rfl,hE]
 cases va
 ·iterate 22 (rw[wrd_cons];simp[-wrd_cons,-wrd_nil,hi,hk,hi1,hk1,a1,a2,a3',a4,a5,b1,b2,b3',b4,b5,la,lb,lf,hg,hrl,hrg,hrw,setH,hrb.1,hrb.2,hrep])
  simp[hk1,setH,hrb.1,hrb.2,hrep,hrw,lf]
  exact hQ _ rfl
 ·iterate 22 (rw[wrd_cons];simp[-wrd_cons,-wrd_nil,hi,hk,hi1,hk1,a1,a2,a3',a4,a5,b1,b2,b3',b4,b5,la,lb,lf,hg,hrl,hrg,hrw,setH,hrb.1,hrb.2,hrep])
  simp[hk1,setH,hrb.1,hrb.2,hrep,hrw,lf]
  exact hQ _ rfl
set_option maxRecDepth 20000 in
theorem ein55 (ha:TabH H (.hs ba N 0 N 1) N fa)(hb:TabH H (.hs bb N 0 N 1) N fb)(hi:i<N)(hN:N≤1000000)(hlk:lk≤H.length)(hlim:lim≤H.length)
  (hE:restrict [0,1,5,6,7] E=eT N ba bb H.length i 0)
  (hQ:∀E',restrict [0,1,5,6] E'=[(0,.hs ba N 0 N 1),(1,.hs bb N 0 N 1),(5,.hs (H.length+1) N 0 N 1),(6,I i)]→Q .nrm E' (memT H N (mkR N (stF (fun i k=>fa i k||fb i k) (i+1) 0)))):
  WB ⟨C,lk,lim,[]⟩ (.block 2 (.loop [0,1,5,6,7] t55L1)) Q E (memT H N (mkR N (stF (fun i k=>fa i k||fb i k) i 0))):=by
 refine wb_loop (σ:=Nat) (fun k=>eT N ba bb H.length i k) (fun k=>memT H N (mkR N (stF (fun i k=>fa i k||fb i k) i k))) (fun k=>k≤N) (fun k=>N-k) ?_ 0 (Nat.zero_le _) hE rfl
 intro k hk0
 rw[e551]
 generalize hR:Rnd _ _ _ _ _ _ _=R
 by_cases hk:k<N
 case neg=>
  obtain rfl:k=N:=by omega
  have hx:∀env,restrict [0,1,5,6] env=[(0,.hs ba k 0 k 1),(1,.hs bb k 0 k 1),(5,.hs (H.length+1) k 0 k 1),(6,I i)]→R (.exit 2) env (memT H k (mkR k (stF (fun i k=>fa i k||fb i k) i k))):=fun env h=>by
   rw[←hR]
   rw[←stF_next]at hQ
   exact hQ env h
  generalize memT H k (mkR k (stF (fun i k=>fa i k||fb i k) i k))=Z at hx ⊢
  generalize ei55=F
  simp
  exact hx _ rfl
 have w:IntKind.i64.wrap ((k:Int)+1)=(k:Int)+1:=wrap64 (by omega) (by omega)
 have next:∀env,restrict [0,1,5,6,7] env=eT N ba bb H.length i (k+1)→R .nrm env (memT H N (mkR N (stF (fun i k=>fa i k||fb i k) i (k+1)))):=fun env h=>by
  rw[←hR,rnd_nrm]
  exact⟨k+1,hk,by omega,h,rfl⟩
 have hbd:∀E,restrict [0,1,5,6,7] E=eT N ba bb H.length i k→WB ⟨C,lk,lim,[]⟩ (.block 3 ei55) (Fol ⟨C,lk,lim,[]⟩ (.regN [0,1,5,6,7] [kM 21 7,kU 22 21,kM 7 22]) R) E (memT H N (mkR N (stF (fun i k=>fa i k||fb i k) i k))):=fun E hE=>by
  rw[wb_block]
  refine ei55_ok ha hb hi hk hlk hlim hE fun E' hE'=>?_
  have e:=stF_upd (N:=N) (g:=fun i k=>fa i k||fb i k) (i:=i) (k:=k)
  have e:mkR N (updF (stF (fun i k=>fa i k||fb i k) i k) i k (fa i k||fb i k))=_:=e
  rw[e]
  generalize memT H N (mkR N (stF (fun i k=>fa i k||fb i k) i (k+1)))=Z at next ⊢
  rw[blk_nrm,fol_nrm,wb_regN,hE']
  simp[w]
  refine next _ ?_
  rfl
 generalize (.block 3 ei55:AC)=F at hbd ⊢
 generalize memT H N (mkR N (stF (fun i k=>fa i k||fb i k) i k))=Z at hbd ⊢
 simp[hk]
 refine hbd _ ?_
 rfl
set_option maxRecDepth 20000 in
theorem either55 (ha:TabH H (.hs ba N 0 N 1) N fa)(hb:TabH H (.hs bb N 0 N 1) N fb)(h1:1≤N)(hN:N≤1000000)(hlk:lk≤H.length)(hlim:lim≤H.length):
  callW X A lk lim 55 [.hs ba N 0 N 1,.hs bb N 0 N 1] H=some (.hs (H.length+1) N 0 N 1,memT H N (mkR N fun i k=>fa i k||fb i k)):=by
 have hX:X lk lim 55 [.hs ba N 0 N 1,.hs bb N 0 N 1] H=none:=noX1 (by decide) (by decide) (by decide)
 refine wb_callB [] hX A55 rfl rfl ?_
 show WB ⟨callW X A,lk,lim,[]⟩ t55B _ _ _
 have h53:callW X A lk lim 53 [I N,Bo false] H=_:=places53 (sf:=false) h1 hN hlk hlim
 rw[←stF_zero (g:=fun i k=>fa i k||fb i k)]at h53
 generalize callW X A=C at h53 ⊢
 generalize hP:FinT [.tmp 4] false H (.hs (H.length+1) N 0 N 1,memT H N (mkR N fun i k=>fa i k||fb i k))=P
 have fin:∀env,find env 4= .hs (H.length+1) N 0 N 1→P .ret env (memT H N (mkR N fun i k=>fa i k||fb i k)):=fun env h=>by
  rw[←hP]
  simp[FinT,finish,resOf,resList,resOne,h]
 clear hP
 have hloop:∀env,restrict [0,1,5,6] env=[(0,.hs ba N 0 N 1),(1,.hs bb N 0 N 1),(5,.hs (H.length+1) N 0 N 1),(6,I 0)]→WB ⟨C,lk,lim,[]⟩ (.block 0 (.loop [0,1,5,6] t55L2)) (Fol ⟨C,lk,lim,[]⟩ (.seq (.regN [5] [kM 45 5,kM 4 45]) .ret) P) env (memT H N (mkR N (stF (fun i k=>fa i k||fb i k) 0 0))):=by
  intro env hE
  refine wb_loop (σ:=Nat) (fun i=>[(0,.hs ba N 0 N 1),(1,.hs bb N 0 N 1),(5,.hs (H.length+1) N 0 N 1),(6,I i)]) (fun i=>memT H N (mkR N (stF (fun i k=>fa i k||fb i k) i 0))) (fun i=>i≤N) (fun i=>N-i) ?_ 0 (Nat.zero_le _) hE rfl
  intro i hi
  unfold t55L2
  generalize hR:Rnd _ _ _ _ _ _ _=R
  by_cases hk:i<N
  case neg=>
   obtain rfl:i=N:=by omega
   have hx:∀env,restrict [5] env=[(5,.hs (H.length+1) i 0 i 1)]→R (.exit 0) env (memT H i (mkR i (stF (fun i k=>fa i k||fb i k) i 0))):=fun env hE=>by
    rw[←hR,stF_all]
    show WB ⟨C,lk,lim,[]⟩ (.seq (.regN [5] [kM 45 5,kM 4 45]) .ret) P env (memT H i (mkR i fun i k=>fa i k||fb i k))
    generalize memT H i (mkR i fun i k=>fa i k||fb i k)=Z at fin ⊢
    rw[wb_seq,wb_regN,hE]
    simp
    exact fin _ rfl
   generalize memT H i (mkR i (stF (fun i k=>fa i k||fb i k) i 0))=Z at hx ⊢
   generalize (.block 2 (.loop [0,1,5,6,7] t55L1):AC)=LL
   simp
   exact hx _ rfl
  have w:IntKind.i64.wrap ((i:Int)+1)=(i:Int)+1:=wrap64 (by omega) (by omega)
  have next:∀env,restrict [0,1,5,6] env=[(0,.hs ba N 0 N 1),(1,.hs bb N 0 N 1),(5,.hs (H.length+1) N 0 N 1),(6,I ((i+1:Nat):Int))]→R .nrm env (memT H N (mkR N (stF (fun i k=>fa i k||fb i k) (i+1) 0))):=fun env h=>by
   rw[←hR,rnd_nrm]
   exact⟨i+1,hk,by omega,h,rfl⟩
  have hbd:∀E,restrict [0,1,5,6,7] E=eT N ba bb H.length i 0→WB ⟨C,lk,lim,[]⟩ (.block 2 (.loop [0,1,5,6,7] t55L1)) (BlkE 1 (Fol ⟨C,lk,lim,[]⟩ (.regN [0,1,5,6] [kM 15 6,kU 16 15,kM 6 16]) R)) E (memT H N (mkR N (stF (fun i k=>fa i k||fb i k) i 0))):=fun E hE=>
   ein55 ha hb hk hN hlk hlim hE fun E' hE'=>by
    generalize memT H N (mkR N (stF (fun i k=>fa i k||fb i k) (i+1) 0))=Z at next ⊢
    rw[blk_nrm,fol_nrm,wb_regN,hE']
    simp[w]
    exact next _ rfl
  generalize (.block 2 (.loop [0,1,5,6,7] t55L1):AC)=LL at hbd ⊢
  generalize memT H N (mkR N (stF (fun i k=>fa i k||fb i k) i 0))=Z at hbd ⊢
  simp[hk]
  refine hbd _ ?_
  rfl
 unfold t55B
 generalize (.block 0 (.loop [0,1,5,6] t55L2):AC)=LL at hloop ⊢
 generalize memT H N (mkR N (stF (fun i k=>fa i k||fb i k) 0 0))=Z at h53 hloop ⊢
 simp[h53]
 exact hloop _ rfl
end
end Go.Proofs.Ytnhennjliinplaa

namespace Go.Proofs.Ytnhennjliinplaa
open Go Go.Hm
def thF (a b:Nat→Nat→Bool)(K i n:Nat):Bool:=(List.range K).any fun k=>a i k&&b k n
theorem thF_succ {a b:Nat→Nat→Bool}{K i n:Nat}:thF a b (K+1) i n=(thF a b K i n||(a i K&&b K n)):=by
 unfold thF
 rw[List.range_succ,List.any_append];simp
def thS (a b:Nat→Nat→Bool)(N i k n:Nat):Nat→Nat→Bool:=fun i' n'=>if i'<i then thF a b N i' n' else if i'=i then (if n'<n then thF a b (k+1) i n' else thF a b k i n') else false
section
variable {a b:Nat→Nat→Bool}{N i k n:Nat}
theorem thS_upd (h:a i k=true):mkR N (updF (thS a b N i k n) i n (thS a b N i k n i n||b k n))=mkR N (thS a b N i k (n+1)):=mkR_congr fun i' n' _ _=>by
 unfold updF thS
 by_cases h1:i'=i
 ·subst h1
  by_cases h2:n'=n
  ·subst h2
   rw[if_pos ⟨rfl,rfl⟩,if_neg (Nat.lt_irrefl _),if_pos rfl,if_neg (Nat.lt_irrefl _),if_neg (Nat.lt_irrefl _),if_pos rfl,if_pos (Nat.lt_succ_self _),thF_succ,h,Bool.true_and]
  ·rw[if_neg (fun h=>h2 h.2),if_neg (Nat.lt_irrefl _),if_pos rfl,if_neg (Nat.lt_irrefl _),if_pos rfl]
   by_cases h3:n'<n
   ·rw[if_pos h3,if_pos (by omega)]
   ·rw[if_neg h3,if_neg (by omega)]
 ·rw[if_neg (fun h=>h1 h.1)]
  by_cases h3:i'<i
  ·rw[if_pos h3,if_pos h3]
  ·rw[if_neg h3,if_neg h3,if_neg h1,if_neg h1]
theorem thS_full:mkR N (thS a b N i k N)=mkR N (thS a b N i (k+1) 0):=mkR_congr fun i' n' _ hn=>by
 unfold thS
 by_cases h3:i'<i
 ·rw[if_pos h3,if_pos h3]
 ·rw[if_neg h3,if_neg h3]
  by_cases h1:i'=i
  ·rw[if_pos h1,if_pos h1,if_pos hn,if_neg (Nat.not_lt_zero _)]
  ·rw[if_neg h1,if_neg h1]
theorem thS_skip (h:a i k=false):mkR N (thS a b N i k 0)=mkR N (thS a b N i (k+1) 0):=mkR_congr fun i' n' _ hn=>by
 unfold thS
 by_cases h3:i'<i
 ·rw[if_pos h3,if_pos h3]
 ·rw[if_neg h3,if_neg h3]
  by_cases h1:i'=i
  ·rw[if_pos h1,if_pos h1,if_neg (Nat.not_lt_zero _),if_neg (Nat.not_lt_zero _),thF_succ,h,Bool.false_and,Bool.or_false]
  ·rw[if_neg h1,if_neg h1]
theorem thS_next:mkR N (thS a b N i N 0)=mkR N (thS a b N (i+1) 0 0):=mkR_congr fun i' n' _ hn=>by
 unfold thS
 by_cases h3:i'<i
 ·rw[if_pos h3,if_pos (by omega)]
 ·rw[if_neg h3]
  by_cases h1:i'=i
  ·subst h1
   rw[if_pos rfl,if_neg (Nat.not_lt_zero _),if_pos (Nat.lt_succ_self _)]
  ·rw[if_neg h1,if_neg (by omega)]
   by_cases h2:i'=i+1
   ·rw[if_pos h2,if_neg (Nat.not_lt_zero _)];rfl
   ·rw[if_neg h2]
theorem thS_zero:mkR N (thS a b N 0 0 0)=mkR N (slF false):=mkR_congr fun i' n' _ _=>by
 unfold thS slF
 rw[if_neg (Nat.not_lt_zero _),Bool.and_false]
 split
 ·rw[if_neg (Nat.not_lt_zero _)];rfl
 ·rfl
theorem thS_all:mkR N (thS a b N N 0 0)=mkR N (thF a b N):=mkR_congr fun i' n' hi _=>by
 unfold thS;rw[if_pos hi]
end
def th54:AC:=(.regD [0,1,5,6,7,8] 0 [ kM 39 5,kM 40 6,kI 41 1 39 40,kL 42 41,kM 43 8,kM 44 5,kM 45 6,kI 46 1 44 45,kL 47 46,kM 48 8,kI 49 1 47 48,kL 50 49,kM 51 50,zM 52 51 1,zM 53 51 7,zI 54 51 1 52 53,zL 55 51 54,zM 56 51 8,zI 57 51 1 55 56,zL 58 51 57,kO 59 51 58,kI 60 1 42 43,kn (.st none 1 (ux 60) (ux 59))])
def tc54:AC:=(.regN [0,1,5,6,7,8] [ kM 24 8,kM 25 0,kN 26 25,kT 27 24 26,kM 28 27,yM 29 28 0,yM 30 28 6,yI 31 28 1 29 30,yL 32 28 31,yM 33 28 7,yI 34 28 1 32 33,yL 35 28 34,kx 36 (.pick (ux 28) (ux 35) cF)])
theorem e541:t54L1= .seq (.seq tc54 (.cond (ux 36) .skip (.exit 4))) (.seq (.block 5 th54) (.regN [0,1,5,6,7,8] [kM 37 8,kU 38 37,kM 8 38])):=rfl
section
variable {C:Orc}{Q:Ex→Kt}{E:Env}{lk lim i k n N ba bb:Nat}{H Z:Heap}{fa fb f:Nat→Nat→Bool}
abbrev eH (N ba bb L i k n:Nat):Env:=[(0,.hs ba N 0 N 1),(1,.hs bb N 0 N 1),(5,.hs (L+1) N 0 N 1),(6,I i),(7,I k),(8,I n)]
set_option maxRecDepth 20000 in
theorem tc54_ok (ha:TabH Z (.hs ba N 0 N 1) N fa)(hi:i<N)(hk:k<N)(hn:n≤N){L:Nat}
  (hE:restrict [0,1,5,6,7,8] E=eH N ba bb L i k n)
  (hQ:∀E',find E' 36=Bo (decide (n<N)&&fa i k)→restrict [0,1,5,6,7,8] E'=eH N ba bb L i k n→Q .nrm E' Z):
  WB ⟨C,lk,lim,[]⟩ tc54 Q E Z:=by
 obtain⟨ca,xa,a1,a2,a3,a4⟩:=ha.row hi
 have a3':=get_some a3 (by omega)
 have la:(bools (rowF N (fa i))).length=N:=by rw[bools_len,rowF_len]
 obtain⟨ra,hra⟩:∃ra,bools (rowF N (fa i))=ra:=⟨_,rfl⟩
 have a5:∀h:k<ra.length,ra[k]'h=Bo (fa i k):=fun h=>by
  subst hra;exact get_some (bools_at hk) h
 rw[hra]at a4 la
 have a5:=a5 (by omega)
 clear hra
 have hi1:i+1≤N:=hi
 have hk1:k+1≤N:=hk
 generalize fa i k=va at a5 hQ
 unfold tc54
 rw[wb_regN,hE]
 by_cases h:n<N
 ·rw[decide_eq_true h,Bool.true_and]at hQ
  have h2:(n:Int)<(N:Int):=by omega
  simp[h,hi,hk,hi1,hk1,a1,a2,a3',a4,a5,la]
  refine hQ _ ?_ ?_<;>rfl
 ·rw[decide_eq_false h,Bool.false_and]at hQ
  have h2:¬(n:Int)<(N:Int):=by omega
  simp[h]
  refine hQ _ ?_ ?_<;>rfl
set_option maxRecDepth 20000 in
theorem th54_ok (hb:TabH H (.hs bb N 0 N 1) N fb)(hi:i<N)(hk:k<N)(hn:n<N)(hlk:lk≤H.length)(hlim:lim≤H.length)
  (hE:restrict [0,1,5,6,7,8] E=eH N ba bb H.length i k n)
  (hQ:∀E',restrict [0,1,5,6,7,8] E'=eH N ba bb H.length i k n→Q .nrm E' (memT H N (mkR N (updF f i n (f i n||fb k n))))):
  WB ⟨C,lk,lim,[]⟩ th54 Q E (memT H N (mkR N f)):=by
 obtain⟨cb,xb,b1,b2,b3,b4⟩:=(hb.mono (ext_memT (N:=N) (rs:=mkR N f))).row hk
 have hne:mkR N f≠[]:=mkR_ne (by omega)
 have hg:=memT_out (H:=H) (N:=N) hne
 have hrw:=memT_row (H:=H) (N:=N) (mkR_get (f:=f) hi)
 have hst:=memT_set (H:=H) (N:=N) (rs:=mkR N f) (j:=i) (r:=(rowF N (f i)).set n (f i n||fb k n)) (by rw[mkR_len];exact hi)
 rw[mkR_set hi]at hst
 rw[←hst]at hQ
 rw[mkR_len]at hg
 have hrl:=refT_len (L:=H.length) (N:=N) (m:=N)
 have hrg:=get_some (refT_get (L:=H.length) (N:=N) hi) (by rw[refT_len];exact hi)
 have b3':=get_some b3 (by omega)
 have hbl:∀g,(bools (rowF N g)).length=N:=fun g=>by rw[bools_len,rowF_len]
 have hrep:∀v,replaceAt (bools (rowF N (f i))) n [Bo v]=bools ((rowF N (f i)).set n v):=fun v=>by
  rw[replaceAt_one _ (by rw[hbl];exact hn),bools_set]
 have hrb:lk≤rb H.length i∧lim≤rb H.length i:=by unfold rb;split<;>omega
 have hi1:i+1≤N:=hi
 have hk1:k+1≤N:=hk
 have hn1:n+1≤N:=hn
 have lb:=hbl (fb k)
 have lf:=hbl (f i)
 generalize memT H N (mkR N f)=Z at b1 b4 hg hrw hQ ⊢
 obtain⟨rb',hrb'⟩:∃ra,bools (rowF N (fb k))=ra:=⟨_,rfl⟩
 have b5:∀h:n<rb'.length,rb'[n]'h=Bo (fb k n):=fun h=>by
  subst hrb';exact get_some (bools_at hn) h
 rw[hrb']at b4 lb
 have b5:=b5 (by omega)
 clear hrb'
 obtain⟨rf,hrf⟩:∃ra,bools (rowF N (f i))=ra:=⟨_,rfl⟩
 have f5:∀h:n<rf.length,rf[n]'h=Bo (f i n):=fun h=>by
  subst hrf;exact get_some (bools_at hn) h
 rw[hrf]at hrw hrep lf
 have f5:=f5 (by omega)
 clear hrf
 generalize fb k n=vb at b5 hQ
 obtain⟨vf,hvf⟩:∃v,f i n=v:=⟨_,rfl⟩
 rw[hvf]at f5 hQ
 clear hvf
 unfold th54
 rw[wb_regD rfl,hE]
 cases vf
 ·iterate 22 (rw[wrd_cons];simp[-wrd_cons,-wrd_nil,hi,hk,hn,hi1,hk1,hn1,b1,b2,b3',b4,b5,f5,lb,lf,hg,hrl,hrg,hrw,setH,hrb.1,hrb.2,hrep])
  simp[hn1,setH,hrb.1,hrb.2,hrep,hrw,lf]
  exact hQ _ rfl
 ·iterate 22 (rw[wrd_cons];simp[-wrd_cons,-wrd_nil,hi,hk,hn,hi1,hk1,hn1,b1,b2,b3',b4,b5,f5,lb,lf,hg,hrl,hrg,hrw,setH,hrb.1,hrb.2,hrep])
  simp[hn1,setH,hrb.1,hrb.2,hrep,hrw,lf]
  exact hQ _ rfl
set_option maxRecDepth 20000 in
theorem thin54 (ha:TabH H (.hs ba N 0 N 1) N fa)(hb:TabH H (.hs bb N 0 N 1) N fb)(hi:i<N)(hk:k<N)(hN:N≤1000000)(hlk:lk≤H.length)(hlim:lim≤H.length)
  (hE:restrict [0,1,5,6,7,8] E=eH N ba bb H.length i k 0)
  (hQ:∀E',restrict [0,1,5,6,7] E'=eT N ba bb H.length i k→Q .nrm E' (memT H N (mkR N (thS fa fb N i (k+1) 0)))):
  WB ⟨C,lk,lim,[]⟩ (.block 4 (.loop [0,1,5,6,7,8] t54L1)) Q E (memT H N (mkR N (thS fa fb N i k 0))):=by
 refine wb_loop (σ:=Nat) (fun n=>eH N ba bb H.length i k n) (fun n=>memT H N (mkR N (thS fa fb N i k n))) (fun n=>n≤N∧(n=0∨fa i k=true)) (fun n=>N-n) ?_ 0 ⟨Nat.zero_le _,.inl rfl⟩ hE rfl
 rintro n ⟨hn0,hn1⟩
 rw[e541]
 generalize hR:Rnd _ _ _ _ _ _ _=R
 rw[wb_seq,wb_seq]
 refine tc54_ok (ha.mono ext_memT) hi hk hn0 rfl fun E1 h36 hE1=>?_
 rw[fol_nrm]
 have h7:restrict [0,1,5,6,7] E1=eT N ba bb H.length i k:=by
  have e:∀t∈[0,1,5,6,7],find E1 t=find (restrict [0,1,5,6,7,8] E1) t:=fun t ht=>by
   simp at ht
   rcases ht with rfl | rfl | rfl | rfl | rfl<;>rfl
  simp only[restrict,List.map_cons,List.map_nil]
  rw[e 0 (by simp),e 1 (by simp),e 5 (by simp),e 6 (by simp),e 7 (by simp),hE1]
  rfl
 by_cases hc:n<N∧fa i k=true
 ·rw[decide_eq_true hc.1,hc.2]at h36
  rw[wb_true (ev_bo h36),wb_skip,fol_nrm,wb_seq,wb_block]
  refine th54_ok hb hi hk hc.1 hlk hlim hE1 fun E2 hE2=>?_
  rw[thS_upd hc.2]
  have next:∀env,restrict [0,1,5,6,7,8] env=eH N ba bb H.length i k (n+1)→R .nrm env (memT H N (mkR N (thS fa fb N i k (n+1)))):=fun env h=>by
   rw[←hR,rnd_nrm]
   exact⟨n+1,⟨hc.1,.inr hc.2⟩,by omega,h,rfl⟩
  have w:IntKind.i64.wrap ((n:Int)+1)=(n:Int)+1:=wrap64 (by omega) (by omega)
  generalize memT H N (mkR N (thS fa fb N i k (n+1)))=Z at next ⊢
  rw[blk_nrm,fol_nrm,wb_regN,hE2]
  simp[w]
  refine next _ ?_
  rfl
 ·have hcf:(decide (n<N)&&fa i k)=false:=by
   by_cases h1:n<N
   ·have h2:fa i k=false:=by
     cases h:fa i k
     ·rfl
     ·exact absurd ⟨h1,h⟩ hc
    rw[h2,Bool.and_false]
   ·rw[decide_eq_false h1];rfl
  rw[hcf]at h36
  rw[wb_false (ev_bo h36),wb_exit,fol_exit,←hR]
  have hfin:mkR N (thS fa fb N i k n)=mkR N (thS fa fb N i (k+1) 0):=by
   by_cases h2:fa i k=true
   ·have:n=N:=by
     by_cases h1:n<N
     ·exact absurd ⟨h1,h2⟩ hc
     ·omega
    rw[this];exact thS_full
   ·have h0:n=0:=hn1.resolve_right h2
    subst h0
    exact thS_skip (by simpa using h2)
  rw[hfin]
  exact hQ E1 h7
set_option maxRecDepth 20000 in
theorem thmid54 (ha:TabH H (.hs ba N 0 N 1) N fa)(hb:TabH H (.hs bb N 0 N 1) N fb)(hi:i<N)(hN:N≤1000000)(hlk:lk≤H.length)(hlim:lim≤H.length)
  (hE:restrict [0,1,5,6,7] E=eT N ba bb H.length i 0)
  (hQ:∀E',restrict [0,1,5,6] E'=[(0,.hs ba N 0 N 1),(1,.hs bb N 0 N 1),(5,.hs (H.length+1) N 0 N 1),(6,I i)]→Q .nrm E' (memT H N (mkR N (thS fa fb N (i+1) 0 0)))):
  WB ⟨C,lk,lim,[]⟩ (.block 2 (.loop [0,1,5,6,7] t54L2)) Q E (memT H N (mkR N (thS fa fb N i 0 0))):=by
 refine wb_loop (σ:=Nat) (fun k=>eT N ba bb H.length i k) (fun k=>memT H N (mkR N (thS fa fb N i k 0))) (fun k=>k≤N) (fun k=>N-k) ?_ 0 (Nat.zero_le _) hE rfl
 intro k hk0
 unfold t54L2
 generalize hR:Rnd _ _ _ _ _ _ _=R
 by_cases hk:k<N
 case neg=>
  obtain rfl:k=N:=by omega
  have hx:∀env,restrict [0,1,5,6] env=[(0,.hs ba k 0 k 1),(1,.hs bb k 0 k 1),(5,.hs (H.length+1) k 0 k 1),(6,I i)]→R (.exit 2) env (memT H k (mkR k (thS fa fb k i k 0))):=fun env h=>by
   rw[←hR]
   rw[←thS_next]at hQ
   exact hQ env h
  generalize memT H k (mkR k (thS fa fb k i k 0))=Z at hx ⊢
  generalize (.block 4 (.loop [0,1,5,6,7,8] t54L1):AC)=F
  simp
  exact hx _ rfl
 have w:IntKind.i64.wrap ((k:Int)+1)=(k:Int)+1:=wrap64 (by omega) (by omega)
 have next:∀env,restrict [0,1,5,6,7] env=eT N ba bb H.length i (k+1)→R .nrm env (memT H N (mkR N (thS fa fb N i (k+1) 0))):=fun env h=>by
  rw[←hR,rnd_nrm]
  exact⟨k+1,hk,by omega,h,rfl⟩
 have hbd:∀E,restrict [0,1,5,6,7,8] E=eH N ba bb H.length i k 0→WB ⟨C,lk,lim,[]⟩ (.block 4 (.loop [0,1,5,6,7,8] t54L1)) (BlkE 3 (Fol ⟨C,lk,lim,[]⟩ (.regN [0,1,5,6,7] [kM 22 7,kU 23 22,kM 7 23]) R)) E (memT H N (mkR N (thS fa fb N i k 0))):=fun E hE=>
  thin54 ha hb hi hk hN hlk hlim hE fun E' hE'=>by
   generalize memT H N (mkR N (thS fa fb N i (k+1) 0))=Z at next ⊢
   rw[blk_nrm,fol_nrm,wb_regN,hE']
   simp[w]
   refine next _ ?_
   rfl
 generalize (.block 4 (.loop [0,1,5,6,7,8] t54L1):AC)=F at hbd ⊢
 generalize memT H N (mkR N (thS fa fb N i k 0))=Z at hbd ⊢
 simp[hk]
 refine hbd _ ?_
 rfl
set_option maxRecDepth 20000 in
theorem then54 (ha:TabH H (.hs ba N 0 N 1) N fa)(hb:TabH H (.hs bb N 0 N 1) N fb)(h1:1≤N)(hN:N≤1000000)(hlk:lk≤H.length)(hlim:lim≤H.length):
  callW X A lk lim 54 [.hs ba N 0 N 1,.hs bb N 0 N 1] H=some (.hs (H.length+1) N 0 N 1,memT H N (mkR N (thF fa fb N))):=by
 have hX:X lk lim 54 [.hs ba N 0 N 1,.hs bb N 0 N 1] H=none:=noX1 (by decide) (by decide) (by decide)
 refine wb_callB [] hX A54 rfl rfl ?_
 show WB ⟨callW X A,lk,lim,[]⟩ t54B _ _ _
 have h53:callW X A lk lim 53 [I N,Bo false] H=_:=places53 (sf:=false) h1 hN hlk hlim
 rw[←thS_zero (a:=fa) (b:=fb)]at h53
 generalize callW X A=C at h53 ⊢
 generalize hP:FinT [.tmp 4] false H (.hs (H.length+1) N 0 N 1,memT H N (mkR N (thF fa fb N)))=P
 have fin:∀env,find env 4= .hs (H.length+1) N 0 N 1→P .ret env (memT H N (mkR N (thF fa fb N))):=fun env h=>by
  rw[←hP]
  simp[FinT,finish,resOf,resList,resOne,h]
 clear hP
 have hloop:∀env,restrict [0,1,5,6] env=[(0,.hs ba N 0 N 1),(1,.hs bb N 0 N 1),(5,.hs (H.length+1) N 0 N 1),(6,I 0)]→WB ⟨C,lk,lim,[]⟩ (.block 0 (.loop [0,1,5,6] t54L3)) (Fol ⟨C,lk,lim,[]⟩ (.seq (.regN [5] [kM 61 5,kM 4 61]) .ret) P) env (memT H N (mkR N (thS fa fb N 0 0 0))):=by
  intro env hE
  refine wb_loop (σ:=Nat) (fun i=>[(0,.hs ba N 0 N 1),(1,.hs bb N 0 N 1),(5,.hs (H.length+1) N 0 N 1),(6,I i)]) (fun i=>memT H N (mkR N (thS fa fb N i 0 0))) (fun i=>i≤N) (fun i=>N-i) ?_ 0 (Nat.zero_le _) hE rfl
  intro i hi
  unfold t54L3
  generalize hR:Rnd _ _ _ _ _ _ _=R
  by_cases hk:i<N
  case neg=>
   obtain rfl:i=N:=by omega
   have hx:∀env,restrict [5] env=[(5,.hs (H.length+1) i 0 i 1)]→R (.exit 0) env (memT H i (mkR i (thS fa fb i i 0 0))):=fun env hE=>by
    rw[←hR,thS_all]
    show WB ⟨C,lk,lim,[]⟩ (.seq (.regN [5] [kM 61 5,kM 4 61]) .ret) P env (memT H i (mkR i (thF fa fb i)))
    generalize memT H i (mkR i (thF fa fb i))=Z at fin ⊢
    rw[wb_seq,wb_regN,hE]
    simp
    exact fin _ rfl
   generalize memT H i (mkR i (thS fa fb i i 0 0))=Z at hx ⊢
   generalize (.block 2 (.loop [0,1,5,6,7] t54L2):AC)=LL
   simp
   exact hx _ rfl
  have w:IntKind.i64.wrap ((i:Int)+1)=(i:Int)+1:=wrap64 (by omega) (by omega)
  have next:∀env,restrict [0,1,5,6] env=[(0,.hs ba N 0 N 1),(1,.hs bb N 0 N 1),(5,.hs (H.length+1) N 0 N 1),(6,I ((i+1:Nat):Int))]→R .nrm env (memT H N (mkR N (thS fa fb N (i+1) 0 0))):=fun env h=>by
   rw[←hR,rnd_nrm]
   exact⟨i+1,hk,by omega,h,rfl⟩
  have hbd:∀E,restrict [0,1,5,6,7] E=eT N ba bb H.length i 0→WB ⟨C,lk,lim,[]⟩ (.block 2 (.loop [0,1,5,6,7] t54L2)) (BlkE 1 (Fol ⟨C,lk,lim,[]⟩ (.regN [0,1,5,6] [kM 16 6,kU 17 16,kM 6 17]) R)) E (memT H N (mkR N (thS fa fb N i 0 0))):=fun E hE=>
   thmid54 ha hb hk hN hlk hlim hE fun E' hE'=>by
    generalize memT H N (mkR N (thS fa fb N (i+1) 0 0))=Z at next ⊢
    rw[blk_nrm,fol_nrm,wb_regN,hE']
    simp[w]
    exact next _ rfl
  generalize (.block 2 (.loop [0,1,5,6,7] t54L2):AC)=LL at hbd ⊢
  generalize memT H N (mkR N (thS fa fb N i 0 0))=Z at hbd ⊢
  simp[hk]
  refine hbd _ ?_
  rfl
 unfold t54B
 generalize (.block 0 (.loop [0,1,5,6] t54L3):AC)=LL at hloop ⊢
 generalize memT H N (mkR N (thS fa fb N 0 0 0))=Z at h53 hloop ⊢
 simp[h53]
 exact hloop _ rfl
end
end Go.Proofs.Ytnhennjliinplaa

namespace Go.Proofs.Ytnhennjliinplaa
open Go Go.Hm
def recU (k i:Nat)(f:Nat→Nat→Bool):Nat→Nat→Nat→Bool
 | 0=>f
 | n+1=>updF (recU k i f n) i n (recU k i f n i n||recU k i f n k n)
def upI (N k i:Nat)(f:Nat→Nat→Bool):Nat→Nat→Bool:=if f i k=true then recU k i f N else f
def agR (N k:Nat)(f:Nat→Nat→Bool):Nat→Nat→Nat→Bool
 | 0=>f
 | i+1=>upI N k i (agR N k f i)
def agM (N:Nat)(f:Nat→Nat→Bool):Nat→Nat→Nat→Bool
 | 0=>f
 | k+1=>agR N k (agM N f k) N
theorem recU_ik {k i:Nat}{f:Nat→Nat→Bool}(h:f i k=true):∀n,recU k i f n i k=true
 | 0=>h
 | n+1=>by
  have ih:=recU_ik h n
  simp only[recU,updF]
  split
  ·rename_i h2
   obtain⟨_,rfl⟩:=h2
   rw[ih];rfl
  ·exact ih
def ag56:AC:=(.regD [0,3,4,5,6] 0 [ kM 37 3,kM 38 5,kI 39 1 37 38,kL 40 39,kM 41 6,kM 42 3,kM 43 5,kI 44 1 42 43,kL 45 44,kM 46 6,kI 47 1 45 46,kL 48 47,kM 49 48,zM 50 49 3,zM 51 49 4,zI 52 49 1 50 51,zL 53 49 52,zM 54 49 6,zI 55 49 1 53 54,zL 56 49 55,kO 57 49 56,kI 58 1 40 41,kn (.st none 1 (ux 58) (ux 57))])
def gc56:AC:=(.regN [0,3,4,5,6] [ kM 22 6,kM 23 0,kN 24 23,kT 25 22 24,kM 26 25,yM 27 26 3,yM 28 26 5,yI 29 26 1 27 28,yL 30 26 29,yM 31 26 4,yI 32 26 1 30 31,yL 33 26 32,kx 34 (.pick (ux 26) (ux 33) cF)])
theorem e561:t56L1= .seq (.seq gc56 (.cond (ux 34) .skip (.exit 4))) (.seq (.block 5 ag56) (.regN [0,3,4,5,6] [kM 35 6,kU 36 35,kM 6 36])):=rfl
section
variable {C:Orc}{Q:Ex→Kt}{E:Env}{lk lim i k n N ba:Nat}{H Z:Heap}{fa f:Nat→Nat→Bool}
abbrev eG (N ba L k i n:Nat):Env:=[(0,.hs ba N 0 N 1),(3,.hs (L+1) N 0 N 1),(4,I k),(5,I i),(6,I n)]
set_option maxRecDepth 20000 in
theorem gc56_ok (hi:i<N)(hk:k<N)(hn:n≤N)
  (hE:restrict [0,3,4,5,6] E=eG N ba H.length k i n)
  (hQ:∀E',find E' 34=Bo (decide (n<N)&&f i k)→restrict [0,3,4,5,6] E'=eG N ba H.length k i n→Q .nrm E' (memT H N (mkR N f))):
  WB ⟨C,lk,lim,[]⟩ gc56 Q E (memT H N (mkR N f)):=by
 have hne:mkR N f≠[]:=mkR_ne (by omega)
 have hg:=memT_out (H:=H) (N:=N) hne
 have hrw:=memT_row (H:=H) (N:=N) (mkR_get (f:=f) hi)
 rw[mkR_len]at hg
 have hrl:=refT_len (L:=H.length) (N:=N) (m:=N)
 have hrg:=get_some (refT_get (L:=H.length) (N:=N) hi) (by rw[refT_len];exact hi)
 have lf:(bools (rowF N (f i))).length=N:=by rw[bools_len,rowF_len]
 obtain⟨rf,hrf⟩:∃ra,bools (rowF N (f i))=ra:=⟨_,rfl⟩
 have f5:∀h:k<rf.length,rf[k]'h=Bo (f i k):=fun h=>by
  subst hrf;exact get_some (bools_at hk) h
 rw[hrf]at hrw lf
 have f5:=f5 (by omega)
 clear hrf
 have hi1:i+1≤N:=hi
 have hk1:k+1≤N:=hk
 generalize memT H N (mkR N f)=Z at hg hrw hQ ⊢
 generalize f i k=vf at f5 hQ
 unfold gc56
 rw[wb_regN,hE]
 by_cases h:n<N
 ·rw[decide_eq_true h,Bool.true_and]at hQ
  have h2:(n:Int)<(N:Int):=by omega
  simp[h,hi,hk,hi1,hk1,hg,hrl,hrg,hrw,f5,lf]
  refine hQ _ ?_ ?_<;>rfl
 ·rw[decide_eq_false h,Bool.false_and]at hQ
  have h2:¬(n:Int)<(N:Int):=by omega
  simp[h]
  refine hQ _ ?_ ?_<;>rfl
set_option maxRecDepth 20000 in
theorem ag56_ok (hi:i<N)(hk:k<N)(hn:n<N)(hlk:lk≤H.length)(hlim:lim≤H.length)
  (hE:restrict [0,3,4,5,6] E=eG N ba H.length k i n)
  (hQ:∀E',restrict [0,3,4,5,6] E'=eG N ba H.length k i n→Q .nrm E' (memT H N (mkR N (updF f i n (f i n||f k n))))):
  WB ⟨C,lk,lim,[]⟩ ag56 Q E (memT H N (mkR N f)):=by
 have hne:mkR N f≠[]:=mkR_ne (by omega)
 have hg:=memT_out (H:=H) (N:=N) hne
 have hrw:=memT_row (H:=H) (N:=N) (mkR_get (f:=f) hi)
 have hrk:=memT_row (H:=H) (N:=N) (mkR_get (f:=f) hk)
 have hst:=memT_set (H:=H) (N:=N) (rs:=mkR N f) (j:=i) (r:=(rowF N (f i)).set n (f i n||f k n)) (by rw[mkR_len];exact hi)
 rw[mkR_set hi]at hst
 rw[←hst]at hQ
 rw[mkR_len]at hg
 have hrl:=refT_len (L:=H.length) (N:=N) (m:=N)
 have hrg:=get_some (refT_get (L:=H.length) (N:=N) hi) (by rw[refT_len];exact hi)
 have hrgk:=get_some (refT_get (L:=H.length) (N:=N) hk) (by rw[refT_len];exact hk)
 have hbl:∀g,(bools (rowF N g)).length=N:=fun g=>by rw[bools_len,rowF_len]
 have hrep:∀v,replaceAt (bools (rowF N (f i))) n [Bo v]=bools ((rowF N (f i)).set n v):=fun v=>by
  rw[replaceAt_one _ (by rw[hbl];exact hn),bools_set]
 have hrb:lk≤rb H.length i∧lim≤rb H.length i:=by unfold rb;split<;>omega
 have hi1:i+1≤N:=hi
 have hk1:k+1≤N:=hk
 have hn1:n+1≤N:=hn
 have lf:=hbl (f i)
 have lg:=hbl (f k)
 have f5:∀h:n<(bools (rowF N (f i))).length,(bools (rowF N (f i)))[n]'h=Bo (f i n):=fun h=>get_some (bools_at hn) h
 have g5:∀h:n<(bools (rowF N (f k))).length,(bools (rowF N (f k)))[n]'h=Bo (f k n):=fun h=>get_some (bools_at hn) h
 obtain⟨rf,hrf⟩:∃ra,bools (rowF N (f i))=ra:=⟨_,rfl⟩
 obtain⟨rk,hrk2⟩:∃ra,bools (rowF N (f k))=ra:=⟨_,rfl⟩
 have f5:∀h:n<rf.length,rf[n]'h=Bo (f i n):=fun h=>by subst hrf;exact f5 h
 have g5:∀h:n<rk.length,rk[n]'h=Bo (f k n):=fun h=>by subst hrk2;exact g5 h
 rw[hrf]at hrw hrep lf
 rw[hrk2]at hrk lg
 have f5:=f5 (by omega)
 have g5:=g5 (by omega)
 clear hrf hrk2
 generalize memT H N (mkR N f)=Z at hg hrw hrk hQ ⊢
 obtain⟨vg,hvg⟩:∃v,f k n=v:=⟨_,rfl⟩
 rw[hvg]at g5 hQ
 obtain⟨vf,hvf⟩:∃v,f i n=v:=⟨_,rfl⟩
 rw[hvf]at f5 hQ
 clear hvf hvg
 unfold ag56
 rw[wb_regD rfl,hE]
 cases vf
 ·iterate 22 (rw[wrd_cons];simp[-wrd_cons,-wrd_nil,hi,hk,hn,hi1,hk1,hn1,f5,g5,lf,lg,hg,hrl,hrg,hrgk,hrw,hrk,setH,hrb.1,hrb.2,hrep])
  simp[hn1,setH,hrb.1,hrb.2,hrep,hrw,lf]
  exact hQ _ rfl
 ·iterate 22 (rw[wrd_cons];simp[-wrd_cons,-wrd_nil,hi,hk,hn,hi1,hk1,hn1,f5,g5,lf,lg,hg,hrl,hrg,hrgk,hrw,hrk,setH,hrb.1,hrb.2,hrep])
  simp[hn1,setH,hrb.1,hrb.2,hrep,hrw,lf]
  exact hQ _ rfl
set_option maxRecDepth 20000 in
theorem agin56 (hi:i<N)(hk:k<N)(hN:N≤1000000)(hlk:lk≤H.length)(hlim:lim≤H.length)
  (hE:restrict [0,3,4,5,6] E=eG N ba H.length k i 0)
  (hQ:∀E',restrict [0,3,4,5] E'=[(0,.hs ba N 0 N 1),(3,.hs (H.length+1) N 0 N 1),(4,I k),(5,I i)]→Q .nrm E' (memT H N (mkR N (upI N k i f)))):
  WB ⟨C,lk,lim,[]⟩ (.block 4 (.loop [0,3,4,5,6] t56L1)) Q E (memT H N (mkR N f)):=by
 refine wb_loop (σ:=Nat) (fun n=>eG N ba H.length k i n) (fun n=>memT H N (mkR N (recU k i f n))) (fun n=>n≤N∧(n=0∨f i k=true)) (fun n=>N-n) ?_ 0 ⟨Nat.zero_le _,.inl rfl⟩ hE rfl
 rintro n ⟨hn0,hn1⟩
 rw[e561]
 generalize hR:Rnd _ _ _ _ _ _ _=R
 rw[wb_seq,wb_seq]
 refine gc56_ok hi hk hn0 rfl fun E1 h34 hE1=>?_
 rw[fol_nrm]
 have h7:restrict [0,3,4,5] E1=[(0,.hs ba N 0 N 1),(3,.hs (H.length+1) N 0 N 1),(4,I k),(5,I i)]:=by
  have e:∀t∈[0,3,4,5],find E1 t=find (restrict [0,3,4,5,6] E1) t:=fun t ht=>by
   simp at ht
   rcases ht with rfl | rfl | rfl | rfl<;>rfl
  simp only[restrict,List.map_cons,List.map_nil]
  rw[e 0 (by simp),e 3 (by simp),e 4 (by simp),e 5 (by simp),hE1]
  rfl
 by_cases hf:f i k=true
 ·rw[recU_ik hf n,Bool.and_true]at h34
  by_cases hc:n<N
  ·rw[decide_eq_true hc]at h34
   rw[wb_true (ev_bo h34),wb_skip,fol_nrm,wb_seq,wb_block]
   refine ag56_ok hi hk hc hlk hlim hE1 fun E2 hE2=>?_
   have next:∀env,restrict [0,3,4,5,6] env=eG N ba H.length k i (n+1)→R .nrm env (memT H N (mkR N (recU k i f (n+1)))):=fun env h=>by
    rw[←hR,rnd_nrm]
    exact⟨n+1,⟨hc,.inr hf⟩,by omega,h,rfl⟩
   have w:IntKind.i64.wrap ((n:Int)+1)=(n:Int)+1:=wrap64 (by omega) (by omega)
   have er:recU k i f (n+1)=updF (recU k i f n) i n (recU k i f n i n||recU k i f n k n):=rfl
   rw[←er]
   generalize memT H N (mkR N (recU k i f (n+1)))=Z at next ⊢
   rw[blk_nrm,fol_nrm,wb_regN,hE2]
   simp[w]
   refine next _ ?_
   rfl
  ·rw[decide_eq_false hc]at h34
   obtain rfl:n=N:=by omega
   rw[wb_false (ev_bo h34),wb_exit,fol_exit,←hR]
   unfold upI at hQ
   rw[if_pos hf]at hQ
   exact hQ E1 h7
 ·obtain rfl:n=0:=hn1.resolve_right hf
  have hf2:recU k i f 0 i k=false:=by
   show f i k=false
   simpa using hf
  rw[hf2,Bool.and_false]at h34
  rw[wb_false (ev_bo h34),wb_exit,fol_exit,←hR]
  unfold upI at hQ
  rw[if_neg hf]at hQ
  exact hQ E1 h7
set_option maxRecDepth 20000 in
theorem agmid56 (hk:k<N)(hN:N≤1000000)(hlk:lk≤H.length)(hlim:lim≤H.length)
  (hE:restrict [0,3,4,5] E=[(0,.hs ba N 0 N 1),(3,.hs (H.length+1) N 0 N 1),(4,I k),(5,I 0)])
  (hQ:∀E',restrict [0,3,4] E'=[(0,.hs ba N 0 N 1),(3,.hs (H.length+1) N 0 N 1),(4,I k)]→Q .nrm E' (memT H N (mkR N (agR N k f N)))):
  WB ⟨C,lk,lim,[]⟩ (.block 2 (.loop [0,3,4,5] t56L2)) Q E (memT H N (mkR N f)):=by
 refine wb_loop (σ:=Nat) (fun i=>[(0,.hs ba N 0 N 1),(3,.hs (H.length+1) N 0 N 1),(4,I k),(5,I i)]) (fun i=>memT H N (mkR N (agR N k f i))) (fun i=>i≤N) (fun i=>N-i) ?_ 0 (Nat.zero_le _) hE rfl
 intro i hi0
 unfold t56L2
 generalize hR:Rnd _ _ _ _ _ _ _=R
 by_cases hi:i<N
 case neg=>
  obtain rfl:i=N:=by omega
  have hx:∀env,restrict [0,3,4] env=[(0,.hs ba i 0 i 1),(3,.hs (H.length+1) i 0 i 1),(4,I k)]→R (.exit 2) env (memT H i (mkR i (agR i k f i))):=fun env h=>by
   rw[←hR]
   exact hQ env h
  generalize memT H i (mkR i (agR i k f i))=Z at hx ⊢
  generalize (.block 4 (.loop [0,3,4,5,6] t56L1):AC)=F
  simp
  exact hx _ rfl
 have w:IntKind.i64.wrap ((i:Int)+1)=(i:Int)+1:=wrap64 (by omega) (by omega)
 have next:∀env,restrict [0,3,4,5] env=[(0,.hs ba N 0 N 1),(3,.hs (H.length+1) N 0 N 1),(4,I k),(5,I ((i+1:Nat):Int))]→R .nrm env (memT H N (mkR N (agR N k f (i+1)))):=fun env h=>by
  rw[←hR,rnd_nrm]
  exact⟨i+1,hi,by omega,h,rfl⟩
 have hbd:∀E,restrict [0,3,4,5,6] E=eG N ba H.length k i 0→WB ⟨C,lk,lim,[]⟩ (.block 4 (.loop [0,3,4,5,6] t56L1)) (BlkE 3 (Fol ⟨C,lk,lim,[]⟩ (.regN [0,3,4,5] [kM 20 5,kU 21 20,kM 5 21]) R)) E (memT H N (mkR N (agR N k f i))):=fun E hE=>
  agin56 hi hk hN hlk hlim hE fun E' hE'=>by
   have er:upI N k i (agR N k f i)=agR N k f (i+1):=rfl
   rw[er]
   generalize memT H N (mkR N (agR N k f (i+1)))=Z at next ⊢
   rw[blk_nrm,fol_nrm,wb_regN,hE']
   simp[w]
   exact next _ rfl
 generalize (.block 4 (.loop [0,3,4,5,6] t56L1):AC)=F at hbd ⊢
 generalize memT H N (mkR N (agR N k f i))=Z at hbd ⊢
 simp[hi]
 refine hbd _ ?_
 rfl
set_option maxRecDepth 20000 in
theorem again56 (ha:TabH H (.hs ba N 0 N 1) N fa)(h1:1≤N)(hN:N≤1000000)(hlk:lk≤H.length)(hlim:lim≤H.length):
  callW X A lk lim 56 [.hs ba N 0 N 1] H=some (.hs (H.length+1) N 0 N 1,memT H N (mkR N (agM N (fun i k=>fa i k||fa i k) N))):=by
 have hX:X lk lim 56 [.hs ba N 0 N 1] H=none:=noX1 (by decide) (by decide) (by decide)
 refine wb_callB [] hX A56 rfl rfl ?_
 show WB ⟨callW X A,lk,lim,[]⟩ t56B _ _ _
 have h55:=either55 ha ha h1 hN hlk hlim
 generalize callW X A=C at h55 ⊢
 obtain⟨f,hf⟩:∃f,(fun i k=>fa i k||fa i k)=f:=⟨_,rfl⟩
 rw[hf]at h55 ⊢
 generalize hP:FinT [.tmp 2] false H (.hs (H.length+1) N 0 N 1,memT H N (mkR N (agM N f N)))=P
 have fin:∀env,find env 2= .hs (H.length+1) N 0 N 1→P .ret env (memT H N (mkR N (agM N f N))):=fun env h=>by
  rw[←hP]
  simp[FinT,finish,resOf,resList,resOne,h]
 clear hP
 have hloop:∀env,restrict [0,3,4] env=[(0,.hs ba N 0 N 1),(3,.hs (H.length+1) N 0 N 1),(4,I 0)]→WB ⟨C,lk,lim,[]⟩ (.block 0 (.loop [0,3,4] t56L3)) (Fol ⟨C,lk,lim,[]⟩ (.seq (.regN [3] [kM 59 3,kM 2 59]) .ret) P) env (memT H N (mkR N f)):=by
  intro env hE
  refine wb_loop (σ:=Nat) (fun i=>[(0,.hs ba N 0 N 1),(3,.hs (H.length+1) N 0 N 1),(4,I i)]) (fun i=>memT H N (mkR N (agM N f i))) (fun i=>i≤N) (fun i=>N-i) ?_ 0 (Nat.zero_le _) hE rfl
  intro k hk0
  unfold t56L3
  generalize hR:Rnd _ _ _ _ _ _ _=R
  by_cases hk:k<N
  case neg=>
   obtain rfl:k=N:=by omega
   have hx:∀env,restrict [3] env=[(3,.hs (H.length+1) k 0 k 1)]→R (.exit 0) env (memT H k (mkR k (agM k f k))):=fun env hE=>by
    rw[←hR]
    show WB ⟨C,lk,lim,[]⟩ (.seq (.regN [3] [kM 59 3,kM 2 59]) .ret) P env (memT H k (mkR k (agM k f k)))
    generalize memT H k (mkR k (agM k f k))=Z at fin ⊢
    rw[wb_seq,wb_regN,hE]
    simp
    exact fin _ rfl
   generalize memT H k (mkR k (agM k f k))=Z at hx ⊢
   generalize (.block 2 (.loop [0,3,4,5] t56L2):AC)=LL
   simp
   exact hx _ rfl
  have w:IntKind.i64.wrap ((k:Int)+1)=(k:Int)+1:=wrap64 (by omega) (by omega)
  have next:∀env,restrict [0,3,4] env=[(0,.hs ba N 0 N 1),(3,.hs (H.length+1) N 0 N 1),(4,I ((k+1:Nat):Int))]→R .nrm env (memT H N (mkR N (agM N f (k+1)))):=fun env h=>by
   rw[←hR,rnd_nrm]
   exact⟨k+1,hk,by omega,h,rfl⟩
  have hbd:∀E,restrict [0,3,4,5] E=[(0,.hs ba N 0 N 1),(3,.hs (H.length+1) N 0 N 1),(4,I k),(5,I 0)]→WB ⟨C,lk,lim,[]⟩ (.block 2 (.loop [0,3,4,5] t56L2)) (BlkE 1 (Fol ⟨C,lk,lim,[]⟩ (.regN [0,3,4] [kM 14 4,kU 15 14,kM 4 15]) R)) E (memT H N (mkR N (agM N f k))):=fun E hE=>
   agmid56 hk hN hlk hlim hE fun E' hE'=>by
    have er:agR N k (agM N f k) N=agM N f (k+1):=rfl
    rw[er]
    generalize memT H N (mkR N (agM N f (k+1)))=Z at next ⊢
    rw[blk_nrm,fol_nrm,wb_regN,hE']
    simp[w]
    exact next _ rfl
  generalize (.block 2 (.loop [0,3,4,5] t56L2):AC)=LL at hbd ⊢
  generalize memT H N (mkR N (agM N f k))=Z at hbd ⊢
  simp[hk]
  refine hbd _ ?_
  rfl
 unfold t56B
 generalize (.block 0 (.loop [0,3,4] t56L3):AC)=LL at hloop ⊢
 generalize memT H N (mkR N f)=Z at h55 hloop ⊢
 simp[h55]
 exact hloop _ rfl
end
end Go.Proofs.Ytnhennjliinplaa
