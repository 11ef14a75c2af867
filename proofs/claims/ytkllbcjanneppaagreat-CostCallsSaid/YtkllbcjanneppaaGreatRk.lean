import Derived.Test.YtkllbcjanneppaaGreatRw
import Derived.Test.YtkllbcjanneppaaGreatRn
import Derived.Shelf.Bits.Mul64
import Derived.Shelf.Spec.SlicesInsert
import Derived.Shelf.RegionOpenPlain
import Derived.Laws.CopyRow
import Derived.Laws.CopyOwn
set_option linter.all false
namespace Go.Proofs.YtkllbcjanneppaaGreat
open Go Go.Hm Go.RowKit Go.Maps Go.Sort Go.Shelf Go.Proofs Go.Lib

def Qe:Go.Shelf.Ren:=⟨fun | 212=>51 | 263=>79 | 264=>80 | n=>n,fun | 46=>78 | 51=>100 | 146=>101 | 53=>103 | 148=>104 | n=>n,fun | n=>n⟩
theorem Qf:Go.Proofs.Lays.n212 Tryz.prog Qe:={
 mixed:=by kernel_rfl
 f212:=Tryz.func51.trans (congrArg some (by kernel_rfl))
 f263:=Tryz.func79.trans (congrArg some (by kernel_rfl))
 f264:=Tryz.func80.trans (congrArg some (by kernel_rfl))
 t46:=Tryz.underlying78
 a46:=Tryz.isAgg78
 z46:=Tryz.sizeOf78
 v46:=Tryz.zeroValue78
 t51:=Tryz.underlying100
 a51:=Tryz.isAgg100
 z51:=Tryz.sizeOf100
 v51:=Tryz.zeroValue100
 t53:=Tryz.underlying103
 a53:=Tryz.isAgg103
 z53:=Tryz.sizeOf103
 v53:=Tryz.zeroValue103
 t146:=Tryz.underlying101
 a146:=Tryz.isAgg101
 z146:=Tryz.sizeOf101
 v146:=Tryz.zeroValue101
 t148:=Tryz.underlying104
 a148:=Tryz.isAgg104
 z148:=Tryz.sizeOf104
 v148:=Tryz.zeroValue104 }

def gq (n k:Nat)(v:Value):Array Value:=(List.replicate k v++List.replicate (n-k) (Value.int .i64 0)).toArray
theorem th {n k:Nat}(h:k<=n)(v:Value):(gq n k v).size=n:=by simp[gq];omega
theorem tj {n k m:Nat}(h:k+m<=n)(v:Value):((gq n k v).toList.take k++List.replicate m v++(gq n k v).toList.drop (k+m)).toArray=gq n (k+m) v:=by
 unfold gq;congr 1;simp only[List.toList_toArray,List.take_append_of_le_length (l₁:=List.replicate k v) (by simp:k<=(List.replicate k v).length)]
 rw[List.take_of_length_le (by simp),List.replicate_append_replicate,List.drop_append,List.drop_eq_nil_of_le (by simp),List.nil_append,List.length_replicate,List.drop_replicate]
 congr 2;omega
theorem GG {n k j:Nat}(v:Value)(h:j<k):(gq n k v)[j]?=some v:=by
 unfold gq;simp[List.getElem?_append_left,h,List.getElem?_replicate]
set_option maxRecDepth 100000 in
set_option maxHeartbeats 2000000 in
theorem Pf (n:Nat)(hn:n<=1000000)(w:World)(b o c:Nat)(m:Int)(hv:w.cell? ⟨b,o,none⟩=some (.int .i64 m)):
  Calls Tryz.prog 32 #[.slice (some ⟨b,o,none⟩) 1 c,.int .i64 n] w fun e w'=>e= .returned (.slice (some ⟨w.heap.size,0,none⟩) n n)/\Below w.heap.size w w'/\w'.heap[w.heap.size]?=some (.cells (gq n n (.int .i64 m)) 3 (0,0)):=by
 have hbl:b<w.heap.size:=by
  unfold World.cell? at hv;cases hq:w.heap[b]? with
  | none=>simp[hq]at hv
  | some x=>exact(Array.getElem?_eq_some_iff.1 hq).1
 have mixed:Tryz.prog.follows .mixedOrders=true:=by kernel_rfl
 have hmul:=Any.bits_Mul Qf 1 n (by omega) (by omega) w
 rw[show 1*n / 18446744073709551616=0 from by omega,show 1*n % 18446744073709551616=n from by omega]at hmul
 obtain⟨i0,hi,hz0,hz1,hz2⟩:=info_parts (by kernel_rfl:(Tryz.prog.info? 3).map (fun i=>(i.zero,i.size,i.bytes))=some (some (.int .i64 0),1,8))
 have hsz:(Tryz.prog.info? 3).map (·.size)=some 1:=by rw[hi];simp[hz1]
 have hM:madeCells (Value.int .i64 0).cells ((n:Int).toNat*i0.size)=gq n 0 (.int .i64 m):=by
  apply Array.ext';rw[hz1,show (Value.int .i64 0).cells=#[.int .i64 0] from rfl,toList_madeCells_one];simp[gq]
 have hmk:∀W:World,(Instr.makeSlice 27 (.int .i64 (n:Int)) (.int .i64 (n:Int))).run Tryz.prog W= .ok (.slice (some ⟨W.heap.size,0,none⟩) n n) (W.alloc (.cells (gq n 0 (.int .i64 m)) 3)):=fun W=>by
  have h:=run_makeSlice (P:=Tryz.prog) W 27 3 i0 (.int .i64 0) Tryz.underlying27 hi hz0 .i64 .i64 (n:Int) (n:Int) (by omega) (by omega) (by rw[hz1];omega) (by rw[hz2];omega) (by omega)
  rw[hM]at h;simpa using h
 clear hM;have hw:IntKind.i64.wrap (n:Int)=n:=by rw[IntKind.wrap_i64];omega
 have hwu:IntKind.u64.wrap (n:Int)=n:=by rw[IntKind.wrap_u64];omega
 have h0:¬(n:Int)<0:=by omega
 have h1:¬(9223372036854775807:Int)<n:=by omega
 obtain⟨W1,hW1⟩:∃W1,W1=w.alloc (.cells (gq n 0 (.int .i64 m)) 3):=⟨_,rfl⟩;have hg1:W1.heap[w.heap.size]?=some (.cells (gq n 0 (.int .i64 m)) 3 (0,0)):=by rw[hW1];exact heap_alloc_new w _
 have hb1:Below w.heap.size w W1:=by rw[hW1];exact(Below.refl _ _).alloc (Nat.le_refl _) _
 obtain⟨k1,hk1⟩:∃k1,k1=min 1 n:=⟨_,rfl⟩;have hcp:∀ty,(Builtin.copy_ #[27,27] ty #[.slice (some ⟨w.heap.size,0,none⟩) n n,.slice (some ⟨b,o,none⟩) 1 c]).run Tryz.prog W1= .ok (.int .i64 k1) (W1.setRow w.heap.size (gq n k1 (.int .i64 m))):=fun ty=>by
  have h:=run_copy_row (P:=Tryz.prog) (ty:=ty) W1 27 27 3 w.heap.size 0 n n ⟨b,o,none⟩ 1 c _ 3 (List.replicate k1 (.int .i64 m)) Tryz.underlying27 hsz hg1 (by rw[List.length_replicate,hk1]) (fun j v h=>by
   rw[List.getElem?_replicate]at h;split at h;case isFalse=>cases h
   rename_i hj;simp only[RZ]at h;subst h;have:j=0:=by omega
   subst this;rw[Addr.add_lit];exact(hb1.cell (p:=⟨b,o,none⟩) hbl).trans hv) (by rw[th (by omega),List.length_replicate];omega) (fun v hv=>by rw[(List.mem_replicate.1 hv).2];rfl)
  rw[List.length_replicate,tj (by omega),Nat.zero_add]at h
  exact h
 rw[hW1]at hcp
 go_enter Tryz.func32,Tryz.ntmps32
 go_wp2_with (go_at_call 51;refine hmul.mono ?_;rintro e w1 ⟨rfl,rfl⟩)
 have hb2:=below_setRow hb1 (Nat.le_refl _) (gq n (min 1 n) (.int .i64 m));have hg2:=setRow_heap _ _ _ (gq n (min 1 n) (.int .i64 m)) _ _ hg1
 go_loopw [8] (fun iv wr=>∃k:Nat,k<=n/\(0<n->0<k)/\iv= .int .i64 k/\Below w1.heap.size w1 wr/\wr.heap[w1.heap.size]?=some (.cells (gq n k (.int .i64 m)) 3 (0,0))) (fun iv _=>n-(intOf iv).toNat)
 case atStart=>exact⟨min 1 n,by omega,by omega,rfl,hW1▸hb2,hW1▸hg2⟩
 case round=>
  obtain⟨k,hk,hk0,rfl,hbq,hgq⟩:=hrel;by_cases hkn:k<n
  ·obtain⟨k2,hk2⟩:∃k2,k2=min k (n-k):=⟨_,rfl⟩;have hcp2:∀ty dc sc,(Builtin.copy_ #[27,27] ty #[.slice (some ⟨w1.heap.size,k,none⟩) (n-k) dc,.slice (some ⟨w1.heap.size,0,none⟩) k sc]).run Tryz.prog wr.drew= .ok (.int .i64 k2) (wr.drew.setRow w1.heap.size (gq n (k+k2) (.int .i64 m))):=fun ty dc sc=>by
    have h:=run_copy_row (P:=Tryz.prog) (ty:=ty) wr.drew 27 27 3 w1.heap.size k (n-k) dc ⟨w1.heap.size,0,none⟩ k sc _ 3 (List.replicate k2 (.int .i64 m)) Tryz.underlying27 hsz hgq (by rw[List.length_replicate,hk2]) (fun j v h=>by
     rw[List.getElem?_replicate]at h;split at h;case isFalse=>cases h
     rename_i hj;simp only[RZ]at h;subst h;rw[Addr.add_lit];have hgq:wr.drew.heap[w1.heap.size]?=some (.cells (gq n k (.int .i64 m)) 3 (0,0)):=hgq;simp[World.cell?,hgq,GG (n:=n) (k:=k) (j:=j) (.int .i64 m) (by omega)]) (by rw[th (by omega),List.length_replicate];omega) (fun v hv=>by rw[(List.mem_replicate.1 hv).2];rfl)
    rw[List.length_replicate,tj (by omega)]at h
    exact h
   have hlt:(k:Int)<n:=by omega
   have hne:¬n=k:=by omega
   have hws:IntKind.i64.wrap ((k:Int)+((min k (n-k):Nat):Int))=((k+min k (n-k):Nat):Int):=by rw[IntKind.wrap_i64];omega
   go_wp2
   go_region_law_o (refine step_copy_runI rfl _ _ 27 27 rfl _ _ (by simp[Act.eval,Act.put]) (by simp[Act.eval,Act.put]) (hcp2 _ _ _) ?_)
   have hk3:k<k+min k (n-k):=by omega
   have hk4:k+min k (n-k)<=n:=by omega
   simp only[Act.put,List.getElem_toArray,List.getElem_cons_succ,List.getElem_cons_zero,List.setIfInBounds_toArray,List.set_cons_succ,List.set_cons_zero]
   go_roundw
   case rel=>exact⟨_,_,_,_,_,_,_,_,_,_,_,_,_,_,⟨k+min k (n-k),hk4,fun _=>by omega,rfl,below_setRow hbq.drew (Nat.le_refl _) _,setRow_heap _ _ _ _ _ _ hgq⟩,rfl⟩
   case measure=>simp[intOf];omega
  ·have hkn:k=n:=by omega
   subst hkn
   go_wp2
   go_ret
   exact⟨rfl,hbq,hgq⟩
theorem CA (n:Nat)(v:Value):(gq n n v).toList=List.replicate n v:=by simp[gq]
theorem MH:JI Tryz.prog 32 yr:=by
 refine⟨⟨Tryz.f32,Tryz.func32,by decide,rfl⟩,?_⟩
 intro φ F H w avs l vs h sr ha;unfold yr at h;split at h;case h_2=>cases h
 rename_i v n;split at h;case h_2=>cases h
 rename_i m;split at h;case isFalse=>cases h
 rename_i hn;simp only[RZ]at h;subst h;obtain⟨u,y,rfl,hu,hy⟩:∃u y,vs=[u,y]/\VRel φ F H w (.sl 1 [.val (.int .i64 m)]) u/\VRel φ F H w (.val (.int .i64 n)) y:=by
  obtain⟨hl,h⟩:=ha
  match vs,hl with
  | [u,y],_=>exact⟨u,y,rfl,h 0 _ _ rfl rfl,h 1 _ _ rfl rfl⟩
 obtain rfl:y= .int .i64 n:=by
  cases hy with
  | one h=>cases h;rfl
 cases hu with
 | one h=>
  cases h with
  | sl b o _ cap _ us hn' hl hb hF hc hr=>
   obtain⟨q,rfl⟩:∃q,us=[q]:=by
    match us,hl with
    | [q],_=>exact⟨q,rfl⟩
   have hq:=hr 0 _ q rfl rfl;cases hq;have hcell:=hc 0 _ rfl;obtain⟨k,rfl⟩:∃k:Nat,n=k:=⟨n.toNat,by omega⟩
   refine(Pf k (by omega) w b o cap m (by simpa using hcell)).mono ?_
   rintro e w' ⟨rfl,h1,h2⟩;refine⟨_,_,by simp;omega,by simp,h1,h2,?_⟩
   rw[CA];simp
end Go.Proofs.YtkllbcjanneppaaGreat
