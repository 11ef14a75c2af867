/- The keys of a set, sorted (by the contracts of the kit's shelf): the iterator, whatever place its map's box has. -/
import Derived.Test.YtnhennjliinplaaRows
import Derived.Shelf.SlIterI.Nil
import Derived.Shelf.SlIterI.Sorted
import Derived.Shelf.SortM.Plain
import Derived.Shelf.SortM.SortNone
import Derived.Test.YtnhennjliinplaaHmG12
import Derived.Test.YtnhennjliinplaaPr
set_option linter.all false
namespace Go.Proofs.Ytnhennjliinplaa
open Go Go.Hm Go.RowKit Go.Maps Go.Sort Go.Shelf Go.Proofs

def mkeysLR:Go.Shelf.Ren:=⟨fun | 10=>64 | n=>n,fun | 33=>103 | 23=>73 | 0=>0 | 4=>4 | 26=>3 | 3=>83 | n=>n,fun | n=>n⟩
theorem mkeysL:Go.Proofs.SlLaysZI.n10 Try.prog mkeysLR:={
 mixed:=by kernel_rfl
 f10 := ⟨"maps.Keys[viewport/nfa.set,int,struct{}]$1", by decide, Try.func64.trans (congrArg some (by kernel_rfl))⟩
 t0:=Try.underlying0
 a0:=Try.isAgg0
 z0:=Try.sizeOf0
 v0:=Try.zeroValue0
 t4:=Try.underlying4
 a4:=Try.isAgg4
 z4:=Try.sizeOf4
 v4:=Try.zeroValue4
 t23:=Try.underlying73
 a23:=Try.isAgg73
 z23:=Try.sizeOf73
 v23:=Try.zeroValue73
 t26:=Try.underlying3
 a26:=Try.isAgg3
 z26:=Try.sizeOf3
 v26:=Try.zeroValue3
 t33:=Try.underlying103
 a33:=Try.isAgg103
 z33:=Try.sizeOf103
 v33:=Try.zeroValue103 }

def sortedLR:Go.Shelf.Ren:=⟨fun | 6=>40 | 8=>62 | 9=>63 | 11=>73 | 13=>75 | 12=>74 | 23=>87 | 24=>88 | 14=>78 | 15=>79 | 16=>80 | 17=>81 | 18=>82 | 19=>83 | 20=>84 | 21=>85 | 22=>86 | 25=>90 | 26=>91 | 27=>92 | 28=>93 | 29=>94 | 30=>95 | 31=>97 | n=>n,fun | 26=>3 | 28=>81 | 24=>33 | 0=>0 | 3=>3 | 37=>85 | 48=>129 | 50=>45 | 4=>4 | 40=>121 | 39=>120 | 45=>126 | 5=>5 | 9=>9 | 51=>131 | 55=>135 | 57=>137 | 58=>61 | 33=>103 | n=>n,fun | n=>n⟩
theorem sortedL:Go.Proofs.SlLaysZI.n6 Try.prog sortedLR:={
 mixed:=by kernel_rfl
 f6 := ⟨"slices.Sorted[int]", by decide, Try.func40.trans (congrArg some (by kernel_rfl))⟩
 f8 := ⟨"slices.Collect[int]", by decide, Try.func62.trans (congrArg some (by kernel_rfl))⟩
 f11 := ⟨"slices.AppendSeq[[]int,int]", by decide, Try.func73.trans (congrArg some (by kernel_rfl))⟩
 t0:=Try.underlying0
 a0:=Try.isAgg0
 z0:=Try.sizeOf0
 v0:=Try.zeroValue0
 t24:=Try.underlying33
 a24:=Try.isAgg33
 z24:=Try.sizeOf33
 v24:=Try.zeroValue33
 t26:=Try.underlying3
 a26:=Try.isAgg3
 z26:=Try.sizeOf3
 v26:=Try.zeroValue3
 t28:=Try.underlying81
 a28:=Try.isAgg81
 z28:=Try.sizeOf81
 v28:=Try.zeroValue81
 i26:=by kernel_rfl }

def sortLR:Go.Shelf.Ren:=⟨fun | 5=>63 | 8=>75 | 7=>74 | 19=>87 | 20=>88 | 10=>78 | 11=>79 | 12=>80 | 13=>81 | 14=>82 | 15=>83 | 16=>84 | 17=>85 | 18=>86 | 30=>90 | 31=>91 | 32=>92 | 33=>93 | 34=>94 | 35=>95 | 40=>97 | n=>n,fun | 23=>33 | 25=>3 | 3=>3 | 32=>85 | 22=>33 | 0=>0 | 44=>129 | 46=>45 | 4=>4 | 36=>121 | 35=>120 | 41=>126 | 5=>5 | 9=>9 | 53=>131 | 57=>135 | 63=>137 | 64=>61 | n=>n,fun | n=>n⟩
theorem sortL:Go.Proofs.SlLaysM.n5 Try.prog sortLR:={
 mixed:=by kernel_rfl
 f5 := ⟨"slices.Sort[[]int,int]", by decide, Try.func63.trans (congrArg some (by kernel_rfl))⟩
 f7 := ⟨"slices.pdqsortOrdered[int]", by decide, Try.func74.trans (congrArg some (by kernel_rfl))⟩
 f8:=Try.func75.trans (congrArg some (by kernel_rfl))
 f10 := ⟨"slices.insertionSortOrdered[int]", by decide, Try.func78.trans (congrArg some (by kernel_rfl))⟩
 f11 := ⟨"slices.heapSortOrdered[int]", by decide, Try.func79.trans (congrArg some (by kernel_rfl))⟩
 f12 := ⟨"slices.breakPatternsOrdered[int]", by decide, Try.func80.trans (congrArg some (by kernel_rfl))⟩
 f13 := ⟨"slices.choosePivotOrdered[int]", by decide, Try.func81.trans (congrArg some (by kernel_rfl))⟩
 f14 := ⟨"slices.reverseRangeOrdered[int]", by decide, Try.func82.trans (congrArg some (by kernel_rfl))⟩
 f15 := ⟨"slices.partialInsertionSortOrdered[int]", by decide, Try.func83.trans (congrArg some (by kernel_rfl))⟩
 f16 := ⟨"cmp.Less[int]", by decide, Try.func84.trans (congrArg some (by kernel_rfl))⟩
 f17 := ⟨"slices.partitionEqualOrdered[int]", by decide, Try.func85.trans (congrArg some (by kernel_rfl))⟩
 f18 := ⟨"slices.partitionOrdered[int]", by decide, Try.func86.trans (congrArg some (by kernel_rfl))⟩
 f19:=Try.func87.trans (congrArg some (by kernel_rfl))
 f20:=Try.func88.trans (congrArg some (by kernel_rfl))
 f30 := ⟨"slices.siftDownOrdered[int]", by decide, Try.func90.trans (congrArg some (by kernel_rfl))⟩
 f31:=Try.func91.trans (congrArg some (by kernel_rfl))
 f32:=Try.func92.trans (congrArg some (by kernel_rfl))
 f33 := ⟨"slices.medianAdjacentOrdered[int]", by decide, Try.func93.trans (congrArg some (by kernel_rfl))⟩
 f34 := ⟨"slices.medianOrdered[int]", by decide, Try.func94.trans (congrArg some (by kernel_rfl))⟩
 f35 := ⟨"cmp.isNaN[int]", by decide, Try.func95.trans (congrArg some (by kernel_rfl))⟩
 f40 := ⟨"slices.order2Ordered[int]", by decide, Try.func97.trans (congrArg some (by kernel_rfl))⟩
 t0:=Try.underlying0
 a0:=Try.isAgg0
 z0:=Try.sizeOf0
 v0:=Try.zeroValue0
 t3:=Try.underlying3
 a3:=Try.isAgg3
 z3:=Try.sizeOf3
 v3:=Try.zeroValue3
 t4:=Try.underlying4
 a4:=Try.isAgg4
 z4:=Try.sizeOf4
 v4:=Try.zeroValue4
 t5:=Try.underlying5
 a5:=Try.isAgg5
 z5:=Try.sizeOf5
 v5:=Try.zeroValue5
 t9:=Try.underlying9
 a9:=Try.isAgg9
 z9:=Try.sizeOf9
 v9:=Try.zeroValue9
 t22:=Try.underlying33
 a22:=Try.isAgg33
 z22:=Try.sizeOf33
 v22:=Try.zeroValue33
 t23:=Try.underlying33
 a23:=Try.isAgg33
 z23:=Try.sizeOf33
 v23:=Try.zeroValue33
 t25:=Try.underlying3
 a25:=Try.isAgg3
 z25:=Try.sizeOf3
 v25:=Try.zeroValue3
 t32:=Try.underlying85
 a32:=Try.isAgg85
 z32:=Try.sizeOf85
 v32:=Try.zeroValue85
 t35:=Try.underlying120
 a35:=Try.isAgg120
 z35:=Try.sizeOf120
 v35:=Try.zeroValue120
 t36:=Try.underlying121
 a36:=Try.isAgg121
 z36:=Try.sizeOf121
 v36:=Try.zeroValue121
 t41:=Try.underlying126
 a41:=Try.isAgg126
 z41:=Try.sizeOf126
 v41:=Try.zeroValue126
 t44:=Try.underlying129
 a44:=Try.isAgg129
 z44:=Try.sizeOf129
 v44:=Try.zeroValue129
 t46:=Try.underlying45
 a46:=Try.isAgg45
 z46:=Try.sizeOf45
 v46:=Try.zeroValue45
 t53:=Try.underlying131
 a53:=Try.isAgg131
 z53:=Try.sizeOf131
 v53:=Try.zeroValue131
 t57:=Try.underlying135
 a57:=Try.isAgg135
 z57:=Try.sizeOf135
 v57:=Try.zeroValue135
 t63:=Try.underlying137
 a63:=Try.isAgg137
 z63:=Try.sizeOf137
 v63:=Try.zeroValue137
 t64:=Try.underlying61
 a64:=Try.isAgg61
 z64:=Try.sizeOf61
 v64:=Try.zeroValue61 }


section
variable {P:Program}{ρ:Ren}
set_option maxRecDepth 100000 in
set_option maxHeartbeats 1000000 in
theorem keysAt (L:SlLaysZI.n10 P ρ){H:Type}(F:Fence)(n:Nat)(h10:F.fn (ρ.f 10))(hro:F.round=none)(hn:1≤n)(l Bm o b nn:Nat)(D0:DataW H){R:Value→Option (DataW H×List MemPlace)}(J:List Int→World→Prop)
  (hY:∀pre x W,J pre W→pre.length<Maps.size D0→YieldAt F (n-1) P l #[encZ x] W fun e W'=>e= .returned (.bool true)∧J (pre++[x]) W'∧KeepsWalks W W')
  (W:World) (hJ:AbidesFrom W.heap.size J) (hm:W.cell? ⟨Bm,o,none⟩=some (.map (some b))) (hown:W.ownsMap P (ρ.t 26) R b nn D0) (h0:J [] W):
  CallsIn F n P (ρ.f 10) #[.func (.yield l) #[] #[],.pointer (some ⟨Bm,o,none⟩)] W fun e W'=>(∃v,e= .returned v)∧∃ss:List Int,ss.Perm (intKeys D0)∧J ss W':=by
 have mixed:=L.mixed;have t0:=L.t0;have a0:=L.a0;have z0:=L.z0;have v0:=L.v0;have t4:=L.t4;have a4:=L.a4;have z4:=L.z4;have v4:=L.v4;have t23:=L.t23;have a23:=L.a23;have z23:=L.z23;have v23:=L.v23;have t26:=L.t26;have a26:=L.a26;have z26:=L.z26;have v26:=L.v26;have t33:=L.t33;have a33:=L.a33;have z33:=L.z33;have v33:=L.v33
 have u0:=run_underlying L.t0;have u4:=run_underlying L.t4;have u23:=run_underlying L.t23;have u26:=run_underlying L.t26;have u33:=run_underlying L.t33
 obtain⟨_,_,FG⟩:=L.f10
 refine callsIn_of_wp FG rfl h10 ?_ hro
 simp only[SlBodyZ.n10_ntmps ρ,List.size_toArray,List.length_cons,List.length_nil,Nat.reduceAdd,Nat.reduceSub,Array.replicate_succ,Array.replicate_zero,List.push_toArray,List.append_toArray,List.nil_append,List.cons_append]
 gi_wp2_with (first
  | (gi_at_range;refine wpListIn_range_own _ rfl _ (ρ.t 23) rfl (ρ.t 26) (ρ.t 3) (int_keyed L.t26) L.t23 _ b nn _ rfl hown ?_;intro w0 hrg0 hg0 hs0)
  | gi_in)
 go_frame
 gi_loopw [3] (fun _ wr=>∃(left:Lit→Bool) (cnt:Nat) (ss:List Int),wr.ranges P (ρ.t 26) R b W.heap.size nn D0 left cnt∧ss.length+cnt≤Maps.size D0∧CollectedI D0 left ss∧J ss wr)
  (fun _ wr=>wr.rangeLeft b W.heap.size)
 case atStart=>
  exact⟨_,_,[],hrg0,by simp,CollectedI.start D0,hJ [] W w0 none h0 hg0 (fun r e=>by cases e)⟩
 case round=>
  obtain⟨left,cnt,ss,hrg,hcs,hC,hJs⟩:=hrel
  gi_wp2_with (first
   | (gi_at_next;refine wpListIn_next_ranges _ rfl _ rfl (ρ.t 26) (int_keyed L.t26) R encZ id (fun key kl hk=>by obtain⟨x,hx,_⟩:=Maps.keyOf_i64 L.t26 hk;exact⟨x,hx⟩) (fun v _ _=>⟨v,rfl⟩) b W.heap.size nn _ _ _ rfl hrg ?_ ?_)
   | gi_in)
  ·-- NOTHING IS LEFT
   intro hc0 hl0
   gi_wp2
   go_end0
   exact⟨⟨_,rfl⟩,ss,hC.perm hown (int_keyed L.t26) L.t26 hl0,hJs⟩
  ·-- AN ENTRY HAS COME:yield(k)
   intro x c kl yd yp w2 cnt2 hkey hlk hv hat hrg2 hlt hg2 hs2 hen
   obtain⟨x',ex,rfl,_⟩:=Maps.keyOf_i64 L.t26 hkey
   obtain rfl:x=x':=encZ_inj ex
   have hJ2:J ss w2:=hJ ss wr w2 (some W.heap.size) hJs hg2 (fun r e=>by cases e;exact⟨Nat.le_refl _,hrg.iter_walk⟩)
   obtain⟨fn,tmps,assign,body,hy,hR⟩:=hY ss x w2 hJ2 (by omega)
   clear hs2
   gi_wp2
   refine hR.mono ?_
   rintro e W3 ⟨rfl,hJ3,hk3⟩
   gi_wp2
   have hrg3:=hrg2.of_walks hk3
   go_roundw
   case rel=>exact⟨_,cnt2,ss++[x],hrg3,by simp;omega,hC.step hlk hat,hJ3⟩
   case measure=>rw[hrg3.left_eq,hrg.left_eq];exact hlt



end
theorem keys_gives {H:Type}(Bm o b nn:Nat)(D0:DataW H){R:Value→Option (DataW H×List MemPlace)}(w:World)(hBm:Bm<w.heap.size)
  (hm:w.cell? ⟨Bm,o,none⟩=some (.map (some b))) (hown:w.ownsMap Try.prog 3 R b nn D0):
  SeqGives Fence.wide 2 Try.prog 64 #[.pointer (some ⟨Bm,o,none⟩)] encZ (fun ss=>ss.Perm (intKeys D0)) (Maps.size D0) w:=fun l J W hW hJ hY h0=>by
 have hown':W.ownsMap Try.prog 3 R b nn D0:=by
  have hbl:=hown.lt
  obtain⟨es,clock,hb,Ft,hs,hD⟩:=hown
  exact⟨es,clock,(hW.block b hbl).trans hb,Ft,hs,hD⟩
 exact keysAt (ρ:=mkeysLR) { mkeysL with } Fence.wide 2 trivial rfl (by omega) l Bm o b nn D0 J hY W hJ ((hW.cell (p:=⟨Bm,o,none⟩) hBm).trans hm) hown' h0
theorem sorts (m:Nat):AnyZI.SortsIn Try.prog sortedLR Fence.wide m:=
 ⟨fun blk off cap ss W hH hblk hsz=>callsIn_wide.2 (AnyM.slices_Sort_int sortL blk off cap ss W hH hblk hsz),
  fun p cap W=>callsIn_wide.2 (AnyM.slices_Sort_int_none sortL p cap W)⟩
theorem sortedAt (lb:Array Value)(S:List Int→Prop)(N:Nat)(hN:N≤8000000000000)(w:World)(hseq:SeqGives Fence.wide 2 Try.prog 64 lb encZ S N w):
  Calls Try.prog 40 #[.func (.func 64) #[] lb] w fun e w'=>∃(v:Value) (ss:List Int),e= .returned v∧S ss∧
   w'.ownsRow w.heap.size 3 1 v ss.length ((ss.mergeSort (fun x y=>decide (x≤y))).map encZ)∧(v= .slice none 0 0↔ss=[])∧Below w.heap.size w w':=
 (callsIn_wide (n:=5)).1 (AnyZI.sorted_in sortedL Fence.wide 5 trivial trivial trivial trivial rfl (by omega) (sorts _) (enters_of Try.func63 (by kernel_rfl) rfl) 64 lb trivial (enters_of Try.func64 (by kernel_rfl) rfl) S N (Nat.le_trans hN (by decide)) (by omega) w hseq)
end Go.Proofs.Ytnhennjliinplaa

namespace Go.Proofs.Ytnhennjliinplaa
open Go Go.Hm Go.RowKit Go.Maps Go.Sort Go.Shelf Go.Proofs Go.WideElems

def anyR (_:Value):Option (DataW Unit×List MemPlace):=some (.lit (.bool true),[])
def litI:Lit→Int
 | .int _ n=>n
 | _=>0
set_option maxRecDepth 100000 in
theorem owns_of {w:World}{b:Nat}{es:Array MapEntry}{clk:Nat}{ks:List Int}(hb:w.heap[b]?=some (.map es clk))(hs:MapKept.Stamped es clk)(hk:es.toList.map (·.key)=ks.map (fun x=>.int .i64 x))(hl:ks.length≤8000000000000)
  (hx:∀x∈ks,inR x=true):∃D0:DataW Unit,w.ownsMap Try.prog 3 anyR b es.size D0∧(intKeys D0).Perm ks∧ks.Nodup∧Maps.size D0=ks.length:=by
 have hsz:es.size=ks.length:=by
  have:=congrArg List.length hk
  simpa using this
 have hkey:∀x∈es.toList,∃s:Int,s∈ks∧x.key= .int .i64 s:=fun x hx=>by
  have:x.key∈es.toList.map (·.key):=List.mem_map_of_mem hx
  rw[hk]at this
  obtain⟨s,hs,e⟩:=List.mem_map.1 this
  exact⟨s,hs,e.symm⟩
 have hwf:∀s,s∈ks→(Lit.int .i64 s).wf=true:=fun s hs=>hx s hs
 have hrd:∀x∈es.toList,∀s:Int,s∈ks→x.key= .int .i64 s→WideElems.rd Try.prog 3 anyR x=some (.int .i64 s,.lit (.bool true)):=fun x _ s hs e=>by
  unfold WideElems.rd
  rw[e,keyOf_int_mk Try.underlying3 (hwf s hs)]
  rfl
 have fit:Fit Try.prog 3 anyR es clk:=⟨by rw[hsz];exact Nat.le_trans hl (by decide),hs,fun x hx=>by
  obtain⟨s,h1,h2⟩:=hkey x hx
  exact⟨_,hrd x hx s h1 h2⟩⟩
 refine⟨.map ((es.toList.map (rg Try.prog 3 anyR)).foldr DataW.insert []),⟨es,clk,hb,fit,Nat.le_refl _,rfl⟩,?_,?_,?_⟩
 ·have h1:=WideShapes.sorted_perm (es.toList.map (rg Try.prog 3 anyR))
  refine List.Perm.trans ?_ (List.Perm.trans (h1.map fun p=>litI p.1) ?_)
  ·exact List.Perm.of_eq (List.map_congr_left fun p _=>by obtain⟨k,d⟩:=p;cases k<;>rfl)
  ·have h2:(es.toList.map (rg Try.prog 3 anyR)).map (fun p=>litI p.1)=ks:=by
    have h3:es.toList.map (fun x=>litI (rg Try.prog 3 anyR x).1)=(es.toList.map (·.key)).map (fun v=>match v with | .int _ s=>s | _=>0):=by
     rw[List.map_map]
     refine List.map_congr_left fun x hx=>?_
     obtain⟨s,h1,h2⟩:=hkey x hx
     rw[rg_of (hrd x hx s h1 h2)]
     simp[litI,h2]
    rw[List.map_map]
    refine Eq.trans h3 ?_
    rw[hk,List.map_map]
    exact(List.map_congr_left fun x _=>rfl).trans (List.map_id ks)
   rw[h2]
 ·have h1:=((MapKept.stamped_iff es clk).1 hs).2.2
  have h2:(es.toList.map (·.key)).Pairwise (·≠·):=List.pairwise_map.2 h1
  rw[hk]at h2
  exact(List.pairwise_map.1 h2).imp fun h e=>h (by rw[e])
 ·show (List.length _)=_
  rw[length_sorted]
  simp[hsz]
section
variable {φ:Phi}{F:Nat→Nat→Prop}{H:Heap}{w:World}
theorem rowI_ok (sr:SR φ F H w){w':World}{v:Value}{l:List Int}(hb:Below w.heap.size w w')(h:w'.ownsRow w.heap.size 3 1 v l.length (l.map encZ)):CallR φ F H w (.sl l.length (ints l)) H v w':=by
 rcases h.2 with⟨rfl,h0⟩ | ⟨g,cap,cur,rfl,hg,hc,h1,h2,h3,h4⟩
 ·have:l=[]:=List.eq_nil_of_length_eq_zero h0
  subst this
  obtain⟨e,s⟩:=grow sr (F':=F) hb (fun _ _ h=>h) (fun _ _ h=>.inl h)
  exact⟨φ,F,.one (.slnil _),s,e,Chg.of_below hb _,fun b hb=>.inl ⟨hb,rfl⟩,fun _ _ h=>.inl h⟩
 ·have hlt:g<w'.heap.size:=(Array.getElem?_eq_some_iff.1 hc).1
  obtain⟨e,s⟩:=grow sr (F':=fun k o=>F k o∨k=g) hb (fun _ _ h=>.inl h) (fun k o h=>h.imp id fun h=>by subst h;exact⟨hg,hlt⟩)
  refine⟨φ,_,.one ?_,s,e,Chg.of_below hb _,fun b hb=>.inl ⟨hb,rfl⟩,fun _ _ h=>h.imp id fun h=>by subst h;exact hg⟩
  have hcell:∀(i:Nat) x,l[i]?=some x→cur[i]?=some (encZ x):=fun i x hi=>by
   have h5:(cur.toList.take (l.length*1))[i]?=(l.map encZ)[i]?:=by rw[h4]
   rw[List.getElem?_map,hi,List.getElem?_take]at h5
   split at h5
   ·rw[Array.getElem?_toList]at h5
    rw[h5];rfl
   ·cases h5
  refine .sl g 0 l.length cap (ints l) (l.map encZ) h1 (by simp[ints]) (fun i _=>.inr rfl) (fun i v hv=>?_) (fun i a v ha hv=>?_)
  ·rw[List.getElem?_map]at hv
   obtain⟨x,hx,rfl⟩:=Option.map_eq_some_iff.1 hv
   have:=hcell i x hx
   simp[World.cell?,hc,this]
  ·unfold ints at ha
   rw[List.getElem?_map]at ha hv
   cases hx:l[i]? with
   | none=>rw[hx]at ha;cases ha
   | some x=>
    rw[hx]at ha hv
    simp only[Option.map_some,Option.some.injEq]at ha hv
    subst ha;subst hv
    exact .val _ rfl
theorem intsL_rel:∀{es:List (AV×AV)} {ks:List Int} {l:List MapEntry},intsL es=some ks→l.length=es.length→(∀(i:Nat) k v,es[i]?=some (k,v)→∃e,l[i]?=some e∧VRel φ F H w k e.key)→l.map (·.key)=ks.map (fun x=>.int .i64 x)
 | [],ks,l,h,hl,_=>by
  simp only[intsL,Option.some.injEq]at h
  subst h
  rw[List.eq_nil_of_length_eq_zero hl];rfl
 | (k,v)::r,ks,[],h,hl,_=>by simp at hl
 | (k,v)::r,ks,e::l,h,hl,hr=>by
  unfold intsL at h
  split at h
  ·rename_i h1;cases h1
  ·rename_i s u r' h1
   cases h1
   split at h
   ·rename_i ks' hk
    simp only[Option.some.injEq]at h
    subst h
    have ih:=intsL_rel (l:=l) hk (by simpa using hl) fun i k v hi=>by simpa using hr (i+1) k v (by simpa using hi)
    obtain⟨e',he,hv⟩:=hr 0 _ _ rfl
    simp only[List.getElem?_cons_zero,Option.some.injEq]at he
    subst he
    rw[List.map_cons,List.map_cons,ih]
    cases hv with
    | one hv=>rw[hv.inv_val.1]
   ·cases h
  ·cases h
theorem intsL_perm:∀{a b:List (AV×AV)} {ks:List Int},a.Perm b→intsL b=some ks→∃ks',intsL a=some ks'∧ks'.Perm ks:=by
 intro a b ks hp
 induction hp generalizing ks with
 | nil=>intro h;exact⟨ks,h,List.Perm.refl _⟩
 | cons x _ ih=>
  intro h
  obtain⟨k,v⟩:=x
  unfold intsL at h
  split at h
  ·rename_i h1;cases h1
  ·rename_i s u r' h1
   cases h1
   split at h
   ·rename_i ks' hk
    simp only[Option.some.injEq]at h
    subst h
    obtain⟨k2,h2,h3⟩:=ih hk
    exact⟨s::k2,by simp only[intsL,h2],h3.cons s⟩
   ·cases h
  ·cases h
 | swap x y l=>
  intro h
  obtain⟨k,v⟩:=x
  obtain⟨k',v'⟩:=y
  unfold intsL at h
  split at h
  ·rename_i h1;cases h1
  ·rename_i s u r' h1
   cases h1
   split at h
   ·rename_i ks' hk
    simp only[Option.some.injEq]at h
    subst h
    unfold intsL at hk
    split at hk
    ·rename_i h1;cases h1
    ·rename_i s2 u2 r2 h1
     cases h1
     split at hk
     ·rename_i ks2 hk2
      simp only[Option.some.injEq]at hk
      subst hk
      exact⟨s2::s::ks2,by simp only[intsL,hk2],List.Perm.swap ..⟩
     ·cases hk
    ·cases hk
   ·cases h
  ·cases h
 | trans _ _ ih1 ih2=>
  intro h
  obtain⟨k1,h1,h2⟩:=ih2 h
  obtain⟨k2,h3,h4⟩:=ih1 h1
  exact⟨k2,h3,h4.trans h2⟩
end
set_option maxRecDepth 100000 in
theorem keysG_ok:FunOk Try.prog 40 keysG:=by
 refine⟨⟨_,Try.func40,by decide,rfl⟩,fun φ F H w as' r vs hg sr ha=>?_⟩
 unfold keysG at hg
 split at hg
 case h_2=>cases hg
 rename_i b
 split at hg
 case h_2=>cases hg
 rename_i es hb
 split at hg
 case h_2=>cases hg
 rename_i ks hks
 split at hg
 case isFalse=>cases hg
 rename_i hc
 simp only[Option.some.injEq]at hg
 subst hg
 obtain⟨hl,hr⟩:=ha
 match vs,hl with
 | [cv],h1=>
  have h0:=hr 0 _ cv rfl rfl
  clear hr hl h1
  cases h0 with
  | one h0=>
  cases h0 with
  | fn _ _ vs hl hr=>
  match vs,hl with
  | [pv],h1=>
   have h0:=hr 0 _ pv rfl rfl
   clear hr hl h1
   cases h0 with
   | rop bk o off cells vs2 hl hF hcl hr2=>
   match vs2,hl with
   | [mv],h1=>
    have h0:=hr2 0 _ mv rfl rfl
    have hcell:=hcl 0 mv rfl
    have hfz:=hF 0 (by simp)
    clear hr2 hl h1
    cases h0 with
    | mp _ es2 hb2=>
    obtain⟨ces,clk,hk,es0,hep,hm⟩:=sr.mblk b es hb
    have hperm:es0.Perm es:=by
     rcases hep with rfl | ⟨h,_⟩
     ·exact List.Perm.refl _
     ·exact h
    obtain⟨ks0,hks0,hkp⟩:=intsL_perm hperm hks
    have hkeys:=intsL_rel (φ:=φ) (F:=F) (H:=H) (w:=w) (l:=ces.toList) hks0 (by simpa using hm.1) fun i k v hi=>by
     obtain⟨_,_,e,h3,h4,_⟩:=hm.2 i k v hi
     exact⟨e,by simpa using h3,h4⟩
    obtain⟨D0,hown,hp,hn,hz⟩:=owns_of hk hm.3 hkeys (by rw[hkp.length_eq];exact hc.1) fun x hx=>List.all_eq_true.1 hc.2 x (hkp.mem_iff.1 hx)
    have hseq:=keys_gives bk (o+0) (φ b).1 ces.size D0 w (sr.fsz _ _ hfz) hcell hown
    refine(sortedAt _ _ _ (by rw[hz,hkp.length_eq];exact hc.1) w hseq).mono ?_
    rintro e w' ⟨v,ss,rfl,hS,hrow,_,hbl⟩
    refine⟨v,rfl,?_⟩
    have hss:ss.Perm ks:=(hS.trans hp).trans hkp
    have hnn:ss.Nodup:=(hS.trans hp).nodup_iff.2 hn
    have e1:ss.mergeSort (fun x y=>decide (x≤y))=normI ks:=(merge_normI hnn).trans (normI_congr fun x=>hss.mem_iff)
    have hlen:ss.length=(normI ks).length:=by rw[←e1,List.length_mergeSort]
    rw[e1,hlen]at hrow
    exact rowI_ok sr hbl hrow
end Go.Proofs.Ytnhennjliinplaa
