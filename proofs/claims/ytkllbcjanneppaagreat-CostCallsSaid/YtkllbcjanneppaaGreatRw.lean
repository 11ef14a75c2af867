import Derived.Test.YtkllbcjanneppaaGreatA
import Derived.Test.YtkllbcjanneppaaGreatRows
import Derived.Shelf.SlIter.Nil
import Derived.Shelf.SortM.Plain
import Derived.Shelf.SortM.SortNone
import Derived.Shelf.SlicesG.Cells
import Derived.StringKeys
import Derived.Shelf.Spec.SlicesGrow
import Derived.OwnWalk
import Derived.RangeFuncGives
import Derived.RangeFuncCalls
import Derived.WalkKit
import Derived.TacticsInMore
import Derived.LoopNIn
set_option maxRecDepth 100000
set_option linter.all false
namespace Go.Proofs.YtkllbcjanneppaaGreat
open Go Go.Hm Go.RowKit Go.Maps Go.Sort Go.Shelf Go.Proofs

def uo:Go.Shelf.Ren:=⟨fun | 7=>113 | 10=>120 | n=>n,fun | 23=>123 | 26=>9 | 3=>134 | 28=>130 | 0=>0 | 27=>129 | 33=>139 | 4=>4 | n=>n,fun | n=>n⟩
theorem yk:Go.Proofs.SlLaysZ.n7 Tryz.prog uo:={
 mixed:=by kernel_rfl
 f7 := ⟨"maps.Keys[viewport/first.rows,string,struct{}]", by decide, Tryz.func113.trans (congrArg some (by kernel_rfl))⟩
 f10 := ⟨"maps.Keys[viewport/first.rows,string,struct{}]$1", by decide, Tryz.func120.trans (congrArg some (by kernel_rfl))⟩
 t0:=Tryz.underlying0
 a0:=Tryz.isAgg0
 z0:=Tryz.sizeOf0
 v0:=Tryz.zeroValue0
 t4:=Tryz.underlying4
 a4:=Tryz.isAgg4
 z4:=Tryz.sizeOf4
 v4:=Tryz.zeroValue4
 t23:=Tryz.underlying123
 a23:=Tryz.isAgg123
 z23:=Tryz.sizeOf123
 v23:=Tryz.zeroValue123
 t26:=Tryz.underlying9
 a26:=Tryz.isAgg9
 z26:=Tryz.sizeOf9
 v26:=Tryz.zeroValue9
 t27:=Tryz.underlying129
 a27:=Tryz.isAgg129
 z27:=Tryz.sizeOf129
 v27:=Tryz.zeroValue129
 t28:=Tryz.underlying130
 a28:=Tryz.isAgg130
 z28:=Tryz.sizeOf130
 v28:=Tryz.zeroValue130
 t33:=Tryz.underlying139
 a33:=Tryz.isAgg139
 z33:=Tryz.sizeOf139
 v33:=Tryz.zeroValue139 }

def jy:Go.Shelf.Ren:=⟨fun | 6=>110 | 8=>116 | 9=>117 | 11=>122 | 13=>124 | 12=>123 | 23=>134 | 24=>135 | 14=>125 | 15=>126 | 16=>127 | 17=>128 | 18=>129 | 19=>130 | 20=>131 | 21=>132 | 22=>133 | 25=>136 | 26=>137 | 27=>138 | 28=>139 | 29=>140 | 30=>121 | 31=>141 | n=>n,fun | 26=>9 | 28=>130 | 24=>85 | 0=>0 | 3=>3 | 37=>78 | 48=>100 | 50=>103 | 4=>4 | 40=>146 | 39=>145 | 45=>40 | 5=>5 | 9=>9 | 51=>154 | 55=>158 | 57=>160 | 58=>161 | 33=>139 | n=>n,fun | n=>n⟩
theorem pd:Go.Proofs.SlLaysZ.n6 Tryz.prog jy:={
 mixed:=by kernel_rfl
 f6 := ⟨"slices.Sorted[string]", by decide, Tryz.func110.trans (congrArg some (by kernel_rfl))⟩
 f8 := ⟨"slices.Collect[string]", by decide, Tryz.func116.trans (congrArg some (by kernel_rfl))⟩
 f11 := ⟨"slices.AppendSeq[[]string,string]", by decide, Tryz.func122.trans (congrArg some (by kernel_rfl))⟩
 t0:=Tryz.underlying0
 a0:=Tryz.isAgg0
 z0:=Tryz.sizeOf0
 v0:=Tryz.zeroValue0
 t24:=Tryz.underlying85
 a24:=Tryz.isAgg85
 z24:=Tryz.sizeOf85
 v24:=Tryz.zeroValue85
 t26:=Tryz.underlying9
 a26:=Tryz.isAgg9
 z26:=Tryz.sizeOf9
 v26:=Tryz.zeroValue9
 t28:=Tryz.underlying130
 a28:=Tryz.isAgg130
 z28:=Tryz.sizeOf130
 v28:=Tryz.zeroValue130
 i26:=by kernel_rfl }

def LA:Go.Shelf.Ren:=⟨fun | 6=>117 | 8=>124 | 9=>123 | 19=>134 | 20=>135 | 21=>125 | 22=>126 | 23=>127 | 24=>128 | 25=>129 | 26=>130 | 27=>131 | 28=>132 | 29=>133 | 36=>136 | 31=>137 | 32=>138 | 37=>139 | 38=>140 | 39=>121 | 41=>141 | n=>n,fun | 27=>85 | 29=>9 | 3=>3 | 32=>78 | 26=>85 | 0=>0 | 44=>100 | 46=>103 | 4=>4 | 36=>146 | 35=>145 | 41=>40 | 5=>5 | 9=>9 | 53=>154 | 57=>158 | 63=>160 | 64=>161 | n=>n,fun | n=>n⟩
theorem JG:Go.Proofs.SlLaysM.n6 Tryz.prog LA:={
 mixed:=by kernel_rfl
 f6 := ⟨"slices.Sort[[]string,string]", by decide, Tryz.func117.trans (congrArg some (by kernel_rfl))⟩
 f8:=Tryz.func124.trans (congrArg some (by kernel_rfl))
 f9 := ⟨"slices.pdqsortOrdered[string]", by decide, Tryz.func123.trans (congrArg some (by kernel_rfl))⟩
 f19:=Tryz.func134.trans (congrArg some (by kernel_rfl))
 f20:=Tryz.func135.trans (congrArg some (by kernel_rfl))
 f21 := ⟨"slices.insertionSortOrdered[string]", by decide, Tryz.func125.trans (congrArg some (by kernel_rfl))⟩
 f22 := ⟨"slices.heapSortOrdered[string]", by decide, Tryz.func126.trans (congrArg some (by kernel_rfl))⟩
 f23 := ⟨"slices.breakPatternsOrdered[string]", by decide, Tryz.func127.trans (congrArg some (by kernel_rfl))⟩
 f24 := ⟨"slices.choosePivotOrdered[string]", by decide, Tryz.func128.trans (congrArg some (by kernel_rfl))⟩
 f25 := ⟨"slices.reverseRangeOrdered[string]", by decide, Tryz.func129.trans (congrArg some (by kernel_rfl))⟩
 f26 := ⟨"slices.partialInsertionSortOrdered[string]", by decide, Tryz.func130.trans (congrArg some (by kernel_rfl))⟩
 f27 := ⟨"cmp.Less[string]", by decide, Tryz.func131.trans (congrArg some (by kernel_rfl))⟩
 f28 := ⟨"slices.partitionEqualOrdered[string]", by decide, Tryz.func132.trans (congrArg some (by kernel_rfl))⟩
 f29 := ⟨"slices.partitionOrdered[string]", by decide, Tryz.func133.trans (congrArg some (by kernel_rfl))⟩
 f31:=Tryz.func137.trans (congrArg some (by kernel_rfl))
 f32:=Tryz.func138.trans (congrArg some (by kernel_rfl))
 f36 := ⟨"slices.siftDownOrdered[string]", by decide, Tryz.func136.trans (congrArg some (by kernel_rfl))⟩
 f37 := ⟨"slices.medianAdjacentOrdered[string]", by decide, Tryz.func139.trans (congrArg some (by kernel_rfl))⟩
 f38 := ⟨"slices.medianOrdered[string]", by decide, Tryz.func140.trans (congrArg some (by kernel_rfl))⟩
 f39 := ⟨"cmp.isNaN[string]", by decide, Tryz.func121.trans (congrArg some (by kernel_rfl))⟩
 f41 := ⟨"slices.order2Ordered[string]", by decide, Tryz.func141.trans (congrArg some (by kernel_rfl))⟩
 t0:=Tryz.underlying0
 a0:=Tryz.isAgg0
 z0:=Tryz.sizeOf0
 v0:=Tryz.zeroValue0
 t3:=Tryz.underlying3
 a3:=Tryz.isAgg3
 z3:=Tryz.sizeOf3
 v3:=Tryz.zeroValue3
 t4:=Tryz.underlying4
 a4:=Tryz.isAgg4
 z4:=Tryz.sizeOf4
 v4:=Tryz.zeroValue4
 t5:=Tryz.underlying5
 a5:=Tryz.isAgg5
 z5:=Tryz.sizeOf5
 v5:=Tryz.zeroValue5
 t9:=Tryz.underlying9
 a9:=Tryz.isAgg9
 z9:=Tryz.sizeOf9
 v9:=Tryz.zeroValue9
 t26:=Tryz.underlying85
 a26:=Tryz.isAgg85
 z26:=Tryz.sizeOf85
 v26:=Tryz.zeroValue85
 t27:=Tryz.underlying85
 a27:=Tryz.isAgg85
 z27:=Tryz.sizeOf85
 v27:=Tryz.zeroValue85
 t29:=Tryz.underlying9
 a29:=Tryz.isAgg9
 z29:=Tryz.sizeOf9
 v29:=Tryz.zeroValue9
 t32:=Tryz.underlying78
 a32:=Tryz.isAgg78
 z32:=Tryz.sizeOf78
 v32:=Tryz.zeroValue78
 t35:=Tryz.underlying145
 a35:=Tryz.isAgg145
 z35:=Tryz.sizeOf145
 v35:=Tryz.zeroValue145
 t36:=Tryz.underlying146
 a36:=Tryz.isAgg146
 z36:=Tryz.sizeOf146
 v36:=Tryz.zeroValue146
 t41:=Tryz.underlying40
 a41:=Tryz.isAgg40
 z41:=Tryz.sizeOf40
 v41:=Tryz.zeroValue40
 t44:=Tryz.underlying100
 a44:=Tryz.isAgg100
 z44:=Tryz.sizeOf100
 v44:=Tryz.zeroValue100
 t46:=Tryz.underlying103
 a46:=Tryz.isAgg103
 z46:=Tryz.sizeOf103
 v46:=Tryz.zeroValue103
 t53:=Tryz.underlying154
 a53:=Tryz.isAgg154
 z53:=Tryz.sizeOf154
 v53:=Tryz.zeroValue154
 t57:=Tryz.underlying158
 a57:=Tryz.isAgg158
 z57:=Tryz.sizeOf158
 v57:=Tryz.zeroValue158
 t63:=Tryz.underlying160
 a63:=Tryz.isAgg160
 z63:=Tryz.sizeOf160
 v63:=Tryz.zeroValue160
 t64:=Tryz.underlying161
 a64:=Tryz.isAgg161
 z64:=Tryz.sizeOf161
 v64:=Tryz.zeroValue161 }

def BQ:Go.Shelf.Ren:=⟨fun | 44=>109 | n=>n,fun | 25=>85 | 26=>9 | 3=>3 | 4=>4 | 0=>0 | n=>n,fun | n=>n⟩
theorem wi:Go.Proofs.SlLaysN.n44 Tryz.prog BQ:={
 mixed:=by kernel_rfl
 f44 := ⟨"slices.Compact[[]string,string]", by decide, Tryz.func109.trans (congrArg some (by kernel_rfl))⟩
 t0:=Tryz.underlying0
 a0:=Tryz.isAgg0
 z0:=Tryz.sizeOf0
 v0:=Tryz.zeroValue0
 t3:=Tryz.underlying3
 a3:=Tryz.isAgg3
 z3:=Tryz.sizeOf3
 v3:=Tryz.zeroValue3
 t4:=Tryz.underlying4
 a4:=Tryz.isAgg4
 z4:=Tryz.sizeOf4
 v4:=Tryz.zeroValue4
 t25:=Tryz.underlying85
 a25:=Tryz.isAgg85
 z25:=Tryz.sizeOf85
 v25:=Tryz.zeroValue85
 t26:=Tryz.underlying9
 a26:=Tryz.isAgg9
 z26:=Tryz.sizeOf9
 v26:=Tryz.zeroValue9
 i26:=by kernel_rfl }


theorem z6 {a b:List UInt8}(h:leB a b=true)(hn:a≠b):Op.bytesLess a b=true:=by
 rcases fQ a b with h1 | h1 | h1
 ·exact h1
 ·exact absurd h1 hn
 ·rw[bytesLess_eq,decide_eq_true_eq]at h1;simp only[leB,decide_eq_true_eq]at h;exact absurd h1 (List.not_lt.2 h)
theorem D6:∀a b c:List UInt8,leB a b=true->leB b c=true->leB a c=true:=fun a b c h1 h2=>by
 simp only[leB,decide_eq_true_eq]at *;exact List.le_trans h1 h2
theorem D7:∀a b:List UInt8,(leB a b||leB b a)=true:=fun a b=>by
 simp only[leB,Bool.or_eq_true,decide_eq_true_eq];exact List.le_total a b
theorem yl {l:List (List UInt8)}(hn:l.Nodup):l.mergeSort leB=bG l:=by
 refine iG ?_ (eF l) fun x=>by rw[dB,List.mem_mergeSort]
 have h1:=List.pairwise_mergeSort D6 D7 l;have h2:(l.mergeSort leB).Pairwise (·≠·):=(List.mergeSort_perm l leB).nodup_iff.2 hn;exact(h1.and h2).imp fun h=>z6 h.1 h.2
theorem D8 (m:Nat):AnyZ.SortsIn Tryz.prog jy Fence.wide m:=
 ⟨fun blk off cap ss W hH hblk hsz=>callsIn_wide.2 (AnyM.slices_Sort_string JG blk off cap ss W hH hblk hsz),
  fun p cap W=>callsIn_wide.2 (AnyM.slices_Sort_string_none JG p cap W)⟩
theorem LB (mb:Option Nat)(W:World):CallsIn Fence.wide 5 Tryz.prog 113 #[.map mb] W fun e w'=>e= .returned (.func (.func 120) #[] #[.pointer (some ⟨W.heap.size,0,none⟩)])/\w'=W.alloc (.cells #[.map mb] 123):=
 AnyZ.keys_in yk Fence.wide 5 trivial rfl mb W
theorem D9 (g:Nat)(lb:Array Value)(eg:∀args w,(callFunc g args).run Tryz.prog w= .ok (.enter g args) w)(S:List (List UInt8)->Prop)(N:Nat)(hN:N<=8000000000000)(w:World)(hseq:SeqGives Fence.wide 2 Tryz.prog g lb encStr S N w):
  CallsIn Fence.wide 5 Tryz.prog 110 #[.func (.func g) #[] lb] w fun e w'=>∃(v:Value) (ss:List (List UInt8)),e= .returned v/\S ss/\
   w'.ownsRow w.heap.size 9 1 v ss.length ((ss.mergeSort leB).map encStr)/\(v= .slice none 0 0↔ss=[])/\Below w.heap.size w w':=
 AnyZ.sorted_in pd Fence.wide 5 trivial trivial trivial trivial rfl (by omega) (D8 _) (enters_of Tryz.func117 (by kernel_rfl) rfl) g lb trivial eg S N (Nat.le_trans hN (by decide)) (by omega) w hseq
theorem qz {w w':World}{base:Nat}{v:Value}{l:List (List UInt8)}(hb:Below w.heap.size w w')(hbase:w.heap.size<=base)(h:w'.ownsRow base 9 1 v l.length (l.map encStr)):Row w w' v l:=by
 refine⟨hb,?_⟩;rcases h.2 with⟨rfl,h0⟩ | ⟨g,cap,cur,rfl,hg,hc,h1,h2,h3,h4⟩
 ·exact .inl ⟨List.eq_nil_of_length_eq_zero h0,none,rfl⟩
 ·refine .inr ⟨g,cap,cur,9,rfl,by omega,hc,h1,fun i x hi=>?_⟩
  have h5:(cur.toList.take (l.length*1))[i]?=(l.map encStr)[i]?:=by rw[h4]
  rw[List.getElem?_map,hi,List.getElem?_take]at h5;split at h5
  ·rw[Array.getElem?_toList]at h5;rw[h5];rfl
  ·cases h5
set_option maxHeartbeats 1000000 in
theorem z7 (mb:Option Nat)(w:World)(S:List (List UInt8)->Prop)(N:Nat)(hN:N<=8000000000000)(hseq:SeqGives Fence.wide 2 Tryz.prog 120 #[.pointer (some ⟨w.heap.size,0,none⟩)] encStr S N (w.alloc (.cells #[.map mb] 123))):
  Calls Tryz.prog 105 #[.map mb] w fun e w'=>∃(v:Value) (ss:List (List UInt8)),e= .returned v/\S ss/\w'.ownsRow (w.heap.size+1) 9 1 v ss.length ((ss.mergeSort leB).map encStr)/\Below w.heap.size w w':=by
 refine(callsIn_wide (n:=6)).1 ?_;have hfK:Fence.wide.fn 113:=trivial;have hfS:Fence.wide.fn 110:=trivial;refine callsIn_of_wp Tryz.func105 rfl trivial ?_ rfl;simp only[Tryz.ntmps105,List.size_toArray,List.length_cons,List.length_nil,Nat.reduceAdd,Nat.reduceSub,Array.replicate_succ,Array.replicate_zero,List.push_toArray,List.append_toArray,List.nil_append,List.cons_append]
 gi_wp2_with (first
  | (gi_at_call 113;refine(LB _ _).mono ?_;rintro e w' ⟨rfl,rfl⟩)
  | (gi_at_call 110;refine(D9 120 _ (enters_of Tryz.func120 (by kernel_rfl) rfl) S N hN _ hseq).mono ?_;rintro e w' ⟨v,ss,rfl,hS,hrow,hnil,hb⟩))
 go_ret
 exact⟨v,ss,rfl,hS,by simpa using hrow,((Below.refl _ w).alloc (Nat.le_refl _) _).trans (hb.mono (by simp))⟩
open Go.WideElems

def ym (_:Value):Option (DataW Unit×List MemPlace):=some (.lit (.bool true),[])
theorem Iy {w:World}{b:Nat}{es:Array MapEntry}{clk:Nat}{ks:List (List UInt8)}(hb:w.heap[b]?=some (.map es clk))(hs:MapKept.Stamped es clk)(hk:es.toList.map (·.key)=ks.map (fun x=>.string ⟨⟨x⟩⟩))(hl:ks.length<=8000000000000)
  (hx:∀x∈ks,x.length<=9223372036854775807):∃D0:DataW Unit,w.ownsMap Tryz.prog 9 ym b es.size D0/\(strKeys D0).Perm ks/\ks.Nodup/\Maps.size D0=ks.length:=by
 have hsz:es.size=ks.length:=by
  have:=congrArg List.length hk;simpa using this
 have hkey:∀x∈es.toList,∃s:List UInt8,s∈ks/\x.key= .string ⟨⟨s⟩⟩:=fun x hx=>by
  have:x.key∈es.toList.map (·.key):=List.mem_map_of_mem hx;rw[hk]at this;obtain⟨s,hs,e⟩:=List.mem_map.1 this;exact⟨s,hs,e.symm⟩
 have hrd:∀x∈es.toList,∀s:List UInt8,s∈ks->x.key= .string ⟨⟨s⟩⟩->WideElems.rd Tryz.prog 9 ym x=some (.string s,.lit (.bool true)):=fun x _ s hs e=>by
  unfold WideElems.rd;rw[e,WideMaps.keyOf_string_mk Tryz.underlying9 (s:=⟨⟨s⟩⟩) (hx s hs)];rfl
 have fit:Fit Tryz.prog 9 ym es clk:=⟨by rw[hsz];exact Nat.le_trans hl (by decide),hs,fun x hx=>by
  obtain⟨s,h1,h2⟩:=hkey x hx;exact⟨_,hrd x hx s h1 h2⟩⟩
 refine⟨.map ((es.toList.map (rg Tryz.prog 9 ym)).foldr DataW.insert []),⟨es,clk,hb,fit,Nat.le_refl _,rfl⟩,?_,?_,?_⟩
 ·have h1:=WideShapes.sorted_perm (es.toList.map (rg Tryz.prog 9 ym));refine(h1.map fun p=>strOf p.1).trans ?_;have h2:(es.toList.map (rg Tryz.prog 9 ym)).map (fun p=>strOf p.1)=ks:=by
   have h3:es.toList.map (fun x=>strOf (rg Tryz.prog 9 ym x).1)=(es.toList.map (·.key)).map (fun v=>match v with | .string s=>s.data.toList | _=>[]):=by
    rw[List.map_map];refine List.map_congr_left fun x hx=>?_;obtain⟨s,h1,h2⟩:=hkey x hx;rw[rg_of (hrd x hx s h1 h2)];simp[strOf,h2]
   rw[List.map_map];refine Eq.trans h3 ?_;rw[hk,List.map_map];exact(List.map_congr_left fun x _=>rfl).trans (List.map_id ks)
  rw[h2]
 ·have h1:=((MapKept.stamped_iff es clk).1 hs).2.2;have h2:(es.toList.map (·.key)).Pairwise (·≠·):=List.pairwise_map.2 h1;rw[hk]at h2;exact(List.pairwise_map.1 h2).imp fun h e=>h (by rw[e])
 ·show (List.length _)=_;rw[length_sorted];simp[hsz]
theorem BR:ny Tryz.prog 105:=by
 refine⟨⟨_,Tryz.func105,by decide,rfl⟩,fun w=>?_,fun w b es clk ks hb hs hk hl hx=>?_⟩
 ·have hseq:SeqGives Fence.wide 2 Tryz.prog 120 #[.pointer (some ⟨w.heap.size,0,none⟩)] encStr (fun ss:List (List UInt8)=>ss=[]) 0 (w.alloc (.cells #[.map none] 123)):=
   AnyZ.keys_gives_nil (ρ:=uo) { yk with } Fence.wide _ trivial rfl w.heap.size _ (by simp) (by simp)
  refine(z7 none w _ 0 (by omega) hseq).mono fun e w' ⟨v,ss,he,hS,hrow,hbl⟩=>⟨v,he,?_⟩
  subst hS;exact qz (base:=w.heap.size+1) hbl (by omega) (by simpa using hrow)
 ·obtain⟨D0,hown,hp,hn,hz⟩:=Iy hb hs hk hl hx;have hlt:=hown.lt;have hseq:SeqGives Fence.wide 2 Tryz.prog 120 #[.pointer (some ⟨w.heap.size,0,none⟩)] encStr (fun ss=>ss.Perm (strKeys D0)) (Maps.size D0) (w.alloc (.cells #[.map (some b)] 123)):=
   AnyZ.keys_gives (ρ:=uo) { yk with } Fence.wide _ trivial rfl (by omega) w.heap.size b es.size D0 _ (by simp) (by simp) (hown.alloc _)
  refine(z7 (some b) w _ _ (by omega) hseq).mono fun e w' ⟨v,ss,he,hS,hrow,hbl⟩=>⟨v,he,?_⟩
  have hss:ss.Perm ks:=hS.trans hp;have hnn:ss.Nodup:=hss.nodup_iff.2 hn;have e1:ss.mergeSort leB=bG ks:=(yl hnn).trans (qp fun x=>hss.mem_iff);have hlen:ss.length=(bG ks).length:=by rw[<-e1,List.length_mergeSort]
  rw[e1,hlen]at hrow;exact qz (base:=w.heap.size+1) hbl (by omega) hrow
open Go.Lib

def uq:Go.Shelf.Ren:=⟨fun | 4=>119 | n=>n,fun | 22=>85 | 25=>9 | 3=>3 | 4=>4 | 9=>9 | 20=>20 | 0=>0 | n=>n,fun | n=>n⟩
theorem JH:Go.Proofs.Lays8.n4 Tryz.prog uq:={
 mixed:=by kernel_rfl
 f4 := ⟨"slices.Grow[[]string,string]", by decide, Tryz.func119.trans (congrArg some (by kernel_rfl))⟩
 t0:=Tryz.underlying0
 a0:=Tryz.isAgg0
 z0:=Tryz.sizeOf0
 v0:=Tryz.zeroValue0
 t3:=Tryz.underlying3
 a3:=Tryz.isAgg3
 z3:=Tryz.sizeOf3
 v3:=Tryz.zeroValue3
 t4:=Tryz.underlying4
 a4:=Tryz.isAgg4
 z4:=Tryz.sizeOf4
 v4:=Tryz.zeroValue4
 t9:=Tryz.underlying9
 a9:=Tryz.isAgg9
 z9:=Tryz.sizeOf9
 v9:=Tryz.zeroValue9
 t20:=Tryz.underlying20
 a20:=Tryz.isAgg20
 z20:=Tryz.sizeOf20
 v20:=Tryz.zeroValue20
 t22:=Tryz.underlying85
 a22:=Tryz.isAgg85
 z22:=Tryz.sizeOf85
 v22:=Tryz.zeroValue85 }


theorem Iz {l:List (List UInt8)}{j:Nat}{u:Value}(h:(l.map encStr)[j]?=some u):∃x,l[j]?=some x/\u=encStr x:=by
 rw[List.getElem?_map]at h;obtain⟨x,h1,h2⟩:=Option.map_eq_some_iff.1 h;exact⟨x,h1,h2.symm⟩
theorem so {w:World}{ops:Array Oper}{rest:List Oper}{o:Oper}{a:Act}{Q:Exit->Act->World->Prop}
  (hg:o.guard=none) (s x:Operand) (hop:o.op=Op.call { callee:=Callee.builtin Builtin.append,args:=#[s,x],argTypes:=#[85,85] })
  (base:Nat) (v:Value) (k:Nat) (xs:List Value) (hs:a.eval s=v) (hown:w.ownsRow base 9 1 v k xs) (vx:Value) (l:List (List UInt8)) (hx:a.eval x=vx) (hl:dY w vx l)
  (b1:k+l.length<=8000000000000) (b3:base<=w.heap.size)
  (hK:∀v' w',w'.ownsRow base 9 1 v' (k+l.length) (xs++l.map encStr)->w.grownBy w' v.ownBlock->wpList Tryz.prog ops Q rest (a.put o.dst v') w'):
  wpList Tryz.prog ops Q (o::rest) a w:=by
 obtain⟨i0,hi,hz0,hz1,hz2⟩:=info_parts (pd.i26);have some':∀ad m c,vx= .slice (some ad) m c->m=l.length->(∀j u,(l.map encStr)[j]?=some u->w.cell? (ad.add j)=some u)->wpList Tryz.prog ops Q (o::rest) a w:=fun ad m c hv hm hc=>by
  subst hm;exact wpList_append_own w hg s x 85 hop base 9 i0 (.string ⟨#[]⟩) 1 16 Tryz.underlying85 hi hz0 hz1 hz2 rfl (by decide) v k xs hs hown ad l.length c (l.map encStr) (by rw[hx,hv]) (by simp) hc
   (fun u hu=>by obtain⟨y,_,rfl⟩:=List.mem_map.1 hu;rfl) (Nat.le_trans b1 (by decide)) (by omega) b3 (fun v' w' h1 h2 _=>hK v' w' h1 h2)
 rcases hl with⟨rfl,ad,c,hv,hn⟩ | ⟨bk,o',c,hv,hne,hlc,hbk,hcell⟩
 ·cases ad with
  | some ad=>exact some' ad 0 c hv rfl (fun j u h=>by simp at h)
  | none=>
   have hc:=hn rfl;subst hc;refine wpList_plain hg fun K hK'=>?_;have hrun:=run_append_owned_none (P:=Tryz.prog) (w:=w) base 85 o.type 9 i0 1 Tryz.underlying85 hi v k xs hown;unfold Oper.wp;simp[execOp,hop,resolve,invoke,builtin,hs,hx,hv,hrun,Result.andThen];exact hK' _ _ (by simpa using hK v w (by simpa using hown) (World.grownBy.refl _ _))
 ·refine some' ⟨bk,o',none⟩ l.length c hv rfl fun j u h=>?_;obtain⟨y,h1,rfl⟩:=Iz h;rw[Addr.add_lit];exact hcell j y h1
open Go.Lib

theorem ft {w:World}{v:Value}{l:List (List UInt8)}(h:dY w v l):∃a c,v= .slice a l.length c:=by
 rcases h with⟨rfl,a,c,rfl,_⟩ | ⟨bk,o,c,rfl,_⟩
 ·exact⟨a,c,rfl⟩
 ·exact⟨_,c,rfl⟩
theorem eO {w w':World}{v:Value}{l:List (List UInt8)}(h:dY w v l)(hb:Below w.heap.size w w'):dY w' v l:=by
 rcases h with h | ⟨bk,o,c,h1,h2,h3,h4,h5⟩
 ·exact .inl h
 ·exact .inr ⟨bk,o,c,h1,h2,h3,by have:=hb.size;omega,fun j x hj=>(hb.cell (p:=⟨bk,o+j,none⟩) h4).trans (h5 j x hj)⟩
theorem LC (n:Nat)(w:World)(hn:n<=8000000000000):Calls Tryz.prog 119 #[.slice none 0 0,.int .i64 n] w fun e w'=>∃v,e= .returned v/\w'.ownsRow w.heap.size 9 1 v 0 []/\Below w.heap.size w w':=by
 by_cases h0:n=0
 ·subst h0;refine(Any8.slices_Grow_room JH none 0 0 0 w (by omega) (by omega) (by omega) (by omega)).mono fun e w' ⟨he,hw⟩=>⟨_,he,⟨rfl,.inl ⟨rfl,rfl⟩⟩,by rw[hw];exact Below.refl _ _⟩
 ·obtain⟨i0,hi,hz0,hz1,hz2⟩:=info_parts (pd.i26);have hi:Tryz.prog.info? (uq.t 25)=some i0:=hi;have hge:=grownCap_ge w (0+n) 0 (uq.t 25);have hle:=grownCap_le_maxLen w (0+n) 0 (uq.t 25) (by unfold maxLen;omega)
  refine(Any8.slices_Grow_grow JH i0 (.string ⟨#[]⟩) hi hz0 (by omega) none 0 0 n [] w (by omega) (by omega) (by rw[hz2];omega) (by omega) (by simp) (fun _=>rfl) (fun a h=>by cases h)).mono ?_
  rintro e w' ⟨rfl,rfl⟩;refine⟨_,rfl,⟨rfl,.inr ⟨w.heap.size,_,_,rfl,Nat.le_refl _,World.alloc_heap_new w.drew _,Nat.zero_le _,hle,?_,by simp⟩⟩,((Below.refl _ w).drew).alloc (Nat.le_refl _) _⟩
  rw[Nat.zero_add]at hge |-;simp[Builtin.zeroCells,Value.cells];omega
set_option maxHeartbeats 2000000 in
theorem Ea (w:World)(a b:List (List UInt8))(va vb:Value)(ha:dY w va a)(hb:dY w vb b)(B:Nat)(hB:w.heap[B]?=some (.cells #[va,vb] 85 (0,0)))(hl:a.length+b.length<=8000000000000):
  Calls Tryz.prog 112 #[.slice (some ⟨B,0,none⟩) 2 2] w fun e w'=>∃v,e= .returned v/\w'.ownsRow w.heap.size 9 1 v (a++b).length ((a++b).map encStr)/\Below w.heap.size w w':=by
 have hBl:B<w.heap.size:=(Array.getElem?_eq_some_iff.1 hB).1;obtain⟨aa,ac,rfl⟩:=ft ha;obtain⟨ba,bc,rfl⟩:=ft hb;have c0:w.cell? ⟨B,0,none⟩=some (.slice aa a.length ac):=by simp[World.cell?,hB]
 have c1:w.cell? ⟨B,1,none⟩=some (.slice ba b.length bc):=by simp[World.cell?,hB]
 go_enter Tryz.func112,Tryz.ntmps112
 go_wp2
 obtain⟨sz,s0,s1,s2⟩:∃f:Nat->Nat,f 0=0/\f 1=a.length/\f 2=a.length+b.length:=⟨fun k=>if k=0 then 0 else if k=1 then a.length else a.length+b.length,rfl,rfl,rfl⟩
 go_loopw [3,11] (fun sv iv wr=>∃k:Nat,k<=2/\iv= .int .i64 k/\sv= .int .i64 (sz k)/\wr=w) (fun _ iv _=>2-(intOf iv).toNat)
 case atStart=>exact⟨0,by omega,rfl,by rw[s0];rfl,rfl⟩
 case round=>
  obtain⟨k,hk,rfl,rfl,rfl⟩:=hrel;have hk3:k=0\/k=1\/k=2:=by omega
  rcases hk3 with rfl | rfl | rfl
  ·rw[s0]
   go_wp2
   go_roundw
   case rel=>exact⟨1,by omega,by simp,by simp[s1],trivial⟩
   case measure=>simp[intOf]
  ·rw[s1]
   go_wp2
   go_roundw
   case rel=>exact⟨2,by omega,by simp,by simp[s2],trivial⟩
   case measure=>simp[intOf]
  ·obtain⟨wo,hwo⟩:∃wo,wo=wr:=⟨_,rfl⟩;subst hwo;rw[s2]
   go_wp2_with (go_at_call 119;refine(LC (a.length+b.length) wo hl).mono ?_;rintro e w1 ⟨v0,rfl,hrow,hb1⟩)
   obtain⟨tx,t0,t1,t2⟩:∃f:Nat->List (List UInt8),f 0=[]/\f 1=a/\f 2=a++b:=⟨fun k=>if k=0 then [] else if k=1 then a else a++b,rfl,rfl,rfl⟩
   go_loopw [6,27] (fun v iv wq=>∃k:Nat,k<=2/\iv= .int .i64 k/\wq.ownsRow wo.heap.size 9 1 v (tx k).length ((tx k).map encStr)/\Below wo.heap.size wo wq) (fun _ iv _=>2-(intOf iv).toNat)
   case atStart=>exact⟨0,by omega,rfl,by rw[t0];exact hrow,hb1⟩
   case round=>
    obtain⟨k,hk,rfl,hrw,hbq⟩:=hrel;have d0:wr.cell? ⟨B,0,none⟩=some (.slice aa a.length ac):=(hbq.cell (p:=⟨B,0,none⟩) hBl).trans c0;have d1:wr.cell? ⟨B,1,none⟩=some (.slice ba b.length bc):=(hbq.cell (p:=⟨B,1,none⟩) hBl).trans c1;have ha':=eO ha hbq;have hb':=eO hb hbq;have hsz:=hbq.size;have hk3:k=0\/k=1\/k=2:=by omega
    rcases hk3 with rfl | rfl | rfl
    ·rw[t0]at hrw
     go_wp2_with (at_builtin;refine so rfl _ _ rfl wo.heap.size _ _ _ rfl hrw _ a rfl ha' (by simp;omega) hsz ?_;intro v' w' hown hgr)
     have hb2:RowKit.Below wo.heap.size wo w':=hbq.grown hgr hsz (fun j e=>(hrw.lt j e).1)
     go_roundw
     case rel=>exact⟨1,by omega,by simp,by rw[t1];simpa using hown,hb2⟩
     case measure=>simp[intOf]
    ·rw[t1]at hrw
     go_wp2_with (at_builtin;refine so rfl _ _ rfl wo.heap.size _ _ _ rfl hrw _ b rfl hb' (by omega) hsz ?_;intro v' w' hown hgr)
     have hb2:RowKit.Below wo.heap.size wo w':=hbq.grown hgr hsz (fun j e=>(hrw.lt j e).1)
     go_roundw
     case rel=>exact⟨2,by omega,by simp,by rw[t2,List.length_append,List.map_append];exact hown,hb2⟩
     case measure=>simp[intOf]
    ·rw[t2]at hrw
     go_wp2
     go_ret
     exact⟨_,rfl,hrw,hbq⟩
open Go.Lib

theorem wk {P:Program}{l n m:Nat}{args:Array Value}{W:World}{R:Ending->World->Prop}(h:YieldAt Fence.wide n P l args W R):YieldAt Fence.wide m P l args W R:=by
 obtain⟨fn,tmps,assign,body,hy,hR⟩:=h;exact⟨fn,tmps,assign,body,hy,hR.1,fun c cs _=>hR.2 c cs (room_wide _)⟩
set_option maxHeartbeats 2000000 in
theorem Eb (w:World)(Bm:Nat)(v:Value)(l:List (List UInt8))(hBm:Bm<w.heap.size)(hm:w.cell? ⟨Bm,0,none⟩=some v)(hv:dY w v l)(hl:l.length<=8000000000000)
  (lp:Nat) (J:List (List UInt8)->World->Prop) (W:World) (hJB:∀pre W1,J pre W1->RowKit.Below w.heap.size w W1)
  (hY:∀pre x W1,J pre W1->pre.length<l.length->YieldAt Fence.wide 1 Tryz.prog lp #[encStr x] W1 fun e W'=>e= .returned (.bool true)/\J (pre++[x]) W'/\KeepsWalks W1 W') (h0:J [] W):
  CallsIn Fence.wide 9 Tryz.prog 118 #[.func (.yield lp) #[] #[],.pointer (some ⟨Bm,0,none⟩)] W fun e W'=>(∃u,e= .returned u)/\J l W':=by
 have hY:=fun pre x W1 h1 h2=>wk (m:=9-1) (hY pre x W1 h1 h2);obtain⟨aa,ac,rfl⟩:=ft hv;have hbW:=hJB [] W h0;have hmW:W.cell? ⟨Bm,0,none⟩=some (.slice aa l.length ac):=(hbW.cell (p:=⟨Bm,0,none⟩) hBm).trans hm;refine callsIn_of_wp Tryz.func118 rfl trivial ?_ rfl;simp only[Tryz.ntmps118,List.size_toArray,List.length_cons,List.length_nil,Nat.reduceAdd,Nat.reduceSub,Array.replicate_succ,Array.replicate_zero,List.push_toArray,List.append_toArray,List.nil_append,List.cons_append]
 gi_wp2
 gi_loopw [7] (fun i wr=>∃k:Nat,k<=l.length/\i= .int .i64 k/\J (l.take k) wr) (fun i _=>l.length-(intOf i).toNat)
 case atStart=>exact⟨0,Nat.zero_le _,rfl,by simpa using h0⟩
 case round=>
  obtain⟨k,hk,rfl,hJs⟩:=hrel;by_cases hlt:k<l.length
  ·have hbr:=hJB _ _ hJs;rcases hv with⟨e,_⟩ | ⟨bk,o,c,e,hne,hlc,hbk,hcell⟩
   ·rw[e]at hlt;simp at hlt
   ·simp only[Value.slice.injEq]at e;obtain⟨rfl,_,rfl⟩:=e;have hcx:wr.cell? ⟨bk,o+k,none⟩=some (encStr l[k]):=(hbr.cell (p:=⟨bk,o+k,none⟩) hbk).trans (hcell k l[k] (by simp[hlt]))
    have hlen:(l.take k).length<l.length:=by rw[List.length_take];omega
    obtain⟨fn,tmps,assign,body,hy,hR⟩:=hY _ l[k] wr hJs hlen;have hsn:l.take k++[l[k]]=l.take (k+1):=(List.take_succ_eq_append_getElem hlt).symm;rw[hsn]at hR
    gi_wp2
    refine hR.mono ?_;rintro e W3 ⟨rfl,hJ3,hk3⟩
    gi_wp2
    go_roundw
    case rel=>exact⟨k+1,by omega,by simp,hJ3⟩
    case measure=>simp[intOf];omega
  ·obtain rfl:k=l.length:=by omega
   rw[List.take_length]at hJs
   gi_wp2
   go_end0
   exact⟨⟨_,rfl⟩,hJs⟩
theorem Ec (a:Option Addr)(n c:Nat)(W:World):CallsIn Fence.wide 12 Tryz.prog 111 #[.slice a n c] W fun e w'=>e= .returned (.func (.func 118) #[] #[.pointer (some ⟨W.heap.size,0,none⟩)])/\w'=W.alloc (.cells #[.slice a n c] 85):=by
 refine callsIn_of_wp Tryz.func111 rfl trivial ?_ rfl;simp only[Tryz.ntmps111,List.size_toArray,List.length_cons,List.length_nil,Nat.reduceAdd,Nat.reduceSub,Array.replicate_succ,Array.replicate_zero,List.push_toArray,List.append_toArray,List.nil_append,List.cons_append]
 gi_wp2
 go_ret
 exact⟨rfl,rfl⟩
def ur (w:World)(g:Nat)(lb:Array Value)(l:List (List UInt8)):Prop:=
 ∀(lp:Nat) (J:List (List UInt8)->World->Prop) (W:World),(∀pre W1,J pre W1->RowKit.Below w.heap.size w W1)->
  (∀pre x W1,J pre W1->pre.length<l.length->YieldAt Fence.wide 1 Tryz.prog lp #[encStr x] W1 fun e W'=>e= .returned (.bool true)/\J (pre++[x]) W'/\KeepsWalks W1 W')->J [] W->
  CallsIn Fence.wide 9 Tryz.prog g (#[.func (.yield lp) #[] #[]]++lb) W fun e W'=>(∃u,e= .returned u)/\J l W'
set_option maxHeartbeats 2000000 in
theorem Ee (w:World)(g:Nat)(lb:Array Value)(l:List (List UInt8))(eg:∀args w,(callFunc g args).run Tryz.prog w= .ok (.enter g args) w)(hl:l.length<=8000000000000)(hseq:ur w g lb l):
  CallsIn Fence.wide 10 Tryz.prog 122 #[.slice none 0 0,.func (.func g) #[] lb] w fun e w'=>∃v,e= .returned v/\w'.ownsRow w.heap.size 9 1 v l.length (l.map encStr)/\RowKit.Below w.heap.size w w':=by
 have hne:(85:TypeId)≠9:=by decide
 refine callsIn_of_wp_marks Tryz.func122 rfl trivial ?_ rfl;simp only[Tryz.ntmps122,List.size_toArray,List.length_cons,List.length_nil,Nat.reduceAdd,Nat.reduceSub,Array.replicate_succ,Array.replicate_zero,List.push_toArray,List.append_toArray,List.nil_append,List.cons_append]
 gi_wp2
 refine wpIn_rangeFunc ?_;intro fn hfn;rw[show Fence.wide.round=none from rfl];obtain⟨w1,h1⟩:∃w1,w.alloc (.cells #[.slice none 0 0] 85)=w1:=⟨_,rfl⟩;have z1:w1.heap.size=w.heap.size+1:=by rw[<-h1];simp
 have box1:w1.heap[w.heap.size]?=some (.cells #[.slice none 0 0] 85 (0,0)):=by rw[<-h1];exact World.alloc_heap_new w _
 have low1:RowKit.Below w.heap.size w w1:=by rw[<-h1];exact(Below.refl _ w).alloc (Nat.le_refl _) _
 rw[h1]
 let rec':Loop:=AnyZ.apRec jy fn (.func (.func g) #[] lb) w.heap.size w1.heap.size .ready none
 obtain⟨w2,h2⟩:∃w2,(w1.alloc (.deferred (some []))).alloc (.loop rec')=w2:=⟨_,rfl⟩;have keep2:∀k,k<w1.heap.size->w2.heap[k]?=w1.heap[k]?:=fun k hk=>by
  rw[<-h2];exact(Below.heap_alloc _ _ k (by simp;omega)).trans (Below.heap_alloc _ _ k hk)
 have low2:RowKit.Below w.heap.size w w2:=by rw[<-h2];exact(low1.alloc low1.size _).alloc (by have:=low1.size;simp;omega) _
 have z2:w2.heap.size=w1.heap.size+2:=by rw[<-h2];simp
 have start:AnyZ.ApAt jy w fn (.func (.func g) #[] lb) w.heap.size (w1.heap.size+1) w1.heap.size [] w2:=
  ⟨⟨_,(keep2 w.heap.size (by omega)).trans box1,⟨rfl,.inl ⟨rfl,rfl⟩⟩,by simp⟩,
   by rw[<-h2];have:=World.alloc_heap_new (w1.alloc (.deferred (some []))) (.loop rec');rwa [World.size_alloc]at this,
   by rw[<-h2];exact(Below.heap_alloc _ _ _ (by simp)).trans (World.alloc_heap_new w1 _),low2⟩
 refine⟨w1.heap.size+1,[{ target:=.collected w1.heap.size,args:=#[] }],w2,{ target:=.fn (.func g) lb,args:=#[.func (.yield (w1.heap.size+1)) #[] #[]] },w2,g,
  #[.func (.yield (w1.heap.size+1)) #[] #[]]++lb,w2,?_,?_,fun _ _=>trivial,?_,fun _=>by decide,?_⟩
 ·rw[<-h2];exact run_enterLoop_outer _ _ _ _ _
 ·simp[resolve,go_sem]
 ·simp[invoke,go_sem,eg]
 ·have told:=hseq (w1.heap.size+1) (AnyZ.ApAt jy w fn (.func (.func g) #[] lb) w.heap.size (w1.heap.size+1) w1.heap.size) w2 (fun _ _ h=>h.below)
   (fun pre x W hJ hlt=>AnyZ.apYield { pd with } Fence.wide 1 w fn hfn _ w.heap.size (w1.heap.size+1) w1.heap.size (by omega) (by omega) (by omega) (Nat.le_refl _) (by omega) l.length (Nat.le_trans hl (by decide)) (by omega) pre x W hJ hlt) start
  refine told.mono ?_;rintro e w3 ⟨⟨u,rfl⟩,h3⟩;obtain⟨v,hv,hrow,_⟩:=h3.box;have leave:=run_endLoop (P:=Tryz.prog) h3.L (by simp[AnyZ.apRec])
  obtain⟨w4,h4⟩:∃w4,w3.putObj (w1.heap.size+1) (.loop { rec' with state:=.exhausted })=w4:=⟨_,rfl⟩;have leave:(Instr.endLoop (w1.heap.size+1)).run Tryz.prog w3= .ok none w4:=leave.trans (by rw[<-h4];rfl)
  have g4:w3.grownBy w4 (some (w1.heap.size+1)):=by rw[<-h4];exact grownBy_putObj_a _ _ _
  have box4:w4.heap[w.heap.size]?=some (.cells #[v] 85 (0,0)):=by rw[<-h4];exact(World.putObj_heap_other (by omega)).trans hv
  have def4:w4.heap[w1.heap.size]?=some (.deferred (some [])):=by rw[<-h4];exact(World.putObj_heap_other (by omega)).trans h3.K
  have row4:w4.ownsRow w.heap.size 9 1 v l.length (l.map encStr):=hrow.kept g4 (ownsRow_ne_a hrow h3.L (fun cur e=>by first | cases e | exact hne (Obj.cells.inj e).2.1))
  have low4:RowKit.Below w.heap.size w w4:=h3.below.grown g4 h3.below.size (fun k e=>by cases e;omega)
  obtain⟨c4,f4⟩:=cell_of_box_a box4;clear h4;refine⟨none,w4,leave,?_⟩
  gi_wp2
  rw[<-z1];refine⟨by simp,.inl ⟨_,_,rfl,run_takeDeferred def4,?_⟩⟩
  exact⟨_,results_tmp rfl _ _ _,v,rfl,row4.kept (grownBy_putObj_a _ _ _) (ownsRow_ne_a row4 def4 (fun cur e=>by first | cases e | exact hne (Obj.cells.inj e).2.1)),low4.grown (grownBy_putObj_a _ _ _) low4.size (fun k e=>by cases e;omega)⟩
theorem BS (w:World)(g:Nat)(lb:Array Value)(l:List (List UInt8))(eg:∀args w,(callFunc g args).run Tryz.prog w= .ok (.enter g args) w)(hl:l.length<=8000000000000)(hseq:ur w g lb l):
  CallsIn Fence.wide 11 Tryz.prog 116 #[.func (.func g) #[] lb] w fun e w'=>∃v,e= .returned v/\w'.ownsRow w.heap.size 9 1 v l.length (l.map encStr)/\RowKit.Below w.heap.size w w':=by
 have hf:Fence.wide.fn 122:=trivial;refine callsIn_of_wp Tryz.func116 rfl trivial ?_ rfl;simp only[Tryz.ntmps116,List.size_toArray,List.length_cons,List.length_nil,Nat.reduceAdd,Nat.reduceSub,Array.replicate_succ,Array.replicate_zero,List.push_toArray,List.append_toArray,List.nil_append,List.cons_append]
 gi_wp2_with (gi_at_call 122;refine(Ee w g lb l eg hl hseq).mono ?_;rintro e w' ⟨v,rfl,hrow,hb⟩)
 go_ret
 exact⟨v,rfl,hrow,hb⟩
open Go.Lib

set_option maxHeartbeats 2000000 in
theorem Ef (w:World)(g:Nat)(lb:Array Value)(l:List (List UInt8))(eg:∀args w,(callFunc g args).run Tryz.prog w= .ok (.enter g args) w)(hl:l.length<=8000000000000)(hseq:ur w g lb l):
  CallsIn Fence.wide 12 Tryz.prog 110 #[.func (.func g) #[] lb] w fun e w'=>∃v,e= .returned v/\w'.ownsRow w.heap.size 9 1 v l.length ((l.mergeSort leB).map encStr)/\RowKit.Below w.heap.size w w':=by
 have hf:Fence.wide.fn 116:=trivial;have hf2:Fence.wide.fn 117:=trivial;refine callsIn_of_wp Tryz.func110 rfl trivial ?_ rfl;simp only[Tryz.ntmps110,List.size_toArray,List.length_cons,List.length_nil,Nat.reduceAdd,Nat.reduceSub,Array.replicate_succ,Array.replicate_zero,List.push_toArray,List.append_toArray,List.nil_append,List.cons_append]
 gi_wp2_with (gi_at_call 116;refine(BS w g lb l eg hl hseq).mono ?_;rintro e W ⟨v,rfl,hrow,hb⟩)
 rcases hrow.2 with⟨rfl,hz⟩ | ⟨gb,cap,cur,rfl,hbase,hgb,r1,r2,r3,r4⟩
 ·obtain rfl:l=[]:=List.eq_nil_of_length_eq_zero hz
  gi_wp2_with (gi_at_call 117;refine((D8 _).2 none 0 W).mono ?_;rintro e w' ⟨rfl,rfl⟩)
  go_ret
  exact⟨_,rfl,by simpa using hrow,hb⟩
 ·have hH:Holds encStr W gb 0 l.toArray:=holds_of_block hgb (by simpa using r4)
  have hgl:gb<W.heap.size:=(Array.getElem?_eq_some_iff.1 hgb).1
  gi_wp2_with (gi_at_call 117;refine((D8 _).1 gb 0 cap l W hH hgl (by omega)).mono ?_;rintro e w' ⟨rfl,nn,os,rfl⟩)
  go_ret
  exact⟨_,rfl,ownsRow_sorted (by simp) hbase hgb r1 r2 r3,hb.grown (grownBy_sorted _) hb.size (fun j hj=>by cases hj;exact hbase)⟩
open Go.Lib

theorem Eg {a b:List UInt8}(h1:leB a b=true)(h2:leB b a=true):a=b:=by
 simp only[leB,decide_eq_true_eq]at h1 h2;exact List.le_antisymm h1 h2
theorem Eh {zs:List (List UInt8)}{m:Nat}(h:m<zs.length):zs.toArray[m]! =zs[m]:=by simp[h]
theorem qA (zs:List (List UInt8))(hs:zs.Pairwise fun a b=>leB a b=true):∀m,m<=zs.length->Up (compactUpTo zs.toArray m)/\∀x,x∈compactUpTo zs.toArray m↔x∈zs.take m
 | 0,_=>⟨by simp[compactUpTo,Up],by simp[compactUpTo]⟩
 | m+1,h=>by
  obtain⟨i1,i2⟩:=qA zs hs m (by omega)
  have hm:m<zs.length:=by omega
  have le:∀x∈zs.take m,leB x zs[m]=true:=fun x hx=>by
   obtain⟨i,hi,rfl⟩:=List.mem_iff_getElem.1 hx;rw[List.getElem_take];rw[List.length_take]at hi;exact List.pairwise_iff_getElem.1 hs i m (by omega) hm (by omega)
  rw[compactUpTo_succ,Eh hm,List.take_succ_eq_append_getElem hm];by_cases hk:keeps zs.toArray m=true
  ·rw[if_pos hk];refine⟨List.pairwise_append.2 ⟨i1,List.pairwise_singleton ..,fun x hx y hy=>?_⟩,fun x=>by rw[List.mem_append,List.mem_append,i2]⟩
   simp only[List.mem_singleton]at hy;subst hy;have hx:=(i2 x).1 hx;refine z6 (le x hx) fun e=>?_;have hm0:0<m:=by
    rcases Nat.eq_zero_or_pos m with h0 | h0
    ·subst h0;simp at hx
    ·exact h0
   have hp:leB zs[m-1] zs[m]=true:=List.pairwise_iff_getElem.1 hs (m-1) m (by omega) hm (by omega)
   have hxp:leB x zs[m-1]=true\/x=zs[m-1]:=by
    obtain⟨i,hi,rfl⟩:=List.mem_iff_getElem.1 hx;rw[List.getElem_take];rw[List.length_take]at hi;by_cases hi2:i=m-1
    ·subst hi2;exact .inr rfl
    ·exact .inl (List.pairwise_iff_getElem.1 hs i (m-1) (by omega) (by omega) (by omega))
   have heq:zs[m-1]=zs[m]:=by
    rcases hxp with h1 | h1
    ·rw[e]at h1;exact Eg hp h1
    ·rw[<-h1,e]
   have:keeps zs.toArray m=false:=keeps_neg hm0 (by rw[Eh hm,Eh (by omega:m-1<zs.length),heq])
   rw[this]at hk;cases hk
  ·rw[if_neg hk,List.append_nil];refine⟨i1,fun x=>?_⟩;rw[i2,List.mem_append,List.mem_singleton];constructor
   ·exact .inl
   ·rintro (h1 | rfl)
    ·exact h1
    ·have hm0:0<m:=by
      rcases Nat.eq_zero_or_pos m with h0 | h0
      ·subst h0;exact absurd (keeps_lt_one zs.toArray 0 (by omega)) hk
      ·exact h0
     have heq:zs[m]=zs[m-1]:=by
      refine Classical.byContradiction fun hn=>hk (keeps_pos ?_);rw[Eh hm,Eh (by omega:m-1<zs.length)]
      exact hn
     rw[heq];refine List.mem_iff_getElem.2 ⟨m-1,by rw[List.length_take];omega,by rw[List.getElem_take]⟩
theorem ut (l:List (List UInt8)):compact (l.mergeSort leB)=bG l:=by
 obtain⟨h1,h2⟩:=qA (l.mergeSort leB) (List.pairwise_mergeSort D6 D7 l) _ (Nat.le_refl _);refine iG h1 (eF l) fun x=>?_;rw[dB];refine(h2 x).trans ?_;rw[List.take_length,List.mem_mergeSort]
open Go.Lib

theorem su (w:World):Sort.grow w #[]=w:=by simp[Sort.grow]
theorem yn {w:World}{base:Nat}{v:Value}{l:List (List UInt8)}(h:w.ownsRow base 9 1 v l.length (l.map encStr)):dY w v l:=by
 rcases h.2 with⟨rfl,h0⟩ | ⟨g,cap,cur,rfl,hg,hc,h1,h2,h3,h4⟩
 ·exact .inl ⟨List.eq_nil_of_length_eq_zero h0,none,0,rfl,fun _=>rfl⟩
 ·by_cases hl:l=[]
  ·subst hl;exact .inl ⟨rfl,_,_,rfl,fun h=>by cases h⟩
  ·refine .inr ⟨g,0,cap,rfl,hl,h1,(Array.getElem?_eq_some_iff.1 hc).1,fun j x hj=>?_⟩;have h5:(cur.toList.take (l.length*1))[j]?=(l.map encStr)[j]?:=by rw[h4]
   rw[List.getElem?_map,hj,List.getElem?_take]at h5;split at h5
   ·rw[Array.getElem?_toList]at h5;simp only[World.cell?,hc,Nat.zero_add];simpa[encStr] using h5
   ·cases h5
set_option maxHeartbeats 2000000 in
theorem BT (w:World)(base:Nat)(v:Value)(l:List (List UInt8))(hl:l.length<=8000000000000)(h:w.ownsRow base 9 1 v l.length ((l.mergeSort leB).map encStr)):
  Calls Tryz.prog 109 #[v] w fun e w'=>∃u,e= .returned u/\w'.ownsRow base 9 1 u (bG l).length ((bG l).map encStr)/\w.grownBy w' v.ownBlock:=by
 have hlen:(l.mergeSort leB).length=l.length:=List.length_mergeSort l;rcases h.2 with⟨rfl,h0⟩ | ⟨g,cap,cur,rfl,hg,hc,h1,h2,h3,h4⟩
 ·have hl0:l=[]:=List.eq_nil_of_length_eq_zero h0;subst hl0;exact(AnyG.slices_Compact_string_empty wi none 0 w).mono fun e w' ⟨he,hw⟩=>⟨_,he,by rw[hw];exact⟨rfl,.inl ⟨rfl,rfl⟩⟩,by rw[hw];exact World.grownBy.refl _ _⟩
 ·have hH:Holds encStr w g 0 (l.mergeSort leB).toArray:=holds_of_block hc (by rw[hlen];simpa using h4)
  have hcomp:=AnyG.slices_Compact_string wi g 0 cap (l.mergeSort leB) w hH (by omega) (by omega)
  rw[ut,hlen]at hcomp;refine hcomp.mono ?_;rintro e w' ⟨rfl,q,rfl⟩;have hnl:(bG l).length<=l.length:=zT l;refine⟨_,rfl,?_,?_⟩
  ·have hts:=ownsRow_sorted (n:=q) (os:=#[]) (ss:=l) (ts:=bG l++List.replicate (l.length-(bG l).length) []) (by simp;omega) hg hc h1 h2 h3
   rw[su]at hts;rcases hts.2 with⟨h5,_⟩ | ⟨g',cap',cur',h5,h6,h7,h8,h9,h10,h11⟩
   ·cases h5
   ·simp only[Value.slice.injEq,RZ,Addr.mk.injEq,and_true,true_and]at h5;obtain⟨rfl,rfl⟩:=h5;refine⟨by simp,.inr ⟨g,cap,cur',rfl,h6,h7,by omega,h9,h10,?_⟩⟩
    have h12:=congrArg (List.take ((bG l).length*1)) h11;rw[List.take_take,Nat.min_eq_left (by omega)]at h12
    rw[h12,List.map_append,List.take_append_of_le_length (by simp),List.take_of_length_le (by simp)]
  ·have:=grownBy_sorted (w:=w) (g:=g) (n:=q) (os:=#[]) (bG l++List.replicate (l.length-(bG l).length) []).toArray;rw[su]at this;exact this
set_option maxHeartbeats 2000000 in
theorem LD:yf Tryz.prog 99:=by
 refine⟨⟨_,Tryz.func99,by decide,rfl⟩,fun w a b va vb ha hb hl=>?_⟩
 obtain⟨aa,ac,rfl⟩:=ft ha;obtain⟨ba,bc,rfl⟩:=ft hb;refine(callsIn_wide (n:=13)).1 ?_;have f1:Fence.wide.fn 112:=trivial;have f2:Fence.wide.fn 111:=trivial;have f3:Fence.wide.fn 110:=trivial;have f4:Fence.wide.fn 109:=trivial;have e61:∀args w,(callFunc 118 args).run Tryz.prog w= .ok (.enter 118 args) w:=enters_of Tryz.func118 (by kernel_rfl) rfl
 obtain⟨w1,hw1⟩:∃w1,w.alloc (.cells #[.slice aa a.length ac,.slice ba b.length bc] 85)=w1:=⟨_,rfl⟩;have low1:RowKit.Below w.heap.size w w1:=by rw[<-hw1];exact(Below.refl _ w).alloc (Nat.le_refl _) _
 have box1:w1.heap[w.heap.size]?=some (.cells #[.slice aa a.length ac,.slice ba b.length bc] 85 (0,0)):=by rw[<-hw1];exact World.alloc_heap_new w _
 have hc:=Ea w1 a b _ _ (eO ha low1) (eO hb low1) w.heap.size box1 hl;have hlen:(a++b).length<=8000000000000:=by rw[List.length_append];exact hl
 generalize a++b=l at hc hlen |-;refine callsIn_of_wp Tryz.func99 rfl trivial ?_ rfl;simp only[Tryz.ntmps99,List.size_toArray,List.length_cons,List.length_nil,Nat.reduceAdd,Nat.reduceSub,Array.replicate_succ,Array.replicate_zero,List.push_toArray,List.append_toArray,List.nil_append,List.cons_append]
 gi_wp2_with (gi_at_call 112;refine(callsIn_wide.2 hc).mono ?_;rintro e w2 ⟨v1,rfl,row1,low2⟩)
 have t1:=yn row1;obtain⟨a1,c1,rfl⟩:=ft t1;obtain⟨w3,hw3⟩:∃w3,w2.alloc (.cells #[.slice a1 l.length c1] 85)=w3:=⟨_,rfl⟩;have z3:w3.heap.size=w2.heap.size+1:=by rw[<-hw3];simp
 have low3:RowKit.Below w2.heap.size w2 w3:=by rw[<-hw3];exact(Below.refl _ w2).alloc (Nat.le_refl _) _
 have box3:w3.heap[w2.heap.size]?=some (.cells #[.slice a1 l.length c1] 85 (0,0)):=by rw[<-hw3];exact World.alloc_heap_new w2 _
 have seq:ur w3 118 #[.pointer (some ⟨w2.heap.size,0,none⟩)] l:=fun lp J W hJB hY h0=>
  Eb w3 w2.heap.size _ l (by omega) (by simp[World.cell?,box3]) (eO t1 low3) hlen lp J W hJB hY h0
 gi_wp2_with (first
  | (gi_at_call 111;refine(Ec a1 l.length c1 w2).mono ?_;rintro e w3' ⟨rfl,rfl⟩)
  | (gi_at_call 110;refine(Ef w3 118 _ l e61 hlen seq).mono ?_;rintro e w4 ⟨v2,rfl,row2,low4⟩)
  | (gi_at_call 109;refine(callsIn_wide.2 (BT w4 w3.heap.size v2 l hlen row2)).mono ?_;rintro e w5 ⟨v3,rfl,row3,g5⟩))
 go_ret
 have row2':=row2;clear hc seq row2 e61 hw1 hw3 box1 box3;have b1:w.heap.size<=w1.heap.size:=low1.size;have b2:w1.heap.size<=w2.heap.size:=low2.size;have lo2:RowKit.Below w.heap.size w w2:=low1.trans (low2.mono b1);have b3:w.heap.size<=w2.heap.size:=Nat.le_trans b1 b2;have b4:w.heap.size<=w3.heap.size:=Nat.le_trans b3 (by rw[z3];exact Nat.le_succ _)
 have lo4:RowKit.Below w.heap.size w w4:=(lo2.trans (low3.mono b3)).trans (low4.mono b4);have lo5:RowKit.Below w.heap.size w w5:=lo4.grown g5 lo4.size fun j e=>Nat.le_trans b4 (row2'.lt j e).1;exact⟨v3,rfl,qz lo5 b4 row3⟩
end Go.Proofs.YtkllbcjanneppaaGreat
