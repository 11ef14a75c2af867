import Derived.Test.YtkllbcjanneppaaGreatCg
import Derived.Test.YtkllbcjanneppaaGreatRows
import Derived.RangeFuncNested
import Derived.Shelf.RegionOpen
import Derived.RegionIn
import Derived.WalkKit
import Derived.OwnWalkIn
import Derived.TacticsInMore
import Derived.LoopNIn
import Derived.LoopIn
import Derived.Recover
import Derived.RecoverIn
set_option maxRecDepth 100000
set_option linter.all false
namespace Go.Proofs.YtkllbcjanneppaaGreat
open Go Go.Hm Go.RowKit Go.Shelf Go.Proofs
attribute [local go_sem] Oper.semAt_some

def RowAt (w:World)(v:Value)(l:List (List UInt8)):Prop:=
  (l=[]/\∃x,v= .slice x 0 0)\/∃bk o c,v= .slice (some ⟨bk,o,none⟩) l.length c/\l.length<=c/\(l≠[]->bk<w.heap.size)/\∀(j:Nat) x,l[j]?=some x->w.cell? ⟨bk,o+j,none⟩=some (.string ⟨⟨x⟩⟩)
def u3 (P:Program)(j:FuncId):Prop:=∀(W:World) (va vb:Value) (a b:List (List UInt8)),RowAt W va a->RowAt W vb b->a.length<=1000000->b.length<=1000000->
  Calls P j #[va,vb] W fun e W'=>Below W.heap.size W W'/\e= .returned (.tuple #[.string ⟨⟨(bK a b).getD []⟩⟩,.bool (bK a b).isSome])
structure LookAt (W:World)(lb lo n c:Nat)(look:List (List (List UInt8))):Prop where
  len:look.length=n
  cap:n<=c
  blk:lb<W.heap.size
  row:∀(j:Nat) l,look[j]?=some l->l.length<=1000000/\∃v,W.cell? ⟨lb,lo+j,none⟩=some v/\RowAt W v l
def oI (left a b:Nat)(x:List UInt8):Value:=.agg #[.int .i64 left,.int .i64 a,.int .i64 b,.string ⟨⟨x⟩⟩]
def nV (left:Nat):Option (Nat×Nat×List UInt8)->Ending
  | none=>.returned (.tuple #[])
  | some (a,b,x)=>.panicked [{ v:=.iface 107 (oI left a b x),recovered:=false }]
theorem eS {B:Nat}{w w':World}(h:Below B w w')(hB:w.heap.size<=B){v:Value}{l:List (List UInt8)}(t:RowAt w v l):RowAt w' v l:=by
  rcases t with t | ⟨bk,o,c,h1,h3,h4,h5⟩
  · exact .inl t
  · refine .inr ⟨bk,o,c,h1,h3,fun hn=>Nat.lt_of_lt_of_le (h4 hn) h.size,fun j x hj=>(h.cell (p:=⟨bk,o+j,none⟩) ?_).trans (h5 j x hj)⟩;have:=h4 (fun e=>by subst e;simp at hj)
    show bk<B;omega
set_option maxHeartbeats 4000000 in
theorem Gx (hm:u3 Tryz.prog 107)(W:World)(lb lo n c:Nat)(look:List (List (List UInt8)))(hl:LookAt W lb lo n c look)(left:Nat)(pb po pc:Nat)(prods:List Nat)(hpb:pb<W.heap.size)(hpc:prods.length<=pc)
    (hp:∀(j:Nat) a,prods[j]?=some a->a<n/\W.cell? ⟨pb,po+j,none⟩=some (.int .i64 a)) (hlen:prods.length<=64) (hn:n<=64):
    CallsIn Fence.wide 8 Tryz.prog 88 #[.agg #[.slice (some ⟨lb,lo,none⟩) n c],.int .i64 left,.slice (some ⟨pb,po,none⟩) prods.length pc] W fun e W'=>Below W.heap.size W W'/\e=nV left (bM look prods):=by
  obtain⟨pe,rfl⟩:∃pe,pc=prods.length+pe:=⟨pc-prods.length,by omega⟩
  refine callsIn_of_wp Tryz.func88 rfl trivial ?_ rfl;simp only[Tryz.ntmps88,List.size_toArray,List.length_cons,List.length_nil,Nat.reduceAdd,Nat.reduceSub,Array.replicate_succ,Array.replicate_zero,List.push_toArray,List.append_toArray,List.nil_append,List.cons_append];obtain⟨W1,hW1⟩:∃W1,W.alloc (.cells #[.slice (some ⟨lb,lo,none⟩) n c] 32)=W1:=⟨_,rfl⟩;have z1:W1.heap.size=W.heap.size+1:=by rw[<-hW1];simp
  have low1:Below W.heap.size W W1:=by rw[<-hW1];exact(Below.refl _ W).alloc (Nat.le_refl _) _
  have box1:W1.cell? ⟨W.heap.size,0,none⟩=some (.slice (some ⟨lb,lo,none⟩) n c):=by
    have:W1.heap[W.heap.size]?=some (.cells #[.slice (some ⟨lb,lo,none⟩) n c] 32 (0,0)):=by rw[<-hW1];exact World.alloc_heap_new W _
    simp[World.cell?,this]
  gi_wp2
  try rw[hW1]
  gi_loopw [14] (fun i wr=>∃k:Nat,k<=prods.length/\i= .int .i64 k/\Below W1.heap.size W1 wr/\bM look prods=bM look (prods.drop k)) (fun i _=>prods.length-(intOf i).toNat)
  case atStart=>exact⟨0,Nat.zero_le _,rfl,Below.refl _ _,rfl⟩
  case round=>
    obtain⟨k,hk,rfl,hb,hpm⟩:=hrel;by_cases hkl:k<prods.length;case neg=>
      obtain rfl:k=prods.length:=by omega
      rw[List.drop_length]at hpm
      gi_wp2
      go_end0
      exact⟨low1.trans (hb.mono (by omega)),by rw[hpm];rfl⟩
    obtain⟨a,ha⟩:∃a,prods[k]=a:=⟨_,rfl⟩;have ha2:prods[k]?=some a:=by rw[R4 hkl,ha]
    obtain⟨han,hca0⟩:=hp k a ha2;have hca:wr.cell? ⟨pb,po+k,none⟩=some (.int .i64 a):=by
      rw[hb.cell (p:=⟨pb,po+k,none⟩) (by show pb<_;omega),low1.cell (p:=⟨pb,po+k,none⟩) hpb];exact hca0
    have hd:=List.drop_eq_getElem_cons hkl;rw[ha]at hd;have w1:IntKind.i64.wrap ((k:Int)+1)=(k:Int)+1:=au (by omega) (by omega)
    have hk1:(k:Int)+1<=((prods.length+pe:Nat):Int):=by omega
    have hk2:(k:Int)+1<=prods.length:=by omega
    obtain⟨hla,va,hva0,hta0⟩:=hl.row a (look.getD a []) (by rw[R3,R4 (by rw[hl.len];exact han)];rfl)
    gi_wp2
    all_goals
      try rw[show k+1=prods.length+pe by omega]
      gi_loopw [24] (fun i wq=>∃m:Nat,m<=prods.length-(k+1)/\i= .int .i64 m/\Below W1.heap.size W1 wq/\eP look a (prods.drop (k+1))=eP look a (prods.drop (k+1+m))) (fun i _=>prods.length-(k+1)-(intOf i).toNat)
      case atStart=>exact⟨0,Nat.zero_le _,rfl,hb,rfl⟩
      case round=>
        obtain⟨m,hm1,rfl,hb2,hpb2⟩:=hrel;by_cases hml:m<prods.length-(k+1);case neg=>
          obtain rfl:m=prods.length-(k+1):=by omega
          have hdn:prods.drop (k+1+(prods.length-(k+1)))=[]:=List.drop_eq_nil_of_le (by omega)
          have hpb2:eP look a (prods.drop (k+1))=none:=by rw[hpb2,hdn];rfl
          have hpm2:bM look prods=bM look (prods.drop (k+1)):=by rw[hpm,hd,bM,hpb2]
          gi_wp2
          go_roundw
          case rel=>exact⟨k+1,by omega,by simp,hb2,hpm2⟩
          case measure=>simp[intOf];omega
        obtain⟨b,hbE⟩:∃b,prods[k+1+m]'(by omega)=b:=⟨_,rfl⟩
        have hb3:prods[k+1+m]?=some b:=by rw[R4 (by omega),hbE]
        obtain⟨hbn,hcb0⟩:=hp (k+1+m) b hb3;have hdb:=List.drop_eq_getElem_cons (show k+1+m<prods.length by omega)
        rw[hbE]at hdb;obtain⟨hlb,vb,hvb0,htb0⟩:=hl.row b (look.getD b []) (by rw[R3,R4 (by rw[hl.len];exact hbn)];rfl)
        have hbx:wr.cell? ⟨W.heap.size,0,none⟩=some (.slice (some ⟨lb,lo,none⟩) n c):=by
          rw[hb2.cell (p:=⟨W.heap.size,0,none⟩) (by show W.heap.size<_;omega)];exact box1
        have old:∀x:Addr,x.block<W.heap.size->wr.cell? x=W.cell? x:=fun x hx=>by
          rw[hb2.cell (by omega),low1.cell hx]
        have hva:wr.cell? ⟨lb,lo+a,none⟩=some va:=by rw[old _ hl.blk];exact hva0
        have hvb:wr.cell? ⟨lb,lo+b,none⟩=some vb:=by rw[old _ hl.blk];exact hvb0
        have hcb:wr.cell? ⟨pb,po+(k+1)+m,none⟩=some (.int .i64 b):=by rw[old _ hpb,Nat.add_assoc po];exact hcb0
        have hta:=eS (low1.trans (hb2.mono (by omega))) (Nat.le_refl _) hta0
        have htb:=eS (low1.trans (hb2.mono (by omega))) (Nat.le_refl _) htb0
        clear old hva0 hvb0 hcb0 hca0 hta0 htb0;have htad:=eS ((Below.refl wr.heap.size wr).drew) (Nat.le_refl _) hta;have htbd:=eS ((Below.refl wr.heap.size wr).drew) (Nat.le_refl _) htb;have hcall:=hm wr.drew va vb _ _ htad htbd hla hlb;clear hta htb htad htbd;have hf74:Fence.wide.fn 107:=trivial;have hmix:Tryz.prog.follows Departure.mixedOrders=true:=by kernel_rfl
        obtain⟨r,hr⟩:∃r,(bK (look.getD a []) (look.getD b [])).isSome=r:=⟨_,rfl⟩;obtain⟨t,ht⟩:∃t,(bK (look.getD a []) (look.getD b [])).getD []=t:=⟨_,rfl⟩;rw[hr,ht]at hcall;cases r
        · have hmm:bK (look.getD a []) (look.getD b [])=none:=by
            cases h:bK (look.getD a []) (look.getD b []) with
            | none=>rfl
            | some x=>rw[h]at hr;cases hr
          have hpb4:eP look a (prods.drop (k+1))=eP look a (prods.drop (k+1+(m+1))):=by rw[hpb2,hdb,eP,hmm];rfl
          clear hr ht hmm
          gi_wp2
          try gi_region_with_o (gi_at_call 107;refine(callsIn_wide.2 hcall).mono ?_;rintro e w' ⟨hbm,rfl⟩)
          all_goals
            have hb4:Below W1.heap.size W1 w':=hb2.drew.trans (hbm.mono (by show W1.heap.size<=wr.heap.size;exact hb2.size))
            gi_wp2
            go_roundw
            case rel=>exact⟨m+1,by omega,by simp,hb4,hpb4⟩
            case measure=>simp[intOf];omega
        · have hmm:bK (look.getD a []) (look.getD b [])=some t:=by
            cases h:bK (look.getD a []) (look.getD b []) with
            | none=>rw[h]at hr;cases hr
            | some x=>rw[h]at ht;exact congrArg some ht
          have hpb4:eP look a (prods.drop (k+1))=some (b,t):=by rw[hpb2,hdb,eP,hmm]
          have hpm4:bM look prods=some (a,b,t):=by rw[hpm,hd,bM,hpb4]
          clear hr ht hmm hpb4;have hpn:∀(t:TypeId) (v:Value) (w:World),(Instr.panic (.iface t v)).run Tryz.prog w= .halt (.panic (.iface t v)) w:=fun _ _ _=>rfl
          gi_wp2
          try gi_region_with_o (gi_at_call 107;refine(callsIn_wide.2 hcall).mono ?_;rintro e w' ⟨hbm,rfl⟩)
          all_goals
            have hb4:Below W1.heap.size W1 w':=hb2.drew.trans (hbm.mono (by show W1.heap.size<=wr.heap.size;exact hb2.size))
            gi_wp2
            exact⟨rfl,low1.trans (hb4.mono (by omega)),by rw[hpm4];rfl⟩
attribute [local go_sem] Oper.semAt_some

theorem cn {w:World}{k:Nat}{cs:Array Value}{t:TypeId}{fr:Nat×Nat}(h:w.heap[k]?=some (.cells cs t fr))(i:Nat)(v:Value):(w.setCell ⟨k,i,none⟩ v).heap[k]?=some (.cells (cs.setIfInBounds i v) t fr):=by
  have hlt:=(Array.getElem?_eq_some_iff.1 h).1;have h2:=(Array.getElem?_eq_some_iff.1 h).2;simp[World.setCell,Array.getElem?_modify,h]
set_option maxHeartbeats 1000000 in
theorem zi (p q:Addr)(w:World):
    CallsDIn Fence.wide 8 Tryz.prog 87 #[.pointer (some p),.pointer (some q)] .returning w fun e u' w'=>e= .returned (.tuple #[])/\u'= .returning/\w'=w:=by
  refine callsDIn_of_wpSIn Tryz.func87 rfl trivial fun c₀ cs hu=>?_;apply wpSIn_seq;apply wpSIn_region;simp[wpOpsSIn,go_sem,recoverD,hu,Tryz.ntmps87,Exit.thenS];refine wpSIn_of_wpIn rfl ?_
  gi_wp2
  cases c₀
  simp_all [bodyPostS,results,Tryz.results87]
set_option maxHeartbeats 1000000 in
theorem xu (left a b:Nat)(x:List UInt8)(cb ib:Nat)(v0 v1 v2 v3:Value)(w:World)(hcb:w.heap[cb]?=some (.cells #[v0,v1,v2,v3] 59 (0,0)))(hib:w.heap[ib]?=some (.cells #[.bool false] 4 (0,0)))(hne:cb≠ib):
    CallsDIn Fence.wide 8 Tryz.prog 87 #[.pointer (some ⟨cb,0,none⟩),.pointer (some ⟨ib,0,none⟩)] (.panicking [{ v:=.iface 107 (oI left a b x),recovered:=false }]) w fun e u' w'=>
      e= .returned (.tuple #[])/\u'= .panicking [{ v:=.iface 107 (oI left a b x),recovered:=true }]/\Below (min cb ib) w w'/\w'.heap[cb]?=some (.cells #[.int .i64 left,.int .i64 a,.int .i64 b,.string ⟨⟨x⟩⟩] 59 (0,0))/\w'.heap[ib]?=some (.cells #[.bool true] 4 (0,0)):=by
  refine callsDIn_of_wpSIn Tryz.func87 rfl trivial fun c₀ cs hu=>?_;apply wpSIn_seq;apply wpSIn_region;simp[wpOpsSIn,go_sem,recoverD,hu,Tryz.ntmps87,Exit.thenS];refine wpSIn_of_wpIn rfl ?_;have hta:∀(v:Value) (w:World),(Instr.typeAssert (.iface 107 v) 20 107 true).run Tryz.prog w= .ok (.tuple #[v,.bool true]) w:=fun _ _=>rfl;simp only[List.size_toArray,List.length_cons,List.length_nil,Nat.reduceAdd,Nat.reduceSub,Array.replicate_succ,Array.replicate_zero,List.push_toArray,List.append_toArray,List.nil_append,List.cons_append];simp only[go_sem,List.setIfInBounds_toArray,List.set_cons_succ,List.set_cons_zero];have hlt:cb<w.heap.size:=(Array.getElem?_eq_some_iff.1 hcb).1;have hli:ib<w.heap.size:=(Array.getElem?_eq_some_iff.1 hib).1;obtain⟨w1,hw1⟩:∃w1,w.alloc (.cells #[.int .i64 left,.int .i64 a,.int .i64 b,.string ⟨⟨x⟩⟩] 107)=w1:=⟨_,rfl⟩;have hb1:w1.heap[w.heap.size]?=some (.cells #[.int .i64 left,.int .i64 a,.int .i64 b,.string ⟨⟨x⟩⟩] 107 (0,0)):=by rw[<-hw1];exact World.alloc_heap_new w _
  have n0:w1.cell? ⟨w.heap.size,0,none⟩=some (.int .i64 left):=by simp[World.cell?,hb1]
  have n1:w1.cell? ⟨w.heap.size,1,none⟩=some (.int .i64 a):=by simp[World.cell?,hb1]
  have n2:w1.cell? ⟨w.heap.size,2,none⟩=some (.int .i64 b):=by simp[World.cell?,hb1]
  have n3:w1.cell? ⟨w.heap.size,3,none⟩=some (.string ⟨⟨x⟩⟩):=by simp[World.cell?,hb1]
  have low:Below w.heap.size w w1:=by rw[<-hw1];exact(Below.refl _ w).alloc (Nat.le_refl _) _
  have hc1:w1.heap[cb]?=some (.cells #[v0,v1,v2,v3] 59 (0,0)):=(low.block cb hlt).trans hcb;have hi1:w1.heap[ib]?=some (.cells #[.bool false] 4 (0,0)):=(low.block ib hli).trans hib;have e0:w1.cell? ⟨cb,0,none⟩=some v0:=by simp[World.cell?,hc1]
  have e1:w1.cell? ⟨cb,1,none⟩=some v1:=by simp[World.cell?,hc1]
  have e2:w1.cell? ⟨cb,2,none⟩=some v2:=by simp[World.cell?,hc1]
  have e3:w1.cell? ⟨cb,3,none⟩=some v3:=by simp[World.cell?,hc1]
  have e4:w1.cell? ⟨ib,0,none⟩=some (.bool false):=by simp[World.cell?,hi1]
  have f0:∀i,w1.frozen? ⟨cb,i,none⟩=false:=fun i=>by simp[World.frozen?,hc1]
  have f4:w1.frozen? ⟨ib,0,none⟩=false:=by simp[World.frozen?,hi1]
  have hne2:ib≠cb:=fun h=>hne h.symm;have low2:Below (min cb ib) w w1:=low.mono (by omega)
  clear hb1 low;unfold oI
  gi_wp2
  refine⟨rfl,_,rfl,.tuple #[],by simp[results,Tryz.results87],rfl,rfl,?_,?_,?_⟩
  · exact((((low2.setCell (Nat.min_le_left _ _) _).setCell (Nat.min_le_left _ _) _).setCell (Nat.min_le_left _ _) _).setCell (Nat.min_le_left _ _) _).setCell (Nat.min_le_right _ _) _
  · rw[Below.heap_setCell _ _ _ _ (by exact hne)]
    exact cn (cn (cn (cn hc1 _ _) _ _) _ _) _ _
  · refine(cn (cs:=#[.bool false]) ?_ _ _);rw[Below.heap_setCell _ _ _ _ (by exact hne2),Below.heap_setCell _ _ _ _ (by exact hne2),Below.heap_setCell _ _ _ _ (by exact hne2),Below.heap_setCell _ _ _ _ (by exact hne2)]
    exact hi1
attribute [local go_sem] Oper.semAt_some

def u4 (W:World)(v:Value)(l:List Nat):Prop:=(l=[]/\∃x,v= .slice x 0 0)\/∃pb po pc,v= .slice (some ⟨pb,po,none⟩) l.length pc/\l.length<=pc/\pb<W.heap.size/\∀(j:Nat) a,l[j]?=some a->W.cell? ⟨pb,po+j,none⟩=some (.int .i64 a)
def AK:Option (Nat×Nat×Nat×List UInt8)->Value
  | none=>.tuple #[.agg #[.int .i64 0,.int .i64 0,.int .i64 0,.string ⟨⟨[]⟩⟩],.bool false]
  | some (l,a,b,x)=>.tuple #[.agg #[.int .i64 l,.int .i64 a,.int .i64 b,.string ⟨⟨x⟩⟩],.bool true]
set_option maxHeartbeats 4000000 in
theorem Cs (W:World)(v:Value)(left:Nat)(x:Option Addr):
    CallsIn Fence.wide 8 Tryz.prog 88 #[.agg #[v],.int .i64 left,.slice x 0 0] W fun e W'=>Below W.heap.size W W'/\e=nV left (bM [] []):=by
  refine callsIn_of_wp Tryz.func88 rfl trivial ?_ rfl;simp only[Tryz.ntmps88,List.size_toArray,List.length_cons,List.length_nil,Nat.reduceAdd,Nat.reduceSub,Array.replicate_succ,Array.replicate_zero,List.push_toArray,List.append_toArray,List.nil_append,List.cons_append];obtain⟨W1,hW1⟩:∃W1,W.alloc (.cells #[v] 32)=W1:=⟨_,rfl⟩;have low1:Below W.heap.size W W1:=by rw[<-hW1];exact(Below.refl _ W).alloc (Nat.le_refl _) _
  gi_wp2
  try rw[hW1]
  gi_loopw [14] (fun i wr=>i= .int .i64 0/\Below W.heap.size W wr) (fun i _=>0)
  case atStart=>exact⟨rfl,low1⟩
  case round=>
    obtain⟨rfl,hb⟩:=hrel
    gi_wp2
    go_end0
    exact⟨hb,rfl⟩
theorem m4 {w w':World}{lb lo n c:Nat}{look:List (List (List UInt8))}(h:LookAt w lb lo n c look)(hb:Below w.heap.size w w'):LookAt w' lb lo n c look:=
  ⟨h.len,h.cap,Nat.lt_of_lt_of_le h.blk hb.size,fun j l hj=>by
    obtain⟨h1,v,h2,h3⟩:=h.row j l hj;exact⟨h1,v,(hb.cell (p:=⟨lb,lo+j,none⟩) h.blk).trans h2,eS hb (Nat.le_refl _) h3⟩⟩
theorem Gy {ps:List (Int×List Int)}{left:Nat}{j a:Nat}(h:(cg ps left)[j]?=some a):a<ps.length:=by
  have:=List.mem_of_getElem? h;unfold cg at this;exact List.mem_range.1 (List.mem_filter.1 this).1
theorem Ct (ps:List (Int×List Int))(left:Nat):(cg ps left).length<=ps.length:=by
  unfold cg;have:=List.length_filter_le (fun i=>decide ((ps.getD i (0,[])).1=left)) (List.range ps.length)
  rwa [List.length_range]at this
theorem Cu (hm:u3 Tryz.prog 107)(W:World)(lb lo c:Nat)(look:List (List (List UInt8)))(ps:List (Int×List Int))(hl:LookAt W lb lo ps.length c look)(left:Nat)(v:Value)(hn:u4 W v (cg ps left))(h64:ps.length<=64):
    CallsIn Fence.wide 8 Tryz.prog 88 #[.agg #[.slice (some ⟨lb,lo,none⟩) ps.length c],.int .i64 left,v] W fun e W'=>Below W.heap.size W W'/\e=nV left (bM look (cg ps left)):=by
  rcases hn with⟨h0,x,rfl⟩ | ⟨pb,po,pc,rfl,h1,h2,h3⟩
  · rw[h0];exact Cs W _ left x
  · exact Gx hm W lb lo ps.length c look hl left pb po pc _ h2 h1 (fun j a hj=>⟨Gy hj,h3 j a hj⟩) (Nat.le_trans (Ct ps left) h64) h64
theorem Kx (Z:World)(tmps:Array Value)(p q:Addr)(v0 v1 v2 v3 b:Value)(h4:tmps[4]?=some (.pointer (some p)))(h5:tmps[5]?=some (.pointer (some q)))(hp:p.spot=none)(hq:q.spot=none)
    (e0:Z.cell? ⟨p.block,p.off,none⟩=some v0) (e1:Z.cell? ⟨p.block,p.off+1,none⟩=some v1) (e2:Z.cell? ⟨p.block,p.off+2,none⟩=some v2) (e3:Z.cell? ⟨p.block,p.off+3,none⟩=some v3) (e4:Z.cell? ⟨q.block,q.off,none⟩=some b):
    (results Tryz.f60 tmps).run Tryz.prog Z= .ok (.tuple #[.agg #[v0,v1,v2,v3],b]) Z:=by
  obtain⟨pb,po,ps⟩:=p;obtain⟨qb,qo,qs⟩:=q;simp only at hp hq e0 e1 e2 e3 e4;subst hp;subst hq;simp[results,Tryz.results60,go_sem,h4,h5,e0,e1,e2,e3,e4]
theorem Cv {wr:World}{s:Nat}(q2:wr.heap[s+1+1]?=some (.cells #[.int .i64 0,.int .i64 0,.int .i64 0,.string ⟨⟨[]⟩⟩] 59 (0,0)))(q3:wr.heap[s+1+1+1]?=some (.cells #[.bool false] 4 (0,0))){Z:World}
    (hZ:Z=(((((wr.setCell ⟨s+1+1,0,none⟩ (.int .i64 0)).setCell ⟨s+1+1,1,none⟩ (.int .i64 0)).setCell ⟨s+1+1,2,none⟩ (.int .i64 0)).setCell ⟨s+1+1,3,none⟩ (.string ⟨⟨[]⟩⟩)).setCell ⟨s+1+1+1,0,none⟩ (.bool false))):
    Z.heap[s+1+1]?=some (.cells #[.int .i64 0,.int .i64 0,.int .i64 0,.string ⟨⟨[]⟩⟩] 59 (0,0))/\Z.heap[s+1+1+1]?=some (.cells #[.bool false] 4 (0,0)):=by
  subst hZ;refine⟨?_,?_⟩
  · rw[Below.heap_setCell _ _ _ _ (by simp)]
    exact cn (cn (cn (cn q2 _ _) _ _) _ _) _ _
  · refine cn (cs:=#[.bool false]) ?_ _ _;rw[Below.heap_setCell _ _ _ _ (by simp),Below.heap_setCell _ _ _ _ (by simp),Below.heap_setCell _ _ _ _ (by simp),Below.heap_setCell _ _ _ _ (by simp)]
    exact q3
theorem Qd (w Z:World)(tmps:Array Value)(m a b:Nat)(x:List UInt8)(h4:tmps[4]?=some (.pointer (some ⟨w.heap.size+1+1,0,none⟩)))(h5:tmps[5]?=some (.pointer (some ⟨w.heap.size+1+1+1,0,none⟩)))
    (low:Below w.heap.size w Z) (hcb:Z.heap[w.heap.size+1+1]?=some (.cells #[.int .i64 0,.int .i64 0,.int .i64 0,.string ⟨⟨[]⟩⟩] 59 (0,0))) (hib:Z.heap[w.heap.size+1+1+1]?=some (.cells #[.bool false] 4 (0,0))):
    bodyPostDIn Fence.wide 9 Tryz.prog Tryz.f60 (fun e w'=>Below w.heap.size w w'/\e= .returned (AK (some (m,a,b,x)))) (.panic [{ v:=.iface 107 (oI m a b x),recovered:=false }])
      { tmps:=tmps,defers:=[{ target:=.fn (.func 87) #[.pointer (some ⟨w.heap.size+1+1,0,none⟩),.pointer (some ⟨w.heap.size+1+1+1,0,none⟩)],args:=#[] }] } Z:=by
  refine leavesIn_cons (f:=87) (args:=#[.pointer (some ⟨w.heap.size+1+1,0,none⟩),.pointer (some ⟨w.heap.size+1+1+1,0,none⟩)]) (by simp) (by simp) (by simp[go_sem]) (fun _ _=>trivial) ?_
  refine(xu m a b x _ _ _ _ _ _ Z hcb hib (by omega)).mono ?_
  rintro e u' w'' ⟨rfl,rfl,hbl,x2,x3⟩;refine⟨_,Kx _ _ _ _ (.int .i64 m) (.int .i64 a) (.int .i64 b) (.string ⟨⟨x⟩⟩) (.bool true) h4 h5 rfl rfl ?_ ?_ ?_ ?_ ?_,low.trans (hbl.mono (by omega)),rfl⟩
  · simp[World.cell?,x2]
  · simp[World.cell?,x2]
  · simp[World.cell?,x2]
  · simp[World.cell?,x2]
  · simp[World.cell?,x3]
def Gz (w wr:World)(m a b:Nat)(x:List UInt8):Exit->Act->World->Prop
  | .panic chain,act,w''=>∃w',chain=[{ v:=.iface 107 (oI m a b x),recovered:=false }]/\Below wr.heap.size wr w'/\Below w'.heap.size w' w''/\act.tmps[4]?=some (.pointer (some ⟨w.heap.size+1+1,0,none⟩))/\act.tmps[5]?=some (.pointer (some ⟨w.heap.size+1+1+1,0,none⟩))/\
    act.defers=[{ target:=.fn (.func 87) #[.pointer (some ⟨w.heap.size+1+1,0,none⟩),.pointer (some ⟨w.heap.size+1+1+1,0,none⟩)],args:=#[] }]
  | _,_,_=>False
theorem td {w wr:World}{m a b:Nat}{x:List UInt8}{c:List PanicEntry}{act:Act}{w':World}{d:Nat}{v:Value}(h4:d≠4)(h5:d≠5)(h:Gz w wr m a b x (.panic c) (act.put (some d) v) w'):Gz w wr m a b x (.panic c) act w':=by
  obtain⟨w1,h1,h2,h3,h6,h7,h8⟩:=h;refine⟨w1,h1,h2,h3,?_,?_,h8⟩
  · simpa[Act.put,Array.getElem?_setIfInBounds,h4] using h6
  · simpa[Act.put,Array.getElem?_setIfInBounds,h5] using h7
set_option maxHeartbeats 4000000 in
theorem rH (hm:u3 Tryz.prog 107)(w:World)(lb lo c:Nat)(look:List (List (List UInt8)))(ps:List (Int×List Int))(t k:Int)(n:Nat)(gs:Value)(hl:LookAt w lb lo ps.length c look)(hp64:ps.length<=64)(hn:n<=16)
    (h34:∀W,Below w.heap.size w W->∀left:Nat,left<n->Calls Tryz.prog 53 #[.agg #[.int .i64 t,.int .i64 n,.int .i64 k,gs],.int .i64 left] W fun e W'=>Below W.heap.size W W'/\∃v,e= .returned v/\u4 W' v (cg ps left)):
    CallsIn Fence.wide 9 Tryz.prog 60 #[.agg #[.int .i64 t,.int .i64 n,.int .i64 k,gs],.agg #[.slice (some ⟨lb,lo,none⟩) ps.length c]] w fun e w'=>Below w.heap.size w w'/\e= .returned (AK (en ps look n 0)):=by
  refine callsIn_of_wp_defers Tryz.func60 rfl trivial ?_ rfl;simp only[Tryz.ntmps60,List.size_toArray,List.length_cons,List.length_nil,Nat.reduceAdd,Nat.reduceSub,Array.replicate_succ,Array.replicate_zero,List.push_toArray,List.append_toArray,List.nil_append,List.cons_append];have hmf:∀(fn:Fn) (first cap:Array Value) (w:World),(Instr.makeFunc fn first cap).run Tryz.prog w= .ok (.func fn first cap) w:=fun _ _ _ _=>rfl
  obtain⟨W4,hW4⟩:∃W4,(((w.alloc (.cells #[.int .i64 t,.int .i64 n,.int .i64 k,gs] 25)).alloc (.cells #[.slice (some ⟨lb,lo,none⟩) ps.length c] 32)).alloc (.cells #[.int .i64 0,.int .i64 0,.int .i64 0,.string ⟨⟨[]⟩⟩] 59)).alloc (.cells #[.bool false] 4)=W4:=⟨_,rfl⟩;have z4:W4.heap.size=w.heap.size+4:=by rw[<-hW4];simp
  have low4:Below w.heap.size w W4:=by
    rw[<-hW4];exact((((Below.refl _ w).alloc (Nat.le_refl _) _).alloc (by simp) _).alloc (by simp;omega) _).alloc (by simp;omega) _
  have b0:W4.heap[w.heap.size]?=some (.cells #[.int .i64 t,.int .i64 n,.int .i64 k,gs] 25 (0,0)):=by
    rw[<-hW4,Below.heap_alloc _ _ _ (by simp;omega),Below.heap_alloc _ _ _ (by simp;omega),Below.heap_alloc _ _ _ (by simp)]
    exact World.alloc_heap_new w _
  have b1:W4.heap[w.heap.size+1]?=some (.cells #[.slice (some ⟨lb,lo,none⟩) ps.length c] 32 (0,0)):=by
    rw[<-hW4,Below.heap_alloc _ _ _ (by simp),Below.heap_alloc _ _ _ (by simp)]
    have:=World.alloc_heap_new (w.alloc (.cells #[.int .i64 t,.int .i64 n,.int .i64 k,gs] 25)) (.cells #[.slice (some ⟨lb,lo,none⟩) ps.length c] 32);simpa using this
  have b2:W4.heap[w.heap.size+2]?=some (.cells #[.int .i64 0,.int .i64 0,.int .i64 0,.string ⟨⟨[]⟩⟩] 59 (0,0)):=by
    rw[<-hW4,Below.heap_alloc _ _ _ (by simp)]
    have:=World.alloc_heap_new ((w.alloc (.cells #[.int .i64 t,.int .i64 n,.int .i64 k,gs] 25)).alloc (.cells #[.slice (some ⟨lb,lo,none⟩) ps.length c] 32)) (.cells #[.int .i64 0,.int .i64 0,.int .i64 0,.string ⟨⟨[]⟩⟩] 59);simpa using this
  have b3:W4.heap[w.heap.size+3]?=some (.cells #[.bool false] 4 (0,0)):=by
    rw[<-hW4];have:=World.alloc_heap_new (((w.alloc (.cells #[.int .i64 t,.int .i64 n,.int .i64 k,gs] 25)).alloc (.cells #[.slice (some ⟨lb,lo,none⟩) ps.length c] 32)).alloc (.cells #[.int .i64 0,.int .i64 0,.int .i64 0,.string ⟨⟨[]⟩⟩] 59)) (.cells #[.bool false] 4);simpa using this
  have c1:W4.cell? ⟨w.heap.size,1,none⟩=some (.int .i64 n):=by simp[World.cell?,b0]
  gi_wp2
  try rw[hW4]
  try gi_wp2
  gi_loopw [10] (fun i wr=>∃m:Nat,m<=n/\i= .int .i64 m/\Below W4.heap.size W4 wr/\en ps look n 0=en ps look (n-m) m) (fun i _=>n-(intOf i).toNat)
  case atStart=>exact⟨0,Nat.zero_le _,rfl,Below.refl _ _,rfl⟩
  case round=>
    obtain⟨m,hmn,rfl,hb,hcf⟩:=hrel;by_cases hml:m<n;case neg=>
      obtain rfl:m=n:=by omega
      have hcf:en ps look m 0=none:=by rw[hcf,Nat.sub_self];rfl
      have q2:wr.heap[w.heap.size+2]?=some (.cells #[.int .i64 0,.int .i64 0,.int .i64 0,.string ⟨⟨[]⟩⟩] 59 (0,0)):=(hb.block _ (by omega)).trans b2
      have q3:wr.heap[w.heap.size+3]?=some (.cells #[.bool false] 4 (0,0)):=(hb.block _ (by omega)).trans b3
      have e0:wr.cell? ⟨w.heap.size+2,0,none⟩=some (.int .i64 0):=by simp[World.cell?,q2]
      have e1:wr.cell? ⟨w.heap.size+2,1,none⟩=some (.int .i64 0):=by simp[World.cell?,q2]
      have e2:wr.cell? ⟨w.heap.size+2,2,none⟩=some (.int .i64 0):=by simp[World.cell?,q2]
      have e3:wr.cell? ⟨w.heap.size+2,3,none⟩=some (.string ⟨⟨[]⟩⟩):=by simp[World.cell?,q2]
      have e4:wr.cell? ⟨w.heap.size+3,0,none⟩=some (.bool false):=by simp[World.cell?,q3]
      have f0:∀i,wr.frozen? ⟨w.heap.size+2,i,none⟩=false:=fun i=>by simp[World.frozen?,q2]
      have f4:wr.frozen? ⟨w.heap.size+3,0,none⟩=false:=by simp[World.frozen?,q3]
      gi_wp2
      have lowE:=low4.trans (hb.mono (B':=w.heap.size) (by omega))
      have low5:=((((lowE.setCell (p:=⟨w.heap.size+1+1,0,none⟩) (by show w.heap.size<=w.heap.size+1+1;omega) (.int .i64 0)).setCell (p:=⟨w.heap.size+1+1,1,none⟩) (by show w.heap.size<=w.heap.size+1+1;omega) (.int .i64 0)).setCell (p:=⟨w.heap.size+1+1,2,none⟩) (by show w.heap.size<=w.heap.size+1+1;omega) (.int .i64 0)).setCell (p:=⟨w.heap.size+1+1,3,none⟩) (by show w.heap.size<=w.heap.size+1+1;omega) (.string ⟨⟨[]⟩⟩)).setCell (p:=⟨w.heap.size+1+1+1,0,none⟩) (by show w.heap.size<=w.heap.size+1+1+1;omega) (.bool false)
      refine leavesIn_cons (f:=87) (args:=#[.pointer (some ⟨w.heap.size+1+1,0,none⟩),.pointer (some ⟨w.heap.size+1+1+1,0,none⟩)]) (by simp) (by simp) (by simp[go_sem]) (fun _ _=>trivial) ?_
      refine(zi _ _ _).mono ?_;rintro e u' w'' ⟨rfl,rfl,rfl⟩;obtain⟨x2,x3⟩:=Cv q2 q3 rfl;rw[hcf];refine⟨_,Kx _ _ _ _ (.int .i64 0) (.int .i64 0) (.int .i64 0) (.string ⟨⟨[]⟩⟩) (.bool false) rfl rfl rfl rfl ?_ ?_ ?_ ?_ ?_,low5,rfl⟩
      · simp[World.cell?,x2]
      · simp[World.cell?,x2]
      · simp[World.cell?,x2]
      · simp[World.cell?,x2]
      · simp[World.cell?,x3]
    have w1:IntKind.i64.wrap ((m:Int)+1)=(m:Int)+1:=au (by omega) (by omega)
    have hml2:(m:Int)<n:=by omega
    have q0:wr.heap[w.heap.size]?=some (.cells #[.int .i64 t,.int .i64 n,.int .i64 k,gs] 25 (0,0)):=(hb.block _ (by omega)).trans b0
    have q1:wr.heap[w.heap.size+1]?=some (.cells #[.slice (some ⟨lb,lo,none⟩) ps.length c] 32 (0,0)):=(hb.block _ (by omega)).trans b1
    have g0:wr.cell? ⟨w.heap.size,0,none⟩=some (.int .i64 t):=by simp[World.cell?,q0]
    have g1:wr.cell? ⟨w.heap.size,1,none⟩=some (.int .i64 n):=by simp[World.cell?,q0]
    have g2:wr.cell? ⟨w.heap.size,2,none⟩=some (.int .i64 k):=by simp[World.cell?,q0]
    have g3:wr.cell? ⟨w.heap.size,3,none⟩=some gs:=by simp[World.cell?,q0]
    have g4:wr.cell? ⟨w.heap.size+1,0,none⟩=some (.slice (some ⟨lb,lo,none⟩) ps.length c):=by simp[World.cell?,q1]
    have lowr:Below w.heap.size w wr:=low4.trans (hb.mono (by omega))
    have h34a:=h34 wr.drew lowr.drew m hml;have pairA:∀(W':World) (v:Value),Below wr.heap.size wr W'->u4 W' v (cg ps m)->CallsIn Fence.wide 8 Tryz.prog 88 #[.agg #[.slice (some ⟨lb,lo,none⟩) ps.length c],.int .i64 m,v] W' fun e W''=>Below W'.heap.size W' W''/\e=nV m (bM look (cg ps m)):=fun W' v hbw hnv=>
      Cu hm W' lb lo c look ps (m4 (m4 hl lowr) hbw) m v hnv hp64
    have keep:∀W',Below wr.heap.size wr W'->W'.cell? ⟨w.heap.size+1,0,none⟩=some (.slice (some ⟨lb,lo,none⟩) ps.length c):=fun W' hbw=>(hbw.cell (by show w.heap.size+1<wr.heap.size;have:=hb.size;omega)).trans g4
    have hf34:Fence.wide.fn 53:=trivial;have hf54:Fence.wide.fn 88:=trivial;have hmix:Tryz.prog.follows Departure.mixedOrders=true:=by kernel_rfl
    have hstep:en ps look (n-m) m=match bM look (cg ps m) with
      | some (a,b,x)=>some (m,a,b,x)
      | none=>en ps look (n-(m+1)) (m+1):=by rw[show n-m=n-(m+1)+1 by omega];rfl
    cases hpm:bM look (cg ps m) with
    | none=>
      rw[hpm]at pairA hstep;rw[show nV m none= .returned (.tuple #[]) from rfl]at pairA;simp only at hstep;clear h34 hl hm q0 q1 b0 b1 b2 b3 hpm lowr
      gi_wp2
      try gi_region_with_o (first | (gi_at_call 53;refine(callsIn_wide.2 h34a).mono ?_;rintro e w' ⟨hb4,v,rfl,hnv⟩;have hbk:Below wr.heap.size wr w':=((Below.refl _ wr).drew).trans hb4;have hkp:=keep w' hbk) | (gi_at_call 88;refine(pairA _ _ hbk hnv).mono ?_;rintro e w'' ⟨hb5,rfl⟩))
      all_goals
        have hbE:Below W4.heap.size W4 w'':=hb.trans ((hbk.mono hb.size).trans (hb5.mono (Nat.le_trans hb.size hbk.size)))
        gi_wp2
        go_roundw
        case rel=>exact⟨m+1,by omega,by simp,hbE,hcf.trans hstep⟩
        case measure=>simp[intOf];omega
    | some r=>
      obtain⟨a,b,x⟩:=r;rw[hpm]at pairA hstep;rw[show nV m (some (a,b,x))= .panicked [{ v:=.iface 107 (oI m a b x),recovered:=false }] from rfl]at pairA;simp only at hstep;have hcf2:=hcf.trans hstep;have fin:∀(tmps:Array Value) (w' w'':World),Below wr.heap.size wr w'->Below w'.heap.size w' w''->tmps[4]?=some (.pointer (some ⟨w.heap.size+1+1,0,none⟩))->tmps[5]?=some (.pointer (some ⟨w.heap.size+1+1+1,0,none⟩))->
          bodyPostDIn Fence.wide 9 Tryz.prog Tryz.f60 (fun e w'=>Below w.heap.size w w'/\e= .returned (AK (en ps look n 0))) (.panic [{ v:=.iface 107 (oI m a b x),recovered:=false }])
            { tmps:=tmps,defers:=[{ target:=.fn (.func 87) #[.pointer (some ⟨w.heap.size+1+1,0,none⟩),.pointer (some ⟨w.heap.size+1+1+1,0,none⟩)],args:=#[] }] } w'':=fun tmps w' w'' hbk hb5 h4 h5=>by
        have hbE:Below W4.heap.size W4 w'':=hb.trans ((hbk.mono hb.size).trans (hb5.mono (Nat.le_trans hb.size hbk.size)));rw[hcf2];exact Qd w w'' tmps m a b x h4 h5 (low4.trans (hbE.mono (by omega))) ((hbE.block _ (by omega)).trans b2) ((hbE.block _ (by omega)).trans b3)
      clear h34 hl hm q0 q1 b0 b1 b2 b3 hpm hcf hstep hcf2
      gi_wp2
      refine wpIn_mono (Q:=Gz w wr m a b x) ?_ ?_
      rotate_left
      · intro e a' w'' h;cases e<;>try exact h.elim
        obtain⟨w',rfl,hbk,hb5,h4,h5,hd⟩:=h;obtain⟨tmps,ds⟩:=a';simp only at h4 h5 hd;subst hd
        gi_wp2
        exact fin _ _ _ hbk hb5 h4 h5
      refine wpIn_region_any (by assumption) ?_
      try (change wpAnyIn _ _ _ _ _ _ _ _ _ (World.drew _))
      refine wpAnyIn_take (i:=1) (v:=?_) rfl rfl (by kernel_rfl) (by kernel_rfl) (by kernel_rfl) (fun c a' w' h=>td (by decide) (by decide) h) ⟨Or.inl ⟨by rfl,?_⟩,fun _=>rfl⟩ ?_
      rotate_left
      · intro w
        go_simp
        try with_reducible rfl
      refine wpAnyIn_take (i:=3) (v:=?_) rfl rfl (by kernel_rfl) (by kernel_rfl) (by kernel_rfl) (fun c a' w' h=>td (by decide) (by decide) h) ⟨Or.inl ⟨by rfl,?_⟩,fun _=>rfl⟩ ?_
      rotate_left
      · intro w
        go_simp
        try with_reducible rfl
      refine wpAnyIn_ready (rs:=[0,2]) (by kernel_rfl) (by simp) ?_
      refine AllReadyIn.cons rfl (fun K hK=>?_) ?_
      · go_simp
        try (refine hK _ _ ?_;clear hK K)
        refine wpAnyIn_ready (rs:=[2]) (by kernel_rfl) (by simp) ?_
        refine AllReadyIn.cons rfl (fun K hK=>?_) AllReadyIn.nil
        go_simp
        try (refine hK _ _ ?_;clear hK K)
        refine wpAnyIn_ready (rs:=[4]) (by kernel_rfl) (by simp) ?_
        refine AllReadyIn.cons rfl (fun K hK=>?_) AllReadyIn.nil
        go_simp
        gi_wp2_with (gi_at_call 53;refine(callsIn_wide.2 h34a).mono ?_;rintro e w' ⟨hb4,v,rfl,hnv⟩;have hbk:Below wr.heap.size wr w':=((Below.refl _ wr).drew).trans hb4;have hkp:=keep w' hbk)
        try (refine hK _ _ ?_;clear hK K)
        refine wpAnyIn_ready (rs:=[5]) (by kernel_rfl) (by simp) ?_
        refine AllReadyIn.cons rfl (fun K hK=>?_) AllReadyIn.nil
        go_simp
        gi_wp2_with (gi_at_call 88;refine(pairA _ _ hbk hnv).mono ?_;rintro e w'' ⟨hb5,rfl⟩)
        try gi_wp2
        exact⟨_,rfl,hbk,hb5,rfl,rfl,rfl⟩
      refine AllReadyIn.cons rfl (fun K hK=>?_) AllReadyIn.nil
      go_simp
      try (refine hK _ _ ?_;clear hK K)
      refine wpAnyIn_ready (rs:=[0,4]) (by kernel_rfl) (by simp) ?_
      refine AllReadyIn.cons rfl (fun K hK=>?_) ?_
      · go_simp
        try (refine hK _ _ ?_;clear hK K)
        refine wpAnyIn_ready (rs:=[4]) (by kernel_rfl) (by simp) ?_
        refine AllReadyIn.cons rfl (fun K hK=>?_) AllReadyIn.nil
        go_simp
        gi_wp2_with (gi_at_call 53;refine(callsIn_wide.2 h34a).mono ?_;rintro e w' ⟨hb4,v,rfl,hnv⟩;have hbk:Below wr.heap.size wr w':=((Below.refl _ wr).drew).trans hb4;have hkp:=keep w' hbk)
        try (refine hK _ _ ?_;clear hK K)
        refine wpAnyIn_ready (rs:=[5]) (by kernel_rfl) (by simp) ?_
        refine AllReadyIn.cons rfl (fun K hK=>?_) AllReadyIn.nil
        go_simp
        gi_wp2_with (gi_at_call 88;refine(pairA _ _ hbk hnv).mono ?_;rintro e w'' ⟨hb5,rfl⟩)
        try gi_wp2
        exact⟨_,rfl,hbk,hb5,rfl,rfl,rfl⟩
      refine AllReadyIn.cons rfl (fun K hK=>?_) AllReadyIn.nil
      go_simp
      gi_wp2_with (gi_at_call 53;refine(callsIn_wide.2 h34a).mono ?_;rintro e w' ⟨hb4,v,rfl,hnv⟩;have hbk:Below wr.heap.size wr w':=((Below.refl _ wr).drew).trans hb4;have hkp:=keep w' hbk)
      try (refine hK _ _ ?_;clear hK K)
      refine wpAnyIn_ready (rs:=[0]) (by kernel_rfl) (by simp) ?_
      refine AllReadyIn.cons rfl (fun K hK=>?_) AllReadyIn.nil
      go_simp
      try (refine hK _ _ ?_;clear hK K)
      refine wpAnyIn_ready (rs:=[5]) (by kernel_rfl) (by simp) ?_
      refine AllReadyIn.cons rfl (fun K hK=>?_) AllReadyIn.nil
      go_simp
      gi_wp2_with (gi_at_call 88;refine(pairA _ _ hbk hnv).mono ?_;rintro e w'' ⟨hb5,rfl⟩)
      try gi_wp2
      exact⟨_,rfl,hbk,hb5,rfl,rfl,rfl⟩
end Go.Proofs.YtkllbcjanneppaaGreat
