import Derived.Test.YtkllbcjanneppaaGreatIt
import Derived.Test.YtkllbcjanneppaaGreatHmG6
import Derived.Test.YtkllbcjanneppaaGreatHmG10
import Derived.Test.YtkllbcjanneppaaGreatRows
import Derived.RangeFuncNested
import Derived.RangeFuncBound
import Derived.RangeFuncCalls
import Derived.RangeFuncLeaves
import Derived.Shelf.Abstract
import Derived.Shelf.RegionOpen
import Derived.WalkKit
import Derived.OwnWalkIn
import Derived.TacticsInMore
import Derived.LoopNIn
import Derived.LoopIn
set_option linter.all false
namespace Go.Proofs.YtkllbcjanneppaaGreat
open Go Go.Hm Go.RowKit Go.Shelf
attribute [local go_sem] Oper.semAt_some

theorem BU {P:Program}{l n m:Nat}{args:Array Value}{W:World}{R:Ending->World->Prop}(h:YieldAt Fence.wide n P l args W R):YieldAt Fence.wide m P l args W R:=by
 obtain⟨fn,tmps,assign,body,hy,hR⟩:=h;exact⟨fn,tmps,assign,body,hy,hR.1,fun c cs _=>hR.2 c cs (room_wide _)⟩
set_option maxRecDepth 100000 in
set_option maxHeartbeats 4000000 in
theorem uu {φ:Phi}{F:Nat->Nat->Prop}{H:Heap}{w:World}{kb ko:Nat}{r:List Int}{x:Option Addr}{c:Nat}{arr0:Array Value}{ty0 fr0}(sr:SR φ F H w)(hFk:F kb ko)(hbk0:w.heap[kb]?=some (.cells arr0 ty0 fr0))(hc:w.cell? ⟨kb,ko,none⟩=some (.slice x r.length c))(hlen:r.length<=1000000000)
  (hrow:r=[]\/∃bk o arr ty fr,x=some ⟨bk,o,none⟩/\r.length<=c/\F bk o/\w.heap[bk]?=some (.cells arr ty fr)/\∀(j:Nat) (h:j<r.length),w.cell? ⟨bk,o+j,none⟩=some (.int .i64 r[j])):
  Hh Tryz.prog (Begun φ F H w) 90 #[.pointer (some ⟨kb,ko,none⟩)] ((e8 r 0).map List.toArray) w:=by
 intro l J Jx gJ gJx hY hBg;have hY:=fun i v A Z h1 h2=>BU (m:=9-1) (hY i v A Z h1 h2);refine callsIn_wide.2 ((callsIn_wide (n:=9)).1 ?_);show CallsIn Fence.wide 9 Tryz.prog 90 #[.func (.yield l) #[] #[],.pointer (some ⟨kb,ko,none⟩)] w _;refine callsIn_of_wp Tryz.func90 rfl trivial ?_ rfl;simp only[Tryz.ntmps90,List.size_toArray,List.length_cons,List.length_nil,Nat.reduceAdd,Nat.reduceSub,Array.replicate_succ,Array.replicate_zero,List.push_toArray,List.append_toArray,List.nil_append,List.cons_append];have hcr:∀wr:World,wr.heap[kb]?=w.heap[kb]?->wr.cell? ⟨kb,ko,none⟩=some (.slice x r.length c):=fun wr h=>(jQ h).trans hc;rcases hrow with rfl | ⟨bk,o,arr,ty,fr,rfl,hlc,hFb,hbk,hcs⟩
 ·have h1:J 0 w (fun q=>q=kb):=hBg _ _ ⟨φ,F,sr,Ext.refl _ _ _ _,Chg.refl _ _,fun b hl=>.inl ⟨hl,rfl⟩,fun _ _ h=>.inl h,fun q h=>by subst h;exact⟨⟨ko,hFk⟩,arr0,ty0,fr0,hbk0⟩⟩
  gi_wp2
  gi_loopw [3] (fun i wr=>i= .int .i64 (-1)/\J 0 wr (fun q=>q=kb)) (fun _ _=>0)
  case atStart=>exact⟨rfl,h1⟩
  case round=>
   obtain⟨rfl,hJs⟩:=hrel
   gi_wp2
   go_end0
   exact⟨⟨_,rfl⟩,.inl ⟨_,hJs⟩⟩
 ·have h1:J 0 w (fun q=>q=kb\/q=bk):=hBg _ _ ⟨φ,F,sr,Ext.refl _ _ _ _,Chg.refl _ _,fun b hl=>.inl ⟨hl,rfl⟩,fun _ _ h=>.inl h,fun q h=>by
   rcases h with rfl | rfl
   ·exact⟨⟨ko,hFk⟩,arr0,ty0,fr0,hbk0⟩
   ·exact⟨⟨o,hFb⟩,arr,ty,fr,hbk⟩⟩
  have w1:IntKind.i64.wrap ((r.length:Int)-1)=(r.length:Int)-1:=au (by omega) (by omega)
  gi_wp2
  gi_loopw [3] (fun i wr=>∃k:Nat,k<=r.length/\i= .int .i64 ((r.length:Int)-1-k)/\J k wr (fun q=>q=kb\/q=bk)/\wr.heap[kb]?=w.heap[kb]?/\wr.heap[bk]?=w.heap[bk]?)
   (fun i _=>(intOf i+1).toNat)
  case atStart=>exact⟨0,Nat.zero_le _,by simp[w1],h1,rfl,rfl⟩
  case round=>
   obtain⟨k,hk,rfl,hJs,hnk,hnb⟩:=hrel;have hcq:=hcr wr hnk;by_cases hlt:k<r.length
   ·obtain⟨j,hj⟩:∃j,j+k+1=r.length:=⟨r.length-1-k,by omega⟩
    have hjl:j<r.length:=by omega
    have hidx:(r.length:Int)-1-k=(j:Int):=by omega
    rw[hidx]at *;have hcx:wr.cell? ⟨bk,o+j,none⟩=some (.int .i64 r[j]):=(jQ hnb).trans (hcs j hjl);have hbg:=fu r 0 j hjl;rw[show r.length-1-j=k from by omega,Nat.zero_add]at hbg
    obtain⟨fn,tmps,assign,body,hy,hR⟩:=hY k #[.int .i64 (j:Int),.int .i64 r[j]] wr _ (by rw[List.getElem?_map,hbg];rfl) hJs
    clear hcs;have w2:IntKind.i64.wrap ((j:Int)-1)=(j:Int)-1:=au (by omega) (by omega)
    gi_wp2
    refine hR.mono ?_;rintro e W3 (⟨rfl,hJ3,hs3,hk3⟩ | ⟨rfl,hJx3⟩)
    ·gi_wp2
     go_roundw
     case rel=>exact⟨k+1,by omega,by congr 1;omega,hJ3,(hk3 kb (.inl rfl)).trans hnk,(hk3 bk (.inr rfl)).trans hnb⟩
     case measure=>simp[intOf]
    ·gi_wp2
     refine bodyPost_ret (results_none rfl _ _ _) rfl ?_;exact⟨⟨_,rfl⟩,.inr ⟨_,hJx3⟩⟩
   ·obtain rfl:k=r.length:=by omega
    have hneg:¬(0:Int)<=(r.length:Int)-1-(r.length:Int):=by omega
    gi_wp2
    go_end0
    exact⟨⟨_,rfl⟩,.inl ⟨_,by rw[cx];exact hJs⟩⟩
theorem sw:∀(r:List Int) (i:Nat),∀x∈e8 r i,∀v∈x,scal v=true
 | [],_,x,h,_,_=>by cases h
 | a::r,i,x,h,v,hv=>by
  simp only[e8,List.mem_append,List.mem_singleton]at h;rcases h with h | rfl
  ·exact sw r (i+1) x h v hv
  ·simp only[List.mem_cons,List.not_mem_nil,or_false]at hv;rcases hv with rfl | rfl<;>rfl
theorem Ei {w:World}{b o:Nat}{v:Value}(h:w.cell? ⟨b,o,none⟩=some v):∃arr ty fr,w.heap[b]?=some (.cells arr ty fr):=by
 obtain⟨ob,h1,h2⟩:=cells_of_cell h;cases ob<;>first | exact⟨_,_,_,h1⟩ | cases h2
theorem IA {φ:Phi}{F:Nat->Nat->Prop}{H:Heap}{w:World}{vs:List Value}{q:AV}{r:List Int}(sr:SR φ F H w)(hcl:CL φ F H w [.rop [q] 0] vs)
  (hq:q= .sl r.length (ints r)\/(q= .e0/\r=[])) (hlen:r.length<=1000000000):Hh Tryz.prog (Begun φ F H w) 90 vs.toArray ((e8 r 0).map List.toArray) w:=by
 obtain⟨pv,rfl⟩:∃pv,vs=[pv]:=by
  have:=hcl.1
  match vs,this with
  | [pv],_=>exact⟨pv,rfl⟩
 have h0:=hcl.2 0 _ pv rfl rfl;cases h0 with
 | rop b o _ cells us hl hb hF hc hr=>
  obtain⟨u,rfl⟩:∃u,us=[u]:=by
   match us,hl with
   | [u],_=>exact⟨u,rfl⟩
  have hFk:F b (o+0):=hF 0 (by simp)
  have hcu:w.cell? ⟨b,o+0,none⟩=some u:=hc 0 u rfl;have hru:=hr 0 _ u rfl rfl;obtain⟨arr0,ty0,fr0,hb0⟩:=Ei hcu;rcases hq with rfl | ⟨rfl,rfl⟩
  ·generalize hn:r.length=n at hru;generalize hcs:ints r=cs at hru;cases hru with
   | sl b1 o1 _ cap _ ws hnc hvl hbl hF1 hc1 hr1=>
    subst hn;subst hcs;refine uu sr hFk hb0 hcu hlen ?_;by_cases h0:r=[]
    ·exact .inl h0
    ·have hpos:0<r.length:=List.length_pos_iff.2 h0;have hil:(ints r).length=r.length:=by simp[ints]
     have cell:∀(j:Nat) (h:j<r.length),w.cell? ⟨b1,o1+j,none⟩=some (.int .i64 r[j]):=fun j h=>by
      have hlt:j<ws.length:=by rw[hvl,hil];exact h
      have:=hr1 j (I r[j]) ws[j] (by simp[ints,h]) (by simp[hlt])
      rw[hc1 j ws[j] (by simp[hlt]),(CRel.inv_val this).1]
     obtain⟨arr,ty,fr,hbk⟩:=Ei (cell 0 hpos);exact .inr ⟨b1,o1,arr,ty,fr,rfl,hnc,by simpa using hF1 0 (by rw[hil];exact hpos),hbk,cell⟩
   | slnil x=>
    obtain rfl:=List.eq_nil_of_length_eq_zero hn;exact uu (r:=[]) sr hFk hb0 hcu (by simp) (.inl rfl)
  ·cases hru with
   | e0 x=>exact uu (r:=[]) sr hFk hb0 hcu (by simp) (.inl rfl)
theorem aq:xX Tryz.prog az:=by
 intro f cap H items h;unfold az at h;split at h;case isFalse=>simp at h
 rename_i hf;subst hf;have key:∃(q:AV) (r:List Int),cap=[.rop [q] 0]/\items=e8 r 0/\(q= .sl r.length (ints r)\/(q= .e0/\r=[]))/\r.length<=1000000000:=by
  split at h
  ·rename_i n cs;split at h
   ·rename_i r hr;split at h
    ·rename_i hn;obtain⟨rfl,hn2⟩:=hn;simp only[RZ]at h;exact⟨_,r,rfl,h.symm,.inl (by rw[qB hr]),hn2⟩
    ·cases h
   ·cases h
  ·simp only[RZ]at h;exact⟨_,[],rfl,h.symm,.inr ⟨rfl,rfl⟩,by simp⟩
  ·cases h
 obtain⟨q,r,rfl,rfl,hq,hlen⟩:=key;exact⟨⟨Tryz.f90,Tryz.func90,by decide,rfl⟩,fun x hx v hv=>sw r 0 x hx v hv,fun φ F w vs sr hcl=>IA sr hcl hq hlen⟩
end Go.Proofs.YtkllbcjanneppaaGreat
