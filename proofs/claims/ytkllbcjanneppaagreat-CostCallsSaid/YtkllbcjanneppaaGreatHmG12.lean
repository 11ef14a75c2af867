/- The machine HM, part 12. -/
import Derived.Test.YtkllbcjanneppaaGreatHmG10
import Derived.Test.YtkllbcjanneppaaGreatHmG7
import Derived.MapKept
set_option linter.all false
namespace Go.Hm
open Go Go.RowKit

def ins (x:List UInt8):List (List UInt8)->List (List UInt8)
 | []=>[x]
 | y::l=>if Op.bytesLess x y=true then x::y::l else if x=y then y::l else y::ins x l
def bG (l:List (List UInt8)):List (List UInt8):=l.foldr ins []
def ay (l:List (List UInt8)):List AV:=l.map Sg
abbrev rowsV (l:List (List UInt8)):AV:=.sl l.length (ay l)

def RU:List (AV×AV)->Option (List (List UInt8))
 | []=>some []
 | (.val (.string s),_)::r=>match RU r with
  | some l=>some (s.data.toList::l)
  | none=>none
 | _=>none
def fO:List AV->Option (List (List UInt8))
 | []=>some []
 | .val (.string s)::r=>match fO r with
  | some l=>some (s.data.toList::l)
  | none=>none
 | _=>none
def gD (args:List AV)(H:Heap):Option (AV×Heap):=
 match args with
 | [m]=>match dw H m with
  | some es=>match RU es with
   | some ks=>if ks.length<=8000000000000/\ks.all (fun x=>decide (x.length<=9223372036854775807))=true then some (rowsV (bG ks),H) else none
   | none=>none
  | none=>none
 | _=>none
def lu (args:List AV)(H:Heap):Option (AV×Heap):=
 match args with
 | [a,b]=>match bh H a,bh H b with
  | some ca,some cb=>match fO ca,fO cb with
   | some xs,some ys=>if xs.length=slN a/\ys.length=slN b/\xs.length+ys.length<=8000000000000 then some (rowsV (bG (xs++ys)),H) else none
   | _,_=>none
  | _,_=>none
 | _=>none

def Row (w w':World)(v:Value)(l:List (List UInt8)):Prop:=
 Below w.heap.size w w'/\((l=[]/\∃a,v= .slice a 0 0)\/∃g cap cur ty,v= .slice (some ⟨g,0,none⟩) l.length cap/\w.heap.size<=g/\w'.heap[g]?=some (.cells cur ty (0,0))/\l.length<=cap/\
  ∀(i:Nat) x,l[i]?=some x->cur[i]?=some (.string ⟨⟨x⟩⟩))
def dY (w:World)(v:Value)(l:List (List UInt8)):Prop:=
 (l=[]/\∃a c,v= .slice a 0 c/\(a=none->c=0))\/∃bk o c,v= .slice (some ⟨bk,o,none⟩) l.length c/\l≠[]/\l.length<=c/\bk<w.heap.size/\∀(j:Nat) x,l[j]?=some x->w.cell? ⟨bk,o+j,none⟩=some (.string ⟨⟨x⟩⟩)

def ny (P:Program)(j:FuncId):Prop:=jk P j/\(∀w,Calls P j #[.map none] w fun e w'=>∃v,e= .returned v/\Row w w' v [])/\
 ∀(w:World) (b:Nat) es clk (ks:List (List UInt8)),w.heap[b]?=some (.map es clk)->MapKept.Stamped es clk->es.toList.map (·.key)=ks.map (fun x=>.string ⟨⟨x⟩⟩)->ks.length<=8000000000000->(∀x∈ks,x.length<=9223372036854775807)->
  Calls P j #[.map (some b)] w fun e w'=>∃v,e= .returned v/\Row w w' v (bG ks)
def yf (P:Program)(j:FuncId):Prop:=jk P j/\∀(w:World) (a b:List (List UInt8)) va vb,dY w va a->dY w vb b->a.length+b.length<=8000000000000->
 Calls P j #[va,vb] w fun e w'=>∃v,e= .returned v/\Row w w' v (bG (a++b))

section
variable {P:Program}{φ:Phi}{F:Nat->Nat->Prop}{H:Heap}{w:World}
theorem yg (sr:SR φ F H w){w':World}{v:Value}{l:List (List UInt8)}(hr:Row w w' v l):jh φ F H w (rowsV l) H v w':=by
 obtain⟨hb,h⟩:=hr;rcases h with⟨rfl,a,rfl⟩ | ⟨g,cap,cur,ty,rfl,hg,hc,hcap,hcell⟩
 ·obtain⟨e,s⟩:=grow sr (F':=F) hb (fun _ _ h=>h) (fun _ _ h=>.inl h);exact⟨φ,F,.one (.slnil a),s,e,Chg.of_below hb _,fun b hb=>.inl ⟨hb,rfl⟩,fun _ _ h=>.inl h⟩
 ·have hlt:g<w'.heap.size:=(Array.getElem?_eq_some_iff.1 hc).1;obtain⟨e,s⟩:=grow sr (F':=fun k o=>F k o\/k=g) hb (fun _ _ h=>.inl h) (fun k o h=>h.imp id fun h=>by subst h;exact⟨hg,hlt⟩)
  refine⟨φ,_,.one ?_,s,e,Chg.of_below hb _,fun b hb=>.inl ⟨hb,rfl⟩,fun _ _ h=>h.imp id fun h=>by subst h;exact hg⟩
  refine .sl g 0 l.length cap (ay l) (l.map fun x=>.string ⟨⟨x⟩⟩) hcap (by simp[ay]) ?_ (fun i _=>.inr rfl) (fun i v hv=>?_) (fun i a v ha hv=>?_)
  ·exact bD.2 fun a ha=>by
    unfold ay at ha;obtain⟨x,_,rfl⟩:=List.mem_map.1 ha;rfl
  ·rw[List.getElem?_map]at hv;obtain⟨x,hx,rfl⟩:=Option.map_eq_some_iff.1 hv;have:=hcell i x hx;simp[World.cell?,hc,this]
  ·unfold ay at ha;rw[List.getElem?_map]at ha hv;obtain⟨x,hx,rfl⟩:=Option.map_eq_some_iff.1 ha;rw[hx]at hv;simp only[Option.map_some,RZ]at hv;subst hv;exact .val _ rfl
theorem sk:∀{es:List (AV×AV)} {ks:List (List UInt8)} {l:List MapEntry},RU es=some ks->l.length=es.length->(∀(i:Nat) k v,es[i]?=some (k,v)->∃e,l[i]?=some e/\VRel φ F H w k e.key)->l.map (·.key)=ks.map fun x=>.string ⟨⟨x⟩⟩
 | [],ks,l,h,hl,_=>by
  simp only[RU,RZ]at h;subst h;rw[List.eq_nil_of_length_eq_zero hl];rfl
 | (k,v)::r,ks,[],h,hl,_=>by simp at hl
 | (k,v)::r,ks,e::l,h,hl,hr=>by
  unfold RU at h;split at h
  ·rename_i h1;cases h1
  ·rename_i s u r' h1;cases h1;split at h
   ·rename_i ks' hk;simp only[RZ]at h;subst h;have ih:=sk (l:=l) hk (by simpa using hl) fun i k v hi=>by simpa using hr (i+1) k v (by simpa using hi)
    obtain⟨e',he,hv⟩:=hr 0 _ _ rfl;simp only[List.getElem?_cons_zero,RZ]at he;subst he;rw[List.map_cons,List.map_cons,ih];cases hv with
    | one hv=>rw[hv.inv_val.1]
   ·cases h
  ·cases h
theorem lw:∀{cs:List AV} {xs:List (List UInt8)},fO cs=some xs->cs.length=xs.length/\∀(j:Nat) x,xs[j]?=some x->cs[j]?=some (Sg x)
 | [],xs,h=>by simp only[fO,RZ]at h;subst h;simp
 | a::r,xs,h=>by
  unfold fO at h;split at h
  ·rename_i h1;cases h1
  ·rename_i s r' h1;cases h1;split at h
   ·rename_i l hl;simp only[RZ]at h;subst h;obtain⟨h1,h2⟩:=lw hl;refine⟨by simp[h1],fun j x hj=>?_⟩
    cases j with
    | zero=>simp at hj;subst hj;rfl
    | succ j=>exact h2 j x (by simpa using hj)
   ·cases h
  ·cases h
theorem vW (sr:SR φ F H w){v:AV}{cv:Value}{cs:List AV}{xs:List (List UInt8)}(hv:VRel φ F H w v cv)(hcs:bh H v=some cs)(hxs:fO cs=some xs)(hn:xs.length=slN v):dY w cv xs:=by
 have hs:=Hl hcs;obtain⟨hcl,hget⟩:=lw hxs;have hxe:slN v=0->xs=[]:=fun h=>List.length_eq_zero_iff.1 (by omega)
 have hvz:v= .e0\/(∃n,v= .sl n cs)\/∃b g o n es,v= .hs b g o n es:=by
  cases v<;>simp[K0]at hs
  ·exact .inl rfl
  ·simp only[bh,RZ]at hcs;subst hcs;exact .inr (.inl ⟨_,rfl⟩)
  ·exact .inr (.inr ⟨_,_,_,_,_,rfl⟩)
 rcases hvz with rfl | ⟨n,rfl⟩ | ⟨b,g,o,n,es,rfl⟩
 ·obtain⟨x,rfl⟩:=hv.inv_e0;exact .inl ⟨hxe rfl,_,_,rfl,fun _=>rfl⟩
 ·have h0:CRel φ F H w (.sl n cs) cv:=by
   cases hv with
   | one h=>exact h
  cases h0 with
  | slnil x=>exact .inl ⟨hxe rfl,_,_,rfl,fun _=>rfl⟩
  | sl b o n cap cells vs' hnc hl' hb' hF hc' hr'=>
   have hn:xs.length=n:=hn;by_cases hx:xs=[]
   ·have:n=0:=by rw[<-hn,hx];rfl
    subst this;exact .inl ⟨hx,_,_,rfl,fun h=>by cases h⟩
   ·have hpos:0<cs.length:=by
     rw[hcl];exact List.length_pos_iff.2 hx
    subst hn;refine .inr ⟨b,o,cap,rfl,hx,hnc,sr.fsz b (o+0) (hF 0 hpos),fun j x hj'=>?_⟩;have h2:=hget j x hj';have hjl:j<vs'.length:=by
     rw[hl'];exact(List.getElem?_eq_some_iff.1 h2).1
    have h3:=hr' j _ vs'[j] h2 (R4 hjl);rw[hc' j vs'[j] (R4 hjl),h3.inv_val.1]
 ·have h0:CRel φ F H w (.hs b g o n es) cv:=by
   cases hv with
   | one h=>exact h
  have hn:xs.length=n:=hn;simp only[bh]at hcs;split at hcs;case h_2=>cases hcs
  rename_i bc hb;split at hcs;case isFalse=>cases hcs
  rename_i hg;simp only[RZ]at hcs;cases h0 with
  | hs _ _ _ _ _ cs' x cap hb' hg' hnc hx' h'=>
   rw[hb]at hb';cases hb';by_cases hx:xs=[]
   ·have:n=0:=by rw[<-hn,hx];rfl
    subst this;refine .inl ⟨hx,_,_,rfl,fun e=>?_⟩;rcases h' hg.1 with⟨_,_,h,_⟩ | ⟨_,h,_⟩
    ·rw[e]at h;cases h
    ·exact h
   ·have hn0:¬n=0:=fun e=>hx (List.length_eq_zero_iff.1 (by omega))
    rcases h' hg.1 with⟨hg0,hd0,rfl,hgc,arr,ty,ha,hsz⟩ | ⟨h,_⟩
    ·have hne:bc≠[]:=fun e=>by rw[e]at hg;simp at hg;omega
     obtain⟨arr',ty',ha',hcell⟩:=sr.blk b bc hb hne;rw[ha]at ha';cases ha';subst hn;refine .inr ⟨(φ b).1,o-(φ b).2,cap,rfl,hx,hnc,(Array.getElem?_eq_some_iff.1 ha).1,fun j x hj'=>?_⟩;have h2:=hget j x hj';rw[<-hcs,List.getElem?_take]at h2;split at h2
     ·rw[List.getElem?_drop]at h2;obtain⟨v,hv,hr⟩:=hcell (o+j) _ h2;have hv:=hv (Nat.le_trans hd0 (Nat.le_add_right ..));rw[Nat.sub_add_comm hd0]at hv;have:=hr.inv_val.1;subst this;simp[World.cell?,ha,hv]
     ·cases h2
    ·exact absurd h hn0
theorem BM {j:FuncId}(S:ny P j){args:List AV}{r:AV}{H':Heap}(h:gD args H=some (r,H'))(vs:List Value)(sr:SR φ F H w)(ha:jb φ F H w args vs):Calls P j vs.toArray w (fun e w'=>∃v,e= .returned v/\jh φ F H w r H' v w'):=by
 unfold gD at h;split at h;case h_2=>cases h
 rename_i m;split at h;case h_2=>cases h
 rename_i es hes;split at h;case h_2=>cases h
 rename_i ks hks;split at h;case isFalse=>cases h
 rename_i hc;simp only[RZ,R0]at h;obtain⟨rfl,rfl⟩:=h;obtain⟨hl,hr⟩:=ha
 match vs,hl with
 | [cv],h1=>
  have h0:=hr 0 m cv rfl rfl;clear hr hl h1;unfold dw at hes;split at hes
  ·have h0:CRel φ F H w (.val (.map none)) cv:=by
    cases h0 with
    | one h=>exact h
   simp only[RZ]at hes;subst hes;simp only[RU,RZ]at hks;subst hks;rw[h0.inv_val.1];exact(S.2.1 w).mono fun e w' ⟨v,he,hrow⟩=>⟨v,he,yg sr hrow⟩
  ·rename_i b;split at hes;case h_2=>cases hes
   rename_i es' hb;simp only[RZ]at hes;subst hes;have h0:CRel φ F H w (.mp b) cv:=by
    cases h0 with
    | one h=>exact h
   cases h0 with
   | mp _ es2 hb2=>
   obtain⟨ces,clk,hk,hm⟩:=sr.mblk b es' hb;refine(S.2.2 w (φ b).1 ces clk ks hk hm.3 (sk (φ:=φ) (F:=F) (H:=H) (w:=w) hks (by simpa using hm.1) fun i k v hi=>?_) hc.1 (by simpa using hc.2)).mono fun e w' ⟨v,he,hrow⟩=>⟨v,he,yg sr hrow⟩
   obtain⟨_,_,e,h3,h4,_⟩:=hm.2 i k v hi;exact⟨e,by simpa using h3,h4⟩
  ·cases hes
theorem DX {j:FuncId}(U:yf P j){args:List AV}{r:AV}{H':Heap}(h:lu args H=some (r,H'))(vs:List Value)(sr:SR φ F H w)(ha:jb φ F H w args vs):Calls P j vs.toArray w (fun e w'=>∃v,e= .returned v/\jh φ F H w r H' v w'):=by
 unfold lu at h;split at h;case h_2=>cases h
 rename_i a b;split at h;case h_2=>cases h
 rename_i ca cb hca hcb;split at h;case h_2=>cases h
 rename_i xs ys hxs hys;split at h;case isFalse=>cases h
 rename_i hc;simp only[RZ,R0]at h;obtain⟨rfl,rfl⟩:=h;obtain⟨hl,hr⟩:=ha
 match vs,hl with
 | [va,vb],_=>
  exact(U.2 w xs ys va vb (vW sr (hr 0 a va rfl rfl) hca hxs hc.1) (vW sr (hr 1 b vb rfl rfl) hcb hys hc.2.1) hc.2.2).mono fun e w' ⟨v,he,hrow⟩=>⟨v,he,yg sr hrow⟩
end
theorem tY {args:List AV}{H:Heap}{r:AV}{H':Heap}(h:gD args H=some (r,H')):H'=H:=by
 unfold gD at h;repeat' split at h
 all_goals first | (cases h;done) | (simp only[RZ,R0]at h;exact h.2.symm)
theorem vX {args:List AV}{H:Heap}{r:AV}{H':Heap}(h:lu args H=some (r,H')):H'=H:=by
 unfold lu at h;repeat' split at h
 all_goals first | (cases h;done) | (simp only[RZ,R0]at h;exact h.2.symm)
def eM (j u:Nat)(X:Orc):Orc:=fun lk lim f args H=>if f=j then gD args H else if f=u then lu args H else X lk lim f args H
theorem vY {j u:Nat}{X:Orc}(h:OrcFr X):OrcFr (eM j u X):=by
 have hh:∀{lk lim f as H r H'},eM j u X lk lim f as H=some (r,H')->H'=H\/X lk lim f as H=some (r,H'):=fun h2=>by
  unfold eM at h2;split at h2
  ·exact .inl (tY h2)
  ·split at h2
   ·exact .inl (vX h2)
   ·exact .inr h2
 refine⟨fun lk lim f l H r H' h2=>?_,fun lk lim f l H r H' h2 hlk b hb=>?_,fun lk lim f l H r H' h2 m h3 h4 hc=>?_⟩;all_goals rcases hh h2 with e | h2
 ·rw[e];exact Nat.le_refl _
 ·exact h.len _ _ _ _ _ _ _ h2
 ·rw[e]
 ·exact h.lock _ _ _ _ _ _ _ h2 hlk b hb
 ·rw[e];exact hc
 ·exact h.cl _ _ _ _ _ _ _ h2 m h3 h4 hc
theorem vZ {P:Program}{j u:Nat}{X:Orc}(hj:j<1000)(hu:u<1000)(S:ny P j)(U:yf P u)(h:bI P X):bI P (eM j u X):=by
 intro lk lim f l H r H' h2;unfold eM at h2;split at h2
 ·rename_i e;subst e;rw[Nat.mod_eq_of_lt hj];exact⟨S.1,fun φ F w vs sr ha=>BM S h2 vs sr ha⟩
 ·split at h2
  ·rename_i e;subst e;rw[Nat.mod_eq_of_lt hu];exact⟨U.1,fun φ F w vs sr ha=>DX U h2 vs sr ha⟩
  ·exact h _ _ _ _ _ _ _ h2
def noX:Orc:=fun _ _ _ _ _=>none
theorem Lx {P:Program}:bI P noX:=fun _ _ _ _ _ _ _ h=>by cases h
theorem Ly:OrcFr noX:=⟨fun _ _ _ _ _ _ _ h=>(by cases h),fun _ _ _ _ _ _ _ h=>(by cases h),fun _ _ _ _ _ _ _ h=>(by cases h)⟩

def bU (f0:FuncId)(g:List AV->Heap->Option AV)(X:Orc):Orc:=fun lk lim f as H=>if f=f0 then (match g as H with
 | some v=>some (v,H)
 | none=>none) else X lk lim f as H
def zR (P:Program)(f0:FuncId)(g:List AV->Heap->Option AV):Prop:=jk P f0/\∀(φ:Phi) (F:Nat->Nat->Prop) (H:Heap) (w:World) (as:List AV) (r:AV) (vs:List Value),g as H=some r->SR φ F H w->jb φ F H w as vs->
 Calls P f0 vs.toArray w fun e w'=>∃v,e= .returned v/\jh φ F H w r H v w'
theorem yh {f0:FuncId}{g:List AV->Heap->Option AV}{X:Orc}{lk lim:Nat}{as:List AV}{H:Heap}{v:AV}(h:g as H=some v):bU f0 g X lk lim f0 as H=some (v,H):=by
 unfold bU;rw[if_pos rfl,h]
theorem qm {P:Program}{f0:FuncId}{g:List AV->Heap->Option AV}{X:Orc}(hf:f0<1000)(S:zR P f0 g)(h:bI P X):bI P (bU f0 g X):=by
 intro lk lim f l H r H' h2;unfold bU at h2;split at h2
 ·rename_i e;subst e;split at h2
  ·rename_i v hv;simp only[RZ,R0]at h2;obtain⟨rfl,rfl⟩:=h2;rw[Nat.mod_eq_of_lt hf];exact⟨S.1,fun φ F w vs sr ha=>S.2 φ F H w l v vs hv sr ha⟩
  ·cases h2
 ·exact h _ _ _ _ _ _ _ h2
theorem qn {f0:FuncId}{g:List AV->Heap->Option AV}{X:Orc}(h:OrcFr X):OrcFr (bU f0 g X):=by
 have hh:∀{lk lim f as H r H'},bU f0 g X lk lim f as H=some (r,H')->H'=H\/X lk lim f as H=some (r,H'):=fun h2=>by
  unfold bU at h2;split at h2
  ·split at h2
   ·simp only[RZ,R0]at h2;exact .inl h2.2.symm
   ·cases h2
  ·exact .inr h2
 refine⟨fun lk lim f l H r H' h2=>?_,fun lk lim f l H r H' h2 hlk b hb=>?_,fun lk lim f l H r H' h2 m h3 h4 hc=>?_⟩;all_goals rcases hh h2 with e | h2
 ·rw[e];exact Nat.le_refl _
 ·exact h.len _ _ _ _ _ _ _ h2
 ·rw[e]
 ·exact h.lock _ _ _ _ _ _ _ h2 hlk b hb
 ·rw[e];exact hc
 ·exact h.cl _ _ _ _ _ _ _ h2 m h3 h4 hc
end Go.Hm

