import Derived.Test.YtkllbcjanneppaaGreatA
set_option linter.all false
namespace Go.Proofs.YtkllbcjanneppaaGreat
open Go Go.Hm

def cq (k:Nat)(r:List UInt8):Bool:=decide (k<=r.length)||r.getLast?==some 255
def join (k:Nat)(r s:List UInt8):List UInt8:=if cq k r=true then r.take k else (r++s).take k
def cU (k:Nat)(a b:List (List UInt8)):List (List UInt8):=a.flatMap fun x=>if cq k x=true then [x.take k] else b.map fun y=>(x++y).take k
def cat (k:Nat)(a b:List (List UInt8)):List (List UInt8):=if b=[] then [] else bG (cU k a b)
def uni (a b:List (List UInt8)):List (List UInt8):=bG (a++b)
theorem iH {a b:List (List UInt8)}{z:List UInt8}:z∈uni a b↔z∈a\/z∈b:=by
 unfold uni;rw[dB,List.mem_append]
theorem ub (a b:List (List UInt8)):Up (uni a b):=eF _
theorem uc (k:Nat)(a b:List (List UInt8)):Up (cat k a b):=by
 unfold cat;split
 ·exact List.Pairwise.nil
 ·exact eF _
theorem bA {k:Nat}{a b:List (List UInt8)}{z:List UInt8}:z∈cat k a b↔∃r∈a,∃s∈b,z=join k r s:=by
 unfold cat;split
 ·rename_i hb;subst hb;simp
 ·rename_i hb;obtain⟨s0,hs0⟩:=List.exists_mem_of_ne_nil b hb;rw[dB,cU,List.mem_flatMap];constructor
  ·rintro⟨r,hr,hz⟩;refine⟨r,hr,?_⟩;unfold join;split at hz
   ·rename_i hw;exact⟨s0,hs0,by rw[if_pos hw];simpa using hz⟩
   ·rename_i hw;obtain⟨s,hs,rfl⟩:=List.mem_map.1 hz;exact⟨s,hs,by rw[if_neg hw]⟩
  ·rintro⟨r,hr,s,hs,rfl⟩;refine⟨r,hr,?_⟩;unfold join;split
   ·simp
   ·exact List.mem_map_of_mem hs
theorem D2 (k:Nat)(r s:List UInt8):(join k r s).length<=k:=by
 unfold join;split<;>(rw[List.length_take];exact Nat.min_le_left ..)
theorem nA {k:Nat}{r:List UInt8}(h:k<=r.length):cq k r=true:=by simp[cq,h]
theorem BN {k:Nat}{r:List UInt8}(h:r.getLast?=some 255):cq k r=true:=by simp[cq,h]
theorem jr {k:Nat}{r:List UInt8}(h:cq k r=true):k<=r.length\/r.getLast?=some 255:=by
 simpa[cq] using h
theorem zU {k:Nat}{a b:List (List UInt8)}:∀z∈cat k a b,z.length<=k:=fun z hz=>by
 obtain⟨r,_,s,_,rfl⟩:=bA.1 hz;exact D2 ..
theorem v8 {k:Nat}{a b a' b':List (List UInt8)}(ha:∀x∈a,x∈a')(hb:∀x∈b,x∈b'):∀z∈cat k a b,z∈cat k a' b':=fun z hz=>by
 obtain⟨r,hr,s,hs,rfl⟩:=bA.1 hz;exact bA.2 ⟨r,ha r hr,s,hb s hs,rfl⟩

structure Pr where
 l:Int
 r:List Int
structure Gm where
 t:Int
 n:Int
 k:Int
 ps:List Pr
structure POk (g:Gm)(p:Pr):Prop where
 len:p.r.length<=8
 l0:0<=p.l
 l1:p.l<g.n
 s:∀x∈p.r,0<=x/\x<g.t+g.n
structure GOk (g:Gm):Prop where
 t1:1<=g.t
 t2:g.t<=8
 n1:1<=g.n
 n2:g.n<=16
 k1:1<=g.k
 k2:g.k<=3
 l1:1<=g.ps.length
 l2:g.ps.length<=64
 p:∀p∈g.ps,POk g p

section
variable {α:Type}[DecidableEq α]{f:α->α}{Q:α->Prop}{μ:α->Nat}
def cH (f:α->α):Nat->α->α
 | 0,a=>a
 | m+1,a=>if f a=a then a else cH f m (f a)
structure Climbs (f:α->α)(Q:α->Prop)(μ:α->Nat):Prop where
 keep:∀a,Q a->Q (f a)
 down:∀a,Q a->f a=a\/μ (f a)<μ a
theorem dL (h:Climbs f Q μ):∀(m:Nat) (a:α),Q a->μ a<m->cH f m a=cH f (μ a+1) a
 | 0,a,_,hm=>by omega
 | m+1,a,hq,hm=>by
  simp only[cH];by_cases he:f a=a
  ·rw[if_pos he,if_pos he]
  ·rw[if_neg he,if_neg he];rcases h.down a hq with h1 | h1
   ·exact absurd h1 he
   ·rw[dL h m (f a) (h.keep a hq) (by omega)]
    by_cases h2:μ a=μ (f a)+1
    ·rw[h2]
    ·rw[dL h (μ a) (f a) (h.keep a hq) (by omega)]
theorem jY (h:Climbs f Q μ):∀(m:Nat) (a:α),Q a->μ a<m->f (cH f m a)=cH f m a
 | 0,a,_,hm=>by omega
 | m+1,a,hq,hm=>by
  simp only[cH];by_cases he:f a=a
  ·rw[if_pos he];exact he
  ·rw[if_neg he];rcases h.down a hq with h1 | h1
   ·exact absurd h1 he
   ·exact jY h m (f a) (h.keep a hq) (by omega)
theorem ie {R:α->Prop}(h:∀a,R a->R (f a)):∀(m:Nat) (a:α),R a->R (cH f m a)
 | 0,a,h0=>h0
 | m+1,a,h0=>by
  simp only[cH];split
  ·exact h0
  ·exact ie h m (f a) (h a h0)
end

abbrev Ss:=List (List (List UInt8))
def byteI (s:Int):UInt8:=UInt8.ofNat (s % 256).toNat
def nxt (g:Gm)(S:Ss)(s:Int):List (List UInt8):=if s<g.t then [[byteI s]] else S.getD (s-g.t).toNat []
def ofM (g:Gm)(S:Ss)(r:List Int):List (List UInt8):=r.foldl (fun o s=>cat g.k.toNat o (nxt g S s)) [[]]
def stS (g:Gm)(S:Ss)(p:Pr):Ss:=S.set p.l.toNat (uni (S.getD p.l.toNat []) (ofM g S p.r))
def nB (g:Gm)(S:Ss):Ss:=g.ps.foldl (stS g) S
def szS (S:Ss):Nat:=(S.map List.length).sum
def setsM (g:Gm):Ss:=cH (nB g) (g.n.toNat*585+1) (List.replicate g.n.toNat [])

def kX (t:Nat):Nat->List (List UInt8)
 | 0=>[[]]
 | k+1=>[]::(kX t k).flatMap fun r=>(List.range t).map fun b=>UInt8.ofNat b::r
theorem nC {t:Nat}:∀{k:Nat} {x:List UInt8},x.length<=k->(∀b∈x,b.toNat<t)->x∈kX t k
 | 0,[],_,_=>by simp[kX]
 | 0,_::_,h,_=>by simp at h
 | k+1,[],_,_=>by simp[kX]
 | k+1,b::x,h,hb=>by
  refine List.mem_cons_of_mem _ (List.mem_flatMap.2 ⟨x,nC (by simpa using h) fun c hc=>hb c (List.mem_cons_of_mem _ hc),List.mem_map.2 ⟨b.toNat,List.mem_range.2 (hb b (List.mem_cons_self ..)),?_⟩⟩)
  rw[UInt8.ofNat_toNat]
structure ROk (g:Gm)(l:List (List UInt8)):Prop where
 up:Up l
 len:∀x∈l,x.length<=g.k.toNat
 b:∀x∈l,∀c∈x,(c.toNat:Int)<g.t
theorem ROk.size {g:Gm}(hg:GOk g){l:List (List UInt8)}(h:ROk g l):l.length<=585:=by
 have h1:=ua h.up (eF (kX 8 3)) fun x hx=>dB.2 (nC (by have:=h.len x hx;have:=hg.k2;omega) fun c hc=>by have:=h.b x hx c hc;have:=hg.t2;omega)
 have h2:∀l:List (List UInt8),(bG l).length<=l.length:=by
  have h3:∀(x:List UInt8) (l:List (List UInt8)),(ins x l).length<=l.length+1:=by
   intro x l;induction l with
   | nil=>simp[ins]
   | cons y l ih=>
    unfold ins;split
    ·simp
    ·split
     ·simp
     ·simpa using ih
  intro l;induction l with
  | nil=>simp[bG]
  | cons x l ih=>
   have:=h3 x (bG l);show (ins x (bG l)).length<=_;simp only[List.length_cons];omega
 have h4:=h2 (kX 8 3);have h5:(kX 8 3).length=585:=by decide+kernel
 omega
structure SOk (g:Gm)(S:Ss):Prop where
 len:S.length=g.n.toNat
 r:∀l∈S,ROk g l
theorem ROk.nil (g:Gm):ROk g []:=⟨List.Pairwise.nil,by simp,by simp⟩
theorem ROk.eps (g:Gm):ROk g [[]]:=⟨List.pairwise_singleton ..,by simp,by simp⟩
theorem SOk.get {g:Gm}{S:Ss}(h:SOk g S)(i:Nat):ROk g (S.getD i []):=by
 rw[R3];cases hi:S[i]? with
 | none=>exact ROk.nil g
 | some l=>exact h.r l (List.mem_of_getElem? hi)
theorem D3 {s t:Int}(h0:0<=s)(h:s<t)(ht:t<=8):((byteI s).toNat:Int)<t:=by
 unfold byteI;rw[UInt8.toNat_ofNat'];omega
theorem ROk.cat {g:Gm}{a b:List (List UInt8)}(ha:ROk g a)(hb:∀x∈b,∀c∈x,(c.toNat:Int)<g.t):ROk g (cat g.k.toNat a b):=by
 refine⟨uc ..,zU,fun x hx c hc=>?_⟩;obtain⟨r,hr,s,hs,rfl⟩:=bA.1 hx;unfold join at hc;split at hc
 ·exact ha.b r hr c (List.mem_of_mem_take hc)
 ·rcases List.mem_append.1 (List.mem_of_mem_take hc) with h | h
  ·exact ha.b r hr c h
  ·exact hb s hs c h
theorem JF {g:Gm}(hg:GOk g){S:Ss}(h:SOk g S){s:Int}(h0:0<=s):∀x∈nxt g S s,∀c∈x,(c.toNat:Int)<g.t:=by
 unfold nxt;split
 ·rename_i hs;intro x hx c hc;simp only[List.mem_singleton]at hx;subst hx;simp only[List.mem_singleton]at hc;subst hc;exact D3 h0 hs hg.t2
 ·exact(h.get _).b
theorem zV {g:Gm}(hg:GOk g){S:Ss}(h:SOk g S):∀(r:List Int) (o:List (List UInt8)),(∀s∈r,0<=s)->ROk g o->ROk g (r.foldl (fun o s=>cat g.k.toNat o (nxt g S s)) o)
 | [],o,_,ho=>ho
 | s::r,o,hr,ho=>zV hg h r _ (fun x hx=>hr x (List.mem_cons_of_mem _ hx)) (ho.cat (JF hg h (hr s (List.mem_cons_self ..))))
theorem eD {g:Gm}(hg:GOk g){S:Ss}(h:SOk g S){r:List Int}(hr:∀s∈r,0<=s):ROk g (ofM g S r):=zV hg h r _ hr (ROk.eps g)
theorem ROk.uni {g:Gm}{a b:List (List UInt8)}(ha:ROk g a)(hb:ROk g b):ROk g (uni a b):=
 ⟨ub ..,fun x hx=>(iH.1 hx).elim (ha.len x) (hb.len x),fun x hx=>(iH.1 hx).elim (ha.b x) (hb.b x)⟩
theorem qq {g:Gm}(hg:GOk g){S:Ss}(h:SOk g S){p:Pr}(hp:POk g p):SOk g (stS g S p):=by
 refine⟨by simp[stS,h.len],fun l hl=>?_⟩
 rcases List.mem_or_eq_of_mem_set hl with hl | rfl
 ·exact h.r l hl
 ·exact(h.get _).uni (eD hg h fun s hs=>(hp.s s hs).1)
theorem ud:∀(S:Ss) (i:Nat) (l:List (List UInt8)),(h:i<S.length)->szS (S.set i l)+S[i].length=szS S+l.length
 | [],i,_,h=>by simp at h
 | x::S,0,l,h=>by simp[szS];omega
 | x::S,i+1,l,h=>by
  have:=ud S i l (by simpa using h)
  simp only[szS,List.set_cons_succ,List.map_cons,List.sum_cons,List.getElem_cons_succ]at this |-;omega
theorem yi {g:Gm}{S:Ss}(h:SOk g S){p:Pr}(hp:POk g p):(stS g S p=S\/szS S<szS (stS g S p))/\((stS g S p=S)↔(uni (S.getD p.l.toNat []) (ofM g S p.r)).length<=(S.getD p.l.toNat []).length):=by
 have hl:p.l.toNat<S.length:=by rw[h.len];have:=hp.l0;have:=hp.l1;omega
 have hg:S.getD p.l.toNat []=S[p.l.toNat]:=by rw[R3,R4 hl];rfl
 have hs:=ud S p.l.toNat (uni (S.getD p.l.toNat []) (ofM g S p.r)) hl;unfold stS;rw[hg]at hs |-;have hr:=h.r _ (List.getElem_mem hl);by_cases hle:(uni S[p.l.toNat] (ofM g S p.r)).length<=S[p.l.toNat].length
 ·have he:S[p.l.toNat]=uni S[p.l.toNat] (ofM g S p.r):=JE hr.up (ub ..) (fun x hx=>iH.2 (.inl hx)) hle;have:S.set p.l.toNat (uni S[p.l.toNat] (ofM g S p.r))=S:=by rw[<-he];exact List.set_getElem_self ..
  exact⟨.inl this,⟨fun _=>hle,fun _=>this⟩⟩
 ·refine⟨.inr (by omega),⟨fun e=>?_,fun h=>absurd h hle⟩⟩
  rw[e]at hs;omega
theorem ue {g:Gm}(hg:GOk g):∀(ps:List Pr),(∀p∈ps,POk g p)->∀S,SOk g S->SOk g (ps.foldl (stS g) S)/\(ps.foldl (stS g) S=S\/szS S<szS (ps.foldl (stS g) S))/\(ps.foldl (stS g) S=S->∀p∈ps,stS g S p=S)
 | [],_,S,h=>⟨h,.inl rfl,fun _ p hp=>by simp at hp⟩
 | p::ps,hp,S,h=>by
  have hp0:=hp p (List.mem_cons_self ..);obtain⟨i1,i2,i3⟩:=ue hg ps (fun q hq=>hp q (List.mem_cons_of_mem _ hq)) _ (qq hg h hp0);have h1:=(yi h hp0).1;simp only[List.foldl_cons];refine⟨i1,?_,fun e q hq=>?_⟩
  ·rcases i2 with e2 | l2<;>rcases h1 with e1 | l1
   ·rw[e2,e1];exact .inl rfl
   ·rw[e2];exact .inr l1
   ·rw[e1]at l2 |-;exact .inr l2
   ·exact .inr (by omega)
  ·have h2:stS g S p=S:=by
    rcases h1 with e1 | l1
    ·exact e1
    ·rcases i2 with e2 | l2
     ·rw[e]at e2;exact e2.symm
     ·rw[e]at l2;omega
   rcases List.mem_cons.1 hq with rfl | hq
   ·exact h2
   ·rw[h2]at i3 e;exact i3 e q hq
theorem yj {g:Gm}(hg:GOk g){S:Ss}(h:SOk g S):szS S<=g.n.toNat*585:=by
 rw[<-h.len];have:∀S:Ss,(∀l∈S,ROk g l)->szS S<=S.length*585:=by
  intro S;induction S with
  | nil=>intro _;simp[szS]
  | cons l S ih=>
   intro hh;have h1:=(hh l (List.mem_cons_self ..)).size hg;have h2:=ih fun x hx=>hh x (List.mem_cons_of_mem _ hx);simp only[szS,List.map_cons,List.sum_cons,List.length_cons]at h2 |-;omega
 exact this S h.r
theorem js {g:Gm}(hg:GOk g):Climbs (nB g) (SOk g) fun S=>g.n.toNat*585-szS S:=
 ⟨fun S h=>(ue hg g.ps hg.p S h).1,fun S h=>by
  obtain⟨h1,h2,_⟩:=ue hg g.ps hg.p S h;rcases h2 with h2 | h2
  ·exact .inl h2
  ·have:=yj hg h1;exact .inr (by show _-szS (nB g S)<_;unfold nB;omega)⟩
theorem SOk.start (g:Gm):SOk g (List.replicate g.n.toNat []):=⟨by simp,fun l hl=>by rw[(List.mem_replicate.1 hl).2];exact ROk.nil g⟩
theorem wa {g:Gm}(Q:Ss->Prop)(h0:Q (List.replicate g.n.toNat []))(hs:∀S p,p∈g.ps->Q S->Q (stS g S p)):Q (setsM g):=by
 refine ie (fun S hS=>?_) _ _ h0;have:∀(ps:List Pr),(∀p∈ps,p∈g.ps)->∀S,Q S->Q (ps.foldl (stS g) S):=by
  intro ps;induction ps with
  | nil=>intro _ S h;exact h
  | cons p ps ih=>intro hp S h;exact ih (fun q hq=>hp q (List.mem_cons_of_mem _ hq)) _ (hs S p (hp p (List.mem_cons_self ..)) h)
 exact this g.ps (fun _ h=>h) S hS
theorem aJ {g:Gm}(hg:GOk g):SOk g (setsM g):=wa _ (SOk.start g) fun _ p hp h=>qq hg h (hg.p p hp)
theorem md {S:Ss}{i:Nat}{l:List (List UInt8)}(j:Nat)(h:i<S.length):(S.set i l).getD j []=if j=i then l else S.getD j []:=by
 rw[R3,R3];split
 ·rename_i e;subst e;rw[List.getElem?_set_self h];rfl
 ·rename_i e;rw[List.getElem?_set_ne (fun h=>e h.symm)]
theorem zW {g:Gm}{S:Ss}(h:SOk g S){p:Pr}(hp:POk g p)(i:Nat)(x:List UInt8):x∈(stS g S p).getD i []↔x∈S.getD i []\/(i=p.l.toNat/\x∈ofM g S p.r):=by
 unfold stS;rw[md i (by rw[h.len];have:=hp.l0;have:=hp.l1;omega)]
 split
 ·rename_i e;subst e;rw[iH];simp
 ·rename_i e;simp[e]
theorem jt {g:Gm}(hg:GOk g){p:Pr}(hp:p∈g.ps):∀x∈ofM g (setsM g) p.r,x∈(setsM g).getD p.l.toNat []:=fun x hx=>by
 have hf:nB g (setsM g)=setsM g:=jY (js hg) _ _ (SOk.start g) (by omega)
 have:=(ue hg g.ps hg.p _ (aJ hg)).2.2 hf p hp;rw[<-this];exact(zW (aJ hg) (hg.p p hp) _ x).2 (.inr ⟨rfl,hx⟩)

def nD (N:Int->List (List UInt8)):List Int->List UInt8->Prop
 | [],t=>t=[]
 | s::r,t=>∃x u,x∈N s/\nD N r u/\t=x++u
theorem wc {N:Int->List (List UInt8)}:∀{a b:List Int} {t:List UInt8},nD N (a++b) t↔∃x u,nD N a x/\nD N b u/\t=x++u
 | [],b,t=>by simp[nD]
 | s::a,b,t=>by
  simp only[List.cons_append,nD,wc (a:=a)];constructor
  ·rintro⟨x,_,hx,⟨y,u,hy,hu,rfl⟩,rfl⟩;exact⟨x++y,u,⟨x,y,hx,hy,rfl⟩,hu,(List.append_assoc ..).symm⟩
  ·rintro⟨_,u,⟨x,y,hx,hy,rfl⟩,hu,rfl⟩;exact⟨x,y++u,hx,⟨y,u,hy,hu,rfl⟩,List.append_assoc ..⟩
theorem dZ (k:Nat)(a b:List UInt8):(a++b).take k=(a.take k++b.take k).take k:=by
 rw[List.take_append,List.take_append (l₁:=a.take k),List.take_take,Nat.min_self,List.take_take,List.length_take];have:min (k-min k a.length) k=k-a.length:=by omega
 rw[this]
theorem ig (k:Nat)(a b:List UInt8):(a.take k++b).take k=(a++b).take k:=by
 rw[dZ k (a.take k) b,dZ k a b,List.take_take,Nat.min_self]
theorem jZ (k:Nat)(a b:List UInt8):(a++b.take k).take k=(a++b).take k:=by
 rw[dZ k a (b.take k),dZ k a b,List.take_take,Nat.min_self]
def ju (r:List UInt8):Prop:=∀c∈r,c≠255
theorem bR {k:Nat}{r:List UInt8}(h:ju r)(s:List UInt8):join k r s=(r++s).take k:=by
 unfold join;split
 ·rename_i hw;rcases jr hw with h1 | h1
  ·rw[List.take_append_of_le_length h1]
  ·exact absurd rfl (h _ (List.mem_of_getLast? h1))
 ·rfl
theorem zX {g:Gm}{S:Ss}:∀(r:List Int) (o:List (List UInt8)),(∀x∈o,ju x)->(∀s∈r,∀x∈nxt g S s,ju x)->(∀x∈o,x.length<=g.k.toNat)->
  ∀z,z∈r.foldl (fun o s=>cat g.k.toNat o (nxt g S s)) o↔∃y∈o,∃t,nD (nxt g S) r t/\z=(y++t).take g.k.toNat
 | [],o,ho,_,hl,z=>by
  simp only[List.foldl_nil,nD];constructor
  ·exact fun h=>⟨z,h,[],rfl,by rw[List.append_nil,List.take_of_length_le (hl z h)]⟩
  ·rintro⟨y,hy,t,rfl,rfl⟩;rw[List.append_nil,List.take_of_length_le (hl y hy)];exact hy
 | s::r,o,ho,hn,hl,z=>by
  have hs:=hn s (List.mem_cons_self ..);have hc:∀x∈cat g.k.toNat o (nxt g S s),ju x:=fun x hx=>by
   obtain⟨y,hy,u,hu,rfl⟩:=bA.1 hx;rw[bR (ho y hy)];intro c hc;rcases List.mem_append.1 (List.mem_of_mem_take hc) with h | h
   ·exact ho y hy c h
   ·exact hs u hu c h
  rw[List.foldl_cons,zX r _ hc (fun x hx=>hn x (List.mem_cons_of_mem _ hx)) zU z];constructor
  ·rintro⟨x,hx,t,ht,rfl⟩;obtain⟨y,hy,u,hu,rfl⟩:=bA.1 hx;exact⟨y,hy,u++t,⟨u,t,hu,ht,rfl⟩,by rw[bR (ho y hy),ig,List.append_assoc]⟩
  ·rintro⟨y,hy,_,⟨u,t,hu,ht,rfl⟩,rfl⟩;exact⟨_,bA.2 ⟨y,hy,u,hu,rfl⟩,t,ht,by rw[bR (ho y hy),ig,List.append_assoc]⟩
theorem jv {g:Gm}(hg:GOk g){x:List UInt8}(h:∀c∈x,(c.toNat:Int)<g.t):ju x:=fun c hc e=>by
 have:=h c hc;subst e;have h2:(255:UInt8).toNat=255:=rfl;rw[h2]at this;have:=hg.t2;omega
theorem eG {g:Gm}(hg:GOk g){S:Ss}(hS:SOk g S){r:List Int}(hr:∀s∈r,0<=s)(z:List UInt8):z∈ofM g S r↔∃t,nD (nxt g S) r t/\z=t.take g.k.toNat:=by
 unfold ofM;rw[zX r [[]] (by simp[ju]) (fun s hs x hx=>jv hg (JF hg hS (hr s hs) x hx)) (by simp) z]
 simp

inductive Drv (g:Gm):List Int->List UInt8->Prop
 | nil:Drv g [] []
 | tok (s:Int) (r:List Int) (t:List UInt8) (h:s<g.t) (d:Drv g r t):Drv g (s::r) (byteI s::t)
 | non (p:Pr) (r:List Int) (t:List UInt8) (h:p∈g.ps) (d:Drv g (p.r++r) t):Drv g ((g.t+p.l)::r) t
theorem wd {g:Gm}(hg:GOk g){r:List Int}{t:List UInt8}(d:Drv g r t):∃u,nD (nxt g (setsM g)) r u/\u.take g.k.toNat=t.take g.k.toNat:=by
 induction d with
 | nil=>exact⟨[],rfl,rfl⟩
 | tok s r t h d ih=>
  obtain⟨u,hu,e⟩:=ih;refine⟨byteI s::u,⟨[byteI s],u,by simp[nxt,h],hu,rfl⟩,?_⟩
  have h1:=jZ g.k.toNat [byteI s] u;have h2:=jZ g.k.toNat [byteI s] t;rw[<-e]at h2;exact h1.symm.trans h2
 | non p r t h d ih=>
  obtain⟨u,hu,e⟩:=ih;obtain⟨x,v,hx,hv,rfl⟩:=wc.1 hu;have hp:=hg.p p h;have hl:=hp.l0;refine⟨x.take g.k.toNat++v,⟨x.take g.k.toNat,v,?_,hv,rfl⟩,by rw[ig];exact e⟩
  unfold nxt;rw[if_neg (by omega),show g.t+p.l-g.t=p.l by omega]
  exact jt hg h _ ((eG hg (aJ hg) (fun s hs=>(hp.s s hs).1) _).2 ⟨x,hx,rfl⟩)

def bC:List Bool->Nat
 | []=>0
 | b::l=>(if b=true then 0 else 1)+bC l
theorem ik:∀(o:List Bool) (i:Nat) (h:i<o.length),o[i]=false->bC (o.set i true)+1=bC o
 | [],i,h,_=>by simp at h
 | b::o,0,h,hb=>by
  have hb:b=false:=hb;subst hb;simp only[List.set_cons_zero,bC];simp;omega
 | b::o,i+1,h,hb=>by
  have ih:=ik o i (by simpa using h) (by simpa using hb)
  simp only[List.set_cons_succ,bC];omega
def BO (f:List Bool->List Bool):Nat->List Bool->List Bool
 | 0,o=>o
 | m+1,o=>if f o=o then o else BO f m (f o)
def Grows (f:List Bool->List Bool):Prop:=∀o,f o=o\/bC (f o)<bC o
theorem nF {f:List Bool->List Bool}(hf:Grows f):∀(m:Nat) (o:List Bool),bC o<m->BO f m o=BO f (bC o+1) o
 | 0,o,h=>by omega
 | m+1,o,h=>by
  simp only[BO];by_cases he:f o=o
  ·rw[if_pos he,if_pos he]
  ·rw[if_neg he,if_neg he];rcases hf o with h1 | h1
   ·exact absurd h1 he
   ·rw[nF hf m (f o) (by omega)]
    by_cases h2:bC o=bC (f o)+1
    ·rw[h2]
    ·rw[nF hf (bC o) (f o) (by omega)]
def fin (f:List Bool->List Bool)(o:List Bool):List Bool:=BO f (bC o+1) o
theorem d6 {f:List Bool->List Bool}(hf:Grows f)(o:List Bool):fin f o=if f o=o then o else fin f (f o):=by
 unfold fin;rw[BO];by_cases he:f o=o
 ·rw[if_pos he,if_pos he]
 ·rw[if_neg he,if_neg he];rcases hf o with h1 | h1
  ·exact absurd h1 he
  ·exact nF hf _ _ h1
theorem uf {f:List Bool->List Bool}(hf:Grows f):∀(m:Nat) (o:List Bool),bC o<=m->f (fin f o)=fin f o
 | m,o,h=>by
  rw[d6 hf];by_cases he:f o=o
  ·rw[if_pos he];exact he
  ·rw[if_neg he];rcases hf o with h1 | h1
   ·exact absurd h1 he
   ·cases m with
    | zero=>omega
    | succ m=>exact uf hf m (f o) (by omega)
theorem iI {f:List Bool->List Bool}(hf:Grows f)(Q:List Bool->Prop)(hq:∀o,Q o->Q (f o)):∀(m:Nat) (o:List Bool),bC o<=m->Q o->Q (fin f o)
 | m,o,h,h0=>by
  rw[d6 hf];by_cases he:f o=o
  ·rw[if_pos he];exact h0
  ·rw[if_neg he];rcases hf o with h1 | h1
   ·exact absurd h1 he
   ·cases m with
    | zero=>omega
    | succ m=>exact iI hf Q hq m (f o) (by omega) (hq o h0)
def rnd {α:Type}(st:List Bool->α->List Bool)(ps:List α)(o:List Bool):List Bool:=ps.foldl st o
theorem bu {α:Type}{st:List Bool->α->List Bool}(hs:∀p,Grows fun o=>st o p):∀ps:List α,Grows (rnd st ps)
 | [],o=>.inl rfl
 | p::ps,o=>by
  have h1:=bu hs ps (st o p);have h2:st o p=o\/bC (st o p)<bC o:=hs p o;simp only[rnd,List.foldl_cons]at h1 |-;rcases h1 with h1 | h1<;>rcases h2 with h2 | h2
  ·rw[h1];exact .inl h2
  ·rw[h1];exact .inr h2
  ·rw[h2]at h1 |-;exact .inr h1
  ·exact .inr (by omega)
theorem nG {α:Type}{st:List Bool->α->List Bool}(hs:∀p,Grows fun o=>st o p)(ps:List α)(o:List Bool):bC (rnd st ps o)<=bC o:=by
 rcases bu hs ps o with h | h
 ·rw[h];exact Nat.le_refl _
 ·omega
theorem il {α:Type}{st:List Bool->α->List Bool}(hs:∀p,Grows fun o=>st o p):∀(ps:List α) (o:List Bool),rnd st ps o=o->∀p∈ps,st o p=o
 | [],_,_,p,hp=>by simp at hp
 | q::ps,o,h,p,hp=>by
  simp only[rnd,List.foldl_cons]at h;have h1:st o q=o:=by
   rcases hs q o with h2 | h2
   ·exact h2
   ·have h3:=nG hs ps (st o q);simp only[rnd]at h3;rw[h]at h3;have h2:bC (st o q)<bC o:=h2;omega
  rcases List.mem_cons.1 hp with rfl | hp
  ·exact h1
  ·rw[h1]at h;exact il hs ps o h p hp

def okS (g:Gm)(tok:Bool)(o:List Bool)(s:Int):Bool:=if s<g.t then tok else o.getD (s-g.t).toNat false
def ek (g:Gm)(tok:Bool)(o:List Bool)(p:Pr):List Bool:=if o.getD p.l.toNat false=true then o else if p.r.all (okS g tok o)=true then o.set p.l.toNat true else o
theorem nH (o:List Bool)(i:Nat)(h:¬o.getD i false=true):o.set i true=o\/bC (o.set i true)<bC o:=by
 by_cases hi:i<o.length
 ·right;have:o[i]=false:=by
   rw[R3,R4 hi]at h;simpa using h
  have:=ik o i hi this;omega
 ·left;exact List.set_eq_of_length_le (by omega)
theorem dg (g:Gm)(tok:Bool)(p:Pr):Grows fun o=>ek g tok o p:=fun o=>by
 simp only[ek];split
 ·exact .inl rfl
 ·split
  ·rename_i h1 h2;exact nH o _ h1
  ·exact .inl rfl
def derM (g:Gm)(tok:Bool):List Bool:=fin (rnd (ek g tok) g.ps) (List.replicate g.n.toNat false)

structure Pl where
 l:Nat
 s:Nat
 r:List Int
def fR (t:Int)(l:Nat):List Int->List Pl
 | []=>[]
 | s::r=>if s<t then fR t l r else ⟨l,(s-t).toNat,r⟩::fR t l r
def pls (g:Gm):List Pl:=g.ps.flatMap fun p=>fR g.t p.l.toNat p.r
def stF (g:Gm)(F S:Ss)(p:Pl):Ss:=S.set p.s (uni (S.getD p.s []) (cat g.k.toNat (ofM g F p.r) (S.getD p.l [])))
def qu (g:Gm)(F S:Ss):Ss:=(pls g).foldl (stF g F) S
def cE (g:Gm):Ss:=(List.replicate g.n.toNat []).set 0 [[255]]
def cM (g:Gm):Ss:=cH (qu g (setsM g)) (g.n.toNat*585+1) (cE g)

structure PlOk (g:Gm)(p:Pl):Prop where
 l:p.l<g.n.toNat
 s:p.s<g.n.toNat
 r:∀x∈p.r,0<=x/\x<g.t+g.n
 len:p.r.length<=8
theorem zY {g:Gm}{l:Nat}(hl:l<g.n.toNat):∀{r:List Int},r.length<=9->(∀x∈r,0<=x/\x<g.t+g.n)->∀p∈fR g.t l r,PlOk g p/\p.l=l
 | [],_,_,p,hp=>by cases hp
 | s::r,hlen,h,p,hp=>by
  have ih:=zY hl (r:=r) (by simp at hlen;omega) (fun x hx=>h x (List.mem_cons_of_mem _ hx))
  unfold fR at hp;split at hp
  ·exact ih p hp
  ·rename_i hs;rcases List.mem_cons.1 hp with rfl | hp
   ·have:=h s (List.mem_cons_self ..);exact⟨⟨hl,by show (s-g.t).toNat<_;omega,fun x hx=>h x (List.mem_cons_of_mem _ hx),by simp at hlen;show r.length<=8;omega⟩,rfl⟩
   ·exact ih p hp
theorem d7 {g:Gm}(hg:GOk g):∀p∈pls g,PlOk g p:=fun p hp=>by
 obtain⟨q,hq,hp⟩:=List.mem_flatMap.1 hp;have h:=hg.p q hq;exact(zY (g:=g) (l:=q.l.toNat) (by have:=h.l0;have:=h.l1;omega) (by have:=h.len;omega) h.s p hp).1
theorem fS {t:Int}{l:Nat}{p:Pl}:∀{r:List Int},p∈fR t l r↔∃a s,r=a++s::p.r/\¬s<t/\p.l=l/\p.s=(s-t).toNat
 | []=>by simp[fR]
 | x::r=>by
  unfold fR;have key:(∃a s,x::r=a++s::p.r/\¬s<t/\p.l=l/\p.s=(s-t).toNat)↔(r=p.r/\¬x<t/\p.l=l/\p.s=(x-t).toNat)\/∃a s,r=a++s::p.r/\¬s<t/\p.l=l/\p.s=(s-t).toNat:=by
   constructor
   ·rintro⟨a,s,e,h⟩;cases a with
    | nil=>cases e;exact .inl ⟨rfl,h⟩
    | cons y a=>cases e;exact .inr ⟨a,s,rfl,h⟩
   ·rintro (⟨rfl,h⟩ | ⟨a,s,rfl,h⟩)
    ·exact⟨[],x,rfl,h⟩
    ·exact⟨x::a,s,rfl,h⟩
  rw[key];split
  ·rename_i hx;rw[fS];simp[hx]
  ·rename_i hx;rw[List.mem_cons,fS];constructor
   ·rintro (rfl | h)
    ·exact .inl ⟨rfl,hx,rfl,rfl⟩
    ·exact .inr h
   ·rintro (⟨e,_,h1,h2⟩ | h)
    ·refine .inl ?_;cases p;simp only at e h1 h2;subst e;subst h1;subst h2;rfl
    ·exact .inr h

def RowF (g:Gm)(x:List UInt8):Prop:=∃y:List UInt8,(∀c∈y,(c.toNat:Int)<g.t)/\x=(y++[255]).take g.k.toNat
structure FOk (g:Gm)(l:List (List UInt8)):Prop where
 up:Up l
 row:∀x∈l,RowF g x
theorem RowF.len {g:Gm}{x:List UInt8}(h:RowF g x):x.length<=g.k.toNat:=by
 obtain⟨y,_,rfl⟩:=h;rw[List.length_take];omega
theorem RowF.pos {g:Gm}(hg:GOk g){x:List UInt8}(h:RowF g x):0<x.length:=by
 obtain⟨y,_,rfl⟩:=h;have:=hg.k1;rw[List.length_take];simp;omega
theorem FOk.nil (g:Gm):FOk g []:=⟨List.Pairwise.nil,by simp⟩
theorem FOk.size {g:Gm}(hg:GOk g){l:List (List UInt8)}(h:FOk g l):l.length<=585:=by
 have h1:=ua h.up (eF ((kX 8 3).map fun y=>(y++[255]).take g.k.toNat)) fun x hx=>dB.2 (by
  obtain⟨y,hy,rfl⟩:=h.row x hx;refine List.mem_map.2 ⟨y.take g.k.toNat,nC (by rw[List.length_take];have:=hg.k2;omega) fun c hc=>by have:=hy c (List.mem_of_mem_take hc);have:=hg.t2;omega,ig ..⟩)
 have h2:=zT ((kX 8 3).map fun y=>(y++[255]).take g.k.toNat);have h5:(kX 8 3).length=585:=by decide+kernel
 rw[List.length_map]at h2;omega
structure TOk (g:Gm)(S:Ss):Prop where
 len:S.length=g.n.toNat
 r:∀l∈S,FOk g l
theorem TOk.get {g:Gm}{S:Ss}(h:TOk g S)(i:Nat):FOk g (S.getD i []):=by
 rw[R3];cases hi:S[i]? with
 | none=>exact FOk.nil g
 | some l=>exact h.r l (List.mem_of_getElem? hi)
theorem Iw {g:Gm}(hg:GOk g):RowF g [255]:=⟨[],by simp,by
 have:=hg.k1;obtain⟨k,hk⟩:∃k,g.k.toNat=k+1:=⟨g.k.toNat-1,by omega⟩
 rw[hk];simp⟩
theorem FOk.one {g:Gm}(hg:GOk g):FOk g [[255]]:=⟨List.pairwise_singleton ..,fun x hx=>by
 rw[List.mem_singleton.1 hx];exact Iw hg⟩
theorem TOk.start {g:Gm}(hg:GOk g):TOk g (cE g):=⟨by simp[cE],fun l hl=>by
 rcases List.mem_or_eq_of_mem_set hl with hl | rfl
 ·rw[(List.mem_replicate.1 hl).2];exact FOk.nil g
 ·exact FOk.one hg⟩
theorem D4 {g:Gm}{r s:List UInt8}(hr:∀c∈r,(c.toNat:Int)<g.t)(hn:ju r)(hs:RowF g s):RowF g (join g.k.toNat r s):=by
 obtain⟨y,hy,rfl⟩:=hs;rw[bR hn,jZ,<-List.append_assoc];exact⟨r++y,fun c hc=>(List.mem_append.1 hc).elim (hr c) (hy c),rfl⟩
theorem o6 {g:Gm}(hg:GOk g){a b:List (List UInt8)}(ha:ROk g a)(hb:FOk g b):FOk g (cat g.k.toNat a b):=⟨uc ..,fun x hx=>by
 obtain⟨r,hr,s,hs,rfl⟩:=bA.1 hx;exact D4 (ha.b r hr) (jv hg (ha.b r hr)) (hb.row s hs)⟩
theorem FOk.uni {g:Gm}{a b:List (List UInt8)}(ha:FOk g a)(hb:FOk g b):FOk g (uni a b):=
 ⟨ub ..,fun x hx=>(iH.1 hx).elim (ha.row x) (hb.row x)⟩
section
variable {g:Gm}{F:Ss}
theorem qw (hg:GOk g)(hF:SOk g F){S:Ss}(h:TOk g S){p:Pl}(hp:PlOk g p):TOk g (stF g F S p):=by
 refine⟨by simp[stF,h.len],fun l hl=>?_⟩
 rcases List.mem_or_eq_of_mem_set hl with hl | rfl
 ·exact h.r l hl
 ·exact(h.get _).uni (o6 hg (eD hg hF fun s hs=>(hp.r s hs).1) (h.get _))
theorem gF {S:Ss}(h:TOk g S){p:Pl}(hp:PlOk g p)(i:Nat)(x:List UInt8):x∈(stF g F S p).getD i []↔x∈S.getD i []\/(i=p.s/\x∈cat g.k.toNat (ofM g F p.r) (S.getD p.l [])):=by
 unfold stF;rw[md i (by rw[h.len];exact hp.s)]
 split
 ·rename_i e;subst e;rw[iH];simp
 ·rename_i e;simp[e]
theorem ug {S:Ss}(h:TOk g S){p:Pl}(hp:PlOk g p):(stF g F S p=S\/szS S<szS (stF g F S p))/\((stF g F S p=S)↔(uni (S.getD p.s []) (cat g.k.toNat (ofM g F p.r) (S.getD p.l []))).length<=(S.getD p.s []).length):=by
 have hl:p.s<S.length:=by rw[h.len];exact hp.s
 have hg:S.getD p.s []=S[p.s]:=by rw[R3,R4 hl];rfl
 unfold stF;generalize cat g.k.toNat (ofM g F p.r) (S.getD p.l [])=c;have hs:=ud S p.s (uni (S.getD p.s []) c) hl;rw[hg]at hs |-;have hr:=h.r _ (List.getElem_mem hl);by_cases hle:(uni S[p.s] c).length<=S[p.s].length
 ·have he:S[p.s]=uni S[p.s] c:=JE hr.up (ub ..) (fun x hx=>iH.2 (.inl hx)) hle;have:S.set p.s (uni S[p.s] c)=S:=by rw[<-he];exact List.set_getElem_self ..
  exact⟨.inl this,⟨fun _=>hle,fun _=>this⟩⟩
 ·refine⟨.inr (by omega),⟨fun e=>?_,fun h=>absurd h hle⟩⟩
  rw[e]at hs;omega
theorem o8 (hg:GOk g)(hF:SOk g F):∀(ps:List Pl),(∀p∈ps,PlOk g p)->∀S,TOk g S->TOk g (ps.foldl (stF g F) S)/\(ps.foldl (stF g F) S=S\/szS S<szS (ps.foldl (stF g F) S))/\(ps.foldl (stF g F) S=S->∀p∈ps,stF g F S p=S)
 | [],_,S,h=>⟨h,.inl rfl,fun _ p hp=>by simp at hp⟩
 | p::ps,hp,S,h=>by
  have hp0:=hp p (List.mem_cons_self ..);obtain⟨i1,i2,i3⟩:=o8 hg hF ps (fun q hq=>hp q (List.mem_cons_of_mem _ hq)) _ (qw hg hF h hp0);have h1:=(ug (F:=F) h hp0).1;simp only[List.foldl_cons];refine⟨i1,?_,fun e q hq=>?_⟩
  ·rcases i2 with e2 | l2<;>rcases h1 with e1 | l1
   ·rw[e2,e1];exact .inl rfl
   ·rw[e2];exact .inr l1
   ·rw[e1]at l2 |-;exact .inr l2
   ·exact .inr (by omega)
  ·have h2:stF g F S p=S:=by
    rcases h1 with e1 | l1
    ·exact e1
    ·rcases i2 with e2 | l2
     ·rw[e]at e2;exact e2.symm
     ·rw[e]at l2;omega
   rcases List.mem_cons.1 hq with rfl | hq
   ·exact h2
   ·rw[h2]at i3 e;exact i3 e q hq
theorem qx (hg:GOk g){S:Ss}(h:TOk g S):szS S<=g.n.toNat*585:=by
 rw[<-h.len];have:∀S:Ss,(∀l∈S,FOk g l)->szS S<=S.length*585:=by
  intro S;induction S with
  | nil=>intro _;simp[szS]
  | cons l S ih=>
   intro hh;have h1:=(hh l (List.mem_cons_self ..)).size hg;have h2:=ih fun x hx=>hh x (List.mem_cons_of_mem _ hx);simp only[szS,List.map_cons,List.sum_cons,List.length_cons]at h2 |-;omega
 exact this S h.r
theorem oj (hg:GOk g)(hF:SOk g F):Climbs (qu g F) (TOk g) fun S=>g.n.toNat*585-szS S:=
 ⟨fun S h=>(o8 hg hF (pls g) (d7 hg) S h).1,fun S h=>by
  obtain⟨h1,h2,_⟩:=o8 hg hF (pls g) (d7 hg) S h;rcases h2 with h2 | h2
  ·exact .inl h2
  ·have:=qx hg h1;exact .inr (by show _-szS (qu g F S)<_;unfold qu;omega)⟩
end
theorem uh {g:Gm}(Q:Ss->Prop)(h0:Q (cE g))(hs:∀S p,p∈pls g->Q S->Q (stF g (setsM g) S p)):Q (cM g):=by
 refine ie (fun S hS=>?_) _ _ h0;have:∀(ps:List Pl),(∀p∈ps,p∈pls g)->∀S,Q S->Q (ps.foldl (stF g (setsM g)) S):=by
  intro ps;induction ps with
  | nil=>intro _ S h;exact h
  | cons p ps ih=>intro hp S h;exact ih (fun q hq=>hp q (List.mem_cons_of_mem _ hq)) _ (hs S p (hp p (List.mem_cons_self ..)) h)
 exact this (pls g) (fun _ h=>h) S hS
theorem eV {g:Gm}(hg:GOk g):TOk g (cM g):=uh _ (TOk.start hg) fun _ p hp h=>qw hg (aJ hg) h (d7 hg p hp)
theorem im {g:Gm}(hg:GOk g){i:Nat}{x:List UInt8}:x∈(cE g).getD i []↔i=0/\x=[255]:=by
 unfold cE;rw[md i (by simp;have:=hg.n1;omega)]
 split
 ·rename_i e;simp[e]
 ·rename_i e;rw[R3,List.getElem?_replicate];split<;>simp[e]
def uj (g:Gm)(S:Ss)(p:Pl):Prop:=∀x∈cat g.k.toNat (ofM g (setsM g) p.r) (S.getD p.l []),x∈S.getD p.s []
theorem iJ {g:Gm}(hg:GOk g){p:Pl}(hp:p∈pls g):uj g (cM g) p:=fun x hx=>by
 have hf:qu g (setsM g) (cM g)=cM g:=jY (oj hg (aJ hg)) _ _ (TOk.start hg) (by omega)
 have:=(o8 hg (aJ hg) (pls g) (d7 hg) _ (eV hg)).2.2 hf p hp;rw[<-this];exact(gF (eV hg) (d7 hg p hp) _ x).2 (.inr ⟨rfl,hx⟩)
structure Reach (g:Gm)(S:Ss):Prop where
 ok:TOk g S
 e:[255]∈S.getD 0 []
 why:∀i,∀x∈S.getD i [],(i=0/\x=[255])\/∃p∈pls g,p.s=i/\x∈cat g.k.toNat (ofM g (setsM g) p.r) (S.getD p.l [])
 low:∀T:Nat->List UInt8->Prop,T 0 [255]->(∀p∈pls g,∀a∈ofM g (setsM g) p.r,∀b,RowF g b->T p.l b->T p.s (join g.k.toNat a b))->∀i,∀x∈S.getD i [],T i x
theorem om {g:Gm}(hg:GOk g):Reach g (cE g):=
 ⟨TOk.start hg,(im hg).2 ⟨rfl,rfl⟩,fun i x hx=>.inl ((im hg).1 hx),fun T h0 _ i x hx=>by
  obtain⟨rfl,rfl⟩:=(im hg).1 hx;exact h0⟩
theorem qy {g:Gm}(hg:GOk g){S:Ss}(h:Reach g S){p:Pl}(hp:p∈pls g):Reach g (stF g (setsM g) S p):=by
 have pok:=d7 hg p hp;have hm:∀i,∀x∈S.getD i [],x∈(stF g (setsM g) S p).getD i []:=fun i x hx=>(gF h.ok pok i x).2 (.inl hx);refine⟨qw hg (aJ hg) h.ok pok,hm _ _ h.e,fun i x hx=>?_,fun T h0 hT i x hx=>?_⟩
 ·rcases (gF h.ok pok i x).1 hx with hx | ⟨e,h2⟩
  ·rcases h.why i x hx with h3 | ⟨q,hq,e,hx⟩
   ·exact .inl h3
   ·exact .inr ⟨q,hq,e,v8 (fun _ h=>h) (hm q.l) _ hx⟩
  ·exact .inr ⟨p,hp,e.symm,v8 (fun _ h=>h) (hm p.l) _ h2⟩
 ·rcases (gF h.ok pok i x).1 hx with hx | ⟨e,h2⟩
  ·exact h.low T h0 hT i x hx
  ·obtain⟨a,ha,b,hb,rfl⟩:=bA.1 h2;rw[e];exact hT p hp a ha b ((h.ok.get p.l).row b hb) (h.low T h0 hT _ b hb)
theorem nI {g:Gm}(hg:GOk g):Reach g (cM g):=uh _ (om hg) fun _ _ hp h=>qy hg h hp
theorem D5 {g:Gm}(hg:GOk g){S:Ss}(h:Reach g S)(hc:∀p∈pls g,uj g S p):S=cM g:=by
 have h1:=nI hg;refine List.ext_getElem (by rw[h.ok.len,h1.ok.len]) fun i hi hj=>?_
 have e1:S.getD i []=S[i]:=by rw[R3,R4 hi];rfl
 have e2:(cM g).getD i []=(cM g)[i]:=by rw[R3,R4 hj];rfl
 rw[<-e1,<-e2];refine iG (h.ok.get i).up (h1.ok.get i).up fun x=>⟨fun hx=>?_,fun hx=>?_⟩
 ·exact h.low (fun i x=>x∈(cM g).getD i []) h1.e (fun p hp a ha b _ hb=>iJ hg hp _ (bA.2 ⟨a,ha,b,hb,rfl⟩)) i x hx
 ·exact h1.low (fun i x=>x∈S.getD i []) h.e (fun p hp a ha b _ hb=>hc p hp _ (bA.2 ⟨a,ha,b,hb,rfl⟩)) i x hx


def bq (t:Int)(o:List Int):List Int->Int->Option Int
 | [],n=>some n
 | s::r,n=>if s<t\/o.getD (s-t).toNat 0<0 then none else bq t o r (n+o.getD (s-t).toNat 0)
def stN (g:Gm)(o:List Int)(p:Pr):List Int:=match bq g.t o p.r 0 with
 | some n=>if o.getD p.l.toNat 0<0\/n+1<o.getD p.l.toNat 0 then o.set p.l.toNat (n+1) else o
 | none=>o
def jw (g:Gm)(o:List Int):List Int:=g.ps.foldl (stN g) o
def bndN:Nat->Nat
 | 0=>0
 | k+1=>1+8*bndN k
theorem nJ:∀{a b:Nat},a<=b->bndN a<=bndN b
 | _,0,h=>by obtain rfl:_=0:=Nat.le_zero.1 h;exact Nat.le_refl _
 | 0,b+1,_=>Nat.zero_le _
 | a+1,b+1,h=>by
  have:=nJ (Nat.le_of_succ_le_succ h);simp only[bndN];omega
theorem zZ:bndN 16=40210710958665:=by decide+kernel
def cntN (o:List Int):Nat:=o.countP fun x=>decide (0<=x)
def wN (x:Int):Nat:=if x<0 then 40210710958666 else x.toNat
def szN (o:List Int):Nat:=(o.map wN).sum
def nullM (g:Gm):List Int:=cH (jw g) (szN (List.replicate g.n.toNat (-1))+1) (List.replicate g.n.toNat (-1))
structure NOk (g:Gm)(o:List Int):Prop where
 len:o.length=g.n.toNat
 lo:∀x∈o,-1<=x
 hi:∀x∈o,x<=bndN (cntN o)
theorem NOk.hi2 {g:Gm}(hg:GOk g){o:List Int}(h:NOk g o):∀x∈o,x<=40210710958665:=fun x hx=>by
 have h1:=h.hi x hx;have h2:cntN o<=o.length:=List.countP_le_length;have h3:=nJ (a:=cntN o) (b:=16) (by have:=h.len;have:=hg.n2;have:=hg.n1;omega)
 rw[zZ]at h3;omega
theorem fT {o:List Int}{i:Nat}(h:i<o.length):o.getD i 0∈o:=by
 rw[R3,R4 h];exact List.getElem_mem _
theorem dh {t:Int}{o:List Int}{M:Int}(hM:∀x∈o,x<=M)(h0:0<=M):∀(r:List Int) (n m:Int),(∀s∈r,(s-t).toNat<o.length)->bq t o r n=some m->n<=m/\m<=n+r.length*M
 | [],n,m,_,h=>by
  simp only[bq,RZ]at h;subst h;simp
 | s::r,n,m,hs,h=>by
  simp only[bq]at h;split at h
  ·cases h
  ·rename_i hc;have h1:=hM _ (fT (hs s (by simp)))
   have ih:=dh hM h0 r _ m (fun x hx=>hs x (by simp[hx])) h
   have h2:¬(o.getD (s-t).toNat 0<0):=fun e=>hc (.inr e);simp only[List.length_cons];have:((r.length+1:Nat):Int)*M=r.length*M+M:=by rw[Int.natCast_succ,Int.add_mul,Int.one_mul]
   omega
theorem uk:∀(o:List Int) (i:Nat) (v:Int),i<o.length->szN (o.set i v)+wN (o.getD i 0)=szN o+wN v
 | [],i,v,h=>by simp at h
 | x::o,0,v,_=>by simp[szN];omega
 | x::o,i+1,v,h=>by
  have:=uk o i v (by simpa using h)
  simp[szN]at this |-;omega
theorem wg:∀(o:List Int) (i:Nat) (v:Int),i<o.length->cntN (o.set i v)+(if 0<=o.getD i 0 then 1 else 0)=cntN o+(if 0<=v then 1 else 0)
 | [],i,v,h=>by simp at h
 | x::o,0,v,_=>by
  simp[cntN,List.countP_cons];omega
 | x::o,i+1,v,h=>by
  have:=wg o i v (by simpa using h)
  simp[cntN,List.countP_cons]at this |-;omega
theorem eE {g:Gm}(hg:GOk g){o:List Int}(hl:o.length=g.n.toNat){p:Pr}(hp:POk g p):∀s∈p.r,(s-g.t).toNat<o.length:=fun s hs=>by
 have h1:=hp.s s hs;have h2:=hg.n1;rw[hl];omega
theorem un {g:Gm}(hg:GOk g){o:List Int}(h:NOk g o){p:Pr}(hp:POk g p):NOk g (stN g o p)/\(stN g o p=o\/szN (stN g o p)<szN o):=by
 unfold stN;cases hn:bq g.t o p.r 0 with
 | none=>exact⟨h,.inl rfl⟩
 | some n=>
  simp only;split;case isFalse=>exact⟨h,.inl rfl⟩
  rename_i hc;have hb:=dh h.hi (Int.natCast_nonneg _) p.r 0 n (eE hg h.len hp) hn;have hb2:=dh (h.hi2 hg) (by omega) p.r 0 n (eE hg h.len hp) hn
  have hr:=hp.len;have hl:p.l.toNat<o.length:=by rw[h.len];have:=hp.l0;have:=hp.l1;omega
  have hn8:n<=8*bndN (cntN o):=by
   have:(p.r.length:Int)*(bndN (cntN o):Int)<=8*bndN (cntN o):=Int.mul_le_mul_of_nonneg_right (by omega) (Int.natCast_nonneg _)
   omega
  have hcs:=wg o p.l.toNat (n+1) hl;have hzs:=uk o p.l.toNat (n+1) hl;rw[if_pos (show 0<=n+1 by omega)]at hcs
  have hmem:=fT hl;have hlo:=h.lo _ hmem;have hhi:=h.hi _ hmem;have hhi2:=h.hi2 hg _ hmem;have hn13:n+1<40210710958666:=by
   have hcn:cntN (o.set p.l.toNat (n+1))<=16:=by
    have h2:cntN (o.set p.l.toNat (n+1))<=(o.set p.l.toNat (n+1)).length:=List.countP_le_length;rw[List.length_set,h.len]at h2;have:=hg.n2;omega
   have h3:=nJ hcn;rw[zZ]at h3;rcases hc with hc | hc
   ·rw[if_neg (by omega)]at hcs
    rw[<-show cntN o+1=cntN (o.set p.l.toNat (n+1)) by omega]at h3
    simp only[bndN]at h3;omega
   ·omega
  refine⟨⟨by rw[List.length_set];exact h.len,fun x hx=>?_,fun x hx=>?_⟩,.inr ?_⟩
  ·rcases List.mem_or_eq_of_mem_set hx with hx | rfl
   ·exact h.lo x hx
   ·omega
  ·rcases hc with hc | hc
   ·rw[if_neg (by omega)]at hcs
    rw[show cntN (o.set p.l.toNat (n+1))=cntN o+1 by omega]
    simp only[bndN];rcases List.mem_or_eq_of_mem_set hx with hx | rfl
    ·have:=h.hi x hx;omega
    ·omega
   ·rw[if_pos (by omega)]at hcs
    rw[show cntN (o.set p.l.toNat (n+1))=cntN o by omega]
    rcases List.mem_or_eq_of_mem_set hx with hx | rfl
    ·exact h.hi x hx
    ·omega
  ·have e1:wN (n+1)=(n+1).toNat:=if_neg (by omega)
   rw[e1]at hzs;unfold wN at hzs;split at hzs<;>omega
theorem jx {g:Gm}(hg:GOk g):∀(ps:List Pr),(∀p∈ps,POk g p)->∀o,NOk g o->NOk g (ps.foldl (stN g) o)/\(ps.foldl (stN g) o=o\/szN (ps.foldl (stN g) o)<szN o)
 | [],_,o,h=>⟨h,.inl rfl⟩
 | p::ps,hp,o,h=>by
  obtain⟨h1,h2⟩:=un hg h (hp p (by simp))
  obtain⟨h3,h4⟩:=jx hg ps (fun q hq=>hp q (by simp[hq])) _ h1
  refine⟨h3,?_⟩;simp only[List.foldl_cons];rcases h2 with e | l
  ·rw[e]at h4 |-;exact h4
  ·rcases h4 with e | l2
   ·rw[e];exact .inr l
   ·exact .inr (by omega)
theorem NOk.start (g:Gm):NOk g (List.replicate g.n.toNat (-1)):=⟨by simp,fun x hx=>by rw[(List.mem_replicate.1 hx).2];omega,fun x hx=>by rw[(List.mem_replicate.1 hx).2];omega⟩
theorem di {g:Gm}(hg:GOk g):Climbs (jw g) (NOk g) szN:=⟨fun o h=>(jx hg g.ps hg.p o h).1,fun o h=>(jx hg g.ps hg.p o h).2⟩
theorem bn {g:Gm}(hg:GOk g):NOk g (nullM g):=ie (di hg).keep _ _ (NOk.start g)
theorem BP {g:Gm}(hg:GOk g):jw g (nullM g)=nullM g:=jY (di hg) _ _ (NOk.start g) (Nat.lt_succ_self _)
theorem wh {g:Gm}(hg:GOk g){o:List Int}(h:NOk g o):cH (jw g) (szN o+1) o=if jw g o=o then o else cH (jw g) (szN (jw g o)+1) (jw g o):=by
 rw[cH];split
 ·rfl
 ·rename_i hne;have h1:=(di hg).keep o h;have h2:=((di hg).down o h).resolve_left hne;exact dL (di hg) (szN o) _ h1 h2
end Go.Proofs.YtkllbcjanneppaaGreat
