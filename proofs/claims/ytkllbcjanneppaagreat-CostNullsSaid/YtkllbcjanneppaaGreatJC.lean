import Derived.Test.YtkllbcjanneppaaGreatJB
import Derived.Test.YtkllbcjanneppaaGreatGV
set_option linter.unusedSimpArgs false
set_option linter.unusedVariables false
namespace Go.Proofs.YtkllbcjanneppaaGreat
open Go Go.Hm

theorem qH {α:Type}{p q:α→Bool}:∀{l:List α},(∀x∈l,p x=true→q x=true)→(∃y∈l,q y=true∧p y=false)→l.countP p < l.countP q
 | [],_,⟨y,hy,_⟩=>by cases hy
 | x::l,h,⟨y,hy,h1,h2⟩=>by
  have hx:=h x (by simp)
  have hle:l.countP p≤l.countP q:=List.countP_mono_left fun z hz=>h z (by simp [hz])
  rcases List.mem_cons.1 hy with rfl | hy
  ·rw [List.countP_cons,List.countP_cons,h1,h2];simp;omega
  ·have ih:=qH (fun z hz=>h z (by simp [hz])) ⟨y,hy,h1,h2⟩
   rw [List.countP_cons,List.countP_cons];cases hp:p x with
   | true=>rw [hx hp];omega
   | false=>cases q x<;>simp<;>omega
def rkM (g:Gm)(i:Nat):Nat:=(List.range g.n.toNat).countP fun k=>(fJ g.n.toNat g.t (derM g false) g.ps).getD (i * g.n.toNat+k) false
def scM (g:Gm)(i:Nat):List Nat:=(ofN g.ps i g.ps.length).flatMap fun j=>bgL g.t (derM g false) (g.ps.getD j ⟨0,[]⟩).r
def mxl (f:Nat→Nat)(l:List Nat)(m:Nat):Nat:=l.foldl (fun m s=>max m (f s)) m
def Ds (g:Gm):Nat→Nat→Nat
 | 0,_=>0
 | f+1,i=>1+mxl (Ds g f) (scM g i) 0
def dptM (g:Gm)(i:Nat):Nat:=Ds g (rkM g i+1) i
theorem Dt (g:Gm)(i:Nat):rkM g i≤g.n.toNat:=by
 have:rkM g i≤(List.range g.n.toNat).length:=List.countP_le_length;simpa using this
theorem mc {f f':Nat→Nat}:∀{l:List Nat} {m:Nat},(∀s∈l,f s=f' s)→mxl f l m=mxl f' l m
 | [],_,_=>rfl
 | s::l,m,h=>by
  show mxl f l (max m (f s))=mxl f' l (max m (f' s));rw [h s (by simp),mc fun x hx=>h x (by simp [hx])]
theorem Du {f:Nat→Nat}{M:Nat}:∀{l:List Nat} {m:Nat},m≤M→(∀s∈l,f s≤M)→mxl f l m≤M
 | [],_,h,_=>h
 | s::l,m,h,hs=>Du (l:=l) (m:=max m (f s)) (Nat.max_le.2 ⟨h,hs s (by simp)⟩) fun x hx=>hs x (by simp [hx])
theorem lu {g:Gm}(hg:GOk g){i s:Nat}:s∈scM g i↔fo g.t (derM g false) g.ps i s:=by
 unfold scM fo;rw [List.mem_flatMap];constructor
 ·rintro ⟨j,hj,hs⟩;obtain ⟨hjl,hjp⟩:=gU.1 hj;rw [List.getD_eq_getElem?_getD,List.getElem?_eq_getElem hjl] at hs;exact ⟨g.ps[j],List.getElem_mem _,by rw [hjp];rfl,hs⟩
 ·rintro ⟨p,hp,hl,hs⟩;obtain ⟨j,hj,rfl⟩:=List.getElem_of_mem hp;have h0:=(hg.p _ (List.getElem_mem hj)).l0;refine ⟨j,gU.2 ⟨hj,by omega⟩,?_⟩
  rw [List.getD_eq_getElem?_getD,List.getElem?_eq_getElem hj];exact hs
theorem sH {g:Gm}(hg:GOk g){i s:Nat}(h:fo g.t (derM g false) g.ps i s):i < g.n.toNat∧s < g.n.toNat:=by
 obtain ⟨p,hp,rfl,hs⟩:=h;obtain ⟨h1,h2⟩:=sD hg p hp;exact ⟨h1,l8 h2 s hs⟩
theorem uU {n:Nat}{o:List Bool}:∀(m i:Nat),(dgL n o m i).2=false→∀j,i≤j→j < i+m→o.getD (j * n+j) false=false
 | 0,i,_,j,h1,h2=>by omega
 | m+1,i,h,j,h1,h2=>by
  simp only [dgL] at h;split at h
  ·cases h
  ·rename_i h3;rcases Nat.lt_or_eq_of_le h1 with h4 | rfl
   ·exact uU m (i+1) h j h4 (by omega)
   ·simpa using h3
structure AOk (g:Gm):Prop where
 ok:GOk g
 chk:chkE g=0
 red:(redP g).2=true
 left:(leftR g).2=false
 conf:confM g=none
theorem pf {g:Gm}(h:dU g=0):AOk g:=by
 have hc:=uS h;unfold dU at h;rw [if_neg (fun h=>h hc)] at h;split at h
 ·cases h
 ·rename_i h1;split at h
  ·cases h
  ·rename_i h2;exact ⟨br hc,hc,by simpa using h1,by simpa using h2,(k8 hc).1 h⟩
theorem F9 {g:Gm}:dU g=0↔AOk g:=⟨pf,fun h=>by
 unfold dU;rw [if_neg (fun e=>e h.chk),if_neg (by simp [h.red]),if_neg (by simp [h.left])]
 exact (k8 h.chk).2 h.conf⟩
theorem x8 {g:Gm}(h:AOk g){i s:Nat}(he:fo g.t (derM g false) g.ps i s):rkM g s < rkM g i:=by
 obtain ⟨hi,hs⟩:=sH h.ok he;have hcl:=fun k hk hx=>gZ (sD h.ok) he (k:=k) hk hx;have hir:(fJ g.n.toNat g.t (derM g false) g.ps).getD (s * g.n.toNat+s) false=false:=by
  have h1:=h.left;unfold leftR at h1;rw [if_pos h.chk] at h1;exact uU _ _ h1 s (Nat.zero_le _) (by omega)
 unfold rkM;refine qH (fun k hk hx=>?_) ⟨s,List.mem_range.2 hs,?_,hir⟩
 ·exact hcl k (List.mem_range.1 hk) (.inr hx)
 ·exact hcl s hs (.inl rfl)
theorem jp {g:Gm}(h:AOk g):∀(f i:Nat),rkM g i < f→Ds g f i=dptM g i
 | 0,i,hf=>by omega
 | f+1,i,hf=>by
  unfold dptM;simp only [Ds];congr 1;refine mc fun s hs=>?_;have hr:=x8 h ((lu h.ok).1 hs);rw [jp h f s (by omega)]
  by_cases e:rkM g i=f
  ·rw [e];exact (jp h f s (by omega)).symm
  ·rw [jp h (rkM g i) s hr]
termination_by f=>f
theorem nh {g:Gm}(h:AOk g)(i:Nat):dptM g i=1+mxl (dptM g) (scM g i) 0:=by
 show 1+mxl (Ds g (rkM g i)) (scM g i) 0=_;congr 1;exact mc fun s hs=>jp h _ s (x8 h ((lu h.ok).1 hs))
theorem x9 {g:Gm}(h:AOk g):∀(k i:Nat),rkM g i≤k→dptM g i≤rkM g i+1
 | k,i,hk=>by
  rw [nh h];have:mxl (dptM g) (scM g i) 0≤rkM g i:=Du (Nat.zero_le _) fun s hs=>by
   have hr:=x8 h ((lu h.ok).1 hs)
   match k with
   | 0=>omega
   | k+1=>exact Nat.le_trans (x9 h k s (by omega)) hr
  omega
theorem sI {g:Gm}(h:AOk g)(i:Nat):1≤dptM g i∧dptM g i≤17:=by
 have h1:=x9 h _ i (Nat.le_refl _);have h2:=Dt g i;have h3:=h.ok.n2;have h4:=nh h i;omega
end Go.Proofs.YtkllbcjanneppaaGreat

namespace Go.Proofs.YtkllbcjanneppaaGreat
open Go Go.Hm

def dpS (o:List Int)(l:List Nat)(m:Int):Int:=l.foldl (fun m s=>max m (o.getD s 0)) m
def cd (g:Gm):List Int:=(List.range g.n.toNat).map fun i=>(dptM g i:Int)
structure DOk (g:Gm)(o:List Int):Prop where
 len:o.length=g.n.toNat
 lo:∀i,0≤o.getD i 0
 hi:∀i,o.getD i 0≤dptM g i
theorem jW {o:List Int}{i:Nat}(h:i < o.length)(v:Int)(j:Nat):(o.set i v).getD j 0=if j=i then v else o.getD j 0:=by
 rw [List.getD_eq_getElem?_getD,List.getElem?_set];by_cases e:i=j
 ·subst e;rw [if_pos rfl,if_pos rfl,if_pos h];rfl
 ·rw [if_neg e,if_neg (fun h=>e h.symm),List.getD_eq_getElem?_getD]
theorem qI (n i:Nat):(List.replicate n (0:Int)).getD i 0=0:=by
 rw [List.getD_eq_getElem?_getD,List.getElem?_replicate];split<;>rfl
theorem DOk.start (g:Gm):DOk g (List.replicate g.n.toNat 0):=⟨by simp,fun i=>by rw [qI];exact Int.le_refl _,fun i=>by rw [qI];omega⟩
theorem uV {a b:List Bool}:∀(m i:Nat),(mV a b m i).2=true→∀j,i≤j→j < i+m→a.getD j false=true∧b.getD j false=true
 | 0,i,_,j,h1,h2=>by omega
 | m+1,i,h,j,h1,h2=>by
  simp only [mV] at h;split at h
  ·rename_i h3;rw [Bool.and_eq_true] at h3;rcases Nat.lt_or_eq_of_le h1 with h4 | rfl
   ·exact uV m (i+1) h j h4 (by omega)
   ·exact h3
  ·cases h
theorem uW {g:Gm}(ha:AOk g){i:Nat}(hi:i < g.n.toNat):∃p∈g.ps,p.l.toNat=i:=by
 have h:=ha.red;unfold redP at h;rw [if_pos ha.chk] at h;obtain ⟨p,h1,h2,_⟩:=zC g true i (uV _ _ h i (Nat.zero_le _) (by omega)).1
 exact ⟨p,h1,h2⟩
end Go.Proofs.YtkllbcjanneppaaGreat

namespace Go.Proofs.YtkllbcjanneppaaGreat
open Go Go.Hm

theorem jX {l:List Bool}{i:Nat}(h:i < l.length)(h2:i < (bools l).length):(bools l)[i]'h2=Bo l[i]:=by simp [bools]
end Go.Proofs.YtkllbcjanneppaaGreat

namespace Go.Proofs.YtkllbcjanneppaaGreat
open Go Go.Hm

def LeN (o' o:List Int):Prop:=∀i,0≤o.getD i 0→i < o.length→0≤o'.getD i 0∧o'.getD i 0≤o.getD i 0
theorem md {t:Int}{o o':List Int}(h:LeN o' o):∀(r:List Int) (a a' v:Int),(∀s∈r,(s - t).toNat < o.length)→a'≤a→bH t o r a=some v→∃v',bH t o' r a'=some v'∧v'≤v
 | [],a,a',v,_,ha,hv=>by
  simp only [bH,Option.some.injEq] at hv;subst hv;exact ⟨a',rfl,ha⟩
 | s::r,a,a',v,hs,ha,hv=>by
  simp only [bH] at hv;split at hv
  ·cases hv
  ·rename_i hc;have h1:¬s < t:=fun e=>hc (.inl e);have h2:¬o.getD (s - t).toNat 0 < 0:=fun e=>hc (.inr e);have h3:=h (s - t).toNat (by omega) (hs s (by simp))
   simp only [bH];rw [if_neg (by omega)]
   exact md h r _ _ v (fun x hx=>hs x (by simp [hx])) (by omega) hv
def zI (g:Gm)(o:List Int):Prop:=∀a,a < g.n.toNat→0≤o.getD a 0→∃p∈g.ps,p.l.toNat=a∧∃v,bH g.t o p.r 0=some v∧v+1≤o.getD a 0
theorem JE {g:Gm}(hg:GOk g){o:List Int}(h:NOk g o){p:Pr}(hp:POk g p):LeN (stN g o p) o:=by
 intro i hi hil;unfold stN;cases hn:bH g.t o p.r 0 with
 | none=>exact ⟨hi,Int.le_refl _⟩
 | some n=>
  simp only;split;case isFalse=>exact ⟨hi,Int.le_refl _⟩
  rename_i hc;have hb:=dM (h.hi2 hg) (by omega) p.r 0 n (ew hg h.len hp) hn
  have hl:p.l.toNat < o.length:=by rw [h.len];have:=hp.l0;have:=hp.l1;omega
  rw [jW hl];split
  ·rename_i e;subst e;omega
  ·exact ⟨hi,Int.le_refl _⟩
theorem Ga {g:Gm}(hg:GOk g){o:List Int}(h:NOk g o){p:Pr}(hpm:p∈g.ps)(hf:zI g o):zI g (stN g o p):=by
 have hp:=hg.p p hpm;have hle:=JE hg h hp;have hl:p.l.toNat < o.length:=by rw [h.len];have:=hp.l0;have:=hp.l1;omega
 intro a ha hpos;have keep:(stN g o p).getD a 0=o.getD a 0→0≤o.getD a 0→∃q∈g.ps,q.l.toNat=a∧∃v,bH g.t (stN g o p) q.r 0=some v∧v+1≤(stN g o p).getD a 0:=fun e h0=>by
  obtain ⟨q,h1,h2,v,h3,h4⟩:=hf a ha h0;obtain ⟨v',h5,h6⟩:=md hle q.r 0 0 v (ew hg h.len (hg.p q h1)) (Int.le_refl _) h3;exact ⟨q,h1,h2,v',h5,by rw [e];omega⟩
 by_cases hch:(stN g o p).getD a 0=o.getD a 0
 ·exact keep hch (hch▸hpos)
 ·have hst:∃n,bH g.t o p.r 0=some n∧stN g o p=o.set p.l.toNat (n+1):=by
   unfold stN at hch ⊢;cases hn:bH g.t o p.r 0 with
   | none=>rw [hn] at hch;exact absurd rfl hch
   | some n=>
    rw [hn] at hch;simp only at hch ⊢;split
    ·exact ⟨n,rfl,rfl⟩
    ·rename_i hc;rw [if_neg hc] at hch;exact absurd rfl hch
  obtain ⟨n,hn,hs⟩:=hst;have hgs:=jW hl (n+1) a;have ha2:p.l.toNat=a:=by
   by_cases e:a=p.l.toNat
   ·exact e.symm
   ·rw [if_neg e,←hs] at hgs;exact absurd hgs hch
  obtain ⟨v',h5,h6⟩:=md hle p.r 0 0 n (ew hg h.len hp) (Int.le_refl _) hn;refine ⟨p,hpm,ha2,v',h5,?_⟩;rw [if_pos ha2.symm,←hs] at hgs;omega
theorem qJ {g:Gm}(hg:GOk g):∀(ps:List Pr),(∀p∈ps,p∈g.ps)→∀o,NOk g o→zI g o→zI g (ps.foldl (stN g) o)
 | [],_,_,_,h=>h
 | p::ps,hp,o,ho,h=>qJ hg ps (fun q hq=>hp q (by simp [hq])) _ (rR hg ho (hg.p p (hp p (by simp)))).1 (Ga hg ho (hp p (by simp)) h)
theorem me {g:Gm}(hg:GOk g):zI g (aH g):=
 (gh (f:=iI g) (R:=fun o=>NOk g o∧zI g o) (fun o h=>⟨(cS hg).keep o h.1,qJ hg g.ps (fun _ h=>h) o h.1 h.2⟩) _ _ ⟨NOk.start g,fun a ha h=>by
  rw [List.getD_eq_getElem?_getD,List.getElem?_replicate,if_pos ha] at h;simp at h⟩).2
theorem qK {g:Gm}(hg:GOk g):∀(ps:List Pr),(∀p∈ps,POk g p)→∀o,NOk g o→ps.foldl (stN g) o=o→∀p∈ps,stN g o p=o
 | [],_,_,_,_,p,hp=>by cases hp
 | p::ps,hp,o,ho,h,q,hq=>by
  obtain ⟨h1,h2⟩:=rR hg ho (hp p (by simp))
  obtain ⟨_,h4⟩:=iJ hg ps (fun q hq=>hp q (by simp [hq])) _ h1
  simp only [List.foldl_cons] at h;have he:stN g o p=o:=by
   rcases h2 with e | l
   ·exact e
   ·rw [h] at h4;rcases h4 with e | l2
    ·exact e.symm
    ·omega
  rcases List.mem_cons.1 hq with rfl | hq
  ·exact he
  ·rw [he] at h;exact qK hg ps (fun q hq=>hp q (by simp [hq])) o ho h q hq
theorem mf {g:Gm}(hg:GOk g){p:Pr}(hp:p∈g.ps){v:Int}(hv:bH g.t (aH g) p.r 0=some v):0≤(aH g).getD p.l.toNat 0∧(aH g).getD p.l.toNat 0≤v+1:=by
 have ho:=bN hg;have h1:=qK hg g.ps hg.p _ ho (zc hg) p hp;have hpk:=hg.p p hp;have hl:p.l.toNat < (aH g).length:=by rw [ho.len];have:=hpk.l0;have:=hpk.l1;omega
 have hb:=dM (ho.hi2 hg) (by omega) p.r 0 v (ew hg ho.len hpk) hv
 unfold stN at h1;rw [hv] at h1;simp only at h1;split at h1
 ·have h2:=jW hl (v+1) p.l.toNat;rw [h1,if_pos rfl] at h2;omega
 ·omega
end Go.Proofs.YtkllbcjanneppaaGreat

namespace Go.Proofs.YtkllbcjanneppaaGreat
open Go Go.Hm

theorem mh {t:Int}{o:List Int}:∀(r:List Int) (a:Int),(∀s∈r,¬s < t∧0≤o.getD (s - t).toNat 0)→∃v,bH t o r a=some v
 | [],a,_=>⟨a,rfl⟩
 | s::r,a,h=>by
  have hs:=h s (by simp)
  simp only [bH];rw [if_neg (by omega)]
  exact mh r _ fun x hx=>h x (by simp [hx])
theorem uX {t:Int}{o:List Int}:∀(r:List Int) (a v:Int),bH t o r a=some v→∀s∈r,¬s < t∧0≤o.getD (s - t).toNat 0
 | [],_,_,_,s,hs=>by cases hs
 | x::r,a,v,h,s,hs=>by
  simp only [bH] at h;split at h
  ·cases h
  ·rename_i hc;rcases List.mem_cons.1 hs with rfl | hs
   ·exact ⟨fun e=>hc (.inl e),by have:=fun e=>hc (.inr e);omega⟩
   ·exact uX r _ v h s hs
theorem uY {g:Gm}(hg:GOk g){a:Nat}(ha:a < g.n.toNat):0≤(aH g).getD a 0↔tr (derM g false) a:=by
 constructor
 ·have key:∀(k a:Nat),a < g.n.toNat→0≤(aH g).getD a 0→(aH g).getD a 0≤k→tr (derM g false) a:=by
   intro k;induction k with
   | zero=>
    intro a ha h1 h2;obtain ⟨p,hp,hpl,v,hv,hle⟩:=me hg a ha h1;have:=(dM ((bN hg).hi2 hg) (by omega) p.r 0 v (ew hg (bN hg).len (hg.p p hp)) hv).1
    omega
   | succ k ih=>
    intro a ha h1 h2;obtain ⟨p,hp,hpl,v,hv,hle⟩:=me hg a ha h1;have hall:=uX p.r 0 v hv;rw [←hpl];refine uA hg false p hp ?_;rw [List.all_eq_true];intro s hs;obtain ⟨q1,q2⟩:=hall s hs;have hsl:=ew hg (bN hg).len (hg.p p hp) s hs;rw [(bN hg).len] at hsl;have hb:(aH g).getD (s - g.t).toNat 0≤v:=by
     have gen:∀(r:List Int) (a v:Int),0≤a→(∀x∈r,¬x < g.t∧0≤(aH g).getD (x - g.t).toNat 0)→bH g.t (aH g) r a=some v→a≤v∧∀x∈r,(aH g).getD (x - g.t).toNat 0≤v:=by
      intro r;induction r with
      | nil=>intro a v _ _ h;simp only [bH,Option.some.injEq] at h;exact ⟨by omega,fun x hx=>by cases hx⟩
      | cons y r ihr=>
       intro a v h0 hx h;simp only [bH] at h;have hy:=hx y (by simp)
       rw [if_neg (by omega)] at h
       obtain ⟨i1,i2⟩:=ihr _ v (by omega) (fun z hz=>hx z (by simp [hz])) h
       refine ⟨by omega,fun z hz=>?_⟩
       rcases List.mem_cons.1 hz with rfl | hz
       ·omega
       ·exact i2 z hz
     exact (gen p.r 0 v (Int.le_refl _) hall hv).2 s hs
    have:=ih (s - g.t).toNat hsl q2 (by omega)
    unfold okS;rw [if_neg q1];exact this
  intro h;exact key ((aH g).getD a 0).toNat a ha h (by omega)
 ·intro h;have key:=lj (g:=g) (tok:=false) (fun o=>∀i,tr o i→0≤(aH g).getD i 0) (fun o p hp ho i hi=>by
   unfold dT at hi;split at hi
   ·exact ho i hi
   ·split at hi
    ·rename_i hall;rcases oZ hi with e | e
     ·obtain ⟨v,hv⟩:=mh (t:=g.t) (o:=aH g) p.r 0 fun s hs=>by
       have h1:=List.all_eq_true.1 hall s hs;unfold okS at h1;split at h1
       ·cases h1
       ·rename_i h2;exact ⟨h2,ho _ h1⟩
      have:=(mf hg hp hv).1
      first
       | (rw [e] at *;exact this)
       | (rw [←e] at *;exact this)
       | (subst e;exact this)
       | exact ho i e
     ·first
       | exact ho i e
       | (obtain ⟨v,hv⟩:=mh (t:=g.t) (o:=aH g) p.r 0 fun s hs=>by
         have h1:=List.all_eq_true.1 hall s hs;unfold okS at h1;split at h1
         ·cases h1
         ·rename_i h2;exact ⟨h2,ho _ h1⟩
         have:=(mf hg hp hv).1;subst e;exact this)
    ·exact ho i hi) (fun i hi=>absurd hi (ng _ _))
  exact key a h
end Go.Proofs.YtkllbcjanneppaaGreat
