import Derived.Test.YtkllbcjanneppaaGreatJB
import Derived.Test.YtkllbcjanneppaaGreatGV
set_option linter.unusedSimpArgs false
set_option linter.unusedVariables false
namespace Go.Proofs.YtkllbcjanneppaaGreat
open Go Go.Hm

theorem sV {α:Type}{p q:α->Bool}:∀{l:List α},(∀x∈l,p x=true->q x=true)->(∃y∈l,q y=true/\p y=false)->l.countP p < l.countP q
 | [],_,⟨y,hy,_⟩=>by cases hy
 | x::l,h,⟨y,hy,h1,h2⟩=>by
  have hx:=h x (by simp)
  have hle:l.countP p<=l.countP q:=List.countP_mono_left fun z hz=>h z (by simp [hz])
  rcases List.mem_cons.1 hy with rfl | hy
  ·rw [List.countP_cons,List.countP_cons,h1,h2];simp;omega
  ·have ih:=sV (fun z hz=>h z (by simp [hz])) ⟨y,hy,h1,h2⟩
   rw [List.countP_cons,List.countP_cons];cases hp:p x with
   | true=>rw [hx hp];omega
   | false=>cases q x<;>simp<;>omega
def rkM (g:Gm)(i:Nat):Nat:=(List.range g.n.toNat).countP fun k=>(gI g.n.toNat g.t (derM g false) g.ps).getD (i * g.n.toNat+k) false
def scM (g:Gm)(i:Nat):List Nat:=(ofN g.ps i g.ps.length).flatMap fun j=>bgL g.t (derM g false) (g.ps.getD j ⟨0,[]⟩).r
def mxl (f:Nat->Nat)(l:List Nat)(m:Nat):Nat:=l.foldl (fun m s=>max m (f s)) m
def xh (g:Gm):Nat->Nat->Nat
 | 0,_=>0
 | f+1,i=>1+mxl (xh g f) (scM g i) 0
def dptM (g:Gm)(i:Nat):Nat:=xh g (rkM g i+1) i
theorem F8 (g:Gm)(i:Nat):rkM g i<=g.n.toNat:=by
 have:rkM g i<=(List.range g.n.toNat).length:=List.countP_le_length;simpa using this
theorem j8 {f f':Nat->Nat}:∀{l:List Nat} {m:Nat},(∀s∈l,f s=f' s)->mxl f l m=mxl f' l m
 | [],_,_=>rfl
 | s::l,m,h=>by
  show mxl f l (max m (f s))=mxl f' l (max m (f' s));rw [h s (by simp),j8 fun x hx=>h x (by simp [hx])]
theorem F9 {f:Nat->Nat}:∀{l:List Nat} {m:Nat},m<=mxl f l m/\∀s∈l,f s<=mxl f l m
 | [],m=>⟨Nat.le_refl _,fun s h=>by cases h⟩
 | s::l,m=>by
  have ih:=F9 (f:=f) (l:=l) (m:=max m (f s));refine ⟨Nat.le_trans (Nat.le_max_left _ _) ih.1,fun x hx=>?_⟩;rcases List.mem_cons.1 hx with rfl | hx
  ·exact Nat.le_trans (Nat.le_max_right _ _) ih.1
  ·exact ih.2 x hx
theorem uS {f:Nat->Nat}{M:Nat}:∀{l:List Nat} {m:Nat},m<=M->(∀s∈l,f s<=M)->mxl f l m<=M
 | [],_,h,_=>h
 | s::l,m,h,hs=>uS (l:=l) (m:=max m (f s)) (Nat.max_le.2 ⟨h,hs s (by simp)⟩) fun x hx=>hs x (by simp [hx])
theorem j9 {g:Gm}(hg:GOk g){i s:Nat}:s∈scM g i↔gd g.t (derM g false) g.ps i s:=by
 unfold scM gd;rw [List.mem_flatMap];constructor
 ·rintro ⟨j,hj,hs⟩;obtain ⟨hjl,hjp⟩:=d9.1 hj;rw [List.getD_eq_getElem?_getD,List.getElem?_eq_getElem hjl] at hs;exact ⟨g.ps[j],List.getElem_mem _,by rw [hjp];rfl,hs⟩
 ·rintro ⟨p,hp,hl,hs⟩;obtain ⟨j,hj,rfl⟩:=List.getElem_of_mem hp;have h0:=(hg.p _ (List.getElem_mem hj)).l0;refine ⟨j,d9.2 ⟨hj,by omega⟩,?_⟩
  rw [List.getD_eq_getElem?_getD,List.getElem?_eq_getElem hj];exact hs
theorem uT {g:Gm}(hg:GOk g){i s:Nat}(h:gd g.t (derM g false) g.ps i s):i < g.n.toNat/\s < g.n.toNat:=by
 obtain ⟨p,hp,rfl,hs⟩:=h;obtain ⟨h1,h2⟩:=uO hg p hp;exact ⟨h1,lD h2 s hs⟩
theorem xi {n:Nat}{o:List Bool}:∀(m i:Nat),(dgL n o m i).2=false->∀j,i<=j->j < i+m->o.getD (j * n+j) false=false
 | 0,i,_,j,h1,h2=>by omega
 | m+1,i,h,j,h1,h2=>by
  simp only [dgL] at h;split at h
  ·cases h
  ·rename_i h3;rcases Nat.lt_or_eq_of_le h1 with h4 | rfl
   ·exact xi m (i+1) h j h4 (by omega)
   ·simpa using h3
structure AOk (g:Gm):Prop where
 ok:GOk g
 chk:chkE g=0
 red:(redP g).2=true
 left:(leftR g).2=false
 conf:confM g=none
theorem jL {g:Gm}(h:cN g=0):AOk g:=by
 have hc:=xg h;unfold cN at h;rw [if_neg (fun h=>h hc)] at h;split at h
 ·cases h
 ·rename_i h1;split at h
  ·cases h
  ·rename_i h2;exact ⟨br hc,hc,by simpa using h1,by simpa using h2,(ip hc).1 h⟩
theorem mW {g:Gm}:cN g=0↔AOk g:=⟨jL,fun h=>by
 unfold cN;rw [if_neg (fun e=>e h.chk),if_neg (by simp [h.red]),if_neg (by simp [h.left])]
 exact (ip h.chk).2 h.conf⟩
theorem Av {g:Gm}(h:AOk g){i s:Nat}(he:gd g.t (derM g false) g.ps i s):rkM g s < rkM g i:=by
 obtain ⟨hi,hs⟩:=uT h.ok he;have hcl:=fun k hk hx=>iX (uO h.ok) he (k:=k) hk hx;have hir:(gI g.n.toNat g.t (derM g false) g.ps).getD (s * g.n.toNat+s) false=false:=by
  have h1:=h.left;unfold leftR at h1;rw [if_pos h.chk] at h1;exact xi _ _ h1 s (Nat.zero_le _) (by omega)
 unfold rkM;refine sV (fun k hk hx=>?_) ⟨s,List.mem_range.2 hs,?_,hir⟩
 ·exact hcl k (List.mem_range.1 hk) (.inr hx)
 ·exact hcl s hs (.inl rfl)
theorem km {g:Gm}(h:AOk g):∀(f i:Nat),rkM g i < f->xh g f i=dptM g i
 | 0,i,hf=>by omega
 | f+1,i,hf=>by
  unfold dptM;simp only [xh];congr 1;refine j8 fun s hs=>?_;have hr:=Av h ((j9 h.ok).1 hs);rw [km h f s (by omega)]
  by_cases e:rkM g i=f
  ·rw [e];exact (km h f s (by omega)).symm
  ·rw [km h (rkM g i) s hr]
termination_by f=>f
theorem mX {g:Gm}(h:AOk g)(i:Nat):dptM g i=1+mxl (dptM g) (scM g i) 0:=by
 show 1+mxl (xh g (rkM g i)) (scM g i) 0=_;congr 1;exact j8 fun s hs=>km h _ s (Av h ((j9 h.ok).1 hs))
theorem Aw {g:Gm}(h:AOk g):∀(k i:Nat),rkM g i<=k->dptM g i<=rkM g i+1
 | k,i,hk=>by
  rw [mX h];have:mxl (dptM g) (scM g i) 0<=rkM g i:=uS (Nat.zero_le _) fun s hs=>by
   have hr:=Av h ((j9 h.ok).1 hs)
   match k with
   | 0=>omega
   | k+1=>exact Nat.le_trans (Aw h k s (by omega)) hr
  omega
theorem uU {g:Gm}(h:AOk g)(i:Nat):1<=dptM g i/\dptM g i<=17:=by
 have h1:=Aw h _ i (Nat.le_refl _);have h2:=F8 g i;have h3:=h.ok.n2;have h4:=mX h i;omega

def bgM (g:Gm)(r:List Int):List Nat:=bgL g.t (derM g false) r
def dpS (o:List Int)(l:List Nat)(m:Int):Int:=l.foldl (fun m s=>max m (o.getD s 0)) m
def bL (g:Gm):List Int:=(List.range g.n.toNat).map fun i=>(dptM g i:Int)
structure DOk (g:Gm)(o:List Int):Prop where
 len:o.length=g.n.toNat
 lo:∀i,0<=o.getD i 0
 hi:∀i,o.getD i 0<=dptM g i
theorem Jc {f:Nat->Nat}{l l':List Nat}(h:∀s∈l,s∈l'):mxl f l 0<=mxl f l' 0:=uS (Nat.zero_le _) fun s hs=>F9.2 s (h s hs)
theorem Ga {g:Gm}{p:Pr}(hp:p∈g.ps){s:Nat}(hs:s∈bgM g p.r):gd g.t (derM g false) g.ps p.l.toNat s:=⟨p,hp,rfl,hs⟩
theorem lH {o:List Int}{i:Nat}(h:i < o.length)(v:Int)(j:Nat):(o.set i v).getD j 0=if j=i then v else o.getD j 0:=by
 rw [List.getD_eq_getElem?_getD,List.getElem?_set];by_cases e:i=j
 ·subst e;rw [if_pos rfl,if_pos rfl,if_pos h];rfl
 ·rw [if_neg e,if_neg (fun h=>e h.symm),List.getD_eq_getElem?_getD]
theorem sW (n i:Nat):(List.replicate n (0:Int)).getD i 0=0:=by
 rw [List.getD_eq_getElem?_getD,List.getElem?_replicate];split<;>rfl
theorem DOk.start (g:Gm):DOk g (List.replicate g.n.toNat 0):=⟨by simp,fun i=>by rw [sW];exact Int.le_refl _,fun i=>by rw [sW];omega⟩
theorem xj {a b:List Bool}:∀(m i:Nat),(oQ a b m i).2=true->∀j,i<=j->j < i+m->a.getD j false=true/\b.getD j false=true
 | 0,i,_,j,h1,h2=>by omega
 | m+1,i,h,j,h1,h2=>by
  simp only [oQ] at h;split at h
  ·rename_i h3;rw [Bool.and_eq_true] at h3;rcases Nat.lt_or_eq_of_le h1 with h4 | rfl
   ·exact xj m (i+1) h j h4 (by omega)
   ·exact h3
  ·cases h
theorem ri {g:Gm}(ha:AOk g){i:Nat}(hi:i < g.n.toNat):∃p∈g.ps,p.l.toNat=i:=by
 have h:=ha.red;unfold redP at h;rw [if_pos ha.chk] at h;obtain ⟨p,h1,h2,_⟩:=Cf g true i (xj _ _ h i (Nat.zero_le _) (by omega)).1
 exact ⟨p,h1,h2⟩

theorem lI {l:List Bool}{i:Nat}(h:i < l.length)(h2:i < (bools l).length):(bools l)[i]'h2=Bo l[i]:=by simp [bools]

def LeN (o' o:List Int):Prop:=∀i,0<=o.getD i 0->i < o.length->0<=o'.getD i 0/\o'.getD i 0<=o.getD i 0
theorem nR {t:Int}{o o':List Int}(h:LeN o' o):∀(r:List Int) (a a' v:Int),(∀s∈r,(s - t).toNat < o.length)->a'<=a->bq t o r a=some v->∃v',bq t o' r a'=some v'/\v'<=v
 | [],a,a',v,_,ha,hv=>by
  simp only [bq,Option.some.injEq] at hv;subst hv;exact ⟨a',rfl,ha⟩
 | s::r,a,a',v,hs,ha,hv=>by
  simp only [bq] at hv;split at hv
  ·cases hv
  ·rename_i hc;have h1:¬s < t:=fun e=>hc (.inl e);have h2:¬o.getD (s - t).toNat 0 < 0:=fun e=>hc (.inr e);have h3:=h (s - t).toNat (by omega) (hs s (by simp))
   simp only [bq];rw [if_neg (by omega)]
   exact nR h r _ _ v (fun x hx=>hs x (by simp [hx])) (by omega) hv
def Cm (g:Gm)(o:List Int):Prop:=∀a,a < g.n.toNat->0<=o.getD a 0->∃p∈g.ps,p.l.toNat=a/\∃v,bq g.t o p.r 0=some v/\v+1<=o.getD a 0
theorem Ms {g:Gm}(hg:GOk g){o:List Int}(h:NOk g o){p:Pr}(hp:POk g p):LeN (stN g o p) o:=by
 intro i hi hil;unfold stN;cases hn:bq g.t o p.r 0 with
 | none=>exact ⟨hi,Int.le_refl _⟩
 | some n=>
  simp only;split;case isFalse=>exact ⟨hi,Int.le_refl _⟩
  rename_i hc;have hb:=dh (h.hi2 hg) (by omega) p.r 0 n (eE hg h.len hp) hn
  have hl:p.l.toNat < o.length:=by rw [h.len];have:=hp.l0;have:=hp.l1;omega
  rw [lH hl];split
  ·rename_i e;subst e;omega
  ·exact ⟨hi,Int.le_refl _⟩
theorem Jd {g:Gm}(hg:GOk g){o:List Int}(h:NOk g o){p:Pr}(hpm:p∈g.ps)(hf:Cm g o):Cm g (stN g o p):=by
 have hp:=hg.p p hpm;have hle:=Ms hg h hp;have hl:p.l.toNat < o.length:=by rw [h.len];have:=hp.l0;have:=hp.l1;omega
 intro a ha hpos;have keep:(stN g o p).getD a 0=o.getD a 0->0<=o.getD a 0->∃q∈g.ps,q.l.toNat=a/\∃v,bq g.t (stN g o p) q.r 0=some v/\v+1<=(stN g o p).getD a 0:=fun e h0=>by
  obtain ⟨q,h1,h2,v,h3,h4⟩:=hf a ha h0;obtain ⟨v',h5,h6⟩:=nR hle q.r 0 0 v (eE hg h.len (hg.p q h1)) (Int.le_refl _) h3;exact ⟨q,h1,h2,v',h5,by rw [e];omega⟩
 by_cases hch:(stN g o p).getD a 0=o.getD a 0
 ·exact keep hch (hch▸hpos)
 ·have hst:∃n,bq g.t o p.r 0=some n/\stN g o p=o.set p.l.toNat (n+1):=by
   unfold stN at hch |-;cases hn:bq g.t o p.r 0 with
   | none=>rw [hn] at hch;exact absurd rfl hch
   | some n=>
    rw [hn] at hch;simp only at hch |-;split
    ·exact ⟨n,rfl,rfl⟩
    ·rename_i hc;rw [if_neg hc] at hch;exact absurd rfl hch
  obtain ⟨n,hn,hs⟩:=hst;have hgs:=lH hl (n+1) a;have ha2:p.l.toNat=a:=by
   by_cases e:a=p.l.toNat
   ·exact e.symm
   ·rw [if_neg e,<-hs] at hgs;exact absurd hgs hch
  obtain ⟨v',h5,h6⟩:=nR hle p.r 0 0 n (eE hg h.len hp) (Int.le_refl _) hn;refine ⟨p,hpm,ha2,v',h5,?_⟩;rw [if_pos ha2.symm,<-hs] at hgs;omega
theorem sX {g:Gm}(hg:GOk g):∀(ps:List Pr),(∀p∈ps,p∈g.ps)->∀o,NOk g o->Cm g o->Cm g (ps.foldl (stN g) o)
 | [],_,_,_,h=>h
 | p::ps,hp,o,ho,h=>sX hg ps (fun q hq=>hp q (by simp [hq])) _ (un hg ho (hg.p p (hp p (by simp)))).1 (Jd hg ho (hp p (by simp)) h)
theorem iu {g:Gm}(hg:GOk g):Cm g (nullM g):=
 (ie (f:=jw g) (R:=fun o=>NOk g o/\Cm g o) (fun o h=>⟨(di hg).keep o h.1,sX hg g.ps (fun _ h=>h) o h.1 h.2⟩) _ _ ⟨NOk.start g,fun a ha h=>by
  rw [List.getD_eq_getElem?_getD,List.getElem?_replicate,if_pos ha] at h;simp at h⟩).2
theorem sY {g:Gm}(hg:GOk g):∀(ps:List Pr),(∀p∈ps,POk g p)->∀o,NOk g o->ps.foldl (stN g) o=o->∀p∈ps,stN g o p=o
 | [],_,_,_,_,p,hp=>by cases hp
 | p::ps,hp,o,ho,h,q,hq=>by
  obtain ⟨h1,h2⟩:=un hg ho (hp p (by simp))
  obtain ⟨_,h4⟩:=jx hg ps (fun q hq=>hp q (by simp [hq])) _ h1
  simp only [List.foldl_cons] at h;have he:stN g o p=o:=by
   rcases h2 with e | l
   ·exact e
   ·rw [h] at h4;rcases h4 with e | l2
    ·exact e.symm
    ·omega
  rcases List.mem_cons.1 hq with rfl | hq
  ·exact he
  ·rw [he] at h;exact sY hg ps (fun q hq=>hp q (by simp [hq])) o ho h q hq
theorem kA {g:Gm}(hg:GOk g){p:Pr}(hp:p∈g.ps){v:Int}(hv:bq g.t (nullM g) p.r 0=some v):0<=(nullM g).getD p.l.toNat 0/\(nullM g).getD p.l.toNat 0<=v+1:=by
 have ho:=bn hg;have h1:=sY hg g.ps hg.p _ ho (BP hg) p hp;have hpk:=hg.p p hp;have hl:p.l.toNat < (nullM g).length:=by rw [ho.len];have:=hpk.l0;have:=hpk.l1;omega
 have hb:=dh (ho.hi2 hg) (by omega) p.r 0 v (eE hg ho.len hpk) hv
 unfold stN at h1;rw [hv] at h1;simp only at h1;split at h1
 ·have h2:=lH hl (v+1) p.l.toNat;rw [h1,if_pos rfl] at h2;omega
 ·omega

theorem nS {t:Int}{o:List Int}:∀(r:List Int) (a:Int),(∀s∈r,¬s < t/\0<=o.getD (s - t).toNat 0)->∃v,bq t o r a=some v
 | [],a,_=>⟨a,rfl⟩
 | s::r,a,h=>by
  have hs:=h s (by simp)
  simp only [bq];rw [if_neg (by omega)]
  exact nS r _ fun x hx=>h x (by simp [hx])
theorem xk {t:Int}{o:List Int}:∀(r:List Int) (a v:Int),bq t o r a=some v->∀s∈r,¬s < t/\0<=o.getD (s - t).toNat 0
 | [],_,_,_,s,hs=>by cases hs
 | x::r,a,v,h,s,hs=>by
  simp only [bq] at h;split at h
  ·cases h
  ·rename_i hc;rcases List.mem_cons.1 hs with rfl | hs
   ·exact ⟨fun e=>hc (.inl e),by have:=fun e=>hc (.inr e);omega⟩
   ·exact xk r _ v h s hs
theorem rj {g:Gm}(hg:GOk g){a:Nat}(ha:a < g.n.toNat):0<=(nullM g).getD a 0↔tr (derM g false) a:=by
 constructor
 ·have key:∀(k a:Nat),a < g.n.toNat->0<=(nullM g).getD a 0->(nullM g).getD a 0<=k->tr (derM g false) a:=by
   intro k;induction k with
   | zero=>
    intro a ha h1 h2;obtain ⟨p,hp,hpl,v,hv,hle⟩:=iu hg a ha h1;have:=(dh ((bn hg).hi2 hg) (by omega) p.r 0 v (eE hg (bn hg).len (hg.p p hp)) hv).1
    omega
   | succ k ih=>
    intro a ha h1 h2;obtain ⟨p,hp,hpl,v,hv,hle⟩:=iu hg a ha h1;have hall:=xk p.r 0 v hv;rw [<-hpl];refine wR hg false p hp ?_;rw [List.all_eq_true];intro s hs;obtain ⟨q1,q2⟩:=hall s hs;have hsl:=eE hg (bn hg).len (hg.p p hp) s hs;rw [(bn hg).len] at hsl;have hb:(nullM g).getD (s - g.t).toNat 0<=v:=by
     have gen:∀(r:List Int) (a v:Int),0<=a->(∀x∈r,¬x < g.t/\0<=(nullM g).getD (x - g.t).toNat 0)->bq g.t (nullM g) r a=some v->a<=v/\∀x∈r,(nullM g).getD (x - g.t).toNat 0<=v:=by
      intro r;induction r with
      | nil=>intro a v _ _ h;simp only [bq,Option.some.injEq] at h;exact ⟨by omega,fun x hx=>by cases hx⟩
      | cons y r ihr=>
       intro a v h0 hx h;simp only [bq] at h;have hy:=hx y (by simp)
       rw [if_neg (by omega)] at h
       obtain ⟨i1,i2⟩:=ihr _ v (by omega) (fun z hz=>hx z (by simp [hz])) h
       refine ⟨by omega,fun z hz=>?_⟩
       rcases List.mem_cons.1 hz with rfl | hz
       ·omega
       ·exact i2 z hz
     exact (gen p.r 0 v (Int.le_refl _) hall hv).2 s hs
    have:=ih (s - g.t).toNat hsl q2 (by omega)
    unfold okS;rw [if_neg q1];exact this
  intro h;exact key ((nullM g).getD a 0).toNat a ha h (by omega)
 ·intro h;have key:=mQ (g:=g) (tok:=false) (fun o=>∀i,tr o i->0<=(nullM g).getD i 0) (fun o p hp ho i hi=>by
   unfold ek at hi;split at hi
   ·exact ho i hi
   ·split at hi
    ·rename_i hall;rcases qZ hi with e | e
     ·obtain ⟨v,hv⟩:=nS (t:=g.t) (o:=nullM g) p.r 0 fun s hs=>by
       have h1:=List.all_eq_true.1 hall s hs;unfold okS at h1;split at h1
       ·cases h1
       ·rename_i h2;exact ⟨h2,ho _ h1⟩
      have:=(kA hg hp hv).1
      first
       | (rw [e] at *;exact this)
       | (rw [<-e] at *;exact this)
       | (subst e;exact this)
       | exact ho i e
     ·first | exact ho i e | skip
      all_goals
       obtain ⟨v,hv⟩:=nS (t:=g.t) (o:=nullM g) p.r 0 fun s hs=>by
        have h1:=List.all_eq_true.1 hall s hs;unfold okS at h1;split at h1
        ·cases h1
        ·rename_i h2;exact ⟨h2,ho _ h1⟩
       have:=(kA hg hp hv).1;subst e;exact this
    ·exact ho i hi) (fun i hi=>absurd hi (pt _ _))
  exact key a h
end Go.Proofs.YtkllbcjanneppaaGreat
