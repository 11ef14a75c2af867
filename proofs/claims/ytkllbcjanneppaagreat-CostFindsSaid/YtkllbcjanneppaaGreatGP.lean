import Derived.Test.YtkllbcjanneppaaGreatGN
import Derived.Test.YtkllbcjanneppaaGreatHmG10
set_option maxRecDepth 20000
set_option linter.unusedSimpArgs false
set_option linter.unusedVariables false
namespace Go.Proofs.YtkllbcjanneppaaGreat
open Go Go.Hm

def bgL (t:Int)(null:List Bool):List Int->List Nat
 | []=>[]
 | x::r=>if x < t then [] else (x - t).toNat::(if null.getD (x - t).toNat false=true then bgL t null r else [])
theorem lD {t:Int}{null:List Bool}{n:Nat}:∀{r:List Int},(∀x∈r,0<=x/\x < t+n)->∀s∈bgL t null r,s < n
 | [],_,s,h=>by simp [bgL] at h
 | x::r,hr,s,h=>by
  simp only [bgL] at h;split at h
  ·simp at h
  ·rename_i h1;rcases List.mem_cons.1 h with h | h
   ·have:=hr x (List.mem_cons_self ..);omega
   ·split at h
    ·exact lD (fun y hy=>hr y (List.mem_cons_of_mem _ hy)) s h
    ·simp at h
theorem uG {t:Int}{null:List Bool}:∀(r:List Int),(bgL t null r).length<=r.length
 | []=>Nat.le_refl _
 | x::r=>by
  simp only [bgL];split
  ·simp
  ·split
   ·have:=uG (t:=t) (null:=null) r;simp;omega
   ·simp
def gd (t:Int)(null:List Bool)(ps:List Pr)(i s:Nat):Prop:=∃p∈ps,p.l.toNat=i/\s∈bgL t null p.r
inductive Path (E:Nat->Nat->Prop):Nat->Nat->Prop
 | one {i j:Nat}:E i j->Path E i j
 | cons {i s j:Nat}:E i s->Path E s j->Path E i j
theorem Path.trans {E:Nat->Nat->Prop}{i j k:Nat}(h:Path E i j)(h2:Path E j k):Path E i k:=by
 induction h with
 | one h=>exact .cons h h2
 | cons h _ ih=>exact .cons h (ih h2)

theorem oC {n i j:Nat}(hi:i < n)(hj:j < n):i * n+j < n * n:=by
 have h1:(i+1) * n<=n * n:=Nat.mul_le_mul_right n hi;rw [Nat.succ_mul] at h1;omega
theorem FS {n i j i' j':Nat}(hj:j < n)(hj':j' < n)(h:i * n+j=i' * n+j'):i=i'/\j=j':=by
 have h1:i=i':=by
  have e1:(i * n+j) / n=i:=by
   rw [Nat.mul_comm,Nat.mul_add_div (by omega),Nat.div_eq_of_lt hj];rfl
  have e2:(i' * n+j') / n=i':=by
   rw [Nat.mul_comm,Nat.mul_add_div (by omega),Nat.div_eq_of_lt hj'];rfl
  rw [<-e1,<-e2,h]
 subst h1;exact ⟨rfl,by omega⟩
abbrev Mx (n:Nat)(o:List Bool)(i j:Nat):Prop:=tr o (i * n+j)
theorem y5 {n:Nat}{o:List Bool}{i j i' j':Nat}{v:Bool}(ho:o.length=n * n)(hi:i < n)(hj:j < n)(hj':j' < n):Mx n (o.set (i * n+j) v) i' j'↔if i'=i/\j'=j then v=true else Mx n o i' j':=by
 unfold Mx tr;rw [List.getD_eq_getElem?_getD,List.getD_eq_getElem?_getD,List.getElem?_set];by_cases h:i'=i/\j'=j
 ·obtain ⟨rfl,rfl⟩:=h;rw [if_pos rfl,if_pos (by rw [ho];exact oC hi hj),if_pos ⟨rfl,rfl⟩]
  simp
 ·rw [if_neg h,if_neg (fun e=>h (by have:=FS hj hj' e;exact ⟨this.1.symm,this.2.symm⟩))]

def lfK (n l s:Nat)(o:List Bool)(k:Nat):List Bool:=if ((o.getD (s * n+k) false||decide (k=s))&&!o.getD (l * n+k) false)=true then o.set (l * n+k) true else o
def lfS (n l:Nat)(o:List Bool)(s:Nat):List Bool:=(List.range n).foldl (lfK n l s) o
def lfP (n:Nat)(t:Int)(null:List Bool)(o:List Bool)(p:Pr):List Bool:=(bgL t null p.r).foldl (lfS n p.l.toNat) o
theorem nP (n l s k:Nat):Grows fun o=>lfK n l s o k:=fun o=>by
 simp only [lfK];split
 ·rename_i h;refine nH o _ (fun h2=>?_);rw [h2] at h;simp at h
 ·exact .inl rfl
theorem nQ (n l s:Nat):Grows fun o=>lfS n l o s:=fun o=>bu (st:=lfK n l s) (fun k=>nP n l s k) (List.range n) o
theorem iq (n:Nat)(t:Int)(null:List Bool)(p:Pr):Grows fun o=>lfP n t null o p:=fun o=>bu (st:=lfS n p.l.toNat) (fun s=>nQ n p.l.toNat s) (bgL t null p.r) o
theorem uH (n l s:Nat)(o:List Bool)(k:Nat):(lfK n l s o k).length=o.length:=by
 unfold lfK;split<;>simp
theorem Am (n l:Nat)(o:List Bool)(s:Nat):(lfS n l o s).length=o.length:=j7 (fun o k=>uH n l s o k) _ o
theorem An (n:Nat)(t:Int)(null:List Bool)(o:List Bool)(p:Pr):(lfP n t null o p).length=o.length:=j7 (fun o s=>Am n p.l.toNat o s) _ o
def gI (n:Nat)(t:Int)(null:List Bool)(ps:List Pr):List Bool:=fin (rnd (lfP n t null) ps) (List.replicate (n * n) false)
def y6 (t:Int)(n:Nat)(ps:List Pr):Prop:=∀p∈ps,p.l.toNat < n/\∀x∈p.r,0<=x/\x < t+n
section
variable {n:Nat}{t:Int}{null:List Bool}{ps:List Pr}
theorem sR:(gI n t null ps).length=n * n:=
 iI (bu (fun p=>iq n t null p) ps) (fun o=>o.length=n * n) (fun o h=>by rw [j7 (fun o p=>An n t null o p)];exact h) _ _ (Nat.le_refl _) (by simp)
theorem wS (ok:y6 t n ps)(i j:Nat)(hj:j < n)(h:Mx n (gI n t null ps) i j):Path (gd t null ps) i j:=by
 have:=iI (bu (fun p=>iq n t null p) ps) (fun o=>o.length=n * n/\∀i j,j < n->Mx n o i j->Path (gd t null ps) i j) (fun o ho=>?_) _ (List.replicate (n * n) false) (Nat.le_refl _) ⟨by simp,fun i j _ h=>absurd h (pt _ _)⟩
 ·exact this.2 i j hj h
 ·refine iT (st:=lfP n t null) (fun o=>o.length=n * n/\∀i j,j < n->Mx n o i j->Path (gd t null ps) i j) ps (fun o p hp ho=>?_) ps (fun _ h=>h) o ho;obtain ⟨hl,hr⟩:=ok p hp;refine iT (st:=lfS n p.l.toNat) (fun o=>o.length=n * n/\∀i j,j < n->Mx n o i j->Path (gd t null ps) i j) (bgL t null p.r) (fun o s hs ho=>?_) _ (fun _ h=>h) o ho;have hsn:=lD hr s hs;have he:gd t null ps p.l.toNat s:=⟨p,hp,rfl,hs⟩;refine iT (st:=lfK n p.l.toNat s) (fun o=>o.length=n * n/\∀i j,j < n->Mx n o i j->Path (gd t null ps) i j) (List.range n) (fun o k hk ho=>?_) _ (fun _ h=>h) o ho;have hk:=List.mem_range.1 hk;refine ⟨by rw [uH];exact ho.1,fun i j hj h=>?_⟩
  unfold lfK at h;split at h
  ·rename_i hc;simp only [Bool.and_eq_true,Bool.or_eq_true,decide_eq_true_eq] at hc;rw [y5 ho.1 hl hk hj] at h;split at h
   ·rename_i hij;obtain ⟨rfl,rfl⟩:=hij;rcases hc.1 with h1 | h1
    ·exact .cons he (ho.2 _ _ hj h1)
    ·rw [h1];exact .one he
   ·exact ho.2 i j hj h
  ·exact ho.2 i j hj h
theorem iX (ok:y6 t n ps){l s k:Nat}(he:gd t null ps l s)(hk:k < n)(h:k=s\/Mx n (gI n t null ps) s k):Mx n (gI n t null ps) l k:=by
 obtain ⟨p,hp,rfl,hs⟩:=he;obtain ⟨hl,hr⟩:=ok p hp;have f1:=il (fun p=>iq n t null p) ps _ (uf (bu (fun p=>iq n t null p) ps) _ (List.replicate (n * n) false) (Nat.le_refl _)) p hp;change lfP n t null (gI n t null ps) p=gI n t null ps at f1;have f2:=il (st:=lfS n p.l.toNat) (fun s=>nQ n p.l.toNat s) (bgL t null p.r) (gI n t null ps) f1 s hs;have f3:=il (st:=lfK n p.l.toNat s) (fun k=>nP n p.l.toNat s k) (List.range n) (gI n t null ps) f2 k (List.mem_range.2 hk);unfold lfK at f3;split at f3
 ·rw [<-f3];exact jI (by rw [sR];exact oC hl hk)
 ·rename_i hc;simp only [Bool.and_eq_true,Bool.or_eq_true,decide_eq_true_eq,Bool.not_eq_true',not_and] at hc;have:=hc (h.symm.imp (fun h=>h) (fun h=>h));unfold Mx tr;simpa using this
theorem Cg (ok:y6 t n ps)(i j:Nat)(hj:j < n):Mx n (gI n t null ps) i j↔Path (gd t null ps) i j:=by
 refine ⟨wS ok i j hj,fun h=>?_⟩;induction h with
 | one h=>exact iX ok h hj (.inl rfl)
 | cons h _ ih=>exact iX ok h hj (.inr (ih hj))
end

theorem oD {n:Nat}{o:List Bool}{i:Nat}{j a b:Nat}(h:Mx n o a b):Mx n (o.set (i * n+j) true) a b:=FP h
theorem ir {α β:Type}{f:β->α->β}(Q:β->Prop):∀(l:List α) (o:β),(∀o,∀x∈l,Q o->Q (f o x))->Q o->Q (l.foldl f o)
 | [],_,_,h=>h
 | x::l,o,hq,h=>ir Q l (f o x) (fun o y hy=>hq o y (List.mem_cons_of_mem _ hy)) (hq o x (List.mem_cons_self ..) h)
theorem rc {α β:Type}{f:β->α->β}(I Q:β->Prop):∀(l:List α) (o:β) (x:α),x∈l->I o->(∀o,∀y∈l,I o->I (f o y))->(∀o,I o->Q (f o x))->(∀o,∀y∈l,I o->Q o->Q (f o y))->Q (l.foldl f o)
 | [],_,_,h,_,_,_,_=>by simp at h
 | y::l,o,x,h,hi,ki,h1,h2=>by
  rw [List.foldl_cons];have ki2:∀o,∀z∈l,I o->I (f o z):=fun o z hz=>ki o z (List.mem_cons_of_mem _ hz);have hi2:=ki o y (List.mem_cons_self ..) hi;by_cases hx:x∈l
  ·exact rc I Q l (f o y) x hx hi2 ki2 h1 fun o z hz=>h2 o z (List.mem_cons_of_mem _ hz)
  ·rcases List.mem_cons.1 h with rfl | h
   ·have:=ir (f:=f) (fun o=>I o/\Q o) l (f o x) (fun o z hz hq=>⟨ki2 o z hz hq.1,h2 o z (List.mem_cons_of_mem _ hz) hq.1 hq.2⟩) ⟨hi2,h1 o hi⟩;exact this.2
   ·exact absurd h hx

def edS (n l:Nat)(o:List Bool)(s:Nat):List Bool:=o.set (l * n+s) true
def edP (n:Nat)(t:Int)(null:List Bool)(o:List Bool)(p:Pr):List Bool:=(bgL t null p.r).foldl (edS n p.l.toNat) o
def edM (n:Nat)(t:Int)(null:List Bool)(ps:List Pr):List Bool:=ps.foldl (edP n t null) (List.replicate (n * n) false)
def waC (n m i:Nat)(o:List Bool)(k:Nat):List Bool:=o.set (i * n+k) (o.getD (i * n+k) false||(o.getD (i * n+m) false&&o.getD (m * n+k) false))
def waR (n m:Nat)(o:List Bool)(i:Nat):List Bool:=(List.range n).foldl (waC n m i) o
def waM (n:Nat)(o:List Bool)(m:Nat):List Bool:=(List.range n).foldl (waR n m) o
def y7 (n:Nat)(t:Int)(null:List Bool)(ps:List Pr):List Bool:=(List.range n).foldl (waM n) (edM n t null ps)
theorem fC {α:Type}{f:List Bool->α->List Bool}(h:∀o x,(f o x).length=o.length)(l:List α)(o:List Bool):(l.foldl f o).length=o.length:=j7 h l o
theorem uI (n m i:Nat)(o:List Bool)(k:Nat):(waC n m i o k).length=o.length:=by simp [waC]
theorem uJ (n m:Nat)(o:List Bool)(i:Nat):(waR n m o i).length=o.length:=fC (fun o k=>uI n m i o k) _ _
theorem uK (n:Nat)(o:List Bool)(m:Nat):(waM n o m).length=o.length:=fC (fun o i=>uJ n m o i) _ _
theorem uL (n:Nat)(t:Int)(null:List Bool)(o:List Bool)(p:Pr):(edP n t null o p).length=o.length:=fC (fun o s=>by simp [edS]) _ _
theorem uM (n:Nat)(t:Int)(null:List Bool)(ps:List Pr):(edM n t null ps).length=n * n:=by
 unfold edM;rw [fC (fun o p=>uL n t null o p)];simp
section
variable {n:Nat}{t:Int}{null:List Bool}{ps:List Pr}
theorem Ao (ok:y6 t n ps)(i j:Nat)(hj:j < n):Mx n (edM n t null ps) i j↔gd t null ps i j:=by
 constructor
 ·intro h;have:=ir (f:=edP n t null) (fun o=>o.length=n * n/\∀i j,j < n->Mx n o i j->gd t null ps i j) ps (List.replicate (n * n) false) (fun o p hp ho=>?_) ⟨by simp,fun i j _ h=>absurd h (pt _ _)⟩
  ·exact this.2 i j hj h
  ·obtain ⟨hl,hr⟩:=ok p hp;refine ir (f:=edS n p.l.toNat) (fun o=>o.length=n * n/\∀i j,j < n->Mx n o i j->gd t null ps i j) _ o (fun o s hs ho=>?_) ho;have hsn:=lD hr s hs;refine ⟨by simp [edS,ho.1],fun i j hj h=>?_⟩
   unfold edS at h;rw [y5 ho.1 hl hsn hj] at h;split at h
   ·rename_i hij;obtain ⟨rfl,rfl⟩:=hij;exact ⟨p,hp,rfl,hs⟩
   ·exact ho.2 i j hj h
 ·rintro ⟨p,hp,rfl,hs⟩;obtain ⟨hl,hr⟩:=ok p hp;refine rc (f:=edP n t null) (fun o=>o.length=n * n) (fun o=>Mx n o p.l.toNat j) ps _ p hp (by simp) (fun o q _ h=>by rw [uL];exact h) (fun o ho=>?_) (fun o q hq ho h=>?_)
  ·refine rc (f:=edS n p.l.toNat) (fun o=>o.length=n * n) (fun o=>Mx n o p.l.toNat j) _ o j hs ho (fun o s _ h=>by simp [edS,h]) (fun o ho=>?_) (fun o s _ _ h=>oD h)
   exact jI (by rw [ho];exact oC hl hj)
  ·exact ir (f:=edS n q.l.toNat) (fun o=>Mx n o p.l.toNat j) _ o (fun o s _ h=>oD h) h
theorem IZ {b:List Bool}{m:Nat}(hb:b.length=n * n)(hm:m < n)(i j:Nat)(hi:i < n)(hj:j < n):Mx n (waM n b m) i j↔Mx n b i j\/(Mx n b i m/\Mx n b m j):=by
 have cell:∀(i k:Nat) (o:List Bool),i < n->k < n->o.length=n * n->(∀i' j',i' < n->j' < n->(Mx n o i' j'↔if i' < i\/(i'=i/\j' < k) then Mx n b i' j'\/(Mx n b i' m/\Mx n b m j') else Mx n b i' j'))->
   ∀i' j',i' < n->j' < n->(Mx n (waC n m i o k) i' j'↔if i' < i\/(i'=i/\j' < k+1) then Mx n b i' j'\/(Mx n b i' m/\Mx n b m j') else Mx n b i' j'):=by
  intro i k o hi hk ho h i' j' hi' hj';unfold waC;rw [y5 ho hi hk hj'];by_cases hij:i'=i/\j'=k
  ·obtain ⟨rfl,rfl⟩:=hij;rw [if_pos ⟨rfl,rfl⟩,if_pos (.inr ⟨rfl,by omega⟩)]
   have e1:=h i' j' hi' hj';rw [if_neg (by omega)] at e1
   have e2:Mx n o i' m↔Mx n b i' m:=by
    rw [h i' m hi' hm];split
    ·constructor
     ·rintro (h | h)
      ·exact h
      ·exact h.1
     ·exact .inl
    ·exact Iff.rfl
   have e3:Mx n o m j'↔Mx n b m j':=by
    rw [h m j' hm hj'];split
    ·constructor
     ·rintro (h | h)
      ·exact h
      ·exact h.2
     ·exact .inl
    ·exact Iff.rfl
   rw [Bool.or_eq_true,Bool.and_eq_true];exact or_congr e1 (and_congr e2 e3)
  ·rw [if_neg hij,h i' j' hi' hj'];by_cases h1:i' < i\/(i'=i/\j' < k)
   ·rw [if_pos h1,if_pos (by omega)]
   ·rw [if_neg h1,if_neg (by omega)]
 have row:∀(i:Nat) (o:List Bool),i < n->o.length=n * n->(∀i' j',i' < n->j' < n->(Mx n o i' j'↔if i' < i then Mx n b i' j'\/(Mx n b i' m/\Mx n b m j') else Mx n b i' j'))->
   ∀i' j',i' < n->j' < n->(Mx n (waR n m o i) i' j'↔if i' < i+1 then Mx n b i' j'\/(Mx n b i' m/\Mx n b m j') else Mx n b i' j'):=by
  intro i o hi ho h;have main:∀k,k<=n->((List.range k).foldl (waC n m i) o).length=n * n/\∀i' j',i' < n->j' < n->(Mx n ((List.range k).foldl (waC n m i) o) i' j'↔if i' < i\/(i'=i/\j' < k) then Mx n b i' j'\/(Mx n b i' m/\Mx n b m j') else Mx n b i' j'):=by
   intro k;induction k with
   | zero=>
    intro _;refine ⟨ho,fun i' j' h1 h2=>?_⟩;rw [List.range_zero,List.foldl_nil,h i' j' h1 h2];by_cases h3:i' < i
    ·rw [if_pos h3,if_pos (.inl h3)]
    ·rw [if_neg h3,if_neg (by omega)]
   | succ k ih=>
    intro hk;obtain ⟨h1,h2⟩:=ih (by omega)
    rw [List.range_succ,List.foldl_append];exact ⟨by simp only [List.foldl_cons,List.foldl_nil];rw [uI];exact h1,cell i k _ hi (by omega) h1 h2⟩
  intro i' j' h1 h2;unfold waR;rw [(main n (Nat.le_refl _)).2 i' j' h1 h2];by_cases h3:i' < i+1
  ·rw [if_pos (by omega),if_pos h3]
  ·rw [if_neg (by omega),if_neg h3]
 have all:∀k,k<=n->((List.range k).foldl (waR n m) b).length=n * n/\∀i' j',i' < n->j' < n->(Mx n ((List.range k).foldl (waR n m) b) i' j'↔if i' < k then Mx n b i' j'\/(Mx n b i' m/\Mx n b m j') else Mx n b i' j'):=by
  intro k;induction k with
  | zero=>
   intro _;exact ⟨hb,fun i' j' h1 h2=>by rw [List.range_zero,List.foldl_nil,if_neg (by omega)]⟩
  | succ k ih=>
   intro hk;obtain ⟨h1,h2⟩:=ih (by omega)
   rw [List.range_succ,List.foldl_append];exact ⟨by simp only [List.foldl_cons,List.foldl_nil];rw [uJ];exact h1,row k _ (by omega) h1 h2⟩
 unfold waM;rw [(all n (Nat.le_refl _)).2 i j hi hj,if_pos hi]
theorem FT (ok:y6 t n ps)(i j:Nat)(hi:i < n)(hj:j < n):Mx n (y7 n t null ps) i j↔Path (gd t null ps) i j:=by
 have Elt:∀a b,gd t null ps a b->a < n/\b < n:=fun a b ⟨p,hp,h1,h2⟩=>by
  obtain ⟨hl,hr⟩:=ok p hp;exact ⟨h1▸hl,lD hr b h2⟩
 have main:∀m,m<=n->((List.range m).foldl (waM n) (edM n t null ps)).length=n * n/\
   (∀i j,i < n->j < n->gd t null ps i j->Mx n ((List.range m).foldl (waM n) (edM n t null ps)) i j)/\
   (∀i j,i < n->j < n->Mx n ((List.range m).foldl (waM n) (edM n t null ps)) i j->Path (gd t null ps) i j)/\
   ∀m',m' < m->∀i j,i < n->j < n->Mx n ((List.range m).foldl (waM n) (edM n t null ps)) i m'->Mx n ((List.range m).foldl (waM n) (edM n t null ps)) m' j->Mx n ((List.range m).foldl (waM n) (edM n t null ps)) i j:=by
  intro m;induction m with
  | zero=>
   intro _;exact ⟨uM ..,fun i j _ hj h=>(Ao ok i j hj).2 h,fun i j _ hj h=>.one ((Ao ok i j hj).1 h),fun m' h=>absurd h (by omega)⟩
  | succ m ih=>
   intro hm;obtain ⟨h1,h2,h3,h4⟩:=ih (by omega)
   rw [List.range_succ,List.foldl_append,List.foldl_cons,List.foldl_nil];generalize (List.range m).foldl (waM n) (edM n t null ps)=b at h1 h2 h3 h4;have hmn:m < n:=hm;have e:=fun i j hi hj=>IZ h1 hmn i j hi hj;refine ⟨by rw [uK];exact h1,fun i j hi hj h=>(e i j hi hj).2 (.inl (h2 i j hi hj h)),fun i j hi hj h=>?_,fun m' hm' i j hi hj ha hb=>?_⟩
   ·rcases (e i j hi hj).1 h with h | ⟨ha,hb⟩
    ·exact h3 i j hi hj h
    ·exact (h3 i m hi hmn ha).trans (h3 m j hmn hj hb)
   ·have hm'n:m' < n:=by omega
    have ha:=(e i m' hi hm'n).1 ha;have hb:=(e m' j hm'n hj).1 hb;refine (e i j hi hj).2 ?_;by_cases hmm:m'=m
    ·subst hmm;have ha:Mx n b i m':=by rcases ha with h | h;exact h;exact h.1
     have hb:Mx n b m' j:=by rcases hb with h | h;exact h;exact h.2
     exact .inr ⟨ha,hb⟩
    ·have hlt:m' < m:=by omega
     rcases ha with ha | ⟨ha1,ha2⟩
     ·rcases hb with hb | ⟨hb1,hb2⟩
      ·exact .inl (h4 m' hlt i j hi hj ha hb)
      ·exact .inr ⟨h4 m' hlt i m hi hmn ha hb1,hb2⟩
     ·rcases hb with hb | ⟨hb1,hb2⟩
      ·exact .inr ⟨ha1,h4 m' hlt m j hmn hj ha2 hb⟩
      ·exact .inr ⟨ha1,hb2⟩
 obtain ⟨h1,h2,h3,h4⟩:=main n (Nat.le_refl _);refine ⟨h3 i j hi hj,fun h=>?_⟩;induction h with
 | one h=>exact h2 _ _ hi hj h
 | cons h _ ih=>
  obtain ⟨ha,hb⟩:=Elt _ _ h;exact h4 _ hb _ _ hi hj (h2 _ _ ha hb h) (ih hb hj)
end

section
variable {n:Nat}{t:Int}{null:List Bool}{ps:List Pr}
def PathN (E:Nat->Nat->Prop):Nat->Nat->Nat->Prop
 | 0,_,_=>False
 | r+1,i,j=>∃s,E i s/\(s=j\/PathN E r s j)
theorem PathN.more {E:Nat->Nat->Prop}:∀{r i j:Nat},PathN E r i j->PathN E (r+1) i j
 | r+1,i,j,⟨s,h1,h2⟩=>⟨s,h1,h2.imp (fun h=>h) fun h=>h.more⟩
open Classical in
end
def dgL (n:Nat)(o:List Bool):Nat->Nat->Int×Bool
 | 0,_=>(0,false)
 | m+1,i=>if o.getD (i * n+i) false=true then ((i:Int),true) else dgL n o m (i+1)
theorem FU {n:Nat}{o o':List Bool}:∀(m i:Nat),i+m<=n->(∀i,i < n->(Mx n o i i↔Mx n o' i i))->dgL n o m i=dgL n o' m i
 | 0,_,_,_=>rfl
 | m+1,i,hi,h=>by
  simp only [dgL];have:=h i (by omega)
  unfold Mx tr at this;by_cases h1:o.getD (i * n+i) false=true
  ·rw [if_pos h1,if_pos (this.1 h1)]
  ·rw [if_neg h1,if_neg (fun h2=>h1 (this.2 h2)),FU m (i+1) (by omega) h]

def rowL (n:Nat)(o:List Bool)(i:Nat):List Bool:=(o.drop (i * n)).take n
def rF (n:Nat)(o:List Bool):Heap:=(List.range n).map fun i=>.cells (bools (rowL n o i))
theorem eR {n:Nat}{o:List Bool}{i:Nat}(ho:o.length=n * n)(hi:i < n):(rowL n o i).length=n:=by
 unfold rowL;rw [List.length_take,List.length_drop,ho];have h1:(i+1) * n<=n * n:=Nat.mul_le_mul_right n hi;rw [Nat.succ_mul] at h1;omega
theorem gg {n:Nat}{o:List Bool}{i k:Nat}(hk:k < n):(rowL n o i)[k]?=o[i * n+k]?:=by
 unfold rowL;rw [List.getElem?_take,if_pos hk,List.getElem?_drop]
theorem mR (n:Nat)(o:List Bool):(rF n o).length=n:=by simp [rF]
theorem mT {n:Nat}{o:List Bool}{i:Nat}(hi:i < n):(rF n o)[i]?=some (.cells (bools (rowL n o i))):=by
 unfold rF;rw [List.getElem?_map,List.getElem?_range hi];rfl
theorem FV {n:Nat}{o:List Bool}{i k i':Nat}{v:Bool}(ho:o.length=n * n)(hi:i < n)(hk:k < n)(hi':i' < n):rowL n (o.set (i * n+k) v) i'=if i'=i then (rowL n o i).set k v else rowL n o i':=by
 apply List.ext_getElem?;intro j;rcases Nat.lt_or_ge j n with hj | hj
 ·rw [gg hj,List.getElem?_set];by_cases h:i'=i
  ·subst h;rw [if_pos rfl,List.getElem?_set,eR ho hi,gg hj];by_cases hkj:k=j
   ·subst hkj;rw [if_pos rfl,if_pos rfl,if_pos hk,if_pos (by rw [ho];exact oC hi hk)]
   ·rw [if_neg hkj,if_neg (by omega)]
  ·rw [if_neg h,gg hj,if_neg (fun e=>h (FS hk hj e).1.symm)]
 ·have hl:(rowL n (o.set (i * n+k) v) i').length=n:=eR (by rw [List.length_set];exact ho) hi'
  rw [List.getElem?_eq_none (by omega)]
  split
  ·rw [List.getElem?_eq_none (by rw [List.length_set,eR ho hi];omega)]
  ·rw [List.getElem?_eq_none (by rw [eR ho hi'];omega)]
theorem wT {n:Nat}{o:List Bool}{i k:Nat}{v:Bool}(ho:o.length=n * n)(hi:i < n)(hk:k < n):(rF n o).set i (.cells (bools ((rowL n o i).set k v)))=rF n (o.set (i * n+k) v):=by
 apply List.ext_getElem?;intro j;rw [List.getElem?_set,mR];rcases Nat.lt_or_ge j n with hj | hj
 ·rw [mT hj,mT hj,FV ho hi hk hj];by_cases h:i=j
  ·subst h;rw [if_pos rfl,if_pos hj,if_pos rfl]
  ·rw [if_neg h,if_neg (fun e=>h e.symm)]
 ·rw [if_neg (by omega),List.getElem?_eq_none (by rw [mR];omega),List.getElem?_eq_none (by rw [mR];omega)]
theorem Ch (n i:Nat)(hi:i < n):rowL n (List.replicate (n * n) false) i=List.replicate n false:=by
 unfold rowL;rw [List.drop_replicate,List.take_replicate];congr 1;have h1:(i+1) * n<=n * n:=Nat.mul_le_mul_right n hi;rw [Nat.succ_mul] at h1;omega
def lF (b n m:Nat):List AV:=(List.range m).map fun i=>.hs (b+i) n 0 n 1
theorem wU {b n m i:Nat}(h:i < m):(lF b n m)[i]?=some (.hs (b+i) n 0 n 1):=by
 unfold lF;rw [List.getElem?_map,List.getElem?_range h];rfl
theorem dI {b n m i:Nat}(h:i < (lF b n m).length):(lF b n m)[i]= .hs (b+i) n 0 n 1:=by simp [lF]
theorem ed (b n m:Nat):(lF b n m).length=m:=by simp [lF]
def gp (b n m:Nat):List AV:=lF b n m++List.replicate (n - m) .e0
theorem wV {b n m:Nat}(h:m < n):(gp b n m).set m (.hs (b+m) n 0 n 1)=gp b n (m+1):=by
 unfold gp;rw [List.set_append_right _ _ (by rw [ed];omega),ed,Nat.sub_self,show n - m=(n - (m+1))+1 by omega,List.replicate_succ,List.set_cons_zero]
 unfold lF;rw [List.range_succ,List.map_append,List.append_assoc];rfl
theorem wW {b n m:Nat}(h:m<=n):(gp b n m).length=n:=by
 unfold gp;rw [List.length_append,ed,List.length_replicate];omega
theorem wX (b n:Nat):gp b n n=lF b n n:=by
 unfold gp;rw [Nat.sub_self];simp
theorem sS (n m:Nat)(h:m<=n):(List.range m).map (fun i=>HB.cells (bools (rowL n (List.replicate (n * n) false) i)))=List.replicate m (.cells (bools (List.replicate n false))):=by
 apply List.ext_getElem?;intro i;rw [List.getElem?_map,List.getElem?_replicate];rcases Nat.lt_or_ge i m with hi | hi
 ·rw [List.getElem?_range hi,if_pos hi,Option.map_some,Ch n i (by omega)]
 ·rw [List.getElem?_eq_none (by simpa using hi),if_neg (by omega)];rfl

theorem FW {lk lim:Nat}{H:Heap}(g:Gm)(ok:GOk g)(null:List Bool)(hn:null.length=g.n.toNat)(r:List Int)(hr:r.length<=8)(hs:∀x∈r,0<=x/\x < g.t+g.n)(hlk:lk<=H.length):
  aj X A lk lim 78 [gV g,.sl g.n.toNat (bools null),.sl r.length (ints r)] H=some (slvN (bgL g.t null r),H):=by
 refine ar [3] rfl A78 rfl rfl ?_;generalize aj X A=C;unfold NU;obtain ⟨t,n,k,ps⟩:=g;obtain ⟨t1,t2,n1,n2,k1,k2,l1,l2,okp⟩:=ok;simp only at t1 t2 n1 n2 hn hs;obtain ⟨n,rfl⟩:=Int.eq_ofNat_of_zero_le (by omega:0<=n)
 simp only [Int.toNat_natCast] at hn |-;simp [Gm.cells]
 let bx:AV:=.box [I t,I n,I k,.sl ps.length (psC ps)]
 have hbl:=uG (t:=t) (null:=null) r;obtain ⟨B,hB⟩:∃B,bgL t null r=B:=⟨_,rfl⟩;rw [hB] at hbl;rw [hB];refine ax (σ:=Nat×List Nat) (fun s=>[(1,.sl n (bools null)),(3,bx),(6,oV H s.2),(9,.sl r.length (ints r)),(10,I r.length),(11,I s.1)]) (fun s=>oH H s.2)
  (fun s=>s.1<=r.length/\s.2.length=s.1/\s.2++bgL t null (r.drop s.1)=B) (fun s=>r.length - s.1) ?_ (0,[]) ⟨Nat.zero_le _,rfl,by rw [<-hB];rfl⟩ (by simp [bx,oV]) (by simp [oH])
 rintro ⟨i,o⟩ ⟨hi,ho,hinv⟩;simp only at hi ho hinv;unfold J2;have w1:IntKind.i64.wrap ((i:Int)+1)=(i:Int)+1:=au (by omega) (by omega)
 have fin:o=B->∀e:Env,ev e (.tmp 6)=oV H o->True:=fun _ _ _=>trivial;clear fin;by_cases hil:i < r.length;case neg=>
  obtain rfl:i=r.length:=by omega
  rw [List.drop_length] at hinv;have hinv:o=B:=by simpa [bgL] using hinv
  subst hinv;by_cases h0:o=[]
  ·simp [bx,oV,oH,slvN,h0]
  ·simp [bx,oV,oH,slvN,h0]
 have hro1:8<=aM:=by unfold aM;omega
 have hro:(o.length+1) * 8<=aM:=by unfold aM;omega
 obtain ⟨x,hx⟩:∃x,r[i]=x:=⟨_,rfl⟩;obtain ⟨x1,x2⟩:=hs x (hx▸List.getElem_mem hil);rw [List.drop_eq_getElem_cons hil,hx,bgL] at hinv;by_cases hxt:x < t
 ·rw [if_pos hxt,List.append_nil] at hinv;subst hinv;by_cases h0:o=[]
  ·simp [bx,oV,oH,slvN,h0,hil,hx,hxt]
  ·simp [bx,oV,oH,slvN,h0,hil,hx,hxt]
 rw [if_neg hxt] at hinv;obtain ⟨y,rfl⟩:∃y:Nat,x=t+(y:Int):=⟨(x - t).toNat,by omega⟩
 have hy2:(t+(y:Int) - t).toNat=y:=by omega
 have w3:IntKind.i64.wrap (y:Int)=y:=au (by omega) (by omega)
 have hty:¬((y:Int) < 0):=by omega
 have hsub:t+(y:Int) - t=y:=by omega
 rw [hy2] at hinv;have hyn:y < null.length:=by omega
 have hyn2:y < n:=by omega
 rw [bV hyn] at hinv;have hnn:(bools null)[y]?=some (Bo null[y]):=by rw [aF,List.getElem?_eq_getElem hyn];rfl
 have hbn:(bools null).length=n:=by rw [aH,hn]
 have hna:nts o++[.val (.int .i64 y)]=nts (o++[y]):=by rw [Iq];rfl
 have hne:¬o++[y]=[]:=by simp
 have hol:(o++[y]).length=o.length+1:=by simp
 have hro':(o.length+1) * 8<=aM:=hro;obtain ⟨v,hv⟩:∃v,null[y]=v:=⟨_,rfl⟩;rw [hv] at hnn hinv;have hinv2:v=true->(o++[y])++bgL t null (r.drop (i+1))=B:=fun h=>by rw [<-hinv,h];simp
 have hinv3:v=false->o++[y]=B:=fun h=>by rw [<-hinv,h];simp
 clear hinv;by_cases h0:o=[]
 ·subst h0;simp only [List.nil_append] at hinv2 hinv3;have hn1:nts [y]=[AV.val (.int .i64 y)]:=rfl;cases v with
  | false=>
   have hinv3:=hinv3 rfl;subst hinv3;simp [-qk,bx,oV,hil,hx,hxt,hsub,w3];rw [qk];simp [oH,slvN,aN,hro1,hx,hxt,hty,hsub,w3,hyn2,hbn,hnn,hyn,hv,hn1]
  | true=>
   have hinv2:=hinv2 rfl;simp [-qk,bx,oV,hil,hx,hxt,hsub,w3];rw [qk];simp [oH,aN,hro1,hx,hxt,hty,hsub,w3,hyn2,hbn,hnn,hyn,hv,hn1,w1];rw [ao];refine ⟨(i+1,[y]),⟨by simp only;omega,by simp only [List.length_nil] at ho;simp;omega,hinv2⟩,by simp only;omega,?_,?_⟩
   ·simp [bx,oV]
   ·simp [oH,hn1]
 ·cases v with
  | false=>
   have hinv3:=hinv3 rfl;subst hinv3;generalize hoy:o++[y]=oy at hna hol hne;simp [bx,oV,oH,slvN,h0,hil,hx,hxt,hty,hsub,w3,hyn2,hbn,hnn,hyn,hv,hro',aN,aR,dW,hlk,hna,hne,hol,cS,eh]
  | true=>
   have hinv2:=hinv2 rfl;simp [bx,oV,oH,h0,hil,hx,hxt,hty,hsub,w3,hyn2,hbn,hnn,hyn,hv,hro',aN,aR,dW,hlk,w1,hna,cS,eh];rw [ao];refine ⟨(i+1,o++[y]),⟨by simp only;omega,by simp;omega,hinv2⟩,by simp only;omega,?_,?_⟩
   ·simp [bx,oV]
   ·simp [oH]

def LS (g:Gm)(H:Heap)(null:List Bool)(n:Nat)(o:List Bool):Heap:=H++(.cells g.cells:: .cells [.sl n (bools null)]:: .cells (lF (H.length+4) n n):: .cells [.hs (H.length+2) n 0 n 1]::rF n o)
section
variable {g:Gm}{H:Heap}{null:List Bool}{n:Nat}{o:List Bool}
theorem re:(LS g H null n o).length=H.length+4+n:=by
 unfold LS;rw [List.length_append];simp only [List.length_cons,mR];omega
theorem ON:(LS g H null n o)[H.length]?=some (.cells g.cells):=by unfold LS;rw [get_at0];rfl
theorem PT:(LS g H null n o)[H.length+1]?=some (.cells [.sl n (bools null)]):=by unfold LS;rw [Hm.get_at];rfl
theorem Mj:(LS g H null n o)[H.length+2]?=some (.cells (lF (H.length+4) n n)):=by unfold LS;rw [Hm.get_at];rfl
theorem Mk:(LS g H null n o)[H.length+3]?=some (.cells [.hs (H.length+2) n 0 n 1]):=by unfold LS;rw [Hm.get_at];rfl
theorem y8 {i:Nat}(hi:i < n):(LS g H null n o)[H.length+4+i]?=some (.cells (bools (rowL n o i))):=by
 unfold LS;rw [Nat.add_assoc,Hm.get_at,show 4+i=i+1+1+1+1 by omega]
 simp only [List.getElem?_cons_succ];exact mT hi
theorem Ml {i k:Nat}(ho:o.length=n * n)(hi:i < n)(hk:k < n)(v:Bool):(LS g H null n o).set (H.length+4+i) (.cells (bools ((rowL n o i).set k v)))=LS g H null n (o.set (i * n+k) v):=by
 unfold LS;rw [Nat.add_assoc,set_at,show 4+i=i+1+1+1+1 by omega]
 simp only [List.set_cons_succ];rw [wT ho hi hk]
end
def chg (o o0:List Bool):Bool:=decide (o≠o0)
theorem FX {x cur o0:List Bool}(h:x=cur\/bC x < bC cur)(hc:bC cur<=bC o0):bC x<=bC o0/\(x=cur->chg x o0=chg cur o0)/\(x≠cur->chg x o0=true):=by
 rcases h with h | h
 ·subst h;exact ⟨hc,fun _=>rfl,fun h=>absurd rfl h⟩
 ·refine ⟨by omega,fun e=>by rw [e],fun _=>?_⟩
  unfold chg;rw [decide_eq_true_eq];rintro rfl;omega
theorem Mm {n l s k:Nat}{o:List Bool}{u v:Bool}(h1:o.getD (s * n+k) false=u)(h2:o.getD (l * n+k) false=v):lfK n l s o k=if ((u||decide (k=s))&&!v)=true then o.set (l * n+k) true else o:=by
 unfold lfK;rw [h1,h2]
abbrev I0 (H:Heap)(n l s i k:Nat)(B:List Nat)(more:Bool):Env:=[(1,.hp (H.length+3) 1 0),(5,Bo more),(6,.hs (H.length+4+l) n 0 n 1),(8,I s),(20,.sl B.length (nts B)),(21,I B.length),(22,I i),(29,.hs (H.length+4+s) n 0 n 1),(30,I n),(31,I k)]
theorem OO {C:Orc}{Q:Ex->Kt}{env:Env}{lk L:Nat}{H:Heap}{g:Gm}{null:List Bool}{n l s i:Nat}{B:List Nat}{o o0:List Bool}(hn:n<=16)(hl:l < n)(hs:s < n)(ho:o.length=n * n)(hc:bC o<=bC o0)(hlk:lk<=H.length)
  (hE:ab [1,5,6,8,20,21,22,29,30,31] env=I0 H n l s i 0 B (chg o o0))
  (hQ:∀env',ab [1,5,6,20,21,22] env'=[(1,.hp (H.length+3) 1 0),(5,Bo (chg (lfS n l o s) o0)),(6,.hs (H.length+4+l) n 0 n 1),(20,.sl B.length (nts B)),(21,I B.length),(22,I i)]->bC (lfS n l o s)<=bC o0->Q (.exit 2) env' (LS g H null n (lfS n l o s))):
  WB ⟨C,lk,L,[4]⟩ (.loop [1,5,6,8,20,21,22,29,30,31] Ev) Q env (LS g H null n o):=by
 refine ax (σ:=Nat×List Bool) (fun s'=>I0 H n l s i s'.1 B (chg s'.2 o0)) (fun s'=>LS g H null n s'.2)
  (fun s'=>s'.1<=n/\s'.2=(List.range s'.1).foldl (lfK n l s) o/\s'.2.length=n * n/\bC s'.2<=bC o0) (fun s'=>n - s'.1) ?_ (0,o) ⟨Nat.zero_le _,rfl,ho,hc⟩ hE rfl
 rintro ⟨k,q⟩ ⟨hk,hq,hql,hqc⟩;simp only at hk hq hql hqc;unfold Ev;have w1:IntKind.i64.wrap ((k:Int)+1)=(k:Int)+1:=au (by omega) (by omega)
 by_cases hkn:k < n;case neg=>
  obtain rfl:k=n:=by omega
  have e:lfS k l o s=q:=hq.symm;rw [e] at hQ;simp;refine hQ _ ?_ hqc;simp
 have hnx:(List.range (k+1)).foldl (lfK n l s) o=lfK n l s q k:=by rw [List.range_succ,List.foldl_append,<-hq];rfl
 have hgr:=nP n l s k q;obtain ⟨c1,c2,c3⟩:=FX hgr hqc;simp only at c1 c2 c3;have fin:∀(E:Env) (H':Heap) (m:Bool),m=chg (lfK n l s q k) o0->E=I0 H n l s i (k+1) B m->H'=LS g H null n (lfK n l s q k)->
  ∃s':Nat×List Bool,(s'.1<=n/\s'.2=(List.range s'.1).foldl (lfK n l s) o/\s'.2.length=n * n/\bC s'.2<=bC o0)/\n - s'.1 < n - k/\E=I0 H n l s i s'.1 B (chg s'.2 o0)/\H'=LS g H null n s'.2:=
  fun E H' m h1 h2 h3=>⟨(k+1,lfK n l s q k),⟨by simp only;omega,hnx.symm,by simp only;rw [uH];exact hql,c1⟩,by simp only;omega,by rw [h2,h1],h3⟩
 have g1:=y8 (g:=g) (H:=H) (null:=null) (o:=q) hs;have g2:=y8 (g:=g) (H:=H) (null:=null) (o:=q) hl;have r1:=eR hql hs;have r2:=eR hql hl;have s1:=gg (o:=q) (i:=s) hkn;have s2:=gg (o:=q) (i:=l) hkn;have i1:s * n+k < q.length:=by rw [hql];exact oC hs hkn
 have i2:l * n+k < q.length:=by rw [hql];exact oC hl hkn
 obtain ⟨u,hu⟩:∃u,q[s * n+k]=u:=⟨_,rfl⟩;obtain ⟨v,hv⟩:∃v,q[l * n+k]=v:=⟨_,rfl⟩;have hdo:=Mm (n:=n) (l:=l) (s:=s) (k:=k) (o:=q) (u:=u) (v:=v) (by rw [bV i1,hu]) (by rw [bV i2,hv])
 have hset:=Ml (g:=g) (H:=H) (null:=null) hql hl hkn true;rw [List.getElem?_eq_getElem i1,hu] at s1;rw [List.getElem?_eq_getElem i2,hv] at s2;have hne:v=false->q.set (l * n+k) true≠q:=fun h e=>by
  have:=congrArg (fun l':List Bool=>l'[l * n+k]?) e;simp only [List.getElem?_set_self i2,List.getElem?_eq_getElem i2,hv,h] at this;simp at this
 generalize hR1:rowL n q s=R1 at g1 r1 s1;generalize hR2:rowL n q l=R2 at g2 r2 s2 hset;have k1:k < R1.length:=by omega
 have k2:k < R2.length:=by omega
 rw [List.getElem?_eq_getElem k1,Option.some.injEq] at s1;rw [List.getElem?_eq_getElem k2,Option.some.injEq] at s2;have b1:(bools R1).length=n:=by rw [aH,r1]
 have b2:(bools R2).length=n:=by rw [aH,r2]
 have hrp:=bg (Bo true) (show k < (bools R2).length by omega)
 rw [cJ] at hrp;have hlk4:lk<=H.length+4+l:=by omega
 have hkn2:k+1<=n:=hkn;have hks:((k:Int)==s)=decide (k=s):=by
  by_cases h:k=s
  ·subst h;simp
  ·simp [h];omega
 cases hw:((u||decide (k=s))&&!v) with
 | false=>
  rw [hw] at hdo;have hdo:lfK n l s q k=q:=hdo;rw [hdo] at fin;have fin:=fun E H'=>fin E H' _ rfl;by_cases hk2:k=s
  ·have hv1:v=true:=by simpa [hk2] using hw
   subst hv1;subst hk2;cases u<;>(simp [hkn,g1,g2,k1,k2,s1,s2,b1,b2,aF,w1];rw [ao];refine fin _ _ ?_ rfl;simp)
  ·cases u with
   | false=>
    have hks3:((k:Int)==s)=false:=by rw [hks];simp [hk2]
    simp [hkn,g1,g2,k1,k2,s1,s2,b1,b2,aF,w1,hks3];rw [ao];refine fin _ _ ?_ rfl;simp
   | true=>
    have hv1:v=true:=by simpa using hw
    subst hv1;simp [hkn,g1,g2,k1,k2,s1,s2,b1,b2,aF,w1];rw [ao];refine fin _ _ ?_ rfl;simp
 | true=>
  rw [hw] at hdo;have hdo:lfK n l s q k=q.set (l * n+k) true:=hdo;have hv0:v=false:=by
   simp only [Bool.and_eq_true,Bool.not_eq_true'] at hw;exact hw.2
  have hx:=c3 (by rw [hdo];exact hne hv0)
  rw [hx,hdo] at fin;have fin:=fun E H'=>fin E H' _ rfl;subst hv0;have hor:(u||decide (k=s))=true:=by simpa using hw
  cases u with
  | true=>
   simp [hkn,g1,g2,k1,k2,s1,s2,b1,b2,aF,w1,aR,hlk4,hrp,hset,hkn2];rw [ao];refine fin _ _ ?_ rfl;simp
  | false=>
   have hk2:k=s:=by simpa using hor
   subst hk2;simp [hkn,g1,g2,k1,k2,s1,s2,b1,b2,aF,w1,aR,hlk4,hrp,hset,hkn2];rw [ao];refine fin _ _ ?_ rfl;simp
abbrev OP (H:Heap)(n l i:Nat)(B:List Nat)(more:Bool):Env:=[(1,.hp (H.length+3) 1 0),(5,Bo more),(6,.hs (H.length+4+l) n 0 n 1),(20,.sl B.length (nts B)),(21,I B.length),(22,I i)]
theorem I3 (n l s:Nat)(o:List Bool):bC (lfS n l o s)<=bC o:=by
 rcases nQ n l s o with h | h
 ·simp only at h;rw [h];exact Nat.le_refl _
 ·simp only at h;omega
theorem OQ {C:Orc}{Q:Ex->Kt}{env:Env}{lk L:Nat}{H:Heap}{g:Gm}{null:List Bool}{n l:Nat}{B:List Nat}{o:List Bool}(hn:n<=16)(hl:l < n)(hB:∀s∈B,s < n)(hBl:B.length<=8)(ho:o.length=n * n)(hlk:lk<=H.length)
  (hE:ab [1,5,6,20,21,22] env=OP H n l 0 B false)
  (hQ:∀env',ab [5] env'=[(5,Bo (chg (B.foldl (lfS n l) o) o))]->Q (.exit 0) env' (LS g H null n (B.foldl (lfS n l) o))):
  WB ⟨C,lk,L,[4]⟩ (.loop [1,5,6,20,21,22] Ab) Q env (LS g H null n o):=by
 refine ax (σ:=Nat×List Bool) (fun s'=>OP H n l s'.1 B (chg s'.2 o)) (fun s'=>LS g H null n s'.2)
  (fun s'=>s'.1<=B.length/\s'.2=(B.take s'.1).foldl (lfS n l) o/\s'.2.length=n * n/\bC s'.2<=bC o) (fun s'=>B.length - s'.1) ?_ (0,o) ⟨Nat.zero_le _,rfl,ho,Nat.le_refl _⟩ (by rw [hE];simp [chg]) rfl
 rintro ⟨i,q⟩ ⟨hi,hq,hql,hqc⟩;simp only at hi hq hql hqc;unfold Ab;have w1:IntKind.i64.wrap ((i:Int)+1)=(i:Int)+1:=au (by omega) (by omega)
 by_cases hil:i < B.length;case neg=>
  obtain rfl:i=B.length:=by omega
  rw [List.take_of_length_le (Nat.le_refl _)] at hq;rw [<-hq] at hQ;simp;refine hQ _ ?_;simp
 have hs:=hB B[i] (List.getElem_mem hil);have hnx:(B.take (i+1)).foldl (lfS n l) o=lfS n l q B[i]:=by
  rw [List.take_succ_eq_append_getElem hil,List.foldl_append,<-hq];rfl
 generalize hsv:B[i]=s at hs hnx;have g3:=Mk (g:=g) (H:=H) (null:=null) (n:=n) (o:=q);have g2:=Mj (g:=g) (H:=H) (null:=null) (n:=n) (o:=q);have hrl:=ed (H.length+4) n n;have hrg:=wU (b:=H.length+4) (n:=n) hs;have hqc2:=I3 n l s q;simp [hil,Ip,hsv,g3,g2,hs,hrl,dI];refine OO (i:=i) (B:=B) (o0:=o) hn hl hs hql hqc hlk (by simp) (fun env' hE' hc'=>?_)
 rw [aG,if_pos rfl,a6,ah,ae,hE'];simp [w1];rw [ao];refine ⟨(i+1,lfS n l q s),⟨by simp only;omega,hnx.symm,by simp only;rw [Am];exact hql,hc'⟩,by simp only;omega,?_,rfl⟩
 simp
theorem FY {lk lim:Nat}{H:Heap}{g:Gm}{null:List Bool}{o:List Bool}(ok:GOk g)(hnull:null.length=g.n.toNat)(ho:o.length=g.n.toNat * g.n.toNat)(hlk:lk<=H.length)(p:Pr)(pok:POk g p):
  aj X A lk lim 77 [.agg p.cells,.hp (H.length+3) 1 0,.hp H.length 4 0,.hp (H.length+1) 1 0] (LS g H null g.n.toNat o)=some (Bo (decide (lfP g.n.toNat g.t null o p≠o)),LS g H null g.n.toNat (lfP g.n.toNat g.t null o p)):=by
 have kb:=fun (L:Nat)=>FW (lk:=lk) (lim:=L) (H:=LS g H null g.n.toNat o) g ok null hnull p.r pok.len pok.s (by rw [re];omega)
 refine ar [4] rfl A77 rfl rfl ?_;unfold NT;have g0:=ON (g:=g) (H:=H) (null:=null) (n:=g.n.toNat) (o:=o);have g1:=PT (g:=g) (H:=H) (null:=null) (n:=g.n.toNat) (o:=o);have g2:=Mj (g:=g) (H:=H) (null:=null) (n:=g.n.toNat) (o:=o);have g3:=Mk (g:=g) (H:=H) (null:=null) (n:=g.n.toNat) (o:=o);have hB:=lD (t:=g.t) (null:=null) (n:=g.n.toNat) (r:=p.r) (fun x hx=>by have:=pok.s x hx;have:=ok.n1;omega)
 have hBl:=uG (t:=g.t) (null:=null) p.r;have hpl:=pok.len;have n1:=ok.n1;have n2:=ok.n2;have p0:=pok.l0;have p1:=pok.l1;have hfold:lfP g.n.toNat g.t null o p=(bgL g.t null p.r).foldl (lfS g.n.toNat p.l.toNat) o:=rfl;rw [hfold];have hlen:=re (g:=g) (H:=H) (null:=null) (n:=g.n.toNat) (o:=o);generalize bgL g.t null p.r=B at kb hB hBl;generalize hn:g.n.toNat=n at *;have hgn:g.n=n:=by omega
 obtain ⟨pl,pr⟩:=p;simp only at kb hBl p0 p1 hpl;obtain ⟨pl,rfl⟩:=Int.eq_ofNat_of_zero_le p0;have hln:pl < n:=by omega
 have hrl:=ed (H.length+4) n n;have hrg:=wU (b:=H.length+4) (n:=n) hln;have hgc:g.cells.length=4:=rfl;simp only [Int.toNat_natCast];generalize aj X A=C at kb |-;have hch:∀q:List Bool,decide (q≠o)=chg q o:=fun q=>rfl;rw [hch];generalize hcl:g.cells=gc at g0 hgc;have kb2:∀L,C lk L 78 [.agg gc,.sl n (bools null),.sl pr.length (ints pr)] (LS g H null n o)=some (slvN B,LS g H null n o):=by rw [<-hcl];exact kb
 clear kb;have hgt:gc.take 4=gc:=List.take_of_length_le (by omega)
 by_cases hB0:B=[]
 ·have hsv:slvN B= .e0:=by unfold slvN;rw [if_pos hB0]
  rw [hsv] at kb2;subst hB0;have hc0:chg o o=false:=by simp [chg]
  simp only [List.foldl_nil,hc0];simp [Pr.cells,g3,g2,hln,hrl,dI,g0,g1,hgc,hgt,kb2];refine DU ?_;unfold Ab;simp
 ·have hsv:slvN B= .sl B.length (nts B):=by unfold slvN;rw [if_neg hB0]
  rw [hsv] at kb2;simp [Pr.cells,g3,g2,hln,hrl,dI,g0,g1,hgc,hgt,kb2];refine OQ (by omega) hln hB (by omega) ho hlk (by simp) (fun env' hE'=>?_)
  generalize chg (B.foldl (lfS n pl) o) o=c at hE' |-;rw [aG,if_pos rfl,ah,ai,ae,hE'];have hlen2:=re (g:=g) (H:=H) (null:=null) (n:=n) (o:=B.foldl (lfS n pl) o);simp [hlen];rw [<-hlen,hlen,<-hlen2];simp

def leftR (g:Gm):Int×Bool:=if chkE g=0 then dgL g.n.toNat (gI g.n.toNat g.t (derM g false) g.ps) g.n.toNat 0 else (0,false)
def sT (g:Gm):AV:=.tup [I (leftR g).1,Bo (leftR g).2]
def LR (g:Gm)(H:Heap)(null:List Bool)(n i:Nat):Heap:=H++(.cells g.cells:: .cells [.sl n (bools null)]:: .cells (gp (H.length+4) n i):: .cells [.hs (H.length+2) n 0 n 1]::List.replicate i (.cells (bools (List.replicate n false))))
section
variable {g:Gm}{H:Heap}{null:List Bool}{n i:Nat}
theorem Mn:(LR g H null n i).length=H.length+4+i:=by
 unfold LR;rw [List.length_append];simp only [List.length_cons,List.length_replicate];omega
theorem OT:(LR g H null n i)[H.length]?=some (.cells g.cells):=by unfold LR;rw [get_at0];rfl
theorem PU:(LR g H null n i)[H.length+2]?=some (.cells (gp (H.length+4) n i)):=by unfold LR;rw [Hm.get_at];rfl
theorem PW:(LR g H null n i)[H.length+3]?=some (.cells [.hs (H.length+2) n 0 n 1]):=by unfold LR;rw [Hm.get_at];rfl
theorem I4 (hi:i < n):(LR g H null n i++[HB.cells (bools (List.replicate n false))]).set (H.length+2) (.cells ((gp (H.length+4) n i).set i (.hs (H.length+4+i) n 0 n 1)))=LR g H null n (i+1):=by
 unfold LR;rw [List.append_assoc,set_at,wV hi,List.replicate_succ'];rfl
theorem OU:LR g H null n n=LS g H null n (List.replicate (n * n) false):=by
 unfold LR LS rF;rw [wX,sS n n (Nat.le_refl _)]
end
theorem Ap (n:Nat):repl n [.e0]=List.replicate n .e0:=by simp [repl]
theorem sU (b n:Nat):gp b n 0=List.replicate n .e0:=by simp [gp,lF]
theorem wY {lk lim:Nat}{H:Heap}(g:Gm)(hl:g.ps.length<=1000000)(hr:∀p∈g.ps,p.r.length<=1000000)(hlk:lk<=H.length):aj X A lk lim 50 [gV g] H=some (sT g,H):=by
 have kc:=fun (L:Nat) (H':Heap)=>ck (lk:=lk) (lim:=L) (H:=H') g hl hr;have kn:=fun (L:Nat) (H':Heap) (h:lk<=H'.length)=>sN (lk:=lk) (lim:=L) (H:=H') g hl hr h;refine ar [] rfl A50 rfl rfl ?_;unfold NR;unfold sT leftR;by_cases hc:chkE g=0;case neg=>
  rw [if_neg hc];obtain ⟨t,n,k,ps⟩:=g;simp only [gV,Gm.cells] at kc;generalize aj X A=C at kc |-;simp [Gm.cells,kc,hc]
 have ok:=br hc;rw [if_pos hc];rw [hc] at kc;have lN:=fZ g false;unfold jG at kn;rw [if_pos hc] at kn;generalize derM g false=N at kn lN |-;have hok:y6 g.t g.n.toNat g.ps:=fun p hp=>by
  have pok:=ok.p p hp;have:=pok.l0;have:=pok.l1;have:=ok.n1;exact ⟨by omega,fun x hx=>by have:=pok.s x hx;omega⟩
 have kg:=fun (L:Nat)=>nO (lk:=lk) (lim:=L) (f:=77) (cap:=[.hp (H.length+3) 1 0,.hp H.length 4 0,.hp (H.length+1) 1 0]) g.ps (lfP g.n.toNat g.t N) (LS g H N g.n.toNat) (fun o=>o.length=g.n.toNat * g.n.toNat) (H.length+4+g.n.toNat) hl rfl
  (fun p=>iq g.n.toNat g.t N p) (fun o p _ h=>by rw [An];exact h) (fun o=>re) (fun o p hp ho=>FY ok lN ho hlk p (ok.p p hp)) (List.replicate (g.n.toNat * g.n.toNat) false) (by simp)
 have hF:=sR (n:=g.n.toNat) (t:=g.t) (null:=N) (ps:=g.ps);have kg:∀L,aj X A lk L 76 [.sl g.ps.length (psC g.ps),.fn 77 [.hp (H.length+3) 1 0,.hp H.length 4 0,.hp (H.length+1) 1 0]] (LS g H N g.n.toNat (List.replicate (g.n.toNat * g.n.toNat) false))=some (.tup [],LS g H N g.n.toNat (gI g.n.toNat g.t N g.ps)):=kg;generalize gI g.n.toNat g.t N g.ps=F at hF kg |-;obtain ⟨res,hres⟩:∃res,dgL g.n.toNat F g.n.toNat 0=res:=⟨_,rfl⟩;rw [hres];have n1:=ok.n1;have n2:=ok.n2;have r0:=fun i=>OT (g:=g) (H:=H) (null:=N) (n:=g.n.toNat) (i:=i);have r2:=fun i=>PU (g:=g) (H:=H) (null:=N) (n:=g.n.toNat) (i:=i);have r3:=fun i=>PW (g:=g) (H:=H) (null:=N) (n:=g.n.toNat) (i:=i);have q0:=ON (g:=g) (H:=H) (null:=N) (n:=g.n.toNat) (o:=F);have q2:=Mj (g:=g) (H:=H) (null:=N) (n:=g.n.toNat) (o:=F);have q3:=Mk (g:=g) (H:=H) (null:=N) (n:=g.n.toNat) (o:=F);have qr:=fun i hi=>y8 (g:=g) (H:=H) (null:=N) (n:=g.n.toNat) (o:=F) (i:=i) hi;have ql:=re (g:=g) (H:=H) (null:=N) (n:=g.n.toNat) (o:=F);have hLR:=fun i hi=>I4 (g:=g) (H:=H) (null:=N) (n:=g.n.toNat) (i:=i) hi;have hLl:=fun i=>Mn (g:=g) (H:=H) (null:=N) (n:=g.n.toNat) (i:=i);have hLS:=OU (g:=g) (H:=H) (null:=N) (n:=g.n.toNat);generalize hnn:g.n.toNat=n at *;have hgn:g.n=n:=by omega
 have hstart:H++[.cells g.cells,.cells [.sl n (bools N)],.cells (repl n [.e0]),.cells [.hs (H.length+2) n 0 n 1]]=LR g H N n 0:=by
  unfold LR;rw [Ap,sU];rfl
 have htk:∀o,(LS g H N n o).take H.length=H:=fun o=>by unfold LS;simp
 obtain ⟨t,n',k,ps⟩:=g;simp only at hgn;subst hgn;simp only at n1 n2 hl hr kg;simp only [gV,Gm.cells] at kc kn hstart r0 q0;have hro:(n:Int)<=(aM:Int):=by unfold aM;omega
 have hro2:(n:Int) * 24<=(aM:Int):=by unfold aM;omega
 generalize aj X A=C at kc kn kg |-;have kn1:∀L,C lk L 34 [.agg [I t,I n,I k,.sl ps.length (psC ps)]] (H++[.cells [I t,I n,I k,.sl ps.length (psC ps)]])=some (.sl n (bools N),H++[.cells [I t,I n,I k,.sl ps.length (psC ps)]]):=fun L=>kn L _ (by simp;omega)
 have k1:lk<=H.length+1:=by omega
 have k2:lk<=H.length+2:=by omega
 have k3:lk<=H.length+3:=by omega
 simp [Gm.cells,kc,kn1,aR,k1,k2,k3,set_at,Hm.get_at,get_at0,hro2];generalize hg:(⟨t,n,k,ps⟩:Gm)=g at *;refine ax (σ:=Nat) (fun i=>[(1,.hp H.length 4 0),(4,.hp (H.length+1) 1 0),(5,.hp (H.length+3) 1 0),(17,I n),(18,I i)]) (fun i=>LR g H N n i)
  (fun i=>i<=n) (fun i=>n - i) ?_ 0 (by simp) (by simp) hstart
 intro i hi;unfold JZ;have w1:IntKind.i64.wrap ((i:Int)+1)=(i:Int)+1:=au (by omega) (by omega)
 have hcl:=wW (b:=H.length+4) hi;have r0:=r0 i;have r2:=r2 i;have r3:=r3 i;have hLl:=hLl i;have hbt:H.length < (LR g H N n i).length:=by omega
 have hbt2:H.length+2 < (LR g H N n i).length:=by omega
 by_cases hil:i < n
 ·have hLR:=hLR i hil;have hli:i < (gp (H.length+4) n i).length:=by omega
  have hrp:=fun v=>bg (cs:=gp (H.length+4) n i) (k:=i) v hli;have hi1:i+1<=n:=hil;have a2:(LR g H N n i++[HB.hole])[H.length+2]?=some (.cells (gp (H.length+4) n i)):=by rw [List.getElem?_append_left hbt2];exact r2
  have s1:(LR g H N n i++[HB.hole]).set (LR g H N n i).length (.cells (bools (List.replicate n false)))=LR g H N n i++[.cells (bools (List.replicate n false))]:=by simp
  have a3:(LR g H N n i++[HB.cells (bools (List.replicate n false))])[H.length+2]?=some (.cells (gp (H.length+4) n i)):=by rw [List.getElem?_append_left hbt2];exact r2
  have a4:(LR g H N n i++[HB.hole])[(LR g H N n i).length]?=some .hole:=by simp
  have htl:(LR g H N n i++[HB.hole]).take (LR g H N n i).length=LR g H N n i:=by simp
  have htl2:(LR g H N n i++[HB.cells (bools (List.replicate n false))]).take (LR g H N n i).length=LR g H N n i:=by simp
  simp [hil];refine Iv rfl (by decide) (bm rfl (bm rfl (bm rfl (bm rfl (bm rfl (bm rfl (ma _))))))) ?_
  rw [hLl] at s1 a4 htl htl2;simp [cls,k5,eo,hLl,r3,r0,hil,hi1,hcl,fB,hro,s1,a3,a4,htl,htl2,aR,k2,hrp,hLR];rw [ao];refine ⟨i+1,by omega,by omega,?_,rfl⟩
  simp [w1]
 obtain rfl:i=n:=by omega
 have g0:=OT (g:=g) (H:=H) (null:=N) (n:=i) (i:=i);rw [hLS] at g0 r3 r0;rw [hLS];simp [r0,kg,q0];refine ax (σ:=Nat) (fun j=>[(5,.hp (H.length+3) 1 0),(33,I i),(34,I j)]) (fun _=>LS g H N i F)
  (fun j=>j<=i/\dgL i F (i - j) j=res) (fun j=>i - j) ?_ 0 ⟨Nat.zero_le _,hres⟩ (by simp) (by simp)
 rintro j ⟨hj,hinv⟩;unfold J0;have w2:IntKind.i64.wrap ((j:Int)+1)=(j:Int)+1:=au (by omega) (by omega)
 by_cases hjl:j < i;case neg=>
  obtain rfl:j=i:=by omega
  rw [Nat.sub_self] at hinv;subst hinv;simp [dgL,htk]
 have hrl:=ed (H.length+4) i i;have qr:=qr j hjl;have r1:=eR hF hjl;have s1:=gg (o:=F) (i:=j) hjl;have i1:j * i+j < F.length:=by rw [hF];exact oC hjl hjl
 obtain ⟨u,hu⟩:∃u,F[j * i+j]=u:=⟨_,rfl⟩;rw [List.getElem?_eq_getElem i1,hu] at s1;rw [show i - j=(i - (j+1))+1 by omega,dgL,bV i1,hu] at hinv
 generalize hR1:rowL i F j=R1 at qr r1 s1;have k1:j < R1.length:=by omega
 rw [List.getElem?_eq_getElem k1,Option.some.injEq] at s1;have b1:(bools R1).length=i:=by rw [aH,r1]
 cases u with
 | true=>
  rw [if_pos rfl] at hinv;subst hinv;simp [hjl,q3,q2,hrl,dI,qr,k1,s1,b1,aF,htk]
 | false=>
  rw [if_neg (by simp)] at hinv
  simp [hjl,q3,q2,hrl,dI,qr,k1,s1,b1,aF,w2];rw [ao];refine ⟨j+1,⟨by omega,hinv⟩,by omega,?_,rfl⟩
  simp
end Go.Proofs.YtkllbcjanneppaaGreat
