import Derived.Test.YtkllbcjanneppaaGreatJO
import Derived.Test.YtkllbcjanneppaaGreatJM
import Derived.Test.YtkllbcjanneppaaGreatHA
set_option linter.unusedSimpArgs false
set_option linter.unusedVariables false
namespace Go.Proofs.YtkllbcjanneppaaGreat
open Go Go.Hm

def gK (g:Gm)(k:Int):Gm:=⟨g.t,g.n,k,g.ps⟩
def zm (o:Option (List Int×Nat)):AV:=match o with
 | none=>.e0
 | some (l,_)=>iW l
def Pi (o:Option (List Int×Nat)):List Int:=match o with
 | none=>[]
 | some (l,_)=>l
theorem AQ (o:Option (List Int×Nat)):zg o= .tup [zm o,Bo o.isSome]:=by
 rcases o with _ | ⟨l,n⟩<;>rfl
theorem pB (o:Option (List Int×Nat)):IV (zm o) (Pi o):=by
 rcases o with _ | ⟨l,n⟩
 ·exact .inr ⟨rfl,rfl⟩
 ·simp only [zm,Pi,iW];split
  ·rename_i h;subst h;exact .inr ⟨rfl,rfl⟩
  ·exact .inl rfl
theorem AR (o:Option (List Int×Nat)):zm o= .e0\/∃cs,zm o= .sl cs.length cs/\belowL 0 cs=true:=by
 rcases o with _ | ⟨l,n⟩
 ·exact .inl rfl
 ·exact Gn l
theorem Pj {g:Gm}(ha:AOk g)(h3:g.k+1<=3):AOk (gK g (g.k+1)):=by
 have hk:=ha.ok.k1;have hc:chkE (gK g (g.k+1))=0:=OJ ha.chk (by omega) h3
 have hr:(redP (gK g (g.k+1))).2=true:=by
  have h1:=ha.red;unfold redP at h1 |-;rw [if_pos ha.chk] at h1;rw [if_pos hc];exact h1
 have hl:(leftR (gK g (g.k+1))).2=false:=by
  have h1:=ha.left;unfold leftR at h1 |-;rw [if_pos ha.chk] at h1;rw [if_pos hc];exact h1
 exact ⟨br hc,hc,hr,hl,wO (g:=g) (h:=gK g (g.k+1)) ha.ok (br hc) rfl rfl (by show g.k<=g.k+1;omega) ha.conf⟩
theorem Pk {g:Gm}{k:Int}{n:Nat}{st:List Int}{w:List UInt8}{l:List Int}(h:Der g n st w l):Der (gK g k) n st w l:=by
 induction h with
 | nil=>exact .nil
 | tok b h hb d ih=>exact .tok b h hb ih
 | non i h hi hl d ih=>exact .non i h hi hl ih
theorem MK {g:Gm}{k:Int}{n:Nat}{st:List Int}{w:List UInt8}{l:List Int}(h:Der (gK g k) n st w l):Der g n st w l:=by
 induction h with
 | nil=>exact .nil
 | tok b h hb d ih=>exact .tok b h hb ih
 | non i h hi hl d ih=>exact .non i h hi hl ih
theorem jO {g:Gm}(hg:GOk g):∀s∈[g.t],0<=s/\s < g.t+g.n:=fun s hs=>by
 have:=hg.t1;have:=hg.n1;simp only [List.mem_singleton] at hs;subst hs;omega
theorem GN {g h:Gm}(ha:AOk g)(hb:AOk h)(ht:h.t=g.t)(gh:∀n w l,Der g n [g.t] w l↔Der h n [g.t] w l){F:Nat}{w:List UInt8}{o o':Option (List Int×Nat)}(r:runM g (aK g) F w [g.t]=some o)(r':runM h (aK h) F w [h.t]=some o'):o=o':=by
 have e1:∀l n,o=some (l,n)->o'=some (l,n):=fun l n e=>by
  subst e;obtain ⟨r1,hn⟩:=fE _ _ _ _ _ r;have d:=(gh _ _ _).1 (u6 r1);rw [<-ht] at d;have:=u5 (u7 hb d (jO hb.ok) (lJ hb.ok)) F hn;rw [this] at r';simpa using r'.symm
 have e2:∀l n,o'=some (l,n)->o=some (l,n):=fun l n e=>by
  subst e;obtain ⟨r1,hn⟩:=fE _ _ _ _ _ r';have d:=u6 r1;rw [ht] at d;have d:=(gh _ _ _).2 d;have:=u5 (u7 ha d (jO ha.ok) (lJ ha.ok)) F hn;rw [this] at r;simpa using r.symm
 rcases o with _ | ⟨l,n⟩
 ·rcases o' with _ | ⟨l,n⟩
  ·rfl
  ·exact absurd (e2 l n rfl) (by simp)
 ·exact (e1 l n rfl).symm
theorem AU {tv:AV}{T:Ss}(hT:TV tv T):tv= .e0\/∃m cs,tv= .sl m cs:=by
 rcases hT with ⟨rfl,_⟩ | ⟨cs,rfl,_⟩
 ·exact .inl rfl
 ·exact .inr ⟨_,_,rfl⟩
theorem vc {g:Gm}(ha:AOk g)(hc:ce g<=65536)(hl:g.ps.length<=1000000)(hr:∀p∈g.ps,p.r.length<=1000000){s:List UInt8}(hs:s.length<=14):
  ∃tv o,aj X A 0 0 12 [gV g] []=some (.agg [tv],[])/\TV tv (aK g)/\runM g (aK g) 1000000 s [g.t]=some o/\aj X A 0 0 11 [gV g,.agg [tv],Sg s] []=some (zg o,[])/\aj X A 0 0 19 [gV g,.agg [tv],Sg s] []=some (Cr o,[]):=by
 obtain ⟨tv,k12,hT⟩:=iY (lk:=0) (lim:=0) (H:=[]) (Nat.le_refl _) g hl hr;rw [show eW g=aK g from if_pos ((ip ha.chk).2 ha.conf)] at hT;obtain ⟨o,ho⟩:=GL ha hc hs;have hro:jN g (aK g) o=o:=if_pos ⟨mW.2 ha,hc,rfl⟩;have k11:=gS (lk:=0) (lim:=0) (H:=[]) (Nat.le_refl _) g hl hr hT s (by omega) (F:=1000000) (Nat.le_refl _) fun _ _=>ho
 have k19:=mY (lk:=0) (lim:=0) (H:=[]) (Nat.le_refl _) g hl hr hT s (by omega) (F:=1000000) (Nat.le_refl _) fun _ _=>ho
 rw [hro] at k11 k19;exact ⟨tv,o,k12,hT,ho,k11,k19⟩
end Go.Proofs.YtkllbcjanneppaaGreat
