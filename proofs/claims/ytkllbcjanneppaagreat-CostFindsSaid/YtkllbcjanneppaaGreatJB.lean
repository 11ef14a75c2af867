import Derived.Test.YtkllbcjanneppaaGreatJA
import Derived.Test.YtkllbcjanneppaaGreatHD
set_option linter.unusedSimpArgs false
set_option linter.unusedVariables false
namespace Go.Proofs.YtkllbcjanneppaaGreat
open Go Go.Hm

theorem jK (t:Int)(o:List Int):∀(r:List Int) (a b:Int),bq t o r (a+b)=(bq t o r a).map (·+b)
 | [],a,b=>rfl
 | s::r,a,b=>by
  simp only [bq];split
  ·rfl
  ·rw [show a+b+o.getD (s - t).toNat 0=a+o.getD (s - t).toNat 0+b by omega,jK t o r]
section
variable {C:Orc}{Q:Ex->Kt}{E:Env}{lk L:Nat}{H:Heap}{t gn k:Int}{ps:List Pr}{n b i j:Nat}{mo:Bool}{pl:Nat}{pr:List Int}{v w s:Int}{o:List Int}
def r6 (mo:Bool)(i pl:Nat)(pr:List Int)(e:Env):Env:=(5,Bo mo)::(6,I i)::(7,.box [I pl,.sl pr.length (ints pr)])::e
end

section
variable {C:Orc}{Q:Ex->Kt}{E:Env}{lk L:Nat}{H:Heap}{t gn k:Int}{ps:List Pr}{n b i j:Nat}{mo:Bool}{pl:Nat}{pr:List Int}{v:Int}{o:List Int}
abbrev n7 (pl:Nat)(pr:List Int):Nat×AV:=(7,.box [I pl,.sl pr.length (ints pr)])
end

section
variable {C:Orc}{Q:Ex->Kt}{E:Env}{lk L:Nat}{H:Heap}{t gn k:Int}{ps:List Pr}{n b i j:Nat}{mo:Bool}{o:List Int}
end

def gj:List Int->Int
 | []=>0
 | x::r=>r.foldl max x
set_option maxRecDepth 20000 in
theorem rh {lk lim:Nat}{H:Heap}(l:List Int)(h0:l≠[])(hl:l.length<=1000000):
  aj X A lk lim 36 [.sl l.length (ints l)] H=some (I (gj l),H):=by
 refine ar [] rfl A36 rfl rfl ?_;unfold N5;generalize aj X A=C;obtain ⟨x,r,rfl⟩:=List.exists_cons_of_ne_nil h0;obtain ⟨l,hx⟩:∃l,x::r=l:=⟨_,rfl⟩;have hR:((x::r).drop 1).foldl max x=gj l:=by rw [<-hx];rfl
 have hp:0 < l.length:=by rw [<-hx];simp
 have hg:∀h,(ints l)[0]'h=I x:=fun h=>by rw [bv hp h];subst hx;rfl
 rw [hx] at hR hl |-;have hle:=aV l;have hn:¬((l.length:Int) < 1):=by omega
 have hn0:¬l=[]:=fun e=>by rw [e] at hp;simp at hp
 simp [-ak,-af,-ap,hn];rw [af rfl,aA,ah,ai,ae];simp [-ap,hg,hle,hp];rw [ap];refine ax (σ:=Nat×Int) (fun s=>[(0,.sl l.length (ints l)),(3,I s.2),(4,I s.1)]) (fun _=>H) (fun s=>1<=s.1/\s.1<=l.length/\(l.drop s.1).foldl max s.2=gj l) (fun s=>l.length - s.1) ?_ (1,x) ⟨Nat.le_refl _,hp,hR⟩ (by simp) rfl
 rintro ⟨i,m⟩ ⟨hi1,hi,hinv⟩;simp only at hi1 hi hinv;unfold Kc;have w1:IntKind.i64.wrap ((i:Int)+1)=(i:Int)+1:=au (by omega) (by omega)
 by_cases hil:i < l.length;case neg=>
  obtain rfl:i=l.length:=by omega
  rw [List.drop_length] at hinv;simp only [List.foldl_nil] at hinv;subst hinv;simp
 rw [List.drop_eq_getElem_cons hil,List.foldl_cons] at hinv;have hgi:=fun h=>bv hil h;generalize l[i]=y at *;have hmx:(if m < y then y else m)=max m y:=by rw [Int.max_def];split<;>split<;>omega
 simp [hil,hgi,hle,bZ,w1,ao,hmx];exact ⟨i+1,max m y,⟨by omega,hil,hinv⟩,by omega,by simp⟩
end Go.Proofs.YtkllbcjanneppaaGreat
