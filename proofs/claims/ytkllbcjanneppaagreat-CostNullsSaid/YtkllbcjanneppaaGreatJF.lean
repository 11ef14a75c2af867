import Derived.Test.YtkllbcjanneppaaGreatJE
set_option maxRecDepth 20000
set_option linter.unusedSimpArgs false
set_option linter.unusedVariables false
namespace Go.Proofs.YtkllbcjanneppaaGreat
open Go Go.Hm

def uV (ps:List Pr):Nat:=ps.foldl (fun m p=>max m p.r.length) 0
def ce (g:Gm):Int:=gj (bL g) * (1+uV g.ps * max 0 (gj (nullM g)))+1
abbrev oW (g:Gm):Int:=if cN g=0 then ce g else 0
theorem Gh:∀(ps:List Pr) (m M:Nat),m<=M->(∀p∈ps,p.r.length<=M)->ps.foldl (fun m p=>max m p.r.length) m<=M
 | [],_,_,h,_=>h
 | p::ps,m,M,h,hp=>Gh ps (max m p.r.length) M (by have:=hp p (by simp);omega) fun q hq=>hp q (by simp [hq])
theorem xm:∀(r:List Int) (x:Int),r.foldl max x=x\/r.foldl max x∈r
 | [],x=>.inl rfl
 | y::r,x=>by
  rcases xm r (max x y) with h | h
  ·by_cases hc:x<=y
   ·exact .inr (by rw [List.foldl_cons,h,Int.max_eq_right hc];simp)
   ·exact .inl (by rw [List.foldl_cons,h];omega)
  ·exact .inr (List.mem_cons_of_mem _ h)
theorem Ay {l:List Int}(h:l≠[]):gj l∈l:=by
 obtain ⟨x,r,rfl⟩:=List.exists_cons_of_ne_nil h;rcases xm r x with e | e
 ·show r.foldl max x∈_;rw [e];simp
 ·exact List.mem_cons_of_mem _ e
theorem nT {g:Gm}(ha:AOk g):bL g≠[]/\nullM g≠[]/\1<=gj (bL g)/\gj (bL g)<=17/\uV g.ps<=8∧-1<=gj (nullM g)/\gj (nullM g)<=40210710958665/\(bL g).length<=16/\(nullM g).length<=16:=by
 have hn:=bn ha.ok;have h1:=ha.ok.n1;have h2:=ha.ok.n2;have hd1:(bL g).length=g.n.toNat:=by simp [bL]
 have hd0:bL g≠[]:=fun e=>by rw [e] at hd1;simp at hd1;omega
 have hn0:nullM g≠[]:=fun e=>by have:=hn.len;rw [e] at this;simp at this;omega
 have hm:=Ay hd0;unfold bL at hm;obtain ⟨i,_,hi⟩:=List.mem_map.1 hm;have h17:=uU ha i;have hm2:=Ay hn0;have h3:uV g.ps<=8:=Gh g.ps 0 8 (by omega) fun p hp=>(ha.ok.p p hp).len
 have hi2:(dptM g i:Int)=gj (bL g):=hi;exact ⟨hd0,hn0,by omega,by omega,h3,hn.lo _ hm2,hn.hi2 ha.ok _ hm2,by omega,by rw [hn.len];omega⟩
section
variable {C:Orc}{Q:Ex->Kt}{E:Env}{lk L:Nat}{H:Heap}{t gn k:Int}{ps:List Pr}{v:AV}{m i:Nat}{d w:Int}{dl nl:List Int}
def k13 (t gn k:Int)(ps:List Pr)(dl:List Int)(m i:Nat):Env:=[(1,.box [I t,I gn,I k,.sl ps.length (psC ps)]),(3,.sl dl.length (ints dl)),(4,I m),(13,.sl ps.length (psC ps)),(14,I ps.length),(15,I i)]
theorem Gi (hl:ps.length<=1000000)(hE:ab [1,3,4,13,14,15] E=k13 t gn k ps dl 0 0)
  (hQ:∀E',ab [1,3,4] E'=[(1,.box [I t,I gn,I k,.sl ps.length (psC ps)]),(3,.sl dl.length (ints dl)),(4,I (uV ps:Nat))]->Q .nrm E' H):
  WB ⟨C,lk,L,[1,6]⟩ (.block 0 (.loop [1,3,4,13,14,15] EC)) Q E H:=by
 rw [ap];refine ax (σ:=Nat×Nat) (fun s=>k13 t gn k ps dl s.2 s.1) (fun _=>H) (fun s=>s.1<=ps.length/\(ps.drop s.1).foldl (fun m p=>max m p.r.length) s.2=uV ps) (fun s=>ps.length - s.1) ?_ (0,0) ⟨Nat.zero_le _,rfl⟩ hE rfl;rintro ⟨i,m⟩ ⟨hi,hinv⟩;simp only at hi hinv;unfold EC k13;have w1:IntKind.i64.wrap ((i:Int)+1)=(i:Int)+1:=au (by omega) (by omega)
 by_cases hil:i < ps.length;case neg=>
  obtain rfl:i=ps.length:=by omega
  rw [List.drop_length] at hinv;simp only [List.foldl_nil] at hinv;subst hinv;simp;refine hQ _ ?_;rfl
 rw [List.drop_eq_getElem_cons hil,List.foldl_cons] at hinv;have hs:=cd hil;simp only [Pr.cells] at hs;have hll:=aY ps;have h2:i * 2+2<=2 * ps.length:=by omega
 generalize ps[i]=p at *;obtain ⟨pl,pr⟩:=p;simp only at hs hinv;have hmx:(if m < pr.length then (pr.length:Int) else (m:Int))=((max m pr.length:Nat):Int):=by split<;>omega
 clear hQ;simp [-bd,hil,hll,hs,h2];rw [bd];simp [an,bZ,hmx,w1,ao];exact ⟨i+1,max m pr.length,⟨by omega,hinv⟩,by omega,by simp⟩
theorem k25 {lg:Nat}{mx mn:Int}(ka:∀K M,C K M 36 [.sl dl.length (ints dl)] H=some (I mx,H))(kb:C lk L 14 [.agg [I t,I gn,I k,.sl ps.length (psC ps)]] H=some (.sl nl.length (ints nl),H))(kc:∀K M,C K M 36 [.sl nl.length (ints nl)] H=some (I mn,H))
  (h1:1<=mx/\mx<=17) (h2:lg<=8) (h3: -1<=mn/\mn<=40210710958665)
  (hE:ab [1,3,4] E=[(1,.box [I t,I gn,I k,.sl ps.length (psC ps)]),(3,.sl dl.length (ints dl)),(4,I lg)])
  (hQ:∀E',find E' 2=I (mx * (1+lg * max 0 mn)+1)->Q .nrm E' H):
  WB ⟨C,lk,L,[1,6]⟩ (.regD [1,3,4] 0 [ kM 25 3,kf 26 (.call 36 [.tmp 25]),kM 27 4,kP 28 1 4 1,kf 29 (.call 14 [.tmp 28]),kf 30 (.call 36 [.tmp 29]),kx 31 (.mm true [c0,(ux 30)]),kx 32 (.bini .mul (ux 27) (ux 31)),kx 33 (.bini .add c1 (ux 32)),kx 34 (.bini .mul (ux 26) (ux 33)),kU 35 34,kM 2 35]) Q E H:=by
 have hmx:(if 0 < mn then mn else 0)=max 0 mn:=by rw [Int.max_def];split<;>split<;>omega
 have hq:0<=max 0 mn/\max 0 mn<=40210710958665:=by omega
 generalize max 0 mn=q at *;have b1:0<=(lg:Int) * q/\(lg:Int) * q<=8 * 40210710958665:=⟨Int.mul_nonneg (by omega) hq.1,Int.mul_le_mul (by omega) hq.2 hq.1 (by omega)⟩
 have w1:IntKind.i64.wrap ((lg:Int) * q)=lg * q:=au (Int.le_trans (by decide) b1.1) (Int.le_trans b1.2 (by decide))
 obtain ⟨p,hp⟩:∃p,(lg:Int) * q=p:=⟨_,rfl⟩;rw [hp] at b1 w1 hQ;have w2:IntKind.i64.wrap (1+p)=1+p:=au (by omega) (by omega)
 have b2:0<=mx * (1+p)/\mx * (1+p)<=17 * (1+8 * 40210710958665):=⟨Int.mul_nonneg (by omega) (by omega),Int.mul_le_mul h1.2 (by omega) (by omega) (by omega)⟩
 obtain ⟨r,hr⟩:∃r,mx * (1+p)=r:=⟨_,rfl⟩;rw [hr] at b2 hQ;have w3:IntKind.i64.wrap r=r:=au (by omega) (by omega)
 have w4:IntKind.i64.wrap (r+1)=r+1:=au (by omega) (by omega)
 rw [aB rfl,hE];simp [ka,kb,kc,bZ,hmx,hp,w1,w2,hr,w3,w4];refine hQ _ ?_;rfl
end
theorem cG {lk lim:Nat}{H:Heap}(hlk:lk<=H.length)(g:Gm)(hl:g.ps.length<=1000000)(hr:∀p∈g.ps,p.r.length<=1000000):
  aj X A lk lim 16 [gV g] H=some (I (oW g),H):=by
 have kd:=fun (L:Nat)=>oG (lk:=lk) (lim:=L) hlk g hl hr;refine ar [1,6] rfl A16 rfl rfl ?_;unfold N3 oW;unfold Ax at kd;by_cases hacc:cN g=0;case neg=>
  rw [if_neg hacc];simp only [if_neg hacc] at kd;generalize aj X A=C at *;obtain ⟨t,gn,k,ps⟩:=g;simp only [gV,Gm.cells] at kd |-;simp [kd]
 rw [if_pos hacc];simp only [if_pos hacc] at kd;have ha:=jL hacc;obtain ⟨q1,q2,q3,q4,q5,q6,q7,q8,q9⟩:=nT ha;have ka:∀K M,aj X A K M 36 [.sl (bL g).length (ints (bL g))] H=some (I (gj (bL g)),H):=fun K M=>rh _ q1 (by omega)
 have kc:∀K M,aj X A K M 36 [.sl (nullM g).length (ints (nullM g))] H=some (I (gj (nullM g)),H):=fun K M=>rh _ q2 (by omega)
 have kb:∀K M,K<=H.length->aj X A K M 14 [gV g] H=some (.sl (nullM g).length (ints (nullM g)),H):=fun K M hK=>by
  have:=oE (lk:=K) (lim:=M) hK g hl hr;rw [show Au g= .sl (nullM g).length (ints (nullM g)) from if_pos hacc] at this;exact this
 unfold ce;generalize aj X A=C at *;generalize bL g=dl at *;generalize nullM g=nl at *;have hd:0 < dl.length:=by cases dl with
  | nil=>exact absurd rfl q1
  | cons=>simp
 have hd2:((dl.length:Int)==0)=false:=by rw [beq_eq_false_iff_ne];omega
 obtain ⟨t,gn,k,ps⟩:=g;simp only [gV,Gm.cells] at kd kb |- q5 hl;simp [-ak,-af,-ap,-ae,-aB];rw [ae];simp [-ak,-af,-ap,-ae,-aB];rw [ae];simp [-ak,-af,-ap,-ae,-aB,kd];rw [ae];simp [-ak,-af,-ap,-ae,-aB,hd2];rw [af rfl,aA,ah,ai,ae];simp [-ap,-aB];refine Gi (dl:=dl) (ps:=ps) (t:=t) (gn:=gn) (k:=k) hl (by simp [k13]) fun E1 h1=>?_
 rw [ah,ai];refine k25 (lg:=uV ps) ka (kb lk _ hlk) kc ⟨q3,q4⟩ q5 ⟨q6,q7⟩ h1 fun E2 h2=>?_;simp [h2]

section
variable {C:Orc}{Q:Ex->Kt}{E:Env}{lk L:Nat}{H:Heap}{t gn k:Int}{ps:List Pr}{d w:Int}{dl nl:List Int}{lg:Nat}
end
end Go.Proofs.YtkllbcjanneppaaGreat
