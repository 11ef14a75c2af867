/- nfa.Check: walked. -/
import Derived.Test.YtnhennjliinplaaQ
set_option linter.all false
namespace Go.Proofs.Ytnhennjliinplaa
open Go Go.Hm

def risK (k : Nat) : Int → List Int → Bool
 | _,[] => true
 | last,t :: r => decide (last < t) && (decide (t < (k : Int)) && risK k t r)
theorem risK_in {k : Nat} : ∀ (l : List Int) (last : Int),0 ≤ last → risK k last l = true → InB k l
 | [],_,_,_ => in_nil
 | t :: r,last,h0,h => by
  simp only [risK,Bool.and_eq_true,decide_eq_true_eq] at h
  intro z hz
  rcases List.mem_cons.1 hz with rfl | hz
  ·omega
  ·exact risK_in r t (by omega) h.2.2 z hz
def badH (N : Nf) : Bool:=decide ((N.k : Int) < 1) || (decide ((1024 : Int) < (N.k : Int)) || (decide ((N.nx.length : Int) ≠ (N.k : Int)) || (decide ((N.rl.length : Int) ≠ (N.k : Int)) || !zC (N.cl.take 4))))
def g14 : AC:=.regN [1,3] [
 kM 12 3,kx 13 (.bini .lss (ux 12) c1),kM 14 13,zM 15 14 3,kz 16 14 (.bini .gtr (ux 15) (.con (.val (.int .i64 1024)))),kO 17 14 16,kM 18 17,zF 19 18 1 1,zS 20 18 1 19,zN 21 18 20,zM 22 18 3,kz 23 18 (.bini .neq (ux 21) (ux 22)),kO 24 18 23,kM 25 24,zF 26 25 2 1,zS 27 25 1 26,zN 28 25 27,zM 29 25 3,kz 30 25 (.bini .neq (ux 28) (ux 29)),kO 31 25 30,kM 32 31,zF 33 32 0 1,zS 34 32 1 33,kz 35 32 (.ixA 4 (ux 34) c0),kz 36 32 (.ldA none 4 (ux 35)),kz 37 32 (.build [(.val (.int .u64 0)),(.val (.int .u64 0)),(.val (.int .u64 0)),(.val (.int .u64 0))] []),kz 38 32 (.eqa true [1,1,1,1] (ux 36) (ux 37)),kO 39 32 38]
theorem eqz (a b c d : Int) : eqCells [1,1,1,1] [U a,U b,U c,U d] [AV.val (Value.int IntKind.u64 0),AV.val (Value.int IntKind.u64 0),AV.val (Value.int IntKind.u64 0),AV.val (Value.int IntKind.u64 0)] = some (zC [U a,U b,U c,U d]):=by
 have e : ∀ a : Int,eqScalar 1 (Value.int IntKind.u64 a) (Value.int IntKind.u64 0) = some (a == 0):=fun a => by simp [eqScalar]
 simp [eqCells,e,zC]
section
variable {C : Orc} {Q : Ex → Kt} {E : Env} {lk lim b i n : Nat} {H : Heap} {N : Nf} {cv nv rv sv lv : AV} {vs : List AV} {l hit : List Int}
set_option maxRecDepth 20000 in
theorem g14_ok (hN : NfOk N cv nv rv vs) (hE : restrict [1,3] E = [(1,.box [cv,nv,rv]),(3,I N.k)])
  (hQ : ∀ E',restrict [1,3] E' = [(1,.box [cv,nv,rv]),(3,I N.k)] → find E' 39 = Bo (badH N) → Q .nrm E' H) :
  WB ⟨C,lk,lim,[1]⟩ g14 Q E H:=by
 obtain ⟨B,hB⟩ : ∃ B,badH N = B:=⟨_,rfl⟩
 rw [hB] at hQ
 unfold badH at hB
 unfold g14
 rw [wb_regN,hE]
 obtain ⟨hc,hlc,hu,hn,hv,hr⟩:=hN
 obtain ⟨k,cl,nx,rl⟩:=N
 dsimp only at *
 by_cases h1 : (k : Int) < 1
 ·iterate 28 (rw [wr_cons];simp [-wr_cons,-wr_nil,h1])
  rw [wr_nil]
  exact hQ _ rfl (by rw [← hB];simp [find,h1])
 by_cases h2 : (1024 : Int) < (k : Int)
 ·iterate 28 (rw [wr_cons];simp [-wr_cons,-wr_nil,h1,h2])
  rw [wr_nil]
  exact hQ _ rfl (by rw [← hB];simp [find,h1,h2])
 obtain rfl : cv = .sl k cl:=by
  rcases hc with ⟨_,h⟩ | h
  ·omega
  ·exact h
 obtain ⟨a,b',c,d,hcl,h4⟩:=cls_at (t:=0) hlc hu (by omega)
 rw [Nat.zero_mul,List.drop_zero] at hcl
 have hez:=eqz a b' c d
 rw [← hcl] at hez
 have h04 : 4 ≤ cl.length:=by omega
 have hk0 : 0 < k:=by omega
 generalize zC (cl.take 4) = zb at hez hB
 by_cases h3 : (nx.length : Int) = (k : Int)
 case neg =>
  rcases hn with ⟨rfl,h⟩ | rfl
  ·have e3 : ((0 : Int) != (k : Int)) = true:=by simp;omega
   iterate 28 (rw [wr_cons];simp [-wr_cons,-wr_nil,h1,h2,e3])
   rw [wr_nil]
   exact hQ _ rfl (by rw [← hB];simp [find,h3])
  ·have e3 : ((nx.length : Int) != (k : Int)) = true:=by simpa using h3
   iterate 28 (rw [wr_cons];simp [-wr_cons,-wr_nil,h1,h2,e3])
   rw [wr_nil]
   exact hQ _ rfl (by rw [← hB];simp [find,h3])
 have e3 : ((nx.length : Int) != (k : Int)) = false:=by simpa using h3
 obtain rfl : nv = .sl nx.length vs:=by
  rcases hn with ⟨_,h⟩ | h
  ·subst h;simp at h3;omega
  ·exact h
 by_cases h5 : (rl.length : Int) = (k : Int)
 case neg =>
  rcases hr with ⟨rfl,h⟩ | rfl
  ·have e5 : ((0 : Int) != (k : Int)) = true:=by simp;omega
   iterate 28 (rw [wr_cons];simp [-wr_cons,-wr_nil,h1,h2,e3,e5])
   rw [wr_nil]
   exact hQ _ rfl (by rw [← hB];simp [find,h5])
  ·have e5 : ((rl.length : Int) != (k : Int)) = true:=by simpa using h5
   iterate 28 (rw [wr_cons];simp [-wr_cons,-wr_nil,h1,h2,e3,e5])
   rw [wr_nil]
   exact hQ _ rfl (by rw [← hB];simp [find,h5])
 have e5 : ((rl.length : Int) != (k : Int)) = false:=by simpa using h5
 obtain rfl : rv = .sl rl.length (ints rl):=by
  rcases hr with ⟨_,h⟩ | h
  ·subst h;simp at h5;omega
  ·exact h
 iterate 28 (rw [wr_cons];simp [-wr_cons,-wr_nil,h1,h2,e3,e5,hk0,h04,hez])
 rw [wr_nil]
 exact hQ _ rfl (by rw [← hB];simp [find,h1,h2,h3,h5])
set_option maxRecDepth 20000 in
theorem ris_in {k : Nat} {v4 v41 v42 v43 : AV} (hl : RowI lv l) (hln : l.length ≤ 1000000)
  (hE : restrict [1,3,4,6,41,42,43,48,49,50] E = [(1,.box [cv,nv,rv]),(3,I k),(4,v4),(6,I 0),(41,v41),(42,v42),(43,v43),(48,lv),(49,I l.length),(50,I 0)])
  (hQ : risK k 0 l = true → ∀ E',restrict [1,3,4,41,42,43] E' = [(1,.box [cv,nv,rv]),(3,I k),(4,v4),(41,v41),(42,v42),(43,v43)] → Q .nrm E' H)
  (hR : risK k 0 l = false → Q .ret [(2,I 2)] H) :
  WB ⟨C,lk,lim,[1]⟩ (.block 2 (.loop [1,3,4,6,41,42,43,48,49,50] t14L1)) Q E H:=by
 refine wb_loop (σ:=Nat × Int) (fun z => [(1,.box [cv,nv,rv]),(3,I k),(4,v4),(6,I z.2),(41,v41),(42,v42),(43,v43),(48,lv),(49,I l.length),(50,I z.1)]) (fun _ => H)
  (fun z => z.1 ≤ l.length ∧ risK k z.2 (l.drop z.1) = risK k 0 l) (fun z => l.length - z.1) ?_ (0,0) ⟨Nat.zero_le _,rfl⟩ hE rfl
 rintro ⟨j,last⟩ ⟨hj,hf⟩
 dsimp only at hj hf ⊢
 unfold t14L1
 by_cases hk : j < l.length
 case neg =>
  obtain rfl : j = l.length:=by omega
  rw [List.drop_length] at hf
  generalize hP : Rnd _ _ _ _ _ _ _ = P
  simp
  rw [← hP]
  exact hQ hf.symm _ rfl
 obtain ⟨t,htj⟩ : ∃ t,l[j] = t:=⟨_,rfl⟩
 obtain rfl : lv = .sl l.length (ints l):=by
  rcases hl with ⟨_,h⟩ | h
  ·subst h;simp at hk
  ·exact h
 rw [List.drop_eq_getElem_cons hk,htj] at hf
 simp only [risK] at hf
 have hii : (ints l)[j]'(by rw [ints_len];exact hk) = I t:=by simp [ints,htj]
 have w : IntKind.i64.wrap ((j : Int) + 1) = (j : Int) + 1:=wrap64 (by omega) (by omega)
 generalize hP : Rnd _ _ _ _ _ _ _ = P
 by_cases h1 : t ≤ last
 ·rw [decide_eq_false (by omega),Bool.false_and] at hf
  simp [hk,hii,h1]
  rw [← hP]
  exact hR hf.symm
 ·by_cases h2 : (k : Int) ≤ t
  ·rw [decide_eq_true (by omega),decide_eq_false (by omega),Bool.false_and,Bool.and_false] at hf
   simp [hk,hii,h1,h2]
   rw [← hP]
   exact hR hf.symm
  ·rw [decide_eq_true (by omega),decide_eq_true (by omega),Bool.true_and,Bool.true_and] at hf
   simp [hk,hii,h1,h2,w]
   rw [← hP,rnd_nrm]
   exact ⟨(j + 1,t),⟨hk,hf⟩,by show l.length - (j + 1) < l.length - j;omega,rfl,rfl⟩
def chkZ (k : Nat) : List (List Int) → List Int → Bool
 | l :: nx,r :: rl => risK k 0 l && (decide (-1 ≤ r) && (decide (r < 16) && chkZ k nx rl))
 | _,_ => true
def h14 : AC:=.regN [1,3,4,41,42,43] [
 kF 64 2 1,kS 65 1 64,kM 66 4,kI 67 1 65 66,kL 68 67,kx 69 (.bini .lss (ux 68) (.con (.val (.int .i64 (-1))))),kM 70 69,zF 71 70 2 1,zS 72 70 1 71,zM 73 70 4,zI 74 70 1 72 73,zL 75 70 74,kz 76 70 (.bini .geq (ux 75) (.con (.val (.int .i64 16)))),kO 77 70 76]
theorem e142 : t14L2 = .seq (.regN [1,3,41,42,43] [kT 44 43 42]) (.seq (.cond (ux 44) .skip (.exit 0)) (.seq (.block 1
 (.seq (.regN [1,3,41,42,43] [kM 45 43,kI 46 1 41 43,kL 47 46,kM 4 45,kM 5 47])
 (.seq (.regN [1,3,4,5,41,42,43] [kZ 6])
 (.seq (.seq (.regN [1,3,4,5,6,41,42,43] [kM 48 5,kN 49 48,kZ 50]) (.block 2 (.loop [1,3,4,6,41,42,43,48,49,50] t14L1)))
 (.seq h14 (.cond (ux 77) (.seq (.regN [] [kx 2 (.mv (.con (.val (.int .i64 2))))]) .ret) .skip))))))
 (.regN [1,3,41,42,43] [kU 78 43,kM 43 78]))):=rfl
set_option maxRecDepth 20000 in
theorem rows14 (hN : NfOk N cv nv rv vs) (hx : ∀ l ∈ N.nx,l.length ≤ 1000000) (hk2 : N.nx.length ≤ 1000000) (hr : N.rl.length = N.nx.length)
  (hE : restrict [1,3,41,42,43] E = [(1,.box [cv,nv,rv]),(3,I N.k),(41,nv),(42,I N.nx.length),(43,I 0)])
  (hQ : chkZ N.k N.nx N.rl = true → ∀ E',Q .nrm E' H) (hR : chkZ N.k N.nx N.rl = false → Q .ret [(2,I 2)] H) :
  WB ⟨C,lk,lim,[1]⟩ (.block 0 (.loop [1,3,41,42,43] t14L2)) Q E H:=by
 refine wb_loop (σ:=Nat) (fun i => [(1,.box [cv,nv,rv]),(3,I N.k),(41,nv),(42,I N.nx.length),(43,I i)]) (fun _ => H)
  (fun i => i ≤ N.nx.length ∧ chkZ N.k (N.nx.drop i) (N.rl.drop i) = chkZ N.k N.nx N.rl) (fun i => N.nx.length - i) ?_ 0 ⟨Nat.zero_le _,rfl⟩ hE rfl
 rintro i ⟨hi,hf⟩
 by_cases hk : i < N.nx.length
 case neg =>
  obtain rfl : i = N.nx.length:=by omega
  rw [List.drop_length] at hf
  unfold t14L2
  generalize hP : Rnd _ _ _ _ _ _ _ = P
  simp
  rw [← hP]
  exact hQ (by rw [← hf];simp [chkZ]) _
 obtain ⟨l,hkk⟩ : ∃ l,N.nx[i]? = some l:=⟨N.nx[i],List.getElem?_eq_getElem hk⟩
 obtain ⟨lv,hlv,hrow⟩:=hN.v i l hkk
 have hlen:=hx l (List.mem_of_getElem? hkk)
 have hir : i < N.rl.length:=by omega
 obtain ⟨r,hri⟩ : ∃ r,N.rl[i] = r:=⟨_,rfl⟩
 have hrr : (ints N.rl)[i]'(by rw [ints_len];exact hir) = I r:=by simp [ints,hri]
 have hkk2:=(List.getElem?_eq_some_iff.1 hkk).2
 rw [List.drop_eq_getElem_cons hk,List.drop_eq_getElem_cons hir,hkk2,hri] at hf
 simp only [chkZ] at hf
 obtain rfl : nv = .sl N.nx.length vs:=by
  rcases hN.n with ⟨_,h⟩ | h
  ·rw [h] at hk;simp at hk
  ·exact h
 obtain rfl : rv = .sl N.rl.length (ints N.rl):=by
  rcases hN.r with ⟨_,h⟩ | h
  ·rw [h] at hir;simp at hir
  ·exact h
 have w : IntKind.i64.wrap ((i : Int) + 1) = (i : Int) + 1:=wrap64 (by omega) (by omega)
 rw [e142]
 generalize hP : Rnd _ _ _ _ _ _ _ = P
 have hret : chkZ N.k N.nx N.rl = false → P .ret [(2,I 2)] H:=fun h => by rw [← hP];exact hR h
 have hnext : chkZ N.k (N.nx.drop (i + 1)) (N.rl.drop (i + 1)) = chkZ N.k N.nx N.rl → ∀ E',restrict [1,3,41,42,43] E' = [(1,.box [cv,.sl N.nx.length vs,.sl N.rl.length (ints N.rl)]),(3,I N.k),(41,.sl N.nx.length vs),(42,I N.nx.length),(43,I ((i + 1 : Nat) : Int))] → P .nrm E' H:=fun h E' hE' => by
  rw [← hP,rnd_nrm]
  exact ⟨i + 1,⟨hk,h⟩,by omega,hE',rfl⟩
 clear hP hE hQ hR
 have tail : risK N.k 0 l = true → ∀ E',restrict [1,3,4,41,42,43] E' = [(1,.box [cv,.sl N.nx.length vs,.sl N.rl.length (ints N.rl)]),(3,I N.k),(4,I i),(41,.sl N.nx.length vs),(42,I N.nx.length),(43,I i)] →
   WB ⟨C,lk,lim,[1]⟩ (.seq h14 (.cond (ux 77) (.seq (.regN [] [kx 2 (.mv (.con (.val (.int .i64 2))))]) .ret) .skip)) (BlkE 1 (Fol ⟨C,lk,lim,[1]⟩ (.regN [1,3,41,42,43] [kU 78 43,kM 43 78]) P)) E' H:=by
  intro hris E' hE'
  rw [hris,Bool.true_and] at hf
  unfold h14
  rw [wb_seq,wb_regN,hE']
  by_cases h1 : r < -1
  ·rw [decide_eq_false (by omega),Bool.false_and] at hf
   simp [hir,hrr,h1]
   exact hret hf.symm
  ·by_cases h2 : 16 ≤ r
   ·rw [decide_eq_true (by omega),decide_eq_false (by omega),Bool.false_and,Bool.and_false] at hf
    simp [hir,hrr,h1,h2]
    exact hret hf.symm
   ·rw [decide_eq_true (by omega),decide_eq_true (by omega),Bool.true_and,Bool.true_and] at hf
    simp [hir,hrr,h1,h2,w]
    exact hnext hf _ rfl
 generalize (.seq h14 (.cond (ux 77) (.seq (.regN [] [kx 2 (.mv (.con (.val (.int .i64 2))))]) .ret) .skip) : AC) = TT at tail ⊢
 have inner : ∀ E',restrict [1,3,4,6,41,42,43,48,49,50] E' = [(1,.box [cv,.sl N.nx.length vs,.sl N.rl.length (ints N.rl)]),(3,I N.k),(4,I i),(6,I 0),(41,.sl N.nx.length vs),(42,I N.nx.length),(43,I i),(48,lv),(49,I l.length),(50,I 0)] →
   WB ⟨C,lk,lim,[1]⟩ (.block 2 (.loop [1,3,4,6,41,42,43,48,49,50] t14L1)) (Fol ⟨C,lk,lim,[1]⟩ TT (BlkE 1 (Fol ⟨C,lk,lim,[1]⟩ (.regN [1,3,41,42,43] [kU 78 43,kM 43 78]) P))) E' H:=fun E' hE' =>
  ris_in hrow hlen hE' (fun hris E2 hE2 => by rw [fol_nrm];exact tail hris E2 hE2) (fun hris => by
   rw [hris,Bool.false_and] at hf
   exact hret hf.symm)
 generalize (.block 2 (.loop [1,3,4,6,41,42,43,48,49,50] t14L1) : AC) = LL at inner ⊢
 rcases hrow with ⟨rfl,rfl⟩ | rfl
 ·simp [hk,hlv]
  exact inner _ rfl
 ·simp [hk,hlv]
  exact inner _ rfl
end
end Go.Proofs.Ytnhennjliinplaa
