/- LightNfa: walked to the end. -/
import Derived.Test.YtnhennjliinplaaX
set_option linter.all false
namespace Go.Proofs.Ytnhennjliinplaa
open Go Go.Hm
def l16 : AC:=.regN [1,2,5] [
 kF 27 0 2,kS 28 2 27,kN 29 28,kM 30 1,kx 31 (.bini .leq (ux 29) (ux 30)),kM 32 31,yF 33 32 1 2,yS 34 32 2 33,yN 35 32 34,yM 36 32 1,ky 37 32 (.bini .leq (ux 35) (ux 36)),kx 38 (.pick (ux 32) (ux 37) cF),kM 39 38,yF 40 39 2 2,yS 41 39 2 40,yN 42 39 41,yM 43 39 1,ky 44 39 (.bini .leq (ux 42) (ux 43)),kx 45 (.pick (ux 39) (ux 44) cF),kM 46 45,yM 47 46 5,yM 48 46 1,yM 49 46 1,ky 50 46 (.bini .mul (ux 48) (ux 49)),ky 51 46 (.bini .leq (ux 47) (ux 50)),kx 52 (.pick (ux 46) (ux 51) cF),kM 4 52]
section
variable {C : Orc} {Q : Ex → Kt} {E : Env} {lk lim m : Nat} {H : Heap} {N : Nf} {cv nv rv sv : AV} {vs : List AV}
set_option maxRecDepth 20000 in
theorem l16a {t k : Nat} {cl : List AV} {nx : List (List Int)} {rl : List Int} (hc : (cv = .e0 ∧ k = 0) ∨ cv = .sl k cl) (hn : (nv = .e0 ∧ nx = []) ∨ nv = .sl nx.length vs) (hr : RowI rv rl) (hm : m ≤ 1000) (h1 : ¬ k ≤ m)
  (hE : restrict [1,2,5] E = [(1,I m),(2,.box [cv,nv,rv]),(5,I t)])
  (hQ : ∀ E',find E' 4 = Bo false → Q .nrm E' H) :
  WB ⟨C,lk,lim,[2]⟩ l16 Q E H:=by
 have h0 : (0 : Int) ≤ (m : Int):=by omega
 unfold l16
 rw [wb_regN,hE]
 obtain rfl : cv = .sl k cl:=by
  rcases hc with ⟨_,h⟩ | h
  ·omega
  ·exact h
 iterate 27 (rw [wr_cons];simp [-wr_cons,-wr_nil,h0,h1])
 rw [wr_nil]
 exact hQ _ rfl
set_option maxRecDepth 20000 in
theorem l16b {t k : Nat} {cl : List AV} {nx : List (List Int)} {rl : List Int} (hc : (cv = .e0 ∧ k = 0) ∨ cv = .sl k cl) (hn : (nv = .e0 ∧ nx = []) ∨ nv = .sl nx.length vs) (hr : RowI rv rl) (hm : m ≤ 1000) (h1 : k ≤ m) (h2 : ¬ nx.length ≤ m)
  (hE : restrict [1,2,5] E = [(1,I m),(2,.box [cv,nv,rv]),(5,I t)])
  (hQ : ∀ E',find E' 4 = Bo false → Q .nrm E' H) :
  WB ⟨C,lk,lim,[2]⟩ l16 Q E H:=by
 have h0 : (0 : Int) ≤ (m : Int):=by omega
 unfold l16
 rw [wb_regN,hE]
 obtain rfl : nv = .sl nx.length vs:=by
  rcases hn with ⟨_,h⟩ | h
  ·rw [h] at h2;simp at h2
  ·exact h
 rcases hc with ⟨rfl,hc0⟩ | rfl
 all_goals
  iterate 27 (rw [wr_cons];simp [-wr_cons,-wr_nil,h0,h1,h2])
  rw [wr_nil]
  exact hQ _ rfl
set_option maxRecDepth 20000 in
theorem l16c {t k : Nat} {cl : List AV} {nx : List (List Int)} {rl : List Int} (hc : (cv = .e0 ∧ k = 0) ∨ cv = .sl k cl) (hn : (nv = .e0 ∧ nx = []) ∨ nv = .sl nx.length vs) (hr : RowI rv rl) (hm : m ≤ 1000) (h1 : k ≤ m) (h2 : nx.length ≤ m) (h3 : ¬ rl.length ≤ m)
  (hE : restrict [1,2,5] E = [(1,I m),(2,.box [cv,nv,rv]),(5,I t)])
  (hQ : ∀ E',find E' 4 = Bo false → Q .nrm E' H) :
  WB ⟨C,lk,lim,[2]⟩ l16 Q E H:=by
 have h0 : (0 : Int) ≤ (m : Int):=by omega
 unfold l16
 rw [wb_regN,hE]
 obtain rfl : rv = .sl rl.length (ints rl):=by
  rcases hr with ⟨_,h⟩ | h
  ·rw [h] at h3;simp at h3
  ·exact h
 rcases hc with ⟨rfl,hc0⟩ | rfl <;> rcases hn with ⟨rfl,hn0⟩ | rfl
 all_goals
  iterate 27 (rw [wr_cons];simp [-wr_cons,-wr_nil,h0,h1,h2,h3])
  rw [wr_nil]
  exact hQ _ rfl
set_option maxRecDepth 20000 in
theorem l16d {t k : Nat} {cl : List AV} {nx : List (List Int)} {rl : List Int} (hc : (cv = .e0 ∧ k = 0) ∨ cv = .sl k cl) (hn : (nv = .e0 ∧ nx = []) ∨ nv = .sl nx.length vs) (hr : RowI rv rl) (hm : m ≤ 1000) (h1 : k ≤ m) (h2 : nx.length ≤ m) (h3 : rl.length ≤ m) {b : Bool} (hb : decide (t ≤ m * m) = b)
  (hE : restrict [1,2,5] E = [(1,I m),(2,.box [cv,nv,rv]),(5,I t)])
  (hQ : ∀ E',find E' 4 = Bo b → Q .nrm E' H) :
  WB ⟨C,lk,lim,[2]⟩ l16 Q E H:=by
 have hmm : m * m ≤ 1000000:=Nat.mul_le_mul hm hm
 have w : IntKind.i64.wrap ((m : Int) * (m : Int)) = ((m * m : Nat) : Int):=by
  have e : ((m : Int) * (m : Int)) = ((m * m : Nat) : Int):=by simp
  rw [e,wrap64 (by omega) (by omega)]
 have h0 : (0 : Int) ≤ (m : Int):=by omega
 unfold l16
 rw [wb_regN,hE]
 rcases hc with ⟨rfl,hc0⟩ | rfl <;> rcases hn with ⟨rfl,hn0⟩ | rfl <;> rcases hr with ⟨rfl,hr0⟩ | rfl
 all_goals
  iterate 27 (rw [wr_cons];simp [-wr_cons,-wr_nil,-Int.natCast_mul,h0,h1,h2,h3,w,hb])
  rw [wr_nil]
  exact hQ _ rfl
theorem l16_ok {t : Nat} (hN : NfOk N cv nv rv vs) (hm : m ≤ 1000)
  (hE : restrict [1,2,5] E = [(1,I m),(2,.box [cv,nv,rv]),(5,I t)])
  (hQ : ∀ E',find E' 4 = Bo (decide (N.k ≤ m) && (decide (N.nx.length ≤ m) && (decide (N.rl.length ≤ m) && decide (t ≤ m * m)))) → Q .nrm E' H) :
  WB ⟨C,lk,lim,[2]⟩ l16 Q E H:=by
 by_cases h1 : N.k ≤ m
 case neg => exact l16a hN.c hN.n hN.r hm h1 hE fun E' h => hQ E' (by rw [h,decide_eq_false h1];rfl)
 by_cases h2 : N.nx.length ≤ m
 case neg => exact l16b hN.c hN.n hN.r hm h1 h2 hE fun E' h => hQ E' (by rw [h,decide_eq_true h1,decide_eq_false h2];rfl)
 by_cases h3 : N.rl.length ≤ m
 case neg => exact l16c hN.c hN.n hN.r hm h1 h2 h3 hE fun E' h => hQ E' (by rw [h,decide_eq_true h1,decide_eq_true h2,decide_eq_false h3];rfl)
 refine l16d hN.c hN.n hN.r hm h1 h2 h3 rfl hE fun E' h => hQ E' ?_
 rw [h,decide_eq_true h1,decide_eq_true h2,decide_eq_true h3]
 rfl
theorem e16 : t16B = .seq (.regN [0,1] [kB 2 3 0,kx 4 (.mv cF)]) (.seq (.regN [1,2] [kZ 5]) (.seq (.seq (.regN [1,2,5] [kZ 6]) (.block 0 (.loop [1,2,5,6] t16L1))) (.seq l16 .ret))):=rfl
theorem light16 (hN : NfOk N cv nv rv vs) (hB : ∀ l ∈ N.nx,l.length ≤ 1000000000000000) (hm : m ≤ 1000) : callW X A lk lim 16 [.agg [cv,nv,rv],I m] H = some (Bo (lightN m N),H):=by
 have hX : X lk lim 16 [.agg [cv,nv,rv],I m] H = none:=noX1 (by decide) (by decide) (by decide)
 refine wb_callB [2] hX A16 rfl (by simp [argOk]) ?_
 show WB ⟨callW X A,lk,H.length,[2]⟩ t16B _ _ _
 generalize callW X A = C
 generalize hP : FinT [.tmp 4] true H (Bo (lightN m N),H) = P
 have hl : ∀ env,restrict [1,2,5,6] env = [(1,I m),(2,.box [cv,nv,rv]),(5,I 0),(6,I 0)] → WB ⟨C,lk,H.length,[2]⟩ (.block 0 (.loop [1,2,5,6] t16L1)) (Fol ⟨C,lk,H.length,[2]⟩ (.seq l16 .ret) P) env H:=fun env hE =>
  tot16 hN hB hm hE fun E' hE' => by
   rw [fol_nrm,wb_seq]
   refine l16_ok hN hm hE' fun E2 h4 => ?_
   rw [fol_nrm,wb_ret,← hP]
   have h4 : find E2 4 = Bo (lightN m N):=h4
   simp [FinT,finish,resOf,resList,resOne,h4,frz,below]
 rw [e16]
 generalize (.block 0 (.loop [1,2,5,6] t16L1) : AC) = LL at hl ⊢
 generalize (.seq l16 .ret : AC) = TT at hl ⊢
 simp
 exact hl _ rfl
end
end Go.Proofs.Ytnhennjliinplaa
