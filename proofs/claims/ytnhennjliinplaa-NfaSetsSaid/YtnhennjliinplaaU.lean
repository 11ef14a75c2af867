/- nfa.Check, Step, Rule, Run: walked to the end. -/
import Derived.Test.YtnhennjliinplaaS
set_option linter.all false
namespace Go.Proofs.Ytnhennjliinplaa
open Go Go.Hm

def chkF (N : Nf) : Bool:=!badH N && chkZ N.k N.nx N.rl
def SzOk (N : Nf) : Prop:=(∀ l ∈ N.nx,l.length ≤ 1000000) ∧ N.nx.length ≤ 1000000
theorem chkZ_in {k : Nat} : ∀ (nx : List (List Int)) (rl : List Int),nx.length = rl.length → chkZ k nx rl = true → ∀ l ∈ nx,InB k l
 | [],_,_,_ => fun _ h => nomatch h
 | l :: nx,[],h,_ => by simp at h
 | l :: nx,r :: rl,h,hc => by
  simp only [chkZ,Bool.and_eq_true] at hc
  intro x hx
  rcases List.mem_cons.1 hx with rfl | hx
  ·exact risK_in _ 0 (Int.le_refl _) hc.1
  ·exact chkZ_in nx rl (by simpa using h) hc.2.2.2 x hx
theorem badH_get {N : Nf} (h : badH N = false) : 1 ≤ N.k ∧ N.k ≤ 1024 ∧ N.nx.length = N.k ∧ N.rl.length = N.k:=by
 unfold badH at h
 simp only [Bool.or_eq_false_iff,decide_eq_false_iff_not] at h
 omega
theorem chkF_get {N : Nf} (h : chkF N = true) : 1 ≤ N.k ∧ N.k ≤ 1024 ∧ N.nx.length = N.k ∧ N.rl.length = N.k ∧ ∀ l ∈ N.nx,InB N.k l:=by
 unfold chkF at h
 simp only [Bool.and_eq_true,Bool.not_eq_true'] at h
 obtain ⟨h1,h2,h3,h4⟩:=badH_get h.1
 exact ⟨h1,h2,h3,h4,chkZ_in _ _ (by omega) h.2⟩
section
variable {lk lim b : Nat} {H : Heap} {N : Nf} {cv nv rv sv : AV} {vs : List AV} {set : List Int}
theorem NfOk.arg (hN : NfOk N cv nv rv vs) : argOk cv = true ∧ argOk nv = true ∧ argOk rv = true:=by
 refine ⟨?_,?_,?_⟩
 ·rcases hN.c with ⟨rfl,_⟩ | rfl <;> rfl
 ·rcases hN.n with ⟨rfl,_⟩ | rfl <;> rfl
 ·rcases hN.r with ⟨rfl,_⟩ | rfl <;> rfl
def j14 : AC:=.seq (.seq (.regN [1,3] [kF 40 1 1,kS 41 1 40,kN 42 41,kZ 43]) (.block 0 (.loop [1,3,41,42,43] t14L2))) (.seq (.regN [] [kZ 2]) .ret)
theorem e14 : t14B = .seq (.regN [0] [kB 1 3 0,kZ 2]) (.seq (.regN [1] [kF 9 0 1,kS 10 1 9,kN 11 10,kM 3 11]) (.seq (.seq g14 (.cond (ux 39) (.seq (.regN [] [kx 2 (.mv (.con (.val (.int .i64 2))))]) .ret) .skip)) j14)):=rfl
theorem check_nf (hN : NfOk N cv nv rv vs) (hsz : SzOk N) : callW X A lk lim 14 [.agg [cv,nv,rv]] H = some (I (if chkF N then 0 else 2),H):=by
 have hX : X lk lim 14 [.agg [cv,nv,rv]] H = none:=noX1 (by decide) (by decide) (by decide)
 refine wb_callB [1] hX A14 rfl (by simp [argOk]) ?_
 show WB ⟨callW X A,lk,H.length,[1]⟩ t14B _ _ _
 generalize callW X A = C
 generalize hP : FinT [.tmp 2] true H (I (if chkF N then 0 else 2),H) = P
 have fin : ∀ e env,find env 2 = I e → (if chkF N then (0 : Int) else 2) = e → P .ret env H:=by
  intro e env h2 he
  rw [← hP,he]
  simp [FinT,finish,resOf,resList,resOne,h2,frz,below]
 have hj : badH N = false → ∀ env,restrict [1,3] env = [(1,.box [cv,nv,rv]),(3,I N.k)] → WB ⟨C,lk,H.length,[1]⟩ j14 P env H:=by
  intro hb env hE
  obtain ⟨_,_,h3,h4⟩:=badH_get hb
  have hl : ∀ env,restrict [1,3,41,42,43] env = [(1,.box [cv,nv,rv]),(3,I N.k),(41,nv),(42,I N.nx.length),(43,I 0)] → WB ⟨C,lk,H.length,[1]⟩ (.block 0 (.loop [1,3,41,42,43] t14L2)) (Fol ⟨C,lk,H.length,[1]⟩ (.seq (.regN [] [kZ 2]) .ret) P) env H:=fun env hE =>
   rows14 hN hsz.1 hsz.2 (by omega) hE (fun hz E' => by
    rw [fol_nrm]
    simp
    exact fin 0 _ rfl (by unfold chkF;rw [hb,hz];rfl)) (fun hz => by
    rw [fol_ret]
    exact fin 2 _ rfl (by unfold chkF;rw [hb,hz];rfl))
  unfold j14
  generalize (.block 0 (.loop [1,3,41,42,43] t14L2) : AC) = LL at hl ⊢
  rw [wb_seq,wb_seq,wb_regN,hE]
  rcases hN.n with ⟨rfl,h0⟩ | rfl
  ·simp
   exact hl _ (by rw [h0];rfl)
  ·simp
   exact hl _ rfl
 have hg : ∀ env,restrict [1,3] env = [(1,.box [cv,nv,rv]),(3,I N.k)] → WB ⟨C,lk,H.length,[1]⟩ (.seq (.seq g14 (.cond (ux 39) (.seq (.regN [] [kx 2 (.mv (.con (.val (.int .i64 2))))]) .ret) .skip)) j14) P env H:=by
  intro env hE
  rw [wb_seq,wb_seq]
  refine g14_ok hN hE fun E' hE' h39 => ?_
  rw [fol_nrm]
  cases hb : badH N with
  | true =>
   rw [hb] at h39
   rw [wb_true (ev_bo h39)]
   simp
   exact fin 2 _ rfl (by unfold chkF;rw [hb];rfl)
  | false =>
   rw [hb] at h39
   rw [wb_false (ev_bo h39),wb_skip,fol_nrm]
   exact hj hb _ hE'
 rw [e14]
 generalize (.seq (.seq g14 (.cond (ux 39) (.seq (.regN [] [kx 2 (.mv (.con (.val (.int .i64 2))))]) .ret) .skip)) j14 : AC) = TT at hg ⊢
 rcases hN.c with ⟨rfl,h0⟩ | rfl
 ·simp
  exact hg _ (by rw [h0];rfl)
 ·simp
  exact hg _ rfl
theorem rule20 (hN : NfOk N cv nv rv vs) (hsz : SzOk N) (hs : RowI sv set) (hn : set.length ≤ 1000000) : callW X A lk lim 20 [.agg [cv,nv,rv],sv] H = some (I (if chkF N then ruleM N.rl set else -1),H):=by
 have hX : X lk lim 20 [.agg [cv,nv,rv],sv] H = none:=noX1 (by decide) (by decide) (by decide)
 refine wb_callB [2] hX A20 rfl (by rcases hs with ⟨rfl,_⟩ | rfl <;> simp [argOk]) ?_
 show WB ⟨callW X A,lk,H.length,[2]⟩ t20B _ _ _
 have h14:=check_nf (lk:=lk) (lim:=H.length) (H:=H) hN hsz
 have h43:=rule_code (lk:=lk) (lim:=H.length) (H:=H) (cv:=cv) (nv:=nv) hN.r hs ⟨hN.arg.1,hN.arg.2.1⟩ hn
 generalize callW X A = C at h14 h43 ⊢
 unfold t20B
 cases hc : chkF N <;> rw [hc] at h14
 ·rw [if_neg (by decide)] at h14 ⊢
  rcases hs with ⟨rfl,rfl⟩ | rfl <;> simp [h14]
 ·rw [if_pos rfl] at h14 ⊢
  rcases hs with ⟨rfl,rfl⟩ | rfl <;> simp [h14,h43]
def stepV (N : Nf) (set : List Int) (b : Nat) : AV:=if chkF N then rowV (set.foldl (hitS N b) []) else .e0
theorem step17 (hN : NfOk N cv nv rv vs) (hsz : SzOk N) (hs : RowI sv set) (hn : set.length ≤ 1000000) (hb : b ≤ 255) (hlk : lk ≤ H.length) : callW X A lk lim 17 [.agg [cv,nv,rv],sv,.val (.int .u8 b)] H = some (stepV N set b,H):=by
 have hX : X lk lim 17 [.agg [cv,nv,rv],sv,.val (.int .u8 b)] H = none:=noX1 (by decide) (by decide) (by decide)
 refine wb_callB [3] hX A17 rfl (by rcases hs with ⟨rfl,_⟩ | rfl <;> simp [argOk]) ?_
 show WB ⟨callW X A,lk,H.length,[3]⟩ t17B _ _ _
 have h14:=check_nf (lk:=lk) (lim:=H.length) (H:=H) hN hsz
 unfold stepV
 cases hc : chkF N <;> rw [hc] at h14
 ·rw [if_neg (by decide)] at h14 ⊢
  generalize callW X A = C at h14 ⊢
  unfold t17B
  rcases hs with ⟨rfl,rfl⟩ | rfl <;> simp [h14]
 ·obtain ⟨_,hk,_,_,hin⟩:=chkF_get hc
  have h42:=step_code (lk:=lk) (lim:=H.length) (H:=H) hN (fun l hl => ⟨hin l hl,hsz.1 l hl⟩) (by omega) hs hn hb hlk
  rw [if_pos rfl] at h14 ⊢
  generalize callW X A = C at h14 h42 ⊢
  unfold t17B
  have hbe:=bel_i H.length (normI (set.foldl (hitS N b) []))
  unfold rowV at h42 ⊢
  generalize normI (set.foldl (hitS N b) []) = r at h42 hbe ⊢
  rcases hs with ⟨rfl,rfl⟩ | rfl <;> simp [h14,h42,below,hbe]
end
end Go.Proofs.Ytnhennjliinplaa
