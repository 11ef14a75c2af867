/- nfa.Run: walked. -/
import Derived.Test.YtnhennjliinplaaU
set_option linter.all false
namespace Go.Proofs.Ytnhennjliinplaa
open Go Go.Hm

def runM (N : Nf) (set : List Int) (l : List UInt8) : List Int:=l.foldl (fun set b => stepM N set b.toNat) set
section
variable {lk lim b : Nat} {H : Heap} {N : Nf} {cv nv rv sv : AV} {vs : List AV} {set : List Int}
theorem stepM_few (hx : ∀ l ∈ N.nx,InB N.k l) (set : List Int) (b : Nat) : InB N.k (stepM N set b) ∧ (stepM N set b).length ≤ N.k:=by
 obtain ⟨h1,_⟩:=in_hitS (b:=b) hx set [] in_nil List.nodup_nil
 have h2 : InB N.k (stepM N set b):=fun x h => h1 x (mem_normI.1 h)
 refine ⟨h2,nd_len _ _ ?_ h2⟩
 exact List.Pairwise.imp (fun h => Int.ne_of_lt h) (up_normI _)
set_option maxRecDepth 20000 in
theorem run15 (hN : NfOk N cv nv rv vs) (hsz : SzOk N) (s : List UInt8) (hn : s.length ≤ 1000000) (hlk : lk ≤ H.length) : callW X A lk lim 15 [.agg [cv,nv,rv],Sg s] H = some (I (if chkF N then ruleM N.rl (runM N [0] s) else -1),H):=by
 have hX : X lk lim 15 [.agg [cv,nv,rv],Sg s] H = none:=noX1 (by decide) (by decide) (by decide)
 refine wb_callB [2] hX A15 rfl (by simp [argOk]) ?_
 show WB ⟨callW X A,lk,H.length,[2]⟩ t15B _ _ _
 have h14:=check_nf (lk:=lk) (lim:=H.length) (H:=H) hN hsz
 generalize hP : FinT [.tmp 4] true H (I (if chkF N then ruleM N.rl (runM N [0] s) else -1),H) = P
 have fin : ∀ e env,find env 4 = I e → (if chkF N then ruleM N.rl (runM N [0] s) else -1) = e → P .ret env H:=by
  intro e env h2 he
  rw [← hP,he]
  simp [FinT,finish,resOf,resList,resOne,h2,frz,below]
 cases hc : chkF N with
 | false =>
  rw [hc] at h14 fin
  generalize callW X A = C at h14 ⊢
  unfold t15B
  simp [h14]
  exact fin _ _ rfl rfl
 | true =>
  rw [hc] at h14 fin
  obtain ⟨_,hk,_,_,hin⟩:=chkF_get hc
  have h42 : ∀ (set : List Int) (b : Nat),set.length ≤ 1000000 → b ≤ 255 → callW X A lk H.length 42 [.agg [cv,nv,rv],.sl set.length (ints set),.val (.int .u8 b)] H = some (.sl (stepM N set b).length (ints (stepM N set b)),H):=fun set b h1 h2 => step_code hN (fun l hl => ⟨hin l hl,hsz.1 l hl⟩) (by omega) (.inr rfl) h1 h2 hlk
  have h43 : ∀ set : List Int,set.length ≤ 1000000 → callW X A lk H.length 43 [.agg [cv,nv,rv],.sl set.length (ints set)] H = some (I (ruleM N.rl set),H):=fun set h => rule_code hN.r (.inr rfl) ⟨hN.arg.1,hN.arg.2.1⟩ h
  generalize callW X A = C at h14 h42 h43 ⊢
  generalize hbs : s.map (fun b : UInt8 => (AV.val (.int .u8 b.toNat))) = bs
  have hbl : bs.length = s.length:=by rw [← hbs];simp
  have hloop : ∀ env,restrict [2,5,13,14,15] env = [(2,.box [cv,nv,rv]),(5,.sl 1 [I 0]),(13,.sl s.length bs),(14,I s.length),(15,I 0)] → WB ⟨C,lk,H.length,[2]⟩ (.block 0 (.loop [2,5,13,14,15] t15L1)) (Fol ⟨C,lk,H.length,[2]⟩ (.seq (.regN [2,5] [kP 24 2 3 2,kM 25 5,kx 26 (.call 43 [(ux 24),(ux 25)]),kM 4 26]) .ret) P) env H:=by
   intro env hE
   refine wb_loop (σ:=Nat × List Int) (fun z => [(2,.box [cv,nv,rv]),(5,.sl z.2.length (ints z.2)),(13,.sl s.length bs),(14,I s.length),(15,I z.1)]) (fun _ => H) (fun z => z.1 ≤ s.length ∧ z.2.length ≤ 1000000 ∧ runM N z.2 (s.drop z.1) = runM N [0] s) (fun z => s.length - z.1) ?_ (0,[0]) ⟨Nat.zero_le _,by simp,rfl⟩ hE rfl
   rintro ⟨i,set⟩ ⟨hi,hsl,hr⟩
   dsimp only at hi hsl hr ⊢
   unfold t15L1
   by_cases hk : i < s.length
   case neg =>
    obtain rfl : i = s.length:=by omega
    rw [List.drop_length] at hr
    have hr : set = runM N [0] s:=hr
    have h4:=h43 set hsl
    generalize hR : Rnd _ _ _ _ _ _ _ = R
    simp
    rw [← hR]
    simp [h4]
    exact fin _ _ rfl (by rw [hr];rfl)
   obtain ⟨b,hb⟩ : ∃ b,s[i] = b:=⟨_,rfl⟩
   have hbi : bs[i]'(by rw [hbl];exact hk) = .val (.int .u8 b.toNat):=by simp [← hbs,hb]
   rw [List.drop_eq_getElem_cons hk,hb] at hr
   have hr : runM N (stepM N set b.toNat) (s.drop (i + 1)) = runM N [0] s:=hr
   have hb255 : b.toNat ≤ 255:=by have:=b.toNat_lt;omega
   have h4:=h42 set b.toNat hsl hb255
   have hfew:=(stepM_few hin set b.toNat).2
   have w : IntKind.i64.wrap ((i : Int) + 1) = (i : Int) + 1:=wrap64 (by omega) (by omega)
   generalize hR : Rnd _ _ _ _ _ _ _ = R
   simp [hk,hbl,hbi,h4,w]
   rw [← hR,rnd_nrm]
   exact ⟨(i + 1,stepM N set b.toNat),⟨hk,by show (stepM N set b.toNat).length ≤ 1000000;omega,hr⟩,by show s.length - (i + 1) < s.length - i;omega,rfl,rfl⟩
  unfold t15B
  generalize hLL : (.block 0 (.loop [2,5,13,14,15] t15L1) : AC) = LL at hloop ⊢
  simp [h14]
  rw [hbs]
  exact hloop _ rfl
end
end Go.Proofs.Ytnhennjliinplaa
