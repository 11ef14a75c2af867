/- NFAGOES. -/
import Derived.Test.YtnhennjliinplaaXb
import Derived.Test.YtnhennjliinplaaM
set_option linter.all false
namespace Go.Proofs.Ytnhennjliinplaa
open Go Go.Hm
theorem runM_snoc (N : Nf) (set : List Int) (l : List UInt8) (b : UInt8) : runM N set (l ++ [b]) = stepM N (runM N set l) b.toNat:=by simp [runM]
theorem le_sumN : ∀ {l : List Nat} {x : Nat},x ∈ l → x ≤ l.sum
 | [],_,h => nomatch h
 | y :: l,x,h => by
  rw [List.sum_cons]
  rcases List.mem_cons.1 h with rfl | h
  ·omega
  ·have:=le_sumN h;omega
theorem light_get {m : Nat} {N : Nf} (h : lightN m N = true) : N.k ≤ m ∧ N.nx.length ≤ m ∧ N.rl.length ≤ m ∧ ∀ l ∈ N.nx,l.length ≤ m * m:=by
 unfold lightN at h
 simp only [Bool.and_eq_true,decide_eq_true_eq] at h
 obtain ⟨h1,h2,h3,h4⟩:=h
 refine ⟨h1,h2,h3,fun l hl => Nat.le_trans ?_ h4⟩
 unfold totN smN
 rw [List.take_of_length_le (by omega)]
 exact le_sumN (List.mem_map_of_mem hl)
def g5 : AC:=(.seq (.regN [1,2] [
 kP 9 2 3 2,kx 10 (.call 16 [(ux 9),(.con (.val (.int .i64 40)))]),kx 11 (.not (ux 10)),kM 12 11,zM 13 12 1,kz 14 12 (.len true (ux 13)),kz 15 12 (.bini .gtr (ux 14) (.con (.val (.int .i64 40)))),kO 16 12 15,kM 17 16,kz 18 17 (.ldA (some 2) 3 (ux 2)),kz 19 17 (.call 14 [.tmp 18]),kz 20 17 (.bini .neq (ux 19) c0),kO 21 17 20])
 (.cond (ux 21)
 (.seq (.regN [] [
 kx 4 (.mv cT)])
 .ret)
 .skip))
def x5 : AC:=(.seq (.regD [1,2,5,6] 0 [
 kP 29 2 3 2,kM 30 1,kM 31 6,kx 32 (.slS (ux 30) none (some (ux 31))),kf 33 (.call 15 [(ux 29),(ux 32)]),kP 34 2 3 2,kM 35 5,kf 36 (.call 20 [(ux 34),(ux 35)]),kx 37 (.bini .neq (ux 33) (ux 36))])
 (.cond (ux 37)
 (.seq (.regN [] [
 kx 4 (.mv cF)])
 .ret)
 .skip))
def y5 : AC:=(.regD [1,2,5,6] 0 [
 kP 38 2 3 2,kM 39 5,kM 40 1,kM 41 6,kx 42 (.ixS (ux 40) (ux 41)),kf 43 (.call 17 [(ux 38),(ux 39),(ux 42)]),kM 5 43])
def r5 : AC:=(.seq (.regD [1,2,5] 0 [
 kP 44 2 3 2,kM 45 1,kf 46 (.call 15 [(ux 44),(ux 45)]),kP 47 2 3 2,kM 48 5,kf 49 (.call 20 [(ux 47),(ux 48)]),kx 50 (.bini .eql (ux 46) (ux 49)),kM 51 50,yM 52 51 5,yN 53 51 52,ky 54 51 (.bini .gtr (ux 53) c0),yM 55 51 54,kz 56 55 (.ldA (some 2) 3 (ux 2)),zM 57 55 1,kz 58 55 (.bins .add (ux 57) (.con (.val (.string ⟨#[97]⟩)))),⟨some 59,some (55,false),.call 15 [(ux 56),(ux 58)],0,true⟩,kz 60 55 (.bini .eql (ux 59) (.con (.val (.int .i64 (-1))))),ky 61 51 (.pick (ux 55) cT (ux 60)),kx 62 (.pick (ux 51) (ux 61) cF),kM 4 62])
 .ret)
def s5 : AC:=.seq (.regN [1,2] [kx 22 (.buildS 1 [(.val (.int .i64 0))] [(0,1,c0)]),kM 5 22]) (.seq (.seq (.regN [1,2,5] [kZ 6]) (.block 0 (.loop [1,2,5,6] t5L1))) r5)
theorem e5 : t5B = .seq (.regN [0,1] [kB 2 3 0,kx 4 (.mv cF)]) (.seq (.seq (.regN [1,2] [kx 7 (.call 8 []),kx 8 (.not (ux 7))]) (.cond (ux 8) (.seq (.regN [] [kx 4 (.mv cF)]) .ret) .skip)) (.seq g5 s5)):=rfl
theorem e51 : t5L1 = .seq (.seq (.regN [1,2,5,6] [kM 23 6,kM 24 1,kx 25 (.len true (ux 24)),kT 26 23 25]) (.cond (ux 26) .skip (.exit 0))) (.seq (.block 1 (.seq x5 y5)) (.regN [1,2,5,6] [kM 27 6,kU 28 27,kM 6 28])):=rfl
section
variable {C : Orc} {Q : Ex → Kt} {E : Env} {N : Nf} {cv nv rv : AV} {vs : List AV} {s : List UInt8} {set : List Int} {i : Nat}
theorem x5_ok {e : Int} (hi : i ≤ s.length) (h15 : C 0 0 15 [.agg [cv,nv,rv],Sg (s.take i)] [] = some (I e,[])) (h20 : C 0 0 20 [.agg [cv,nv,rv],.sl set.length (ints set)] [] = some (I e,[]))
  (hE : restrict [1,2,5,6] E = [(1,Sg s),(2,.box [cv,nv,rv]),(5,.sl set.length (ints set)),(6,I i)])
  (hQ : ∀ E',restrict [1,2,5,6] E' = [(1,Sg s),(2,.box [cv,nv,rv]),(5,.sl set.length (ints set)),(6,I i)] → Q .nrm E' []) :
  WB ⟨C,0,0,[2]⟩ x5 Q E []:=by
 have hex : (⟨⟨s⟩⟩ : ByteArray).extract 0 i = ⟨⟨s.take i⟩⟩:=by
  ext1
  simp [ByteArray.data_extract]
 have hsz : (⟨⟨s⟩⟩ : ByteArray).size = s.length:=rfl
 unfold x5
 rw [wb_seq,wb_regD rfl,hE]
 simp [bnd,hsz,hi,hex,h15,h20]
 exact hQ _ rfl
theorem y5_ok {set2 : List Int} {b : UInt8} (hi : i < s.length) (hb : s[i]? = some b) (h17 : C 0 0 17 [.agg [cv,nv,rv],.sl set.length (ints set),.val (.int .u8 b.toNat)] [] = some (.sl set2.length (ints set2),[]))
  (hE : restrict [1,2,5,6] E = [(1,Sg s),(2,.box [cv,nv,rv]),(5,.sl set.length (ints set)),(6,I i)])
  (hQ : ∀ E',restrict [1,2,5,6] E' = [(1,Sg s),(2,.box [cv,nv,rv]),(5,.sl set2.length (ints set2)),(6,I i)] → Q .nrm E' []) :
  WB ⟨C,0,0,[2]⟩ y5 Q E []:=by
 unfold y5
 rw [wb_regD rfl,hE]
 have hbb : (⟨⟨s⟩⟩ : ByteArray)[i]? = some b:=by
  rw [getElem?_pos (⟨⟨s⟩⟩ : ByteArray) i hi]
  rw [List.getElem?_eq_getElem hi] at hb
  exact hb
 simp [hbb,h17]
 exact hQ _ rfl
set_option maxRecDepth 20000 in
theorem loop5 (hi1000 : s.length ≤ 1000) (h15 : ∀ i,i ≤ s.length → C 0 0 15 [.agg [cv,nv,rv],Sg (s.take i)] [] = some (I (ruleM N.rl (runM N [0] (s.take i))),[])) (h20 : ∀ set : List Int,set.length ≤ 1000000 → C 0 0 20 [.agg [cv,nv,rv],.sl set.length (ints set)] [] = some (I (ruleM N.rl set),[]))
  (h17 : ∀ (set : List Int) (b : UInt8),set.length ≤ 1000000 → C 0 0 17 [.agg [cv,nv,rv],.sl set.length (ints set),.val (.int .u8 b.toNat)] [] = some (.sl (stepM N set b.toNat).length (ints (stepM N set b.toNat)),[]))
  (hfew : ∀ (set : List Int) (b : Nat),(stepM N set b).length ≤ 1000000)
  (hE : restrict [1,2,5,6] E = [(1,Sg s),(2,.box [cv,nv,rv]),(5,.sl 1 [I 0]),(6,I 0)])
  (hQ : ∀ E',(runM N [0] s).length ≤ 1000000 → restrict [1,2,5] E' = [(1,Sg s),(2,.box [cv,nv,rv]),(5,.sl (runM N [0] s).length (ints (runM N [0] s)))] → Q .nrm E' []) :
  WB ⟨C,0,0,[2]⟩ (.block 0 (.loop [1,2,5,6] t5L1)) Q E []:=by
 have hlen : ∀ l : List UInt8,(runM N [0] l).length ≤ 1000000:=fun l => by
  rcases List.eq_nil_or_concat l with rfl | ⟨l',b,rfl⟩
  ·simp [runM]
  ·rw [List.concat_eq_append,runM_snoc];exact hfew _ _
 have hsz : (⟨⟨s⟩⟩ : ByteArray).size = s.length:=rfl
 refine wb_loop (σ:=Nat) (fun i => [(1,Sg s),(2,.box [cv,nv,rv]),(5,.sl (runM N [0] (s.take i)).length (ints (runM N [0] (s.take i)))),(6,I i)]) (fun _ => []) (fun i => i ≤ s.length) (fun i => s.length - i) ?_ 0 (Nat.zero_le _) hE rfl
 intro i hi
 rw [e51]
 generalize hP : Rnd _ _ _ _ _ _ _ = P
 by_cases hk : i < s.length
 case neg =>
  obtain rfl : i = s.length:=by omega
  rw [List.take_length]
  have hl:=hlen s
  generalize hset : runM N [0] s = set at hQ hl ⊢
  simp [hsz]
  rw [← hP]
  exact hQ _ hl rfl
 have hl:=hlen (s.take i)
 have a15:=h15 i hi
 have a20:=h20 _ hl
 obtain ⟨b,hb⟩ : ∃ b,s[i]? = some b:=⟨s[i],List.getElem?_eq_getElem hk⟩
 have a17:=h17 (runM N [0] (s.take i)) b hl
 have hsn : runM N [0] (s.take (i + 1)) = stepM N (runM N [0] (s.take i)) b.toNat:=by
  rw [List.take_add_one,hb];exact runM_snoc N [0] (s.take i) b
 have hnx : ∀ E',restrict [1,2,5,6] E' = [(1,Sg s),(2,.box [cv,nv,rv]),(5,.sl (runM N [0] (s.take (i + 1))).length (ints (runM N [0] (s.take (i + 1))))),(6,I ((i + 1 : Nat) : Int))] → P .nrm E' []:=fun E' hE' => by
  rw [← hP,rnd_nrm]
  exact ⟨i + 1,hk,by omega,hE',rfl⟩
 rw [hsn] at hnx
 clear hP hsn
 generalize runM N [0] (s.take i) = set at a15 a20 a17 hnx ⊢
 generalize stepM N set b.toNat = set2 at a17 hnx
 have w : IntKind.i64.wrap ((i : Int) + 1) = (i : Int) + 1:=wrap64 (by omega) (by omega)
 have hxy : ∀ E',restrict [1,2,5,6] E' = [(1,Sg s),(2,.box [cv,nv,rv]),(5,.sl set.length (ints set)),(6,I i)] → WB ⟨C,0,0,[2]⟩ (.block 1 (.seq x5 y5)) (Fol ⟨C,0,0,[2]⟩ (.regN [1,2,5,6] [kM 27 6,kU 28 27,kM 6 28]) P) E' []:=fun E' hE' => by
  rw [wb_block,wb_seq]
  refine x5_ok hi a15 a20 hE' fun E2 hE2 => ?_
  rw [fol_nrm]
  refine y5_ok hk hb a17 hE2 fun E3 hE3 => ?_
  rw [blk_nrm,fol_nrm,wb_regN,hE3]
  simp [w]
  exact hnx _ rfl
 generalize (.block 1 (.seq x5 y5) : AC) = XY at hxy ⊢
 simp [hsz,hk]
 exact hxy _ rfl
set_option maxRecDepth 20000 in
theorem r5_ok {e : Int} {P : Ex → Kt} (hs40 : s.length ≤ 1000) (h15 : C 0 0 15 [.agg [cv,nv,rv],Sg s] [] = some (I e,[])) (h20 : C 0 0 20 [.agg [cv,nv,rv],.sl set.length (ints set)] [] = some (I e,[]))
  (ha : set = [] → C 0 0 15 [.agg [cv,nv,rv],Sg (s ++ [97])] [] = some (I (-1),[]))
  (hE : restrict [1,2,5] E = [(1,Sg s),(2,.box [cv,nv,rv]),(5,.sl set.length (ints set))])
  (hQ : ∀ E',find E' 4 = Bo true → P .ret E' []) : WB ⟨C,0,0,[2]⟩ r5 P E []:=by
 have hap : (⟨⟨s⟩⟩ : ByteArray) ++ ⟨#[97]⟩ = ⟨⟨s ++ [97]⟩⟩:=by
  ext1
  simp
 have hab : abins .add ⟨⟨s⟩⟩ ⟨#[97]⟩ = some (.val (.string ⟨⟨s ++ [97]⟩⟩)):=by
  rw [← hap]
  show (if _ then none else _) = _
  rw [if_neg ?_]
  show ¬ (((s.length + 1 : Nat) : Int) > 9223372036854775807)
  omega
 unfold r5
 rw [wb_seq,wb_regD rfl,hE]
 by_cases h0 : set = []
 ·subst h0
  have ha:=ha rfl
  have h20 : C 0 0 20 [.agg [cv,nv,rv],.sl 0 []] [] = some (I e,[]):=h20
  simp [h15,h20,hab,ha,ints]
  exact hQ _ rfl
 ·have hp : 0 < set.length:=by
   cases set with
   | nil => exact absurd rfl h0
   | cons a r => simp
  simp [h15,h20,hp]
  exact hQ _ rfl
theorem goes_code {cv nv rv : AV} (hN : NfOk N cv nv rv vs) (hB : ∀ l ∈ N.nx,l.length ≤ 1000000000000000) (s : List UInt8) : callW X A 0 0 5 [.agg [cv,nv,rv],Sg s] [] = some (Bo true,[]):=by
 have hX : X 0 0 5 [.agg [cv,nv,rv],Sg s] [] = none:=noX1 (by decide) (by decide) (by decide)
 refine wb_callB [2] hX A5 rfl (by simp [argOk]) ?_
 show WB ⟨callW X A,0,0,[2]⟩ t5B _ _ _
 generalize hP : FinT [.tmp 4] true [] (Bo true,[]) = P
 have fin : ∀ env,find env 4 = Bo true → P .ret env []:=fun env h => by
  rw [← hP]
  simp [FinT,finish,resOf,resList,resOne,h,frz,below]
 clear hP
 have h8 : callW X A 0 0 8 [] [] = some (Bo true,[]):=lives0
 have h16 : callW X A 0 0 16 [.agg [cv,nv,rv],I (40 : Nat)] [] = some (Bo (lightN 40 N),[]):=light16 hN hB (by omega)
 have h16 : callW X A 0 0 16 [.agg [cv,nv,rv],I 40] [] = some (Bo (lightN 40 N),[]):=h16
 have hsz : (⟨⟨s⟩⟩ : ByteArray).size = s.length:=rfl
 have hmain : lightN 40 N = true → s.length ≤ 40 → chkF N = true → ∀ env,restrict [1,2] env = [(1,Sg s),(2,.box [cv,nv,rv])] → WB ⟨callW X A,0,0,[2]⟩ s5 P env []:=by
  intro hl hs hc env hE
  obtain ⟨l1,l2,l3,l4⟩:=light_get hl
  have hS : SzOk N:=⟨fun l h => Nat.le_trans (l4 l h) (by omega),by omega⟩
  obtain ⟨_,hk,_,_,hin⟩:=chkF_get hc
  have r15 : ∀ l : List UInt8,l.length ≤ 1000000 → callW X A 0 0 15 [.agg [cv,nv,rv],Sg l] [] = some (I (ruleM N.rl (runM N [0] l)),[]):=fun l h => by
   have:=run15 (lk:=0) (lim:=0) (H:=[]) hN hS l h (Nat.zero_le _)
   rwa [hc,if_pos rfl] at this
  have r20 : ∀ set : List Int,set.length ≤ 1000000 → callW X A 0 0 20 [.agg [cv,nv,rv],.sl set.length (ints set)] [] = some (I (ruleM N.rl set),[]):=fun set h => by
   have:=rule20 (lk:=0) (lim:=0) (H:=[]) hN hS (.inr rfl) h
   rwa [hc,if_pos rfl] at this
  have r17 : ∀ (set : List Int) (b : UInt8),set.length ≤ 1000000 → callW X A 0 0 17 [.agg [cv,nv,rv],.sl set.length (ints set),.val (.int .u8 b.toNat)] [] = some (.sl (stepM N set b.toNat).length (ints (stepM N set b.toNat)),[]):=fun set b h => by
   have:=step17 (lk:=0) (lim:=0) (H:=[]) (b:=b.toNat) hN hS (.inr rfl) h (by have:=b.toNat_lt;omega) (Nat.zero_le _)
   unfold stepV at this
   rwa [hc,if_pos rfl] at this
  have hfew : ∀ (set : List Int) (b : Nat),(stepM N set b).length ≤ 1000000:=fun set b => by
   have:=(stepM_few hin set b).2;omega
  have hfin2 : ∀ E',(runM N [0] s).length ≤ 1000000 → restrict [1,2,5] E' = [(1,Sg s),(2,.box [cv,nv,rv]),(5,.sl (runM N [0] s).length (ints (runM N [0] s)))] → WB ⟨callW X A,0,0,[2]⟩ r5 P E' []:=fun E' h1 h2 =>
   r5_ok (by omega) (r15 s (by omega)) (r20 _ h1) (fun h0 => by
    have:=r15 (s ++ [97]) (by simp;omega)
    rw [runM_snoc,h0] at this
    exact this) h2 fin
  have hlp : ∀ env,restrict [1,2,5,6] env = [(1,Sg s),(2,.box [cv,nv,rv]),(5,.sl 1 [I 0]),(6,I 0)] → WB ⟨callW X A,0,0,[2]⟩ (.block 0 (.loop [1,2,5,6] t5L1)) (Fol ⟨callW X A,0,0,[2]⟩ r5 P) env []:=fun env hE =>
   loop5 (by omega) (fun i hi => r15 _ (by rw [List.length_take];omega)) r20 r17 hfew hE fun E' h1 h2 => by rw [fol_nrm];exact hfin2 E' h1 h2
  clear hfin2 r15 r20 r17
  generalize callW X A = C at hlp ⊢
  unfold s5
  generalize (.block 0 (.loop [1,2,5,6] t5L1) : AC) = LL at hlp ⊢
  generalize r5 = RR at hlp ⊢
  rw [wb_seq,wb_regN,hE]
  simp
  exact hlp _ rfl
 have h14 : lightN 40 N = true → callW X A 0 0 14 [.agg [cv,nv,rv]] [] = some (I (if chkF N then 0 else 2),[]):=fun hl => by
  obtain ⟨l1,l2,l3,l4⟩:=light_get hl
  exact check_nf hN ⟨fun l h => Nat.le_trans (l4 l h) (by omega),by omega⟩
 rw [e5]
 generalize callW X A = C at h8 h16 h14 hmain ⊢
 generalize s5 = SS at hmain ⊢
 have hg : ∀ env,restrict [1,2] env = [(1,Sg s),(2,.box [cv,nv,rv])] → WB ⟨C,0,0,[2]⟩ (.seq g5 SS) P env []:=by
  intro env hE
  unfold g5
  rw [wb_seq,wb_seq,wb_regN,hE]
  cases hl : lightN 40 N with
  | false =>
   rw [hl] at h16
   simp [h16]
   exact fin _ rfl
  | true =>
   rw [hl] at h16
   have h14:=h14 hl
   by_cases h40 : (40 : Int) < (s.length : Int)
   ·simp [h16,hsz,h40]
    exact fin _ rfl
   ·cases hc : chkF N with
    | false =>
     rw [hc,if_neg (by decide)] at h14
     simp [h16,hsz,h40,h14]
     exact fin _ rfl
    | true =>
     rw [hc,if_pos rfl] at h14
     have hm:=hmain hl (by omega) hc
     simp [h16,hsz,h40,h14]
     exact hm _ rfl
 generalize (.seq g5 SS : AC) = GG at hg ⊢
 simp [h8]
 exact hg _ rfl
end
end Go.Proofs.Ytnhennjliinplaa
