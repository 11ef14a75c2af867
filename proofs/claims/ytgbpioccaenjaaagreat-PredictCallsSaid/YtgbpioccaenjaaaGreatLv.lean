import Derived.Test.YtgbpioccaenjaaaGreatGW
set_option linter.unusedSimpArgs false
set_option linter.unusedVariables false
namespace Go.Proofs.YtgbpioccaenjaaaGreat
open Go Go.Hm

def exG (k : Int) : Gm:=⟨2,1,k,[⟨0,[0,1]⟩,⟨0,[0,0]⟩]⟩
theorem ex_code {lk lim : Nat} {H : Heap} (k : Int) : callW X A lk lim 20 [I k] H = some (gV (exG k),H):=by
 refine wb_callB [2] rfl A20 rfl rfl ?_
 unfold t20B exG
 generalize callW X A = C
 simp [replaceAt,Gm.cells,psC,Pr.cells,ints]
theorem ex1 : chkE (exG 1) = 0 ∧ confM (exG 1) = some (0,0,1,[0]):=by decide +kernel
theorem ex2 : chkE (exG 2) = 0 ∧ confM (exG 2) = none ∧ prdM (exG 2) (lookM (exG 2)) 0 [0,0] = 1:=by decide +kernel
theorem eqc_self (l a b : Nat) (x : List UInt8) : eqCells [1,1,1,2] [I l,I a,I b,Sg x] [I l,I a,I b,Sg x] = some true:=by
 simp [eqCells,eqScalar]
def Nz (v : AV) : Prop:=v = .e0 ∨ ∃ m cs,v = .sl m cs
theorem nz_tv {v : AV} {S : Ss} (h : TV v S) : Nz v:=by
 rcases h with ⟨rfl,_⟩ | ⟨cs,rfl,_⟩
 ·exact .inl rfl
 ·exact .inr ⟨_,_,rfl⟩
section
variable {C : Orc} {Q : Ex → Kt} {E : Env} {a1 a2 a3 b1 b2 b3 tv uv : AV} {m n : Nat} {cs ds : List AV}
set_option maxRecDepth 20000 in
theorem l8 (htv : Nz tv) (ka : C 0 0 20 [I 1] [] = some (.agg [a1,a2,a3,.sl m cs],[]))
  (kb : C 0 0 7 [.agg [a1,a2,a3,.sl m cs]] [] = some (.tup [.agg [tv],.agg [I 0,I 0,I 1,Sg [0]],I 9],[]))
  (hQ : ∀ E',restrict [2,3] E' = [(2,.box [I 0,I 0,I 1,Sg [0]]),(3,I 9)] → Q .nrm E' []) :
  WB ⟨C,0,0,[1,2,4,5]⟩ (.regN [] [ kx 8 (.call 20 [c1]),kx 9 (.call 7 [.tmp 8]),kx 7 (um 9),kx 10 (.ext (ux 7) 0),kx 11 (.ext (ux 7) 1),kx 12 (.ext (ux 7) 2),kx 1 (.allocR [.e0]),kx 2 (.allocR [(.val (.int .i64 0)),(.val (.int .i64 0)),(.val (.int .i64 0)),(.val (.string ⟨#[]⟩))]),kn (.st (some 1) 1 (ux 1) (ux 10)),kn (.st (some 2) 4 (ux 2) (ux 11)),kx 3 (um 12)]) Q E []:=by
 rw [wb_regN]
 rcases htv with rfl | ⟨m1,c1,rfl⟩
 all_goals
  simp [ka,kb,replaceAt,restrict]
  refine hQ _ ?_
  rfl
set_option maxRecDepth 20000 in
theorem l14 (htv : Nz tv) (huv : Nz uv) (hE : restrict [2,3] E = [(2,.box [I 0,I 0,I 1,Sg [0]]),(3,I 9)]) (ka : C 0 0 20 [I 2] [] = some (.agg [b1,b2,b3,.sl n ds],[]))
  (kb : C 0 0 7 [.agg [b1,b2,b3,.sl n ds]] [] = some (.tup [.agg [uv],.agg [I 0,I 0,I 0,Sg []],I 0],[]))
  (hQ : ∀ E',restrict [2,3,4,6] E' = [(2,.box [I 0,I 0,I 1,Sg [0]]),(3,I 9),(4,.box [uv]),(6,I 0)] → Q .nrm E' []) :
  WB ⟨C,0,0,[1,2,4,5]⟩ (.regN [2,3] [ kx 14 (.call 20 [(.con (.val (.int .i64 2)))]),kx 15 (.call 7 [.tmp 14]),kx 13 (um 15),kx 16 (.ext (ux 13) 0),kx 17 (.ext (ux 13) 1),kx 18 (.ext (ux 13) 2),kx 4 (.allocR [.e0]),kx 5 (.allocR [(.val (.int .i64 0)),(.val (.int .i64 0)),(.val (.int .i64 0)),(.val (.string ⟨#[]⟩))]),kn (.st (some 4) 1 (ux 4) (ux 16)),kn (.st (some 5) 4 (ux 5) (ux 17)),kx 6 (um 18)]) Q E []:=by
 rw [wb_regN,hE]
 rcases huv with rfl | ⟨m1,c1,rfl⟩
 all_goals
  simp [ka,kb,replaceAt]
  refine hQ _ ?_
  rfl
set_option maxRecDepth 20000 in
theorem l19 (huv : Nz uv) (hE : restrict [2,3,4,6] E = [(2,.box [I 0,I 0,I 1,Sg [0]]),(3,I 9),(4,.box [uv]),(6,I 0)]) (heq : eqCells [1,1,1,2] [I 0,I 0,I 1,Sg [0]] [I 0,I 0,I 1,Sg [0]] = some true)
  (ka : C 0 0 20 [I 2] [] = some (.agg [b1,b2,b3,.sl n ds],[])) (kp : C 0 0 16 [.agg [b1,b2,b3,.sl n ds],.agg [uv],I 0,Sg [0,0]] [] = some (I 1,[]))
  (hQ : ∀ E',find E' 0 = Bo true → Q .nrm E' []) :
  WB ⟨C,0,0,[1,2,4,5]⟩ (.regD [2,3,4,6] 0 [ kx 19 (um 3),kx 20 (.bini .eql (ux 19) (.con (.val (.int .i64 9)))),kx 21 (um 20),ky 22 21 (.ldA (some 2) 4 (ux 2)),ky 23 21 (.build [(.val (.int .i64 0)),(.val (.int .i64 0)),(.val (.int .i64 0)),(.val (.string ⟨#[]⟩))] [(0,1,c0),(1,1,c0),(2,1,c1),(3,1,(.con (.val (.string ⟨#[0]⟩))))]),ky 24 21 (.eqa false [1,1,1,2] (ux 22) (ux 23)),kx 25 (.pick (ux 21) (ux 24) cF),kx 26 (um 25),ky 27 26 (um 6),ky 28 26 (.bini .eql (ux 27) c0),kx 29 (.pick (ux 26) (ux 28) cF),kx 30 (um 29),⟨some 31,some (30,true),.call 20 [(.con (.val (.int .i64 2)))],0,true⟩,ky 32 30 (.ldA (some 4) 1 (ux 4)),⟨some 33,some (30,true),.call 16 [(ux 31),(ux 32),c0,(.con (.val (.string ⟨#[0,0]⟩)))],0,true⟩,ky 34 30 (.bini .eql (ux 33) c1),kx 35 (.pick (ux 30) (ux 34) cF),kx 0 (um 35)]) Q E []:=by
 rw [wb_regD rfl,hE]
 rcases huv with rfl | ⟨m1,c1,rfl⟩
 all_goals
  simp [-wrd_cons]
  iterate 18 (rw [wrd_cons];simp [-wrd_cons,-wrd_nil,heq,ka,kp,replaceAt])
  rw [wrd_nil]
  refine hQ _ ?_
  rfl
end
set_option maxRecDepth 20000 in
theorem lives_at {lim : Nat} : callW X A 0 lim 4 [] [] = some (Bo true,[]):=by
 have ka:=fun (K L : Nat) => ex_code (lk:=K) (lim:=L) (H:=[]) 1
 have kb0:=fun (K L : Nat) => ex_code (lk:=K) (lim:=L) (H:=[]) 2
 have hl : ∀ k,(exG k).ps.length ≤ 1000000:=fun k => by show 2 ≤ 1000000;omega
 have hr : ∀ k,∀ p ∈ (exG k).ps,p.r.length ≤ 1000000:=fun k p hp => by
  simp [exG] at hp
  rcases hp with rfl | rfl <;> simp
 obtain ⟨tv,kb1,hT1⟩:=build_code2 (lk:=0) (lim:=0) (H:=[]) (Nat.le_refl _) (exG 1) (hl 1) (hr 1)
 obtain ⟨uv,kb2,hT2⟩:=build_code2 (lk:=0) (lim:=0) (H:=[]) (Nat.le_refl _) (exG 2) (hl 2) (hr 2)
 have c1 : buildC (exG 1) = some (0,0,1,[0]):=by unfold buildC;rw [if_pos ex1.1,ex1.2]
 have e1 : buildE (exG 1) = 9:=by unfold buildE;rw [if_pos ex1.1,ex1.2]
 have c2 : buildC (exG 2) = none:=by unfold buildC;rw [if_pos ex2.1,ex2.2.1]
 have e2 : buildE (exG 2) = 0:=by unfold buildE;rw [if_pos ex2.1,ex2.2.1]
 rw [c1,e1] at kb1
 rw [c2,e2] at kb2
 unfold buildT at hT2
 rw [if_pos e2] at hT2
 have kp:=predict_code (lk:=0) (lim:=0) (H:=[]) (Nat.le_refl _) (exG 2) (hl 2) (hr 2) hT2 (fun l h => Nat.le_trans (look_len (gok_of ex2.1) h) (by decide)) 0 [0,0]
 rw [ex2.2.2] at kp
 have heq : eqCells [1,1,1,2] [I 0,I 0,I 1,Sg [0]] [I 0,I 0,I 1,Sg [0]] = some true:=eqc_self 0 0 1 [0]
 refine wb_callB [1,2,4,5] rfl A4 rfl rfl ?_
 unfold t4B
 simp only [cfV] at kb1 kb2
 generalize exG 1 = g1 at ka kb1
 generalize exG 2 = g2 at kb0 kb2 kp
 obtain ⟨t1,n1,k1,p1⟩:=g1
 obtain ⟨t2,n2,k2,p2⟩:=g2
 simp only [gV,Gm.cells] at ka kb0 kb1 kb2 kp
 generalize callW X A = C at ka kb0 kb1 kb2 kp ⊢
 have h1 : Nz tv:=nz_tv hT1
 have h2 : Nz uv:=nz_tv hT2
 rw [wb_seq,wb_regN]
 simp [-wb_regN,-wb_regD]
 refine l8 h1 (ka 0 0) kb1 fun E1 q1 => ?_
 rw [fol_nrm,wb_seq]
 refine l14 h1 h2 q1 (kb0 0 0) kb2 fun E2 q2 => ?_
 rw [fol_nrm,wb_seq]
 refine l19 h2 q2 heq (kb0 0 0) kp fun E3 q3 => ?_
 rw [fol_nrm,wb_ret]
 simp [q3]
end Go.Proofs.YtgbpioccaenjaaaGreat
