import Derived.Test.YtgbpioccaenjaaaGreatGK
set_option linter.unusedSimpArgs false
set_option linter.unusedVariables false
namespace Go.Proofs.YtgbpioccaenjaaaGreat
open Go Go.Hm

set_option maxRecDepth 20000 in
set_option maxHeartbeats 2000000 in
theorem rsets_code {lk lim : Nat} {H : Heap} (hlk : lk ≤ H.length) (g : Gm) (hl : g.ps.length ≤ 1000000) (hr : ∀ p ∈ g.ps,p.r.length ≤ 1000000) :
  ∃ v h',callW X A lk lim 51 [gV g] H = some (v,h') ∧ h' = H ∧ if chkE g = 0 then ∃ cs,v = .sl cs.length cs ∧ SC cs (folM g) else v = .e0:=by
 have kc:=fun (M : Nat) => rcheck_code (lk:=lk) (lim:=M) (H:=H) g hl hr
 refine wb_callX [1,7] rfl A51 rfl rfl ?_
 unfold t51B
 have hcl : (g.cells).length = 4:=rfl
 have ht4 : List.take 4 g.cells = g.cells:=rfl
 by_cases hc : chkE g = 0
 case neg =>
  generalize chkE g = e at kc hc ⊢
  have h3 : (e != 0) = true:=by simpa using hc
  generalize callW X A = C at kc ⊢
  simp [-wb_true,-wb_false,-wb_regN]
  rw [wb_regN]
  simp [-wb_true,-wb_false,-wb_regN,hcl]
  rw [wb_regN]
  simp [-wb_true,-wb_false,-wb_regN,hcl,ht4,kc,h3]
  rw [wb_true rfl]
  simp [finX_ret,hc]
  exact ⟨.e0,H,⟨rfl,rfl⟩,rfl,rfl⟩
 have ok:=gok_of hc
 simp only [hc,if_true]
 rw [hc] at kc
 have hn1:=ok.n1
 have hn2:=ok.n2
 have hl2:=ok.l2
 obtain ⟨n,hn⟩ : ∃ n : Nat,g.n = (n : Int):=Int.eq_ofNat_of_zero_le (by omega)
 have hnn : g.n.toNat = n:=by omega
 obtain ⟨v,h',kf,hh,hv⟩:=sets2_code (lk:=lk) (lim:=H.length) (H:=H) hlk g hl hr
 rw [hh] at kf
 rw [if_pos hc] at hv
 obtain ⟨Fc,rfl,hF⟩:=hv
 have kk:=kr_all hc hl hr hF
 have hc1 : ∀ h : 1 < g.cells.length,(g.cells)[1] = I n:=fun _ => by rw [← hn];rfl
 have hc3 : ∀ h : 3 < g.cells.length,(g.cells)[3] = .sl g.ps.length (psC g.ps):=fun _ => rfl
 have hro : n * 24 ≤ room:=by unfold room;omega
 generalize callW X A = C at kc kf kk ⊢
 simp [-wb_true,-wb_false,-wb_regN]
 rw [wb_regN]
 simp [-wb_true,-wb_false,-wb_regN,hcl]
 rw [wb_regN]
 simp [-wb_true,-wb_false,-wb_regN,hcl,ht4,kc]
 rw [wb_false rfl,wb_skip,fol_nrm,wb_seq,wb_regN]
 simp [-wb_true,-wb_false,-wb_regN,-wi_st,hcl,ht4,kf]
 rw [wb_regN]
 simp [-wb_true,-wb_false,-wb_regN,-wi_st,-wi_mks,hcl,hc1]
 rw [wi_mks,mk_mks (l:=.tmp 18) (z:=[.e0]) (es:=1) (n:=n) rfl rfl hro]
 simp [-wb_true,-wb_false,-wb_regN,-wi_st]
 rw [wb_regN]
 have hn0 : 0 < n:=by omega
 have hS0:=sc_set (sc_start n) (j:=0) (v:=rowsV [[255]]) (l:=[[255]]) (.inl rfl)
 have hset : (repl n [AV.e0]).set 0 (rowsV [[255]]) = replaceAt (repl n [AV.e0]) 0 [.sl 1 [Sg [255]]]:=by
  obtain ⟨m,rfl⟩ : ∃ m,n = m + 1:=⟨n - 1,by omega⟩
  have : repl (m + 1) [AV.e0] = .e0 :: repl m [AV.e0]:=rfl
  rw [this]
  simp [replaceAt]
  rfl
 have hst0 : startF g = (List.replicate n []).set 0 [[255]]:=by unfold startF;rw [hn,Int.toNat_natCast]
 rw [hset,← hst0] at hS0
 have hrl : (repl n [AV.e0]).length = n:=by simp [repl]
 have hn1' : 1 ≤ n:=hn0
 have hb1 : bytesOf [.val (.int .u8 255)] = some [255]:=rfl
 simp [-wb_true,-wb_false,-wb_regN,-wi_st,hn0,hb1]
 rw [wi_st]
 have hsg : AV.sl 1 [AV.val (.string ⟨#[255]⟩)] = .sl 1 [Sg [255]]:=rfl
 simp [-wb_true,-wb_false,-wb_regN,-wi_st,setH,hlk,hsg,hrl,hn1']
 generalize replaceAt (repl n [AV.e0]) 0 [.sl 1 [Sg [255]]] = cs at *
 rw [wb_regN]
 simp [-wb_true,-wb_false,-wb_regN,-wi_st]
 have hcl2:=rndF_climbs ok (sets_ok ok)
 have hsz0 : szS (startF g) ≤ n * 585:=by have:=szF_le ok (TOk.start ok);rw [hnn] at this;exact this
 refine wb_loop (σ:=Ss × List AV × Bool) (fun s => [(1,.box g.cells),(3,.sl Fc.length Fc),(4,.hs H.length n 0 n 1),(5,Bo s.2.2)]) (fun s => H ++ [.cells s.2.1])
  (fun s => TOk g s.1 ∧ SC s.2.1 s.1 ∧ climb (rndF g (setsM g)) (n * 585 - szS s.1 + 1) s.1 = folM g ∧ (s.2.2 = false → rndF g (setsM g) s.1 = s.1)) (fun s => 2 * (n * 585 - szS s.1) + if s.2.2 = true then 1 else 0) ?_ (startF g,cs,true)
  ⟨TOk.start ok,hS0,by
   have h1:=climb_more hcl2 (n * 585 + 1) (startF g) (TOk.start ok) (by show g.n.toNat * 585 - _ < _;rw [hnn];omega)
   unfold folM
   rw [hnn,h1,hnn],by simp⟩ rfl rfl
 rintro ⟨S,cs,more⟩ ⟨hS,hC,hcm,hm⟩
 simp only at hS hC hcm hm
 have hcn : cs.length = n:=by rw [hC.1,hS.len,hnn]
 unfold t51L3
 cases more with
 | false =>
  have h1 : folM g = S:=by
   rw [← hcm]
   unfold climb
   rw [if_pos (hm rfl)]
  have hz:=sc_frz H.length (H ++ [.cells cs]) 6 hC
  have htk : cs.take n = cs:=List.take_of_length_le (by omega)
  simp [-wb_true,-wb_false,-wb_regN]
  rw [wb_regN]
  simp [-wb_true,-wb_false]
  rw [wb_false rfl]
  simp [finX_ret,hcn,htk,hz]
  exact ⟨_,_,⟨rfl,rfl⟩,rfl,cs,by rw [hcn],by rw [h1];exact hC⟩
 | true =>
  simp [-wb_true,-wb_false,-wb_regN]
  rw [wb_regN]
  simp [-wb_true,-wb_false,-wb_regN]
  rw [wb_true rfl,wb_skip,fol_nrm,wb_block,wb_seq,wb_regN]
  simp [-wb_true,-wb_false,-wb_regN]
  rw [wb_regN]
  simp [-wb_true,-wb_false,-wb_regN]
  have hR : (pls g).foldl (stF g (setsM g)) S = rndF g (setsM g) S:=rfl
  refine wb_loop (σ:=Nat × Ss × List AV × Bool) (fun s => jenv H g Fc.length Fc n s.2.2.2 [(6,I s.1)]) (fun s => H ++ [.cells s.2.2.1])
   (fun s => s.1 ≤ g.ps.length ∧ J1 g S ((g.ps.drop s.1).flatMap fun p => plsR g.t p.l.toNat p.r) (rndF g (setsM g) S) s.2.1 s.2.2.1 s.2.2.2) (fun s => g.ps.length - s.1) ?_ (0,S,cs,false)
   ⟨Nat.zero_le _,hS,hC,hR,.inl ⟨rfl,rfl⟩⟩ (by simp [jenv,restrict,find]) rfl
  rintro ⟨i,S2,cs2,more⟩ ⟨hi,hJ⟩
  simp only at hi hJ
  unfold t51L2
  by_cases hil : i < g.ps.length
  case neg =>
   obtain rfl : i = g.ps.length:=by omega
   rw [List.drop_length,List.flatMap_nil] at hJ
   have hfo : rndF g (setsM g) S = S2:=hJ.rem.symm
   have hle:=szF_le ok hJ.ok
   rw [hnn] at hle
   simp [-wb_true,-wb_false,-wb_regN,jenv,hcl]
   rw [wb_regN]
   simp [-wb_true,-wb_false,hcl,hc3]
   rw [wb_false rfl]
   simp [rnd_nrm]
   rcases hJ.more with ⟨e1,e2⟩ | ⟨e1,e2⟩
   ·rw [e2] at hfo
    exact ⟨S,cs2,.inl ⟨⟨hS,e2 ▸ hJ.sc,hcm,hfo⟩,by omega,e1,rfl⟩⟩
   ·refine ⟨S2,cs2,.inr ⟨⟨hJ.ok,hJ.sc,?_⟩,by omega,e1,rfl⟩⟩
    have hne : rndF g (setsM g) S ≠ S:=fun e => by rw [hfo] at e;rw [e] at e2;omega
    have h1:=climb_more hcl2 (n * 585 - szS S) S2 hJ.ok (by show g.n.toNat * 585 - szS S2 < _;rw [hnn];omega)
    rw [← hcm]
    conv => rhs;unfold climb
    rw [if_neg hne,hfo]
    rw [hnn] at h1
    exact h1.symm
  obtain ⟨p,hp⟩ : ∃ p,g.ps[i] = p:=⟨_,rfl⟩
  have hpm : p ∈ g.ps:=hp ▸ List.getElem_mem hil
  have hs:=psC_sub hil
  have hll:=psC_len g.ps
  have h2 : i * 2 + 2 ≤ 2 * g.ps.length:=by omega
  rw [hp] at hs
  simp only [Pr.cells] at hs
  have hil2 : (i : Int) < g.ps.length:=by omega
  have w1 : IntKind.i64.wrap ((i : Int) + 1) = (i : Int) + 1:=wrap64 (by omega) (by omega)
  rw [List.drop_eq_getElem_cons hil,hp,List.flatMap_cons] at hJ
  have hrem:=hJ.rem
  rw [List.foldl_append] at hrem
  obtain ⟨R1,hR1⟩ : ∃ R1,(plsR g.t p.l.toNat p.r).foldl (stF g (setsM g)) S2 = R1:=⟨_,rfl⟩
  rw [hR1] at hrem
  have main : ∀ E,restrict [1,3,4,5,6,7,8] E = env26 H g Fc.length Fc n i p ⟨0,S2,cs2,more⟩ → ∀ Q : Ex → Kt,(∀ s : T1,∀ e,J1 g S [] R1 s.S s.cs s.more → restrict [1,3,4,5,6] e = jenv H g Fc.length Fc n s.more [(6,I i)] → Q (.exit 4) e (H ++ [.cells s.cs])) →
    WB ⟨C,lk,H.length,[1,7]⟩ (.loop [1,3,4,5,6,7,8] t51L1) Q E (H ++ [.cells cs2]):=by
   intro E hE Q hQ
   refine wb_loop (σ:=T1) (env26 H g Fc.length Fc n i p) (fun s => H ++ [.cells s.cs]) (fun s => s.k ≤ p.r.length ∧ J1 g S (plsR g.t p.l.toNat (p.r.drop s.k)) R1 s.S s.cs s.more) (fun s => p.r.length - s.k) ?_ ⟨0,S2,cs2,more⟩ ?_ hE ?_
   ·intro s hs
    exact l26_1 (i:=i) (S0:=S) (R:=R1) (n:=n) (nf:=Fc.length) hlk ok kk hpm hnn hQ s hs
   ·exact ⟨Nat.zero_le _,hJ.ok,hJ.sc,hR1,hJ.more⟩
   ·rfl

  simp [-wb_true,-wb_false,-wb_regN,-wi_stL,jenv,hcl]
  rw [wb_regN]
  simp [-wb_true,-wb_false,-wb_regN,-wi_stL,hcl,hc3,hil2]
  rw [wb_true rfl,wb_skip,fol_nrm,wb_seq,wb_block,wb_seq,wb_regN]
  simp [-wb_true,-wb_false,-wb_regN,-wi_stL,hcl,hc3,hil,hs,hll,h2]
  rw [wi_stL]
  simp [-wb_true,-wb_false,-wb_regN,replaceAt]
  rw [wb_regN]
  simp [-wb_true,-wb_false,-wb_regN]
  refine main _ (by simp [env26,jenv,Pr.cells]) _ ?_
  rintro ⟨k3,S3,cs3,more3⟩ e hJ3 he
  simp only at hJ3 he
  rw [blk_exit,if_pos rfl]
  show WB _ _ _ _ _
  rw [wb_regN,he]
  simp [jenv,w1]
  rw [rnd_nrm]
  have e3 : S3 = R1:=hJ3.rem
  exact ⟨(i + 1,S3,cs3,more3),⟨hil,hJ3.ok,hJ3.sc,by show List.foldl _ S3 _ = _;rw [e3];exact hrem,hJ3.more⟩,by show g.ps.length - (i + 1) < g.ps.length - i;omega,rfl,rfl⟩
end Go.Proofs.YtgbpioccaenjaaaGreat
