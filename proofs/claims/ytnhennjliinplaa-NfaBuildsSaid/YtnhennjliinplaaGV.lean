/- NFABUILDS. -/
import Derived.Test.YtnhennjliinplaaGU
import Derived.Test.YtnhennjliinplaaGM
set_option linter.all false
namespace Go.Proofs.Ytnhennjliinplaa
open Go Go.Hm
def g3:AC:=.seq (.regN [0,1] [ kM 12 0,kN 13 12,kx 14 (.bini .gtr (ux 13) (.con (.val (.int .i64 6)))),kM 15 14,zM 16 15 1,kz 17 15 (.len true (ux 16)),kz 18 15 (.bini .gtr (ux 17) (.con (.val (.int .i64 8)))),kO 19 15 18]) (.cond (ux 19) (.seq (.regN [] [kx 4 (.mv cT)]) .ret) .skip)
def b3a:AC:=(.regN [0,1,5,6,7] [ kM 26 0,kM 27 7,kI 28 1 26 27,kL 29 28,kx 30 (.call 9 [(ux 29),(.con (.val (.int .i64 25)))]),kx 31 (.not (ux 30)),kM 32 31,zM 33 32 0,zM 34 32 7,zI 35 32 1 33 34,zL 36 32 35,kz 37 32 (.call 10 [.tmp 36]),kz 38 32 (.bini .neq (ux 37) c0),kO 39 32 38])
def b3b:AC:=(.regN [0,1,5,6,7] [ kM 40 5,kM 41 0,kM 42 7,kI 43 1 41 42,kL 44 43,kC 45 11 44,kN 46 45,kx 47 (.bini .add (ux 40) (ux 46)),kM 5 47])
def b3c:AC:=(.regN [0,1,5,6,7] [ kM 48 6,kx 49 (.bini .lss (ux 48) c0),kM 50 49,yM 51 50 0,yM 52 50 7,yI 53 50 1 51 52,yL 54 50 53,yM 55 50 1,ky 56 50 (.call 12 [(ux 54),(ux 55)]),kx 57 (.pick (ux 50) (ux 56) cF)])
def b3:AC:=.seq (.seq b3a (.cond (ux 39) (.seq (.regN [] [kx 4 (.mv cT)]) .ret) .skip)) (.seq b3b (.seq b3c (.cond (ux 57) (.regN [0,1,5,7] [kM 58 7,kM 6 58]) .skip)))
def r3a:AC:=(.regN [0,1,5,6] [ kM 60 0,kC 61 13 60,kM 59 61,kE 62 59 0,kE 63 59 1,kx 8 (.allocR [.e0,.e0,.e0]),kn (.st (some 8) 3 (ux 8) (ux 62)),kM 9 63])
def r3b:AC:=(.regN [1,5,6,8,9] [ kM 64 9,kx 65 (.bini .eql (ux 64) c0),kM 66 65,ky 67 66 (.ldA (some 8) 3 (ux 8)),ky 68 66 (.call 14 [.tmp 67]),ky 69 66 (.bini .eql (ux 68) c0),kx 70 (.pick (ux 66) (ux 69) cF),kM 71 70,yF 72 71 0 8,yS 73 71 8 72,yN 74 71 73,yM 75 71 5,ky 76 71 (.bini .eql (ux 74) (ux 75)),kx 77 (.pick (ux 71) (ux 76) cF),kM 78 77,ky 79 78 (.ldA (some 8) 3 (ux 8)),yM 80 78 1,ky 81 78 (.call 15 [(ux 79),(ux 80)]),yM 82 78 6,ky 83 78 (.bini .eql (ux 81) (ux 82)),kx 84 (.pick (ux 78) (ux 83) cF),kM 4 84])
def l3:AC:=.seq (.regN [0,1] [kx 5 (.mv c1),kx 6 (.mv (.con (.val (.int .i64 (-1)))))]) (.seq (.seq (.regN [0,1,5,6] [kZ 7]) (.block 0 (.loop [0,1,5,6,7] t3L1))) (.seq r3a (.seq r3b .ret)))
theorem e3:t3B= .seq (.regN [0,1] [kx 4 (.mv cF)]) (.seq (.seq (.regN [0,1] [kx 10 (.call 8 []),kx 11 (.not (ux 10))]) (.cond (ux 11) (.seq (.regN [] [kx 4 (.mv cF)]) .ret) .skip)) (.seq g3 l3)):=rfl
theorem e31:t3L1= .seq (.seq (.regN [0,1,5,6,7] [kM 20 7,kM 21 0,kN 22 21,kT 23 20 22]) (.cond (ux 23) .skip (.exit 0))) (.seq (.block 1 b3) (.regN [0,1,5,6,7] [kM 24 7,kU 25 24,kM 7 25])):=rfl
theorem wantM_snoc {s:List UInt8}{R:List Nd}:∀(L:List (List Nd)) (i:Nat) (b:Int),wantM s i (L++[R]) b=if wantM s i L b<0 then (if matB s R=true then ((i+L.length:Nat):Int) else -1) else wantM s i L b
 | [],i,b=>rfl
 | Q::L,i,b=>by
  show wantM s (i+1) (L++[R]) _=_
  rw[wantM_snoc L (i+1)]
  show _=if wantM s (i+1) L _<0 then (if matB s R=true then ((i+(L.length+1):Nat):Int) else -1) else wantM s (i+1) L _
  rw[show i+1+L.length=i+(L.length+1) by omega]
theorem wantM_ge {s:List UInt8}:∀(L:List (List Nd)) (i:Nat) (b:Int),(b= -1∨0≤b)→(wantM s i L b= -1∨0≤wantM s i L b)
 | [],_,_,h=>h
 | R::L,i,b,h=>wantM_ge L (i+1) _ (by split<;>(try split)<;>omega)
theorem lightB_get {m:Nat}{R:List Nd}(h:lightX m R=true):R.length≤m∧∀x∈R,x.ks.length≤2*m:=by
 unfold lightX at h
 simp only[Bool.and_eq_true,decide_eq_true_eq]at h
 refine⟨h.1,fun x hx=>Nat.le_trans ?_ h.2⟩
 unfold smK
 rw[List.take_of_length_le (by omega)]
 exact le_sumN (List.mem_map_of_mem hx)
def lvR (R:List Nd):Nat:=lvC R R.length ((R.length-1:Nat):Int)
section
variable {C:Orc}{Q:Ex→Kt}{E:Env}{s:List UInt8}{Ls:List (List Nd)}{ls:List AV}{R:List Nd}{i n st:Nat}{want:Int}
abbrev e3E (n:Nat)(ls:List AV)(s:List UInt8)(st:Nat)(want:Int)(i:Nat):Env:=[(0,.sl n ls),(1,Sg s),(5,I st),(6,I want),(7,I i)]
set_option maxRecDepth 20000 in
theorem b3_ok {rn:Nat}{rc:List AV}{lt ck m:Bool}{c:List AV}{k:Nat}(hi:i<n)(hv:ls[i]?=some (.sl rn rc))(h9:C 0 0 9 [.sl rn rc,I 25] []=some (Bo lt,[]))(h10:lt=true→C 0 0 10 [.sl rn rc] []=some (I (if ck=true then 0 else 2),[]))
  (h11:lt=true→ck=true→C 0 0 11 [.sl rn rc] []=some (lV k c,[])) (h12:lt=true→ck=true→C 0 0 12 [.sl rn rc,Sg s] []=some (Bo m,[])) (hst:st≤100000) (hk:ck=true→lt=true→k≤100000)
  (hE:restrict [0,1,5,6,7] E=e3E n ls s st want i)
  (hR:∀E' H,find E' 4=Bo true→Q .ret E' H)
  (hQ:lt=true→ck=true→∀E',restrict [0,1,5,6,7] E'=e3E n ls s (st+k) (if want<0 then (if m=true then (i:Int) else want) else want) i→Q .nrm E' []):
  WB ⟨C,0,0,[8]⟩ b3 Q E []:=by
 unfold b3
 generalize hT:(.seq b3b (.seq b3c (.cond (ux 57) (.regN [0,1,5,7] [kM 58 7,kM 6 58]) .skip)):AC)=T
 rw[wb_seq,wb_seq]
 unfold b3a
 rw[wb_regN,hE]
 cases lt with
 | false=>
  simp[hi,hv,h9]
  refine hR _ _ ?_
  rfl
 | true=>
  cases ck with
  | false=>
   simp[hi,hv,h9,h10 rfl]
   refine hR _ _ ?_
   rfl
  | true=>
   have a10:=h10 rfl
   have a11:=h11 rfl rfl
   have a12:=h12 rfl rfl
   have a9:=hk rfl rfl
   have hQ:=hQ rfl rfl
   rw[if_pos rfl]at a10
   have hT2:∀env,restrict [0,1,5,6,7] env=e3E n ls s st want i→WB ⟨C,0,0,[8]⟩ T Q env []:=fun env hE=>by
    rw[←hT,wb_seq]
    unfold b3b
    rw[wb_regN,hE]
    have w:IntKind.i64.wrap ((st:Int)+(k:Int))=((st+k:Nat):Int):=by rw[wrap64 (by omega) (by omega)];omega
    have tl:∀env,restrict [0,1,5,6,7] env=e3E n ls s (st+k) want i→WB ⟨C,0,0,[8]⟩ (.seq b3c (.cond (ux 57) (.regN [0,1,5,7] [kM 58 7,kM 6 58]) .skip)) Q env []:=fun env hE=>by
     rw[wb_seq]
     unfold b3c
     rw[wb_regN,hE]
     by_cases hw:want<0
     ·rw[if_pos hw]at hQ
      cases m with
      | false=>
       rw[if_neg (by decide)]at hQ
       simp[hi,hv,hw,a12]
       refine hQ _ ?_
       rfl
      | true=>
       rw[if_pos rfl]at hQ
       simp[hi,hv,hw,a12]
       refine hQ _ ?_
       rfl
     ·rw[if_neg hw]at hQ
      simp[hw]
      refine hQ _ ?_
      rfl
    generalize (.seq b3c (.cond (ux 57) (.regN [0,1,5,7] [kM 58 7,kM 6 58]) .skip):AC)=T2 at tl ⊢
    unfold lV at a11
    by_cases h0:k=0
    ·rw[if_pos h0]at a11
     subst h0
     have w0:IntKind.i64.wrap (st:Int)=(st:Int):=wrap64 (by omega) (by omega)
     simp[hi,hv,a11,w0]
     refine tl _ ?_
     rfl
    ·rw[if_neg h0]at a11
     simp[hi,hv,a11,w]
     refine tl _ ?_
     rfl
   clear hT
   simp[hi,hv,h9,a10]
   refine hT2 _ ?_
   rfl
set_option maxRecDepth 20000 in
theorem r3b_ok {x1 x2:AV}{cl:List AV}(h14:C 0 0 14 [.agg [.sl st cl,x1,x2]] []=some (I 0,[]))(h15:C 0 0 15 [.agg [.sl st cl,x1,x2],Sg s] []=some (I want,[]))
  (hE:restrict [1,5,6,8,9] E=[(1,Sg s),(5,I st),(6,I want),(8,.box [.sl st cl,x1,x2]),(9,I 0)])
  (hQ:∀E',find E' 4=Bo true→Q .nrm E' []):
  WB ⟨C,0,0,[8]⟩ r3b Q E []:=by
 unfold r3b
 rw[wb_regN,hE]
 iterate 22 (rw[wr_cons];simp[-wr_cons,-wr_nil,h14,h15])
 rw[wr_nil]
 refine hQ _ ?_
 rfl
set_option maxRecDepth 20000 in
theorem r3a_ok {x0 x1 x2:AV}(hx:C 0 0 13 [.sl n ls] []=some (.tup [.agg [x0,x1,x2],I 0],[]))
  (hE:restrict [0,1,5,6] E=[(0,.sl n ls),(1,Sg s),(5,I st),(6,I want)])
  (hQ:∀E',restrict [1,5,6,8,9] E'=[(1,Sg s),(5,I st),(6,I want),(8,.box [x0,x1,x2]),(9,I 0)]→Q .nrm E' []):
  WB ⟨C,0,0,[8]⟩ r3a Q E []:=by
 unfold r3a
 rw[wb_regN,hE]
 simp[hx,replaceAt]
 refine hQ _ ?_
 rfl
set_option maxRecDepth 20000 in
theorem loop3 (hg:∀(j:Nat) R,Ls[j]?=some R→ls[j]?=some (.sl R.length (rxC R)))
  (h9:∀R∈Ls,C 0 0 9 [.sl R.length (rxC R),I 25] []=some (Bo (lightX 25 R),[])) (h10:∀R∈Ls,lightX 25 R=true→C 0 0 10 [.sl R.length (rxC R)] []=some (I (if chkR R=true then 0 else 2),[]))
  (h11:∀R∈Ls,lightX 25 R=true→chkR R=true→∃c,C 0 0 11 [.sl R.length (rxC R)] []=some (lV (lvR R) c,[])) (h12:∀R∈Ls,lightX 25 R=true→chkR R=true→C 0 0 12 [.sl R.length (rxC R),Sg s] []=some (Bo (matB s R),[]))
  (hk:∀R∈Ls,chkR R=true→lightX 25 R=true→lvR R≤25) (hn:Ls.length≤6)
  (hE:restrict [0,1,5,6,7] E=e3E Ls.length ls s 1 (-1) 0)
  (hR:∀E' H,find E' 4=Bo true→Q .ret E' H)
  (hQ:(∀R∈Ls,lightX 25 R=true∧chkR R=true)→∀E',restrict [0,1,5,6] E'=[(0,.sl Ls.length ls),(1,Sg s),(5,I ((1+(Ls.map lvR).sum:Nat):Int)),(6,I (wantM s 0 Ls (-1)))]→Q .nrm E' []):
  WB ⟨C,0,0,[8]⟩ (.block 0 (.loop [0,1,5,6,7] t3L1)) Q E []:=by
 refine wb_loop (σ:=Nat) (fun i=>e3E Ls.length ls s (1+((Ls.take i).map lvR).sum) (wantM s 0 (Ls.take i) (-1)) i) (fun _=>[]) (fun i=>i≤Ls.length∧(∀R∈Ls.take i,lightX 25 R=true∧chkR R=true)∧((Ls.take i).map lvR).sum≤25*i) (fun i=>Ls.length-i) ?_ 0 ⟨Nat.zero_le _,fun R hR=>by simp at hR,by simp⟩ hE rfl
 rintro i ⟨hi,hall,hsum⟩
 rw[e31]
 generalize hP:Rnd _ _ _ _ _ _ _=P
 by_cases hk2:i<Ls.length
 case neg=>
  obtain rfl:i=Ls.length:=by omega
  rw[List.take_length]at hall ⊢
  have hx:∀env,restrict [0,1,5,6] env=[(0,.sl Ls.length ls),(1,Sg s),(5,I ((1+(Ls.map lvR).sum:Nat):Int)),(6,I (wantM s 0 Ls (-1)))]→P (.exit 0) env []:=fun env hE=>by
   rw[←hP]
   exact hQ hall env hE
  clear hP
  generalize (Ls.map lvR).sum=st at hx ⊢
  generalize wantM s 0 Ls (-1)=want at hx ⊢
  generalize (.block 1 b3:AC)=F
  simp
  refine hx _ ?_
  rfl
 obtain⟨R,hRi⟩:∃R,Ls[i]?=some R:=⟨Ls[i],List.getElem?_eq_getElem hk2⟩
 have hRm:=List.mem_of_getElem? hRi
 have hts:Ls.take (i+1)=Ls.take i++[R]:=by rw[List.take_add_one,hRi];rfl
 have hs1:((Ls.take (i+1)).map lvR).sum=((Ls.take i).map lvR).sum+lvR R:=by rw[hts];simp
 have hw1:wantM s 0 (Ls.take (i+1)) (-1)=if wantM s 0 (Ls.take i) (-1)<0 then (if matB s R=true then (i:Int) else wantM s 0 (Ls.take i) (-1)) else wantM s 0 (Ls.take i) (-1):=by
  rw[hts,wantM_snoc]
  have hl:0+(Ls.take i).length=i:=by rw[List.length_take];omega
  rw[hl]
  have hge:=wantM_ge (s:=s) (Ls.take i) 0 (-1) (.inl rfl)
  split
  ·rename_i h
   split
   ·rfl
   ·omega
  ·rfl
 have hnext:lightX 25 R=true→chkR R=true→∀E',restrict [0,1,5,6,7] E'=e3E Ls.length ls s (1+((Ls.take i).map lvR).sum+lvR R) (if wantM s 0 (Ls.take i) (-1)<0 then (if matB s R=true then (i:Int) else wantM s 0 (Ls.take i) (-1)) else wantM s 0 (Ls.take i) (-1)) (i+1)→P .nrm E' []:=fun h1 h2 E' hE'=>by
  rw[←hP,rnd_nrm]
  refine⟨i+1,⟨hk2,fun Q hQ=>?_,?_⟩,by omega,?_,rfl⟩
  ·rw[hts]at hQ
   rcases List.mem_append.1 hQ with hQ | hQ
   ·exact hall Q hQ
   ·simp at hQ;subst hQ;exact⟨h1,h2⟩
  ·rw[hs1]
   have:=hk R hRm h2 h1
   omega
  ·rw[hs1,hw1,←Nat.add_assoc];exact hE'
 have hret:∀E' H,find E' 4=Bo true→P .ret E' H:=fun E' H h=>by
  rw[←hP];exact hR E' H h
 have a9:=h9 R hRm
 have a10:=h10 R hRm
 have a12:=h12 R hRm
 have hv:=hg i R hRi
 have kk:=hk R hRm
 obtain⟨c,a11⟩:∃c,lightX 25 R=true→chkR R=true→C 0 0 11 [.sl R.length (rxC R)] []=some (lV (lvR R) c,[]):=by
  by_cases h1:lightX 25 R=true
  ·by_cases h2:chkR R=true
   ·obtain⟨c,hc⟩:=h11 R hRm h1 h2
    exact⟨c,fun _ _=>hc⟩
   ·exact⟨[],fun _ h=>absurd h h2⟩
  ·exact⟨[],fun h=>absurd h h1⟩
 clear hP hall hs1 hw1
 have hst:1+((Ls.take i).map lvR).sum≤100000:=by omega
 generalize 1+((Ls.take i).map lvR).sum=st at hnext hst ⊢
 generalize wantM s 0 (Ls.take i) (-1)=want at hnext ⊢
 have w:IntKind.i64.wrap ((i:Int)+1)=(i:Int)+1:=wrap64 (by omega) (by omega)
 have hb:∀E',restrict [0,1,5,6,7] E'=e3E Ls.length ls s st want i→WB ⟨C,0,0,[8]⟩ (.block 1 b3) (Fol ⟨C,0,0,[8]⟩ (.regN [0,1,5,6,7] [kM 24 7,kU 25 24,kM 7 25]) P) E' []:=fun E' hE'=>by
  rw[wb_block]
  refine b3_ok hk2 hv a9 a10 a11 a12 hst (fun h1 h2=>by have:=kk h1 h2;omega) hE' (fun E2 H h=>hret E2 H h) fun h1 h2 E2 hE2=>?_
  have hnext:=hnext h1 h2
  rw[blk_nrm,fol_nrm,wb_regN,hE2]
  simp[w]
  refine hnext _ ?_
  rfl
 generalize (.block 1 b3:AC)=F at hb ⊢
 simp[hk2]
 refine hb _ ?_
 rfl
end
set_option maxRecDepth 20000 in
theorem builds_code {s:List UInt8}{Ls:List (List Nd)}{ls:List AV}(hL:RsI (.sl Ls.length ls) ls Ls)(hg:∀(j:Nat) R,Ls[j]?=some R→ls[j]?=some (.sl R.length (rxC R))):
  callW X A 0 0 3 [.sl Ls.length ls,Sg s] []=some (Bo true,[]):=by
 have hX:X 0 0 3 [.sl Ls.length ls,Sg s] []=none:=noX1 (by decide) (by decide) (by decide)
 refine wb_callB [8] hX A3 rfl (by simp[argOk]) ?_
 show WB ⟨callW X A,0,0,[8]⟩ t3B _ _ _
 generalize hP:FinT [.tmp 4] true [] (Bo true,[])=P
 have fin:∀env (H:Heap),find env 4=Bo true→P .ret env H:=fun env H h=>by
  rw[←hP]
  simp[FinT,finish,resOf,resList,resOne,h,frz,below]
 clear hP
 have h8:callW X A 0 0 8 [] []=some (Bo true,[]):=lives0
 have hsz:(⟨⟨s⟩⟩:ByteArray).size=s.length:=rfl
 have hri:∀R∈Ls,RxI (.sl R.length (rxC R)) R:=fun R hR=>by
  obtain⟨j,hj⟩:=List.getElem?_of_mem hR
  obtain⟨v,hv,h⟩:=hL.r j R hj
  rw[hg j R hj]at hv
  injection hv with hv
  rw[hv];exact h
 have hnd:∀R∈Ls,lightX 25 R=true→∀x∈R,NdOk x∧Cl4 x∧x.ks.length≤100000:=fun R hR hl x hx=>by
  have h:=hri R hR
  have hk:=(lightB_get hl).2 x hx
  exact⟨⟨(h.c x hx).1,(h.c x hx).2,by omega⟩,h.u x hx,by omega⟩
 have hmain:Ls.length≤6→s.length≤8→∀env,restrict [0,1] env=[(0,.sl Ls.length ls),(1,Sg s)]→WB ⟨callW X A,0,0,[8]⟩ l3 P env []:=by
  intro hn hs env hE
  have h9:∀R∈Ls,callW X A 0 0 9 [.sl R.length (rxC R),I (25:Nat)] []=some (Bo (lightX 25 R),[]):=fun R hR=>light9 (hri R hR) (by omega)
  have h9:∀R∈Ls,callW X A 0 0 9 [.sl R.length (rxC R),I 25] []=some (Bo (lightX 25 R),[]):=h9
  have h10:∀R∈Ls,lightX 25 R=true→callW X A 0 0 10 [.sl R.length (rxC R)] []=some (I (if chkR R=true then 0 else 2),[]):=fun R hR hl=>check10 (.inr rfl) (fun x hx=>(hnd R hR hl x hx).1) (fun x hx=>(hnd R hR hl x hx).2.1) (fun x hx=>(hnd R hR hl x hx).2.2) (Nat.le_refl _)
  have h11:∀R∈Ls,lightX 25 R=true→chkR R=true→∃c,callW X A 0 0 11 [.sl R.length (rxC R)] []=some (lV (lvR R) c,[]):=fun R hR hl hc=>⟨_,leaves11 (.inr rfl) hc (fun x hx=>(hnd R hR hl x hx).1) (fun x hx=>(hnd R hR hl x hx).2.1) (fun x hx=>(hnd R hR hl x hx).2.2) (Nat.le_refl _)⟩
  have h12:∀R∈Ls,lightX 25 R=true→chkR R=true→callW X A 0 0 12 [.sl R.length (rxC R),Sg s] []=some (Bo (matB s R),[]):=fun R hR hl hc=>matches12 (.inr rfl) hc (fun x hx=>(hnd R hR hl x hx).1) (fun x hx=>(hnd R hR hl x hx).2.1) (fun x hx=>(hnd R hR hl x hx).2.2) (by omega) (Nat.le_refl _)
  have hk:∀R∈Ls,chkR R=true→lightX 25 R=true→lvR R≤25:=fun R hR hc hl=>by
   have h1:=node_few (chkR_ok hc fun x hx=>(hnd R hR hl x hx).1) hc s00
   rw[nodeM_len]at h1
   have:=(lightB_get hl).1
   unfold lvR
   omega
  unfold l3
  have hfin:(∀R∈Ls,lightX 25 R=true∧chkR R=true)→∀env,restrict [0,1,5,6] env=[(0,.sl Ls.length ls),(1,Sg s),(5,I ((1+(Ls.map lvR).sum:Nat):Int)),(6,I (wantM s 0 Ls (-1)))]→WB ⟨callW X A,0,0,[8]⟩ (.seq r3a (.seq r3b .ret)) P env []:=by
   intro hall env hE
   have hLs:LsOk (.sl Ls.length ls) ls Ls:=⟨.inr rfl,fun j R hj=>⟨_,hg j R hj,.inr rfl,hnd R (List.mem_of_getElem? hj) (hall R (List.mem_of_getElem? hj)).1⟩⟩
   have k13:=build_code (lk:=0) (lim:=0) (H:=[]) hLs (by omega) (Nat.zero_le _)
   have hchk:∀R∈Ls,chkR R=true∧∀x∈R,NdOk x:=fun R hR=>⟨(hall R hR).2,fun x hx=>(hnd R hR (hall R hR).1 x hx).1⟩
   obtain⟨hI,hB⟩:=build_be (s:=s) Ls 0 s00 (-1) hchk s00_inv s00_be
   have hlen:=build_len Ls 0 s00
   have hb:=buildM_nb Ls 0 s00 (fun R hR x hx=>(hnd R hR (hall R hR).1 x hx).2.1) s00_nb
   have hlen:(buildM 0 Ls s00).rl.length=1+(Ls.map lvR).sum:=hlen
   have hsum:∀L:List (List Nd),(∀R∈L,lvR R≤25)→(L.map lvR).sum≤25*L.length:=fun L=>by
    induction L with
    | nil=>intro _;exact Nat.le_refl _
    | cons R L ih=>
     intro h
     have h1:=h R List.mem_cons_self
     have h2:=ih fun R hR=>h R (List.mem_cons_of_mem _ hR)
     simp only[List.map_cons,List.sum_cons,List.length_cons]
     omega
   have hsm:=hsum Ls fun R hR=>hk R hR (hall R hR).2 (hall R hR).1
   have hall2:¬(Ls.all chkR=false):=by
    have:Ls.all chkR=true:=List.all_eq_true.2 fun R hR=>(hall R hR).2
    rw[this];decide
   unfold buildR at k13
   rw[if_neg (by omega),if_neg hall2,if_neg (by omega)]at k13
   generalize buildM 0 Ls s00=S at k13 hI hB hlen hb
   have hNl:(S.nx.map normI).length=S.rl.length:=by rw[List.length_map,hI.w.2]
   have hN:NfE (nfB S) (S.nx.map rowV):=by
    refine⟨.inr rfl,hI.w.1,hb.2,.inr rfl,fun j l h=>?_,.inr rfl⟩
    have h:(S.nx.map normI)[j]?=some l:=h
    rw[List.getElem?_map]at h
    cases hr:S.nx[j]? with
    | none=>rw[hr]at h;cases h
    | some r=>
     rw[hr]at h
     have h:l=normI r:=by simpa using h.symm
     subst h
     exact⟨rowV r,by rw[List.getElem?_map,hr];rfl,.inr rfl⟩
   have hS:SzOk (nfB S):=by
    have hc:=chkF_ok hI (by omega) (by omega)
    obtain⟨_,h1,h2,_,hin⟩:=chkF_get hc
    refine⟨fun l hl=>?_,by omega⟩
    obtain⟨r,hr,rfl⟩:=List.mem_map.1 (show l∈S.nx.map normI from hl)
    have h3:=nd_len _ _ (List.Pairwise.imp (fun h=>Int.ne_of_lt h) (up_normI r)) (hin _ hl)
    omega
   have hc:=chkF_ok hI (by omega) (by omega)
   have k14:=check_nf (lk:=0) (lim:=0) (H:=[]) hN hS
   have k15:=run15 (lk:=0) (lim:=0) (H:=[]) hN hS s (by omega) (Nat.zero_le _)
   rw[hc,if_pos rfl]at k14 k15
   rw[show (nfB S).rl=S.rl from rfl,run_be hI hB]at k15
   have e1:(nfB S).nx.length=S.rl.length:=hNl
   rw[e1]at k14 k15
   have k14:callW X A 0 0 14 [.agg [.sl S.rl.length S.cl,.sl S.rl.length (S.nx.map rowV),.sl S.rl.length (ints S.rl)]] []=some (I 0,[]):=k14
   have k15:callW X A 0 0 15 [.agg [.sl S.rl.length S.cl,.sl S.rl.length (S.nx.map rowV),.sl S.rl.length (ints S.rl)],Sg s] []=some (I (wantM s 0 Ls (-1)),[]):=k15
   rw[←hlen]at hE
   generalize callW X A=C at k13 k14 k15 ⊢
   rw[wb_seq]
   refine r3a_ok k13 hE fun E1 hE1=>?_
   rw[fol_nrm,wb_seq]
   refine r3b_ok k14 k15 hE1 fun E2 hE2=>?_
   rw[fol_nrm,wb_ret]
   exact fin _ _ hE2
  generalize callW X A=C at h9 h10 h11 h12 hfin ⊢
  have hl:∀env,restrict [0,1,5,6,7] env=e3E Ls.length ls s 1 (-1) 0→WB ⟨C,0,0,[8]⟩ (.block 0 (.loop [0,1,5,6,7] t3L1)) (Fol ⟨C,0,0,[8]⟩ (.seq r3a (.seq r3b .ret)) P) env []:=fun env hE=>
   loop3 hg h9 h10 h11 h12 hk hn hE (fun E' H h=>fin _ _ h) fun hall E' hE'=>by
    rw[fol_nrm]
    exact hfin hall E' hE'
  generalize (.seq r3a (.seq r3b .ret):AC)=T at hl ⊢
  generalize (.block 0 (.loop [0,1,5,6,7] t3L1):AC)=LL at hl ⊢
  rw[wb_seq,wb_regN,hE]
  simp
  refine hl _ ?_
  rfl
 rw[e3]
 unfold g3
 generalize callW X A=C at h8 hmain ⊢
 generalize l3=T at hmain ⊢
 by_cases h1:6<Ls.length
 ·have h1':(6:Int)<(Ls.length:Int):=by omega
  simp[h8,h1']
  refine fin _ _ ?_
  rfl
 by_cases h2:8<s.length
 ·have h2':(8:Int)<(s.length:Int):=by omega
  have h1':¬(6:Int)<(Ls.length:Int):=by omega
  simp[h8,h1',h2',hsz]
  refine fin _ _ ?_
  rfl
 have h2':¬(8:Int)<(s.length:Int):=by omega
 have h1':¬(6:Int)<(Ls.length:Int):=by omega
 have hmain:=hmain (by omega) (by omega)
 simp[h8,h1',h2',hsz]
 refine hmain _ ?_
 rfl
end Go.Proofs.Ytnhennjliinplaa
