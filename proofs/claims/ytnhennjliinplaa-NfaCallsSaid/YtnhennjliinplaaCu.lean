/- NFACALLS. -/
import Derived.Test.YtnhennjliinplaaGK
import Derived.Test.YtnhennjliinplaaGM
set_option linter.all false
namespace Go.Proofs.Ytnhennjliinplaa
open Go Go.Hm
def vc7:AC:=(.regD [3,4,5,7,8,13,14,15,16] 0 [ kP 52 13 3 13,kP 53 15 3 15,kf 54 (.call 26 [(ux 52),(ux 53)]),kM 55 54,yM 56 55 14,yM 57 55 16,ky 58 55 (.bini .eql (ux 56) (ux 57)),kx 59 (.pick (ux 55) (ux 58) cF),kM 60 59,ky 61 60 (.ldA (some 7) 3 (ux 7)),⟨some 62,some (60,true),.call 14 [.tmp 61],0,true⟩,ky 63 60 (.ldA (some 7) 3 (ux 7)),⟨some 64,some (60,true),.call 27 [.tmp 63],0,true⟩,ky 65 60 (.bini .eql (ux 62) (ux 64)),kx 66 (.pick (ux 60) (ux 65) cF),kM 67 66,ky 68 67 (.ldA (some 7) 3 (ux 7)),yM 69 67 3,yM 70 67 4,⟨some 71,some (67,true),.call 17 [(ux 68),(ux 69),(ux 70)],0,true⟩,ky 72 67 (.ldA (some 7) 3 (ux 7)),yM 73 67 3,yM 74 67 4,⟨some 75,some (67,true),.call 28 [(ux 72),(ux 73),(ux 74)],0,true⟩,⟨some 76,some (67,true),.call 22 [(ux 71),(ux 75)],0,true⟩,kx 77 (.pick (ux 67) (ux 76) cF),kM 78 77,ky 79 78 (.ldA (some 7) 3 (ux 7)),yM 80 78 3,⟨some 81,some (78,true),.call 20 [(ux 79),(ux 80)],0,true⟩,ky 82 78 (.ldA (some 7) 3 (ux 7)),yM 83 78 3,⟨some 84,some (78,true),.call 29 [(ux 82),(ux 83)],0,true⟩,ky 85 78 (.bini .eql (ux 81) (ux 84)),kx 86 (.pick (ux 78) (ux 85) cF),kM 87 86,ky 88 87 (.ldA (some 7) 3 (ux 7)),yM 89 87 5,⟨some 90,some (87,true),.call 15 [(ux 88),(ux 89)],0,true⟩,ky 91 87 (.ldA (some 7) 3 (ux 7)),yM 92 87 5,⟨some 93,some (87,true),.call 30 [(ux 91),(ux 92)],0,true⟩,ky 94 87 (.bini .eql (ux 90) (ux 93)),kx 95 (.pick (ux 87) (ux 94) cF),kM 96 95,ky 97 96 (.ldA (some 7) 3 (ux 7)),ky 98 96 (.ldA (some 8) 3 (ux 8)),⟨some 99,some (96,true),.call 23 [(ux 97),(ux 98)],0,true⟩,ky 100 96 (.ldA (some 7) 3 (ux 7)),ky 101 96 (.ldA (some 8) 3 (ux 8)),⟨some 102,some (96,true),.call 26 [(ux 100),(ux 101)],0,true⟩,ky 103 96 (.eqb false (ux 99) (ux 102)),kx 104 (.pick (ux 96) (ux 103) cF),kM 105 104,ky 106 105 (.ldA (some 7) 3 (ux 7)),ky 107 105 (.ldA (some 7) 3 (ux 7)),⟨some 108,some (105,true),.call 23 [(ux 106),(ux 107)],0,true⟩,kx 109 (.pick (ux 105) (ux 108) cF),kM 12 109])
def r7a:AC:=(.regN [0,3,4,5,7,8] [ kM 43 0,kC 44 13 43,kM 42 44,kE 45 42 0,kE 46 42 1,kx 13 (.allocR [.e0,.e0,.e0]),kn (.st (some 13) 3 (ux 13) (ux 45)),kM 14 46])
def r7b:AC:=(.regN [0,3,4,5,7,8,13,14] [ kM 48 0,kC 49 25 48,kM 47 49,kE 50 47 0,kE 51 47 1,kx 15 (.allocR [.e0,.e0,.e0]),kn (.st (some 15) 3 (ux 15) (ux 50)),kM 16 51])
def g7:AC:=.seq (.regN [0,3,4,5,7,8] [ kM 19 0,kC 20 24 19,kx 21 (.not (ux 20)),kM 22 21,kz 23 22 (.ldA (some 7) 3 (ux 7)),kz 24 22 (.call 16 [(ux 23),(.con (.val (.int .i64 40)))]),kz 25 22 (.not (ux 24)),kO 26 22 25,kM 27 26,kz 28 27 (.ldA (some 8) 3 (ux 8)),kz 29 27 (.call 16 [(ux 28),(.con (.val (.int .i64 40)))]),kz 30 27 (.not (ux 29)),kO 31 27 30,kM 32 31,zM 33 32 3,zN 34 32 33,kz 35 32 (.bini .gtr (ux 34) (.con (.val (.int .i64 40)))),kO 36 32 35,kM 37 36,zM 38 37 5,kz 39 37 (.len true (ux 38)),kz 40 37 (.bini .gtr (ux 39) (.con (.val (.int .i64 40)))),kO 41 37 40]) (.cond (ux 41) (.seq (.regN [] [kx 12 (.mv cT)]) .ret) .skip)
theorem e7':t7B= .seq (.regN [0,1,2,3,4,5] [kB 7 3 1,kB 8 3 2,kx 12 (.mv cF)]) (.seq (.seq (.regN [0,3,4,5,7,8] [kx 17 (.call 8 []),kx 18 (.not (ux 17))]) (.cond (ux 18) (.seq (.regN [] [kx 12 (.mv cF)]) .ret) .skip)) (.seq g7 (.seq r7a (.seq r7b (.seq vc7 .ret))))):=rfl
section
variable {C:Orc}{Q:Ex→Kt}{E:Env}{N M:Nf}{vs ws ls:List AV}{Ls:List (List Nd)}{set sx sy:List Int}{b:Nat}{s:List UInt8}{H:Heap}
theorem same26e:callW X A 0 0 26 [.agg [.e0,.e0,.e0],.agg [.e0,.e0,.e0]] []=some (Bo true,[]):=run_N 100000 300 rfl (by kernel_rfl)
abbrev k7 (Ls:List (List Nd))(ls:List AV)(set:List Int)(b:Nat)(s:List UInt8)(p q:AV):Env:=[(0,.sl Ls.length ls),(3,.sl set.length (ints set)),(4,.val (.int .u8 b)),(5,Sg s),(7,p),(8,q)]
set_option maxRecDepth 20000 in
theorem vc7_ok {x0 x1 x2 y0 y1 y2 sxv syv:AV}{e t u q:Int}{z:Bool}(hsx:RowI sxv sx)(hsy:RowI syv sy)
  (h26:C 0 0 26 [.agg [x0,x1,x2],.agg [y0,y1,y2]] []=some (Bo true,[])) (h14:C 0 0 14 [nfV N vs] []=some (I t,[])) (h27:C 0 0 27 [nfV N vs] []=some (I t,[]))
  (h17:C 0 0 17 [nfV N vs,.sl set.length (ints set),.val (.int .u8 b)] []=some (sxv,[])) (h28:C 0 0 28 [nfV N vs,.sl set.length (ints set),.val (.int .u8 b)] []=some (syv,[])) (h22:C 0 0 22 [sxv,syv] []=some (Bo true,[]))
  (h20:C 0 0 20 [nfV N vs,.sl set.length (ints set)] []=some (I u,[])) (h29:C 0 0 29 [nfV N vs,.sl set.length (ints set)] []=some (I u,[])) (h15:C 0 0 15 [nfV N vs,Sg s] []=some (I q,[])) (h30:C 0 0 30 [nfV N vs,Sg s] []=some (I q,[]))
  (h23:C 0 0 23 [nfV N vs,nfV M ws] []=some (Bo z,[])) (h26':C 0 0 26 [nfV N vs,nfV M ws] []=some (Bo z,[])) (h23':C 0 0 23 [nfV N vs,nfV N vs] []=some (Bo true,[]))
  (hE:restrict [3,4,5,7,8,13,14,15,16] E=[(3,.sl set.length (ints set)),(4,.val (.int .u8 b)),(5,Sg s),(7,bxV N vs),(8,bxV M ws),(13,.box [x0,x1,x2]),(14,I e),(15,.box [y0,y1,y2]),(16,I e)])
  (hQ:∀E',find E' 12=Bo true→Q .nrm E' []):
  WB ⟨C,0,0,[7,8,13,15]⟩ vc7 Q E []:=by
 unfold vc7
 rw[wb_regD rfl,hE]
 rcases hsx with⟨rfl,_⟩ | rfl<;>rcases hsy with⟨rfl,_⟩ | rfl
 all_goals
  iterate 59 (rw[wrd_cons];simp[-wrd_cons,-wrd_nil,h26,h14,h27,h17,h28,h22,h20,h29,h15,h30,h23,h26',h23'])
  rw[wrd_nil]
  exact hQ _ rfl
set_option maxRecDepth 20000 in
theorem r7_ok {x0 x1 x2 y0 y1 y2:AV}{e:Int}{P:Ex→Kt}(hx:C 0 0 13 [.sl Ls.length ls] []=some (.tup [.agg [x0,x1,x2],I e],[]))(hy:C 0 0 25 [.sl Ls.length ls] []=some (.tup [.agg [y0,y1,y2],I e],[]))
  (hE:restrict [0,3,4,5,7,8] E=k7 Ls ls set b s (bxV N vs) (bxV M ws))
  (hQ:∀E',restrict [3,4,5,7,8,13,14,15,16] E'=[(3,.sl set.length (ints set)),(4,.val (.int .u8 b)),(5,Sg s),(7,bxV N vs),(8,bxV M ws),(13,.box [x0,x1,x2]),(14,I e),(15,.box [y0,y1,y2]),(16,I e)]→WB ⟨C,0,0,[7,8,13,15]⟩ (.seq vc7 .ret) P E' []):
  WB ⟨C,0,0,[7,8,13,15]⟩ (.seq r7a (.seq r7b (.seq vc7 .ret))) P E []:=by
 generalize (.seq vc7 .ret:AC)=T at hQ ⊢
 unfold r7a r7b
 rw[wb_seq,wb_regN,hE]
 simp[-wb_seq,hx,replaceAt]
 rw[wb_seq,wb_regN]
 simp[hy,replaceAt]
 refine hQ _ ?_
 rfl
theorem lightX_get {m:Nat}{R:List Nd}(h:lightX m R=true):R.length≤m∧∀x∈R,x.ks.length≤2*m:=by
 unfold lightX at h
 simp only[Bool.and_eq_true,decide_eq_true_eq]at h
 refine⟨h.1,fun x hx=>Nat.le_trans ?_ h.2⟩
 unfold smK
 rw[List.take_of_length_le (by omega)]
 exact le_sumN (List.mem_map_of_mem hx)
theorem rs_ok {lv:AV}{ls:List AV}{Ls:List (List Nd)}(h:RsI lv ls Ls){m:Nat}(hm:2*m≤100000)(hl:Ls.all (lightX m)=true):LsOk lv ls Ls:=⟨h.v,fun j R hj=>by
 obtain⟨v,hv,hR⟩:=h.r j R hj
 obtain⟨_,hk⟩:=lightX_get (List.all_eq_true.1 hl R (List.mem_of_getElem? hj))
 exact⟨v,hv,hR.v,fun x hx=>⟨⟨(hR.c x hx).1,(hR.c x hx).2,by have:=hk x hx;omega⟩,hR.u x hx,by have:=hk x hx;omega⟩⟩⟩
theorem sameN_rfl (N:Nf):sameN N N=true:=by
 unfold sameN
 rw[decide_eq_true (⟨rfl,rfl⟩:N.k=N.k∧N.cl=N.cl),decide_eq_true rfl,decide_eq_true rfl];rfl
theorem both13 (hL:LsOk (.sl Ls.length ls) ls Ls)(hn:Ls.length≤1000):∃x0 x1 x2 y0 y1 y2 e,buildR Ls= .tup [.agg [x0,x1,x2],I e]∧buildW Ls= .tup [.agg [y0,y1,y2],I e]∧callW X A 0 0 26 [.agg [x0,x1,x2],.agg [y0,y1,y2]] []=some (Bo true,[]):=by
 unfold buildR buildW
 by_cases h1:16<Ls.length
 ·rw[if_pos h1,if_pos h1]
  exact⟨_,_,_,_,_,_,_,rfl,rfl,same26e⟩
 rw[if_neg h1,if_neg h1]
 by_cases h2:Ls.all chkR=false
 ·rw[if_pos h2,if_pos h2]
  exact⟨_,_,_,_,_,_,_,rfl,rfl,same26e⟩
 rw[if_neg h2,if_neg h2]
 by_cases h3:1024<(buildM 0 Ls s00).rl.length
 ·rw[if_pos h3,if_pos h3]
  exact⟨_,_,_,_,_,_,_,rfl,rfl,same26e⟩
 rw[if_neg h3,if_neg h3]
 have hall:Ls.all chkR=true:=by simpa using h2
 have hnd:∀R∈Ls,∀x∈R,x.cs.length=4∧Cl4 x:=fun R hR x hx=>by
  obtain⟨j,hj⟩:=List.getElem?_of_mem hR
  obtain⟨v,_,hv⟩:=hL.2 j R hj
  exact⟨(hv.2 x hx).1.1,(hv.2 x hx).2.1⟩
 have hb:=buildM_nb Ls 0 s00 (fun R hR x hx=>(hnd R hR x hx).2) s00_nb
 have hw:WfB (buildM 0 Ls s00):=by
  have:∀(Ls:List (List Nd)) (i:Nat) (s:Bs),(∀R∈Ls,∀x∈R,x.cs.length=4)→WfB s→WfB (buildM i Ls s):=fun Ls=>by
   induction Ls with
   | nil=>intro i s _ h;exact h
   | cons R Ls ih=>
    intro i s h1 h2
    exact ih (i+1) (oneB i R s) (fun R hR=>h1 R (List.mem_cons_of_mem _ hR)) (oneB_wf (h1 R List.mem_cons_self) i h2)
  exact this Ls 0 s00 (fun R hR x hx=>(hnd R hR x hx).1) s00_wf
 generalize buildM 0 Ls s00=S at hb hw h3 ⊢
 refine⟨_,_,_,_,_,_,_,rfl,rfl,?_⟩
 have hNl:(S.nx.map normI).length=S.rl.length:=by rw[List.length_map,hw.2]
 have hrow:∀(j:Nat) l,(S.nx.map normI)[j]?=some l→∃r,S.nx[j]?=some r∧l=normI r:=fun j l h=>by
  rw[List.getElem?_map]at h
  cases hr:S.nx[j]? with
  | none=>rw[hr]at h;cases h
  | some r=>rw[hr]at h;exact⟨r,rfl,by simpa using h.symm⟩
 obtain⟨N,hN⟩:∃N:Nf,N=⟨S.rl.length,S.cl,S.nx.map normI,S.rl⟩:=⟨_,rfl⟩
 have hN1:NfE N (S.nx.map rowV):=by
  subst hN
  refine⟨.inr rfl,hw.1,hb.2,.inr rfl,fun j l h=>?_,.inr rfl⟩
  obtain⟨r,h1,rfl⟩:=hrow j l h
  exact⟨rowV r,by rw[List.getElem?_map,h1];rfl,.inr rfl⟩
 have hN2:NfE N (S.nx.map rwN):=by
  subst hN
  refine⟨.inr rfl,hw.1,hb.2,.inr rfl,fun j l h=>?_,.inr rfl⟩
  obtain⟨r,h1,rfl⟩:=hrow j l h
  exact⟨rwN r,by rw[List.getElem?_map,h1];rfl,rwN_I r⟩
 have h26:=same26 (lk:=0) (lim:=0) (H:=[]) hN1 hN2 (by rw[hN];show S.rl.length≤_;omega) (by rw[hN];show S.rl.length≤_;omega) ⟨by rw[hN];show (S.nx.map normI).length≤_;omega,fun l hl=>by
  rw[hN]at hl
  obtain⟨r,hr,rfl⟩:=List.mem_map.1 hl
  have:=inb_len (inb_norm (hb.1 r hr)) (nd_normI r)
  omega⟩
 rw[sameN_rfl]at h26
 subst hN
 unfold nfV at h26
 rw[hNl]at h26
 exact h26
theorem calls_code (hL:RsI (.sl Ls.length ls) ls Ls)(hLn:Ls.length≤1000000000000000)(hN:NfE N vs)(hB:∀l∈N.nx,l.length≤1000000000000000)(hM:NfE M ws)(hB2:∀l∈M.nx,l.length≤1000000000000000)(hb:b≤255):
  callW X A 0 0 7 [.sl Ls.length ls,nfV N vs,nfV M ws,.sl set.length (ints set),.val (.int .u8 b),Sg s] []=some (Bo true,[]):=by
 have hX:X 0 0 7 [.sl Ls.length ls,nfV N vs,nfV M ws,.sl set.length (ints set),.val (.int .u8 b),Sg s] []=none:=noX1 (by decide) (by decide) (by decide)
 refine wb_callB [7,8,13,15] hX A7 rfl (by simp[argOk]) ?_
 show WB ⟨callW X A,0,0,[7,8,13,15]⟩ t7B _ _ _
 generalize hP:FinT [.tmp 12] true [] (Bo true,[])=P
 have fin:∀env (H:Heap),find env 12=Bo true→P .ret env H:=fun env H h=>by
  rw[←hP]
  simp[FinT,finish,resOf,resList,resOne,h,frz,below]
 clear hP
 have h8:callW X A 0 0 8 [] []=some (Bo true,[]):=lives0
 have h24:callW X A 0 0 24 [.sl Ls.length ls] []=some (Bo (lightL Ls),[]):=light24 hL hLn
 have h16:callW X A 0 0 16 [nfV N vs,I (40:Nat)] []=some (Bo (lightN 40 N),[]):=light16 hN hB (by omega)
 have h16:callW X A 0 0 16 [nfV N vs,I 40] []=some (Bo (lightN 40 N),[]):=h16
 have h16':callW X A 0 0 16 [nfV M ws,I (40:Nat)] []=some (Bo (lightN 40 M),[]):=light16 hM hB2 (by omega)
 have h16':callW X A 0 0 16 [nfV M ws,I 40] []=some (Bo (lightN 40 M),[]):=h16'
 have hsz:(⟨⟨s⟩⟩:ByteArray).size=s.length:=rfl
 have hmain:lightL Ls=true→lightN 40 N=true→lightN 40 M=true→set.length≤40→s.length≤40→∀env,restrict [0,3,4,5,7,8] env=k7 Ls ls set b s (bxV N vs) (bxV M ws)→WB ⟨callW X A,0,0,[7,8,13,15]⟩ (.seq r7a (.seq r7b (.seq vc7 .ret))) P env []:=by
  intro hl hn hm hset hs env hE
  unfold lightL at hl
  simp only[Bool.and_eq_true,decide_eq_true_eq]at hl
  have hLs:=rs_ok hL (m:=40) (by omega) hl.1
  obtain⟨n1,n2,n3,n4⟩:=light_get hn
  obtain⟨m1,m2,m3,m4⟩:=light_get hm
  have hS:SzOk N:=⟨fun l h=>Nat.le_trans (n4 l h) (by omega),by omega⟩
  obtain⟨x0,x1,x2,y0,y1,y2,e,hx,hy,h26⟩:=both13 hLs (by omega)
  have kx:=build_code (lk:=0) (lim:=0) (H:=[]) hLs (by omega) (Nat.zero_le _)
  have ky:=build25 (lk:=0) (lim:=0) (H:=[]) hLs (by omega) (Nat.zero_le _)
  rw[hx]at kx
  rw[hy]at ky
  have hsr:RowI (.sl set.length (ints set)) set:=.inr rfl
  have k14:=check_nf (lk:=0) (lim:=0) (H:=[]) hN hS
  have k27:=check27 (lk:=0) (lim:=0) (H:=[]) hN hS
  have k17:=step17 (lk:=0) (lim:=0) (H:=[]) (b:=b) hN hS hsr (by omega) hb (Nat.zero_le _)
  have k28:=step28 (lk:=0) (lim:=0) (H:=[]) (b:=b) hN hS hsr (by omega) hb (Nat.zero_le _)
  have k20:=rule20 (lk:=0) (lim:=0) (H:=[]) hN hS hsr (by omega)
  have k29:=rule29 (lk:=0) (lim:=0) (H:=[]) hN hS hsr (by omega)
  have k15:=run15 (lk:=0) (lim:=0) (H:=[]) hN hS s (by omega) (Nat.zero_le _)
  have k30:=run30 (lk:=0) (lim:=0) (H:=[]) hN hS s (by omega) (Nat.zero_le _)
  have hxs:N.nx.length≤1000000∧∀l∈N.nx,l.length≤1000000:=⟨by omega,fun l h=>Nat.le_trans (n4 l h) (by omega)⟩
  have k23:=same23 (lk:=0) (lim:=0) (H:=[]) hN hM (by omega) (by omega) hxs
  have k26:=same26 (lk:=0) (lim:=0) (H:=[]) hN hM (by omega) (by omega) hxs
  have k23':=same23 (lk:=0) (lim:=0) (H:=[]) hN hN (by omega) (by omega) hxs
  rw[sameN_rfl]at k23'
  obtain⟨sx,hsx,hsy⟩:∃sx,RowI (stepV N set b) sx∧RowI (stepW N set b) sx∧sx.length≤1000000:=by
   unfold stepV stepW
   cases hc:chkF N with
   | false=>exact⟨[],.inl ⟨rfl,rfl⟩,.inl ⟨rfl,rfl⟩,Nat.zero_le _⟩
   | true=>
    obtain⟨_,hk,_,_,hin⟩:=chkF_get hc
    exact⟨stepM N set b,.inr rfl,rowN_I _,by have:=(stepM_few hin set b).2;omega⟩
  have k22:=same22 (lk:=0) (lim:=0) (H:=[]) hsx hsy.1 hsy.2
  rw[decide_eq_true rfl]at k22
  generalize stepV N set b=sxv at k17 k22 hsx
  generalize stepW N set b=syv at k28 k22 hsy
  generalize callW X A=C at kx ky k14 k27 k17 k28 k20 k29 k15 k30 k23 k26 k23' k22 h26 ⊢
  refine r7_ok kx ky hE fun E' hE'=>?_
  rw[wb_seq]
  refine vc7_ok hsx hsy.1 h26 k14 k27 k17 k28 k22 k20 k29 k15 k30 k23 k26 k23' hE' fun E2 h12=>?_
  rw[fol_nrm,wb_ret]
  exact fin _ _ h12
 rw[e7']
 generalize callW X A=C at h8 h24 h16 h16' hmain ⊢
 generalize (.seq r7a (.seq r7b (.seq vc7 .ret)):AC)=SS at hmain ⊢
 have hg:∀env,restrict [0,3,4,5,7,8] env=k7 Ls ls set b s (bxV N vs) (bxV M ws)→WB ⟨C,0,0,[7,8,13,15]⟩ (.seq g7 SS) P env []:=by
  intro env hE
  unfold g7
  rw[wb_seq,wb_seq,wb_regN,hE]
  cases hl:lightL Ls with
  | false=>
   rw[hl]at h24
   simp[h24]
   exact fin _ _ rfl
  | true=>
   rw[hl]at h24
   cases hn:lightN 40 N with
   | false=>
    rw[hn]at h16
    simp[h24,h16]
    exact fin _ _ rfl
   | true=>
    rw[hn]at h16
    cases hm:lightN 40 M with
    | false=>
     rw[hm]at h16'
     simp[h24,h16,h16']
     exact fin _ _ rfl
    | true=>
     rw[hm]at h16'
     by_cases ha:(40:Int)<(set.length:Int)
     ·simp[h24,h16,h16',ha]
      exact fin _ _ rfl
     ·by_cases hs:(40:Int)<(s.length:Int)
      ·simp[h24,h16,h16',ha,hsz,hs]
       exact fin _ _ rfl
      ·have hmm:=hmain hl hn hm (by omega) (by omega)
       simp[h24,h16,h16',ha,hsz,hs]
       refine hmm _ ?_
       rfl
 generalize (.seq g7 SS:AC)=GG at hg ⊢
 simp[h8]
 refine hg _ ?_
 rfl
end
end Go.Proofs.Ytnhennjliinplaa
