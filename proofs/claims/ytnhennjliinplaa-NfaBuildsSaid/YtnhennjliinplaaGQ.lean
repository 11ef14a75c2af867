/- The document's ways: the regions. -/
import Derived.Test.YtnhennjliinplaaGO
set_option linter.all false
namespace Go.Proofs.Ytnhennjliinplaa
open Go Go.Hm
def TabK (K:Nat→Prop)(H:Heap)(v:AV)(N:Nat)(f:Nat→Nat→Bool):Prop:=∃(b:Nat) (bs:List Nat),v= .hs b N 0 N 1∧H[b]?=some (.cells (bs.map fun (x:Nat)=>AV.hs x N 0 N 1))∧bs.length=N∧(∀(i:Nat) x,bs[i]?=some x→H[x]?=some (.cells (bools (rowF N (f i)))))∧K b∧∀x∈bs,K x
section
variable {K K':Nat→Prop}{H Z:Heap}{v:AV}{N:Nat}{f g:Nat→Nat→Bool}
theorem TabK.tab (h:TabK K H v N f):TabH H v N f:=by
 obtain⟨b,bs,h1,h2,h3,h4,_⟩:=h
 exact⟨b,bs,h1,h2,h3,h4⟩
theorem TabK.mono (h:TabK K H v N f)(e:ExtH H Z):TabK K Z v N f:=by
 obtain⟨b,bs,h1,h2,h3,h4,h5,h6⟩:=h
 exact⟨b,bs,h1,e b _ h2,h3,fun i x hx=>e x _ (h4 i x hx),h5,h6⟩
theorem TabK.imp (h:TabK K H v N f)(e:∀b,b<H.length→K b→K' b)(h1:1≤N):TabK K' H v N f:=by
 obtain⟨b,bs,h1,h2,h3,h4,h5,h6⟩:=h
 refine⟨b,bs,h1,h2,h3,h4,e b (get_lt h2) h5,fun x hx=>?_⟩
 obtain⟨i,hi⟩:=List.getElem?_of_mem hx
 exact e x (get_lt (h4 i x hi)) (h6 x hx)
theorem TabK.hs (h:TabK K H v N f):∃b,v= .hs b N 0 N 1:=by
 obtain⟨b,bs,h1,_⟩:=h
 exact⟨b,h1⟩
theorem TabK.setb {ba:Nat}{y:HB}(h:TabK (·≠ba) H v N f):TabK (·≠ba) (H.set ba y) v N f:=by
 obtain⟨b,bs,h1,h2,h3,h4,h5,h6⟩:=h
 exact⟨b,bs,h1,by rw[List.getElem?_set_ne (Ne.symm h5)];exact h2,h3,fun i x hx=>by rw[List.getElem?_set_ne (Ne.symm (h6 x (List.mem_of_getElem? hx)))];exact h4 i x hx,h5,h6⟩
theorem TabK.congr (h:TabK K H v N f)(e:mkR N f=mkR N g):TabK K H v N g:=by
 obtain⟨b,bs,h1,h2,h3,h4,h5,h6⟩:=h
 refine⟨b,bs,h1,h2,h3,fun i x hx=>?_,h5,h6⟩
 have hi:i<N:=by have:=get_lt hx;omega
 have e2:=mkR_get (f:=f) hi
 rw[e,mkR_get hi,Option.some.injEq]at e2
 rw[e2];exact h4 i x hx
end
theorem tabK_memT {H:Heap}{N:Nat}{f:Nat→Nat→Bool}(h:1≤N):TabK (fun b=>H.length≤b) (memT H N (mkR N f)) (.hs (H.length+1) N 0 N 1) N f:=by
 refine⟨H.length+1,(List.range N).map (rb H.length),rfl,?_,by simp,fun i x hx=>?_,Nat.le_succ _,fun x hx=>?_⟩
 ·rw[memT_out (mkR_ne h),mkR_len]
  unfold refT
  rw[List.map_map];rfl
 ·rw[List.getElem?_map]at hx
  by_cases hi:i<N
  ·rw[List.getElem?_range hi]at hx
   simp only[Option.map_some,Option.some.injEq]at hx
   subst hx
   exact memT_row (mkR_get hi)
  ·rw[List.getElem?_eq_none (by simp;omega)]at hx
   cases hx
 ·obtain⟨j,_,rfl⟩:=List.mem_map.1 hx
  unfold rb;split<;>omega
def clS (cs:List AV)(s:List UInt8)(k:Nat):Nat→Nat→Bool:=fun i j=>if i<k∧j=i+1 then hasC cs (s.getD i 0).toNat else false
theorem clS_zero {N:Nat}{cs:List AV}{s:List UInt8}:mkR N (clS cs s 0)=mkR N (slF false):=mkR_congr fun i j _ _=>by
 unfold clS slF;rw[if_neg (by omega),Bool.and_false]
theorem clS_upd {N k:Nat}{cs:List AV}{s:List UInt8}{b:UInt8}(h:s[k]?=some b):mkR N (updF (clS cs s k) k (k+1) (hasC cs b.toNat))=mkR N (clS cs s (k+1)):=mkR_congr fun i j _ _=>by
 have hg:s.getD k 0=b:=by rw[List.getD_eq_getElem?_getD,h];rfl
 unfold updF clS
 by_cases h1:i=k
 ·subst h1
  by_cases h2:j=i+1
  ·rw[if_pos ⟨rfl,h2⟩,if_pos ⟨by omega,h2⟩,hg]
  ·rw[if_neg (fun h=>h2 h.2),if_neg (fun h=>h2 h.2),if_neg (fun h=>h2 h.2)]
 ·rw[if_neg (fun h=>h1 h.1)]
  by_cases h2:i<k∧j=i+1
  ·rw[if_pos h2,if_pos ⟨by omega,h2.2⟩]
  ·rw[if_neg h2,if_neg (fun h=>h2 ⟨by omega,h.2⟩)]
def wX:AC:=(.regN [0,1,5,6] [ kM 17 0,kM 18 6,kI 19 6 17 18,kx 20 (.ldA none 6 (ux 19)),kx 7 (.allocR [(.val (.int .i64 0)),(.val (.int .u64 0)),(.val (.int .u64 0)),(.val (.int .u64 0)),(.val (.int .u64 0)),.e0]),kn (.st (some 7) 6 (ux 7) (ux 20))])
def wP:AC:=(.regN [0,1,5,6,7] [ kM 21 1,kx 22 (.len true (ux 21)),kU 23 22,kF 24 0 7,kS 25 7 24,kx 26 (.bini .eql (ux 25) c1),kM 27 26,zF 28 27 0 7,zS 29 27 7 28,kz 30 27 (.bini .eql (ux 29) (.con (.val (.int .i64 3)))),kO 31 27 30,kx 32 (.call 53 [(ux 23),(ux 31)]),kM 8 32])
def wC:AC:=(.regN [0,1,5,6,7,8,9] [ kM 33 9,kM 34 1,kx 35 (.len true (ux 34)),kT 36 33 35,kM 37 36,yF 38 37 0 7,yS 39 37 7 38,ky 40 37 (.bini .eql (ux 39) (.con (.val (.int .i64 2)))),kx 41 (.pick (ux 37) (ux 40) cF)])
def wD:AC:=(.regD [0,1,5,6,7,8,9] 0 [ kM 44 8,kM 45 9,kI 46 1 44 45,kL 47 46,kM 48 9,kU 49 48,kF 50 1 7,kP 51 7 4 50,kM 52 1,kM 53 9,kx 54 (.ixS (ux 52) (ux 53)),kx 55 (.call 19 [(ux 51),(ux 54)]),kI 56 1 47 49,kn (.st none 1 (ux 56) (ux 55))])
def wK:AC:=(.regN [0,1,5,6,7,8,10] [ kF 64 0 7,kS 65 7 64,kx 66 (.bini .eql (ux 65) (.con (.val (.int .i64 3))))])
def wT:AC:=(.regN [0,1,5,6,7,8,10] [ kM 67 8,kM 68 5,kF 69 5 7,kS 70 7 69,kM 71 10,kI 72 1 70 71,kL 73 72,kI 74 1 68 73,kL 75 74,kx 76 (.call 54 [(ux 67),(ux 75)]),kM 8 76])
def wE:AC:=(.regN [0,1,5,6,7,8,10] [ kM 77 8,kM 78 5,kF 79 5 7,kS 80 7 79,kM 81 10,kI 82 1 80 81,kL 83 82,kI 84 1 78 83,kL 85 84,kx 86 (.call 55 [(ux 77),(ux 85)]),kM 8 86])
def wG:AC:=(.regN [0,1,5,6,7,8] [ kF 87 0 7,kS 88 7 87,kx 89 (.bini .eql (ux 88) (.con (.val (.int .i64 5)))),kM 90 89,zF 91 90 0 7,zS 92 90 7 91,kz 93 90 (.bini .eql (ux 92) (.con (.val (.int .i64 6)))),kO 94 90 93])
def wA:AC:=(.regN [0,1,5,6,7,8] [ kM 95 8,kC 96 56 95,kM 8 96])
def wH:AC:=(.regN [0,1,5,6,7,8] [ kF 97 0 7,kS 98 7 97,kx 99 (.bini .eql (ux 98) (.con (.val (.int .i64 5)))),kM 100 99,zF 101 100 0 7,zS 102 100 7 101,kz 103 100 (.bini .eql (ux 102) (.con (.val (.int .i64 7)))),kO 104 100 103])
def wM:AC:=(.regN [0,1,5,6,8] [ kM 105 8,kM 106 1,kx 107 (.len true (ux 106)),kU 108 107,kx 109 (.call 53 [(ux 108),cT]),kx 110 (.call 55 [(ux 105),(ux 109)]),kM 8 110])
def wN:AC:=(.regN [0,1,5,6,8] [ kM 111 5,kM 112 8,kx 113 (.buildS 1 [.e0] [(0,1,(ux 112))]),kx 114 (.app 1 24 (ux 111) (ux 113)),kM 5 114])
theorem e351:t35L1= .seq (.seq wC (.cond (ux 41) .skip (.exit 2))) (.seq (.block 3 wD) (.regN [0,1,5,6,7,8,9] [kM 42 9,kU 43 42,kM 9 43])):=rfl
theorem e352:t35L2= .seq (.seq (.regN [0,1,5,6,7,8,10] [kM 57 10,kF 58 5 7,kS 59 7 58,kN 60 59,kT 61 57 60]) (.cond (ux 61) .skip (.exit 4))) (.seq (.block 5 (.seq wK (.cond (ux 66) wT wE))) (.regN [0,1,5,6,7,8,10] [kM 62 10,kU 63 62,kM 10 63])):=rfl
theorem e353:t35L3= .seq (.seq (.regN [0,1,5,6] [kM 11 6,kM 12 0,kN 13 12,kT 14 11 13]) (.cond (ux 14) .skip (.exit 0))) (.seq (.block 1 (.seq wX (.seq wP (.seq (.seq (.regN [0,1,5,6,7,8] [kZ 9]) (.block 2 (.loop [0,1,5,6,7,8,9] t35L1))) (.seq (.seq (.regN [0,1,5,6,7,8] [kZ 10]) (.block 4 (.loop [0,1,5,6,7,8,10] t35L2))) (.seq (.seq wG (.cond (ux 94) wA .skip)) (.seq (.seq wH (.cond (ux 104) wM .skip)) wN))))))) (.regN [0,1,5,6] [kM 15 6,kU 16 15,kM 6 16])):=rfl
section
variable {C:Orc}{Q:Ex→Kt}{E:Env}{lk lim i j k n N m ba bt:Nat}{H Z Z':Heap}{s:List UInt8}{cells vs:List AV}{av kv tv:AV}{kd a0 a1 a2 a3:Int}{f:Nat→Nat→Bool}{ks:List Int}
abbrev xW (kd a0 a1 a2 a3:Int)(kv:AV):AV:=.box [I kd,U a0,U a1,U a2,U a3,kv]
set_option maxRecDepth 20000 in
theorem wX_ok (hi:i<m)(hr:(cells.drop (i*6)).take 6=[I kd,U a0,U a1,U a2,U a3,kv])(hl:i*6+6≤cells.length)
  (hav:av= .e0∨∃b,av= .hs b i 0 i 1)
  (hE:restrict [0,1,5,6] E=[(0,.sl m cells),(1,Sg s),(5,av),(6,I i)])
  (hQ:∀E',restrict [0,1,5,6,7] E'=[(0,.sl m cells),(1,Sg s),(5,av),(6,I i),(7,xW kd a0 a1 a2 a3 kv)]→Q .nrm E' Z):
  WB ⟨C,lk,lim,[7]⟩ wX Q E Z:=by
 unfold wX
 rw[wb_regN,hE]
 rcases hav with rfl | ⟨b,rfl⟩
 all_goals
  simp[hi,hr,hl,replaceAt]
  exact hQ _ rfl
set_option maxRecDepth 20000 in
theorem wP_ok {sf:Bool}(hsf:(decide (kd=1)||decide (kd=3))=sf)(hn:s.length≤1000)(hC:C lk lim 53 [I ((s.length+1:Nat):Int),Bo sf] Z=some (.hs bt N 0 N 1,Z'))
  (hav:av= .e0∨∃b,av= .hs b i 0 i 1)
  (hE:restrict [0,1,5,6,7] E=[(0,.sl m cells),(1,Sg s),(5,av),(6,I i),(7,xW kd a0 a1 a2 a3 kv)])
  (hQ:∀E',restrict [0,1,5,6,7,8] E'=[(0,.sl m cells),(1,Sg s),(5,av),(6,I i),(7,xW kd a0 a1 a2 a3 kv),(8,.hs bt N 0 N 1)]→Q .nrm E' Z'):
  WB ⟨C,lk,lim,[7]⟩ wP Q E Z:=by
 have hsz:(⟨⟨s⟩⟩:ByteArray).size=s.length:=rfl
 have w:IntKind.i64.wrap ((s.length:Int)+1)=(s.length:Int)+1:=wrap64 (by omega) (by omega)
 have hC:C lk lim 53 [I ((s.length:Int)+1),Bo sf] Z=some (.hs bt N 0 N 1,Z'):=hC
 unfold wP
 rw[wb_regN,hE]
 by_cases h1:kd=1
 ·subst h1
  have:sf=true:=by rw[←hsf];rfl
  subst this
  rcases hav with rfl | ⟨b,rfl⟩
  all_goals
   simp[hsz,w,hC]
   exact hQ _ rfl
 ·by_cases h3:kd=3
  ·subst h3
   have:sf=true:=by rw[←hsf];rfl
   subst this
   rcases hav with rfl | ⟨b,rfl⟩
   all_goals
    simp[hsz,w,hC]
    exact hQ _ rfl
  ·have:sf=false:=by rw[←hsf,decide_eq_false h1,decide_eq_false h3];rfl
   subst this
   have h1':(kd==1)=false:=by simpa using h1
   have h3':(kd==3)=false:=by simpa using h3
   rcases hav with rfl | ⟨b,rfl⟩
   all_goals
    simp[hsz,w,h1',h3',h1,h3,hC]
    exact hQ _ rfl
abbrev e9 (m:Nat)(cells:List AV)(s:List UInt8)(av:AV)(i:Nat)(x tv:AV)(k:Nat):Env:=[(0,.sl m cells),(1,Sg s),(5,av),(6,I i),(7,x),(8,tv),(9,I k)]
abbrev eK10 (m:Nat)(cells:List AV)(s:List UInt8)(av:AV)(i:Nat)(x tv:AV)(k:Nat):Env:=[(0,.sl m cells),(1,Sg s),(5,av),(6,I i),(7,x),(8,tv),(10,I k)]
abbrev eA (m:Nat)(cells:List AV)(s:List UInt8)(av:AV)(i:Nat)(x tv:AV):Env:=[(0,.sl m cells),(1,Sg s),(5,av),(6,I i),(7,x),(8,tv)]
set_option maxRecDepth 20000 in
theorem wC_ok (hav:av= .e0∨∃b,av= .hs b i 0 i 1)
  (hE:restrict [0,1,5,6,7,8,9] E=e9 m cells s av i (xW kd a0 a1 a2 a3 kv) (.hs bt N 0 N 1) k)
  (hQ:∀E',find E' 41=Bo (decide (k<s.length)&&decide (kd=2))→restrict [0,1,5,6,7,8,9] E'=e9 m cells s av i (xW kd a0 a1 a2 a3 kv) (.hs bt N 0 N 1) k→Q .nrm E' Z):
  WB ⟨C,lk,lim,[7]⟩ wC Q E Z:=by
 have hsz:(⟨⟨s⟩⟩:ByteArray).size=s.length:=rfl
 unfold wC
 rw[wb_regN,hE]
 by_cases h:k<s.length
 ·rw[decide_eq_true h,Bool.true_and]at hQ
  have h2:(k:Int)<(s.length:Int):=by omega
  by_cases h3:kd=2
  ·subst h3
   rcases hav with rfl | ⟨b,rfl⟩
   all_goals
    simp[hsz,h]
    refine hQ _ ?_ ?_<;>rfl
  ·rw[decide_eq_false h3]at hQ
   have h3':(kd==2)=false:=by simpa using h3
   rcases hav with rfl | ⟨b,rfl⟩
   all_goals
    simp[hsz,h,h3,h3']
    refine hQ _ ?_ ?_<;>rfl
 ·rw[decide_eq_false h,Bool.false_and]at hQ
  have h2:¬(k:Int)<(s.length:Int):=by omega
  rcases hav with rfl | ⟨b,rfl⟩
  all_goals
   simp[hsz,h]
   refine hQ _ ?_ ?_<;>rfl
set_option maxRecDepth 20000 in
theorem wD_ok {b:UInt8}(hk:k<s.length)(hN:N=s.length+1)(hs1:s.length≤1000)(hb:s[k]?=some b)(hlk:lk≤H.length)(hlim:lim≤H.length)(hC:∀Z,C lk lim 19 [.agg [U a0,U a1,U a2,U a3],.val (.int .u8 b.toNat)] Z=some (Bo (hasC [U a0,U a1,U a2,U a3] b.toNat),Z))
  (hav:av= .e0∨∃b,av= .hs b i 0 i 1) (hC2:∀Z,C Z.length lim 19 [.agg [U a0,U a1,U a2,U a3],.val (.int .u8 b.toNat)] Z=some (Bo (hasC [U a0,U a1,U a2,U a3] b.toNat),Z))
  (hE:restrict [0,1,5,6,7,8,9] E=e9 m cells s av i (xW kd a0 a1 a2 a3 kv) (.hs (H.length+1) N 0 N 1) k)
  (hQ:∀E',restrict [0,1,5,6,7,8,9] E'=e9 m cells s av i (xW kd a0 a1 a2 a3 kv) (.hs (H.length+1) N 0 N 1) k→Q .nrm E' (memT H N (mkR N (updF f k (k+1) (hasC [U a0,U a1,U a2,U a3] b.toNat))))):
  WB ⟨C,lk,lim,[7]⟩ wD Q E (memT H N (mkR N f)):=by
 have hkN:k<N:=by omega
 have hk1N:k+1<N:=by omega
 have hne:mkR N f≠[]:=mkR_ne (by omega)
 have hg:=memT_out (H:=H) (N:=N) hne
 have hrw:=memT_row (H:=H) (N:=N) (mkR_get (f:=f) hkN)
 have hst:=memT_set (H:=H) (N:=N) (rs:=mkR N f) (j:=k) (r:=(rowF N (f k)).set (k+1) (hasC [U a0,U a1,U a2,U a3] b.toNat)) (by rw[mkR_len];exact hkN)
 rw[mkR_set hkN]at hst
 rw[←hst]at hQ
 rw[mkR_len]at hg
 have hrl:=refT_len (L:=H.length) (N:=N) (m:=N)
 have hrg:=get_some (refT_get (L:=H.length) (N:=N) hkN) (by rw[refT_len];exact hkN)
 have lf:(bools (rowF N (f k))).length=N:=by rw[bools_len,rowF_len]
 have hrep:∀v,replaceAt (bools (rowF N (f k))) (k+1) [Bo v]=bools ((rowF N (f k)).set (k+1) v):=fun v=>by
  rw[replaceAt_one _ (by rw[lf];exact hk1N),bools_set]
 have hrb:lk≤rb H.length k∧lim≤rb H.length k:=by unfold rb;split<;>omega
 have hk1:k+1≤N:=hkN
 have hk2:k+1+1≤N:=hk1N
 have hc:=hC (memT H N (mkR N f))
 have hc2:=hC2 (memT H N (mkR N f))
 have hbb:(⟨⟨s⟩⟩:ByteArray)[k]?=some b:=by rw[Sg_get,hb]
 have hb1:(⟨⟨s⟩⟩:ByteArray)[k]'hk=b:=by
  have h:=hbb
  rw[getElem?_pos (⟨⟨s⟩⟩:ByteArray) k hk]at h
  exact Option.some.inj h
 have hsz:(⟨⟨s⟩⟩:ByteArray).size=s.length:=rfl
 have w:IntKind.i64.wrap ((k:Int)+1)=(k:Int)+1:=wrap64 (by omega) (by omega)
 have b5:(0:Int)≤(k:Int)+1:=by omega
 have b6:(k:Int)+1<(N:Int):=by omega
 generalize memT H N (mkR N f)=Z at hg hrw hc hc2 hQ ⊢
 generalize hasC [U a0,U a1,U a2,U a3] b.toNat=hv at hc hc2 hQ
 obtain⟨rf,hrf⟩:∃ra,bools (rowF N (f k))=ra:=⟨_,rfl⟩
 rw[hrf]at hrw hrep lf
 clear hrf
 unfold wD
 rw[wb_regD rfl,hE]
 rcases hav with rfl | ⟨b,rfl⟩
 all_goals
  simp[-wi_stD,hk,hkN,hk1,hk2,hg,hrl,hrg,hrw,lf,hb1,hbb,hsz,w,b5,b6,hc,hc2,below,belowL]
  rw[wi_stD]
  simp[setH,hrb.1,hrb.2,hrep,hrw,lf,hk2,b5,b6,w]
  exact hQ _ rfl
end
end Go.Proofs.Ytnhennjliinplaa

namespace Go.Proofs.Ytnhennjliinplaa
open Go Go.Hm
section
variable {C:Orc}{Q:Ex→Kt}{E:Env}{lk lim i j k n N m ba bt bq bt':Nat}{H Z Z':Heap}{s:List UInt8}{cells vs:List AV}{av kv tv:AV}{kd a0 a1 a2 a3:Int}{f:Nat→Nat→Bool}{ks:List Int}
set_option maxRecDepth 20000 in
theorem wKT_ok {q:Nat}(hj:j<ks.length)(hk:ks[j]?=some (q:Int))(hqi:q<i)(hZ:Z[ba]?=some (.cells vs))(hvl:vs.length=i)(hq:vs[q]?=some (.hs bq N 0 N 1))
  (hC:C lk lim (if kd=3 then 54 else 55) [.hs bt N 0 N 1,.hs bq N 0 N 1] Z=some (.hs bt' N 0 N 1,Z'))
  (hE:restrict [0,1,5,6,7,8,10] E=eK10 m cells s (.hs ba i 0 i 1) i (xW kd a0 a1 a2 a3 (.sl ks.length (ints ks))) (.hs bt N 0 N 1) j)
  (hQ:∀E',restrict [0,1,5,6,7,8,10] E'=eK10 m cells s (.hs ba i 0 i 1) i (xW kd a0 a1 a2 a3 (.sl ks.length (ints ks))) (.hs bt' N 0 N 1) j→Q .nrm E' Z'):
  WB ⟨C,lk,lim,[7]⟩ (.seq wK (.cond (ux 66) wT wE)) Q E Z:=by
 have hk2:=get_some (ints_at hk) (by rw[ints_len];exact hj)
 have hq2:=get_some hq (by omega)
 have hq1:q+1≤i:=hqi
 have hqv:q<vs.length:=by omega
 unfold wK
 rw[wb_seq,wb_regN,hE]
 by_cases h3:kd=3
 ·subst h3
  rw[if_pos rfl]at hC
  unfold wT
  generalize wE=W2
  simp[-wb_true,-wb_regN]
  rw[wb_true (ev_bo rfl),wb_regN]
  simp[hj,hk2,hqi,hq1,hZ,hvl,hq,hq2,hqv,hC]
  exact hQ _ rfl
 ·rw[if_neg h3]at hC
  have h3':(kd==3)=false:=by simpa using h3
  unfold wE
  generalize wT=W2
  simp[-wb_false,-wb_regN,h3',h3]
  rw[wb_false (ev_bo rfl),wb_regN]
  simp[hj,hk2,hqi,hq1,hZ,hvl,hq,hq2,hqv,hC]
  exact hQ _ rfl
set_option maxRecDepth 20000 in
theorem wGA_ok (hav:av= .e0∨∃b,av= .hs b i 0 i 1)(hkv:RowI kv ks)(hC:(kd=5∨kd=6)→C lk lim 56 [.hs bt N 0 N 1] Z=some (.hs bt' N 0 N 1,Z'))(hC2:¬(kd=5∨kd=6)→bt'=bt∧Z'=Z)
  (hE:restrict [0,1,5,6,7,8] E=eA m cells s av i (xW kd a0 a1 a2 a3 kv) (.hs bt N 0 N 1))
  (hQ:∀E',restrict [0,1,5,6,7,8] E'=eA m cells s av i (xW kd a0 a1 a2 a3 kv) (.hs bt' N 0 N 1)→Q .nrm E' Z'):
  WB ⟨C,lk,lim,[7]⟩ (.seq wG (.cond (ux 94) wA .skip)) Q E Z:=by
 unfold wG
 rw[wb_seq,wb_regN,hE]
 by_cases h:kd=5∨kd=6
 ·have hC:=hC h
  unfold wA
  rcases h with rfl | rfl<;>rcases hav with rfl | ⟨b,rfl⟩
  all_goals
   simp[-wb_true,-wb_regN]
   rw[wb_true (ev_bo rfl),wb_regN]
   simp[hC]
   exact hQ _ rfl
 ·obtain⟨rfl,rfl⟩:=hC2 h
  have h5:(kd==5)=false:=by simp;omega
  have h6:(kd==6)=false:=by simp;omega
  have h5':¬kd=5:=fun e=>h (.inl e)
  have h6':¬kd=6:=fun e=>h (.inr e)
  generalize wA=W
  rcases hav with rfl | ⟨b,rfl⟩
  all_goals
   simp[h5,h6,h5',h6']
   exact hQ _ rfl
set_option maxRecDepth 20000 in
theorem wHM_ok {bm:Nat}{Zm:Heap}(hn:s.length≤1000)(hav:av= .e0∨∃b,av= .hs b i 0 i 1)(hC:(kd=5∨kd=7)→C lk lim 53 [I ((s.length+1:Nat):Int),Bo true] Z=some (.hs bm N 0 N 1,Zm)∧C lk lim 55 [.hs bt N 0 N 1,.hs bm N 0 N 1] Zm=some (.hs bt' N 0 N 1,Z'))(hC2:¬(kd=5∨kd=7)→bt'=bt∧Z'=Z)
  (hE:restrict [0,1,5,6,7,8] E=eA m cells s av i (xW kd a0 a1 a2 a3 kv) (.hs bt N 0 N 1))
  (hQ:∀E',restrict [0,1,5,6,8] E'=[(0,.sl m cells),(1,Sg s),(5,av),(6,I i),(8,.hs bt' N 0 N 1)]→Q .nrm E' Z'):
  WB ⟨C,lk,lim,[7]⟩ (.seq wH (.cond (ux 104) wM .skip)) Q E Z:=by
 have hsz:(⟨⟨s⟩⟩:ByteArray).size=s.length:=rfl
 have w:IntKind.i64.wrap ((s.length:Int)+1)=(s.length:Int)+1:=wrap64 (by omega) (by omega)
 unfold wH
 rw[wb_seq,wb_regN,hE]
 by_cases h:kd=5∨kd=7
 ·obtain⟨c1,c2⟩:=hC h
  have c1:C lk lim 53 [I ((s.length:Int)+1),Bo true] Z=some (.hs bm N 0 N 1,Zm):=c1
  unfold wM
  rcases h with rfl | rfl<;>rcases hav with rfl | ⟨b,rfl⟩
  all_goals
   simp[-wb_true,-wb_regN]
   rw[wb_true (ev_bo rfl),wb_regN]
   simp[hsz,w,c1,c2]
   exact hQ _ rfl
 ·obtain⟨rfl,rfl⟩:=hC2 h
  have h5:(kd==5)=false:=by simp;omega
  have h7:(kd==7)=false:=by simp;omega
  have h5':¬kd=5:=fun e=>h (.inl e)
  have h7':¬kd=7:=fun e=>h (.inr e)
  generalize wM=W
  rcases hav with rfl | ⟨b,rfl⟩
  all_goals
   simp[h5,h7,h5',h7']
   exact hQ _ rfl
set_option maxRecDepth 20000 in
theorem wN0_ok (hE:restrict [0,1,5,6,8] E=[(0,.sl m cells),(1,Sg s),(5,.e0),(6,I 0),(8,.hs bt N 0 N 1)])
  (hQ:∀E',restrict [0,1,5,6] E'=[(0,.sl m cells),(1,Sg s),(5,.hs Z.length 1 0 1 1),(6,I 0)]→Q .nrm E' (Z++[.cells [.hs bt N 0 N 1]])):
  WB ⟨C,lk,lim,[7]⟩ wN Q E Z:=by
 have r1:(1:Nat)*24≤room:=by unfold room;omega
 unfold wN
 rw[wb_regN,hE]
 simp[srcCells,r1]
 exact hQ _ rfl
set_option maxRecDepth 20000 in
theorem wN1_ok (hZ:Z[ba]?=some (.cells vs))(hvl:vs.length=i)(hi:i≤1000000)(hlk:lk≤ba)(hlim:lim≤ba)
  (hE:restrict [0,1,5,6,8] E=[(0,.sl m cells),(1,Sg s),(5,.hs ba i 0 i 1),(6,I i),(8,.hs bt N 0 N 1)])
  (hQ:∀E',restrict [0,1,5,6] E'=[(0,.sl m cells),(1,Sg s),(5,.hs ba (i+1) 0 (i+1) 1),(6,I i)]→Q .nrm E' (Z.set ba (.cells (vs++[.hs bt N 0 N 1])))):
  WB ⟨C,lk,lim,[7]⟩ wN Q E Z:=by
 have r1:(i+1)*24≤room:=by unfold room;omega
 unfold wN
 rw[wb_regN,hE]
 simp[srcCells,r1,hZ,hvl,appC,appG,setH,hlk,hlim]
 exact hQ _ rfl
end
end Go.Proofs.Ytnhennjliinplaa

namespace Go.Proofs.Ytnhennjliinplaa
open Go Go.Hm
abbrev TT:=Nat→Nat→Bool
def zT:TT:=fun _ _=>false
def wT0 (kd:Int):TT:=slF (decide (kd=1)||decide (kd=3))
def wT1 (s:List UInt8)(kd:Int)(cs:List AV):TT:=if kd=2 then clS cs s s.length else wT0 kd
def wKid (N:Nat)(kd:Int)(ws:List TT)(t:TT)(q:Int):TT:=if kd=3 then thF t (ws.getD q.toNat zT) N else fun i k=>t i k||ws.getD q.toNat zT i k
def wT3 (N:Nat)(kd:Int)(t:TT):TT:=if kd=5∨kd=6 then agM N (fun i k=>t i k||t i k) N else t
def wT4 (kd:Int)(t:TT):TT:=if kd=5∨kd=7 then fun i k=>t i k||slF true i k else t
def nodeW (N:Nat)(s:List UInt8)(ws:List TT)(x:Nd):TT:=wT4 x.kd (wT3 N x.kd (x.ks.foldl (wKid N x.kd ws) (wT1 s x.kd x.cs)))
section
variable {C:Orc}{Q:Ex→Kt}{E:Env}{lk lim i j k n N m ba bt bq bt' L0:Nat}{H Z Z':Heap}{s:List UInt8}{cells vs:List AV}{av kv tv:AV}{kd a0 a1 a2 a3:Int}{f:Nat→Nat→Bool}{ks:List Int}{ws:List TT}
set_option maxRecDepth 20000 in
theorem cls35 (hN:N=s.length+1)(hs1:s.length≤1000)(hlk:lk≤H.length)(hlim:lim≤H.length)(hav:av= .e0∨∃b,av= .hs b i 0 i 1)(hC:∀lk (b:UInt8) Z,C lk lim 19 [.agg [U a0,U a1,U a2,U a3],.val (.int .u8 b.toNat)] Z=some (Bo (hasC [U a0,U a1,U a2,U a3] b.toNat),Z))
  (hE:restrict [0,1,5,6,7,8,9] E=e9 m cells s av i (xW kd a0 a1 a2 a3 kv) (.hs (H.length+1) N 0 N 1) 0)
  (hQ:∀E',restrict [0,1,5,6,7,8] E'=eA m cells s av i (xW kd a0 a1 a2 a3 kv) (.hs (H.length+1) N 0 N 1)→Q .nrm E' (memT H N (mkR N (wT1 s kd [U a0,U a1,U a2,U a3])))):
  WB ⟨C,lk,lim,[7]⟩ (.block 2 (.loop [0,1,5,6,7,8,9] t35L1)) Q E (memT H N (mkR N (wT0 kd))):=by
 have hst:∀k,k≤s.length→(k=0∨kd=2)→mkR N (if kd=2 then clS [U a0,U a1,U a2,U a3] s k else wT0 kd)=mkR N (if kd=2 then clS [U a0,U a1,U a2,U a3] s k else wT0 kd):=fun _ _ _=>rfl
 have h0:mkR N (wT0 kd)=mkR N (if kd=2 then clS [U a0,U a1,U a2,U a3] s 0 else wT0 kd):=by
  by_cases h:kd=2
  ·rw[if_pos h,clS_zero,h];rfl
  ·rw[if_neg h]
 rw[h0]
 refine wb_loop (σ:=Nat) (fun k=>e9 m cells s av i (xW kd a0 a1 a2 a3 kv) (.hs (H.length+1) N 0 N 1) k) (fun k=>memT H N (mkR N (if kd=2 then clS [U a0,U a1,U a2,U a3] s k else wT0 kd))) (fun k=>k≤s.length∧(k=0∨kd=2)) (fun k=>s.length-k) ?_ 0 ⟨Nat.zero_le _,.inl rfl⟩ hE rfl
 rintro k ⟨hk0,hk1⟩
 rw[e351]
 generalize hR:Rnd _ _ _ _ _ _ _=R
 rw[wb_seq,wb_seq]
 refine wC_ok hav rfl fun E1 h41 hE1=>?_
 rw[fol_nrm]
 by_cases hc:k<s.length∧kd=2
 ·obtain⟨hk,h2⟩:=hc
  rw[decide_eq_true hk,decide_eq_true h2]at h41
  rw[wb_true (ev_bo h41),wb_skip,fol_nrm,wb_seq,wb_block]
  obtain⟨b,hb⟩:=get_of hk
  have hupd:=clS_upd (N:=N) (cs:=[U a0,U a1,U a2,U a3]) hb
  have next:∀env,restrict [0,1,5,6,7,8,9] env=e9 m cells s av i (xW kd a0 a1 a2 a3 kv) (.hs (H.length+1) N 0 N 1) (k+1)→R .nrm env (memT H N (mkR N (clS [U a0,U a1,U a2,U a3] s (k+1)))):=fun env h=>by
   rw[←hR,rnd_nrm]
   exact⟨k+1,⟨hk,.inr h2⟩,by omega,h,by rw[if_pos h2]⟩
  rw[if_pos h2]
  refine wD_ok hk hN hs1 hb hlk hlim (fun Z=>hC lk b Z) hav (fun Z=>hC Z.length b Z) hE1 fun E2 hE2=>?_
  rw[hupd]
  have w:IntKind.i64.wrap ((k:Int)+1)=(k:Int)+1:=wrap64 (by omega) (by omega)
  generalize memT H N (mkR N (clS [U a0,U a1,U a2,U a3] s (k+1)))=Z at next ⊢
  rw[blk_nrm,fol_nrm,wb_regN,hE2]
  rcases hav with rfl | ⟨b,rfl⟩
  all_goals
   simp[w]
   refine next _ ?_
   rfl
 ·have hcf:(decide (k<s.length)&&decide (kd=2))=false:=by
   by_cases h1:k<s.length
   ·rw[decide_eq_false fun h=>hc ⟨h1,h⟩,Bool.and_false]
   ·rw[decide_eq_false h1];rfl
  rw[hcf]at h41
  rw[wb_false (ev_bo h41),wb_exit,fol_exit,←hR]
  have h8:restrict [0,1,5,6,7,8] E1=eA m cells s av i (xW kd a0 a1 a2 a3 kv) (.hs (H.length+1) N 0 N 1):=by
   have e:∀t∈[0,1,5,6,7,8],find E1 t=find (restrict [0,1,5,6,7,8,9] E1) t:=fun t ht=>by
    simp at ht
    rcases ht with rfl | rfl | rfl | rfl | rfl | rfl<;>rfl
   simp only[restrict,List.map_cons,List.map_nil]
   rw[e 0 (by simp),e 1 (by simp),e 5 (by simp),e 6 (by simp),e 7 (by simp),e 8 (by simp),hE1]
   rfl
  have hfin:(if kd=2 then clS [U a0,U a1,U a2,U a3] s k else wT0 kd)=wT1 s kd [U a0,U a1,U a2,U a3]:=by
   unfold wT1
   by_cases h2:kd=2
   ·have:k=s.length:=by
     by_cases h1:k<s.length
     ·exact absurd ⟨h1,h2⟩ hc
     ·omega
    rw[if_pos h2,if_pos h2,this]
   ·rw[if_neg h2,if_neg h2]
  rw[hfin]
  exact hQ E1 h8
set_option maxRecDepth 20000 in
theorem kids35 (hkl:ks.length≤1000000)(h1:1≤N)(hN:N≤1000000)(hZ:Z[ba]?=some (.cells vs))(hvl:vs.length=i)(hq:∀q∈ks,0≤q∧q<(i:Int))(hws:∀(j:Nat) w,ws[j]?=some w→∃v,vs[j]?=some v∧TabK (·≠ba) Z v N w)(hwl:ws.length=i)(hL:L0≤Z.length)(hlk:lk≤L0)(hlim:lim≤L0)
  (h54:∀{H:Heap} {b1 b2:Nat} {fa fb:TT},TabH H (.hs b1 N 0 N 1) N fa→TabH H (.hs b2 N 0 N 1) N fb→L0≤H.length→C lk lim 54 [.hs b1 N 0 N 1,.hs b2 N 0 N 1] H=some (.hs (H.length+1) N 0 N 1,memT H N (mkR N (thF fa fb N))))
  (h55:∀{H:Heap} {b1 b2:Nat} {fa fb:TT},TabH H (.hs b1 N 0 N 1) N fa→TabH H (.hs b2 N 0 N 1) N fb→L0≤H.length→C lk lim 55 [.hs b1 N 0 N 1,.hs b2 N 0 N 1] H=some (.hs (H.length+1) N 0 N 1,memT H N (mkR N fun i k=>fa i k||fb i k)))
  {t0:TT} {Z0:Heap} (hZ0:ExtH Z Z0) (hZ0l:L0≤Z0.length) (ht:TabK (·≠ba) Z0 (.hs bt N 0 N 1) N t0)
  (hE:restrict [0,1,5,6,7,8,10] E=eK10 m cells s (.hs ba i 0 i 1) i (xW kd a0 a1 a2 a3 (.sl ks.length (ints ks))) (.hs bt N 0 N 1) 0)
  (hQ:∀E' Z' bt',restrict [0,1,5,6,7,8] E'=eA m cells s (.hs ba i 0 i 1) i (xW kd a0 a1 a2 a3 (.sl ks.length (ints ks))) (.hs bt' N 0 N 1)→ExtH Z Z'→L0≤Z'.length→TabK (·≠ba) Z' (.hs bt' N 0 N 1) N (ks.foldl (wKid N kd ws) t0)→Q .nrm E' Z'):
  WB ⟨C,lk,lim,[7]⟩ (.block 4 (.loop [0,1,5,6,7,8,10] t35L2)) Q E Z0:=by
 refine wb_loop (σ:=Nat×Heap×Nat) (fun q=>eK10 m cells s (.hs ba i 0 i 1) i (xW kd a0 a1 a2 a3 (.sl ks.length (ints ks))) (.hs q.2.2 N 0 N 1) q.1) (fun q=>q.2.1)
  (fun q=>q.1≤ks.length∧ExtH Z q.2.1∧L0≤q.2.1.length∧TabK (·≠ba) q.2.1 (.hs q.2.2 N 0 N 1) N ((ks.take q.1).foldl (wKid N kd ws) t0)) (fun q=>ks.length-q.1) ?_ (0,Z0,bt) ⟨Nat.zero_le _,hZ0,hZ0l,ht⟩ hE rfl
 rintro⟨j,Zj,bj⟩ ⟨hj0,he,hl,ht⟩
 dsimp only at hj0 he hl ht ⊢
 rw[e352]
 generalize hR:Rnd _ _ _ _ _ _ _=R
 by_cases hj:j<ks.length
 case neg=>
  obtain rfl:j=ks.length:=by omega
  rw[List.take_length]at ht
  have hx:∀env,restrict [0,1,5,6,7,8] env=eA m cells s (.hs ba i 0 i 1) i (xW kd a0 a1 a2 a3 (.sl ks.length (ints ks))) (.hs bj N 0 N 1)→R (.exit 4) env Zj:=fun env h=>by
   rw[←hR]
   exact hQ env Zj bj h he hl ht
  generalize (.block 5 (.seq wK (.cond (ux 66) wT wE)):AC)=F
  simp
  exact hx _ rfl
 obtain⟨q,hkq⟩:=get_of hj
 have hqb:=hq q (List.mem_of_getElem? hkq)
 obtain⟨q,rfl⟩:=Int.eq_ofNat_of_zero_le hqb.1
 have hqi:q<i:=by omega
 obtain⟨wq,hwq⟩:=get_of (show q<ws.length by omega)
 obtain⟨vq,hvq,htq⟩:=hws q wq hwq
 obtain⟨bq,rfl⟩:=htq.hs
 have htq2:=htq.mono he
 have hgd:ws.getD q zT=wq:=by rw[List.getD_eq_getElem?_getD,hwq];rfl
 have hts:(ks.take (j+1)).foldl (wKid N kd ws) t0=wKid N kd ws ((ks.take j).foldl (wKid N kd ws) t0) q:=by
  rw[List.take_add_one,hkq,List.foldl_append];rfl
 have hba:ba<Zj.length:=get_lt (he ba _ hZ)
 have hk54:=h54 ht.tab htq2.tab hl
 have hk55:=h55 ht.tab htq2.tab hl
 have hcall:C lk lim (if kd=3 then 54 else 55) [.hs bj N 0 N 1,.hs bq N 0 N 1] Zj=some (.hs (Zj.length+1) N 0 N 1,memT Zj N (mkR N ((ks.take (j+1)).foldl (wKid N kd ws) t0))):=by
  rw[hts]
  generalize (ks.take j).foldl (wKid N kd ws) t0=tj at hk54 hk55 ⊢
  unfold wKid
  rw[Int.toNat_natCast,hgd]
  by_cases h3:kd=3
  ·rw[if_pos h3,if_pos h3];exact hk54
  ·rw[if_neg h3,if_neg h3];exact hk55
 have hnew:=tabK_memT (H:=Zj) (N:=N) (f:=(ks.take (j+1)).foldl (wKid N kd ws) t0) h1
 have hext:ExtH Z (memT Zj N (mkR N ((ks.take (j+1)).foldl (wKid N kd ws) t0))):=fun b x hb=>memT_old (he b x hb)
 have hlen:L0≤(memT Zj N (mkR N ((ks.take (j+1)).foldl (wKid N kd ws) t0))).length:=by
  rw[memT_len (mkR_ne h1)];omega
 have next:∀env,restrict [0,1,5,6,7,8,10] env=eK10 m cells s (.hs ba i 0 i 1) i (xW kd a0 a1 a2 a3 (.sl ks.length (ints ks))) (.hs (Zj.length+1) N 0 N 1) (j+1)→R .nrm env (memT Zj N (mkR N ((ks.take (j+1)).foldl (wKid N kd ws) t0))):=fun env h=>by
  rw[←hR,rnd_nrm]
  exact⟨(j+1,memT Zj N (mkR N ((ks.take (j+1)).foldl (wKid N kd ws) t0)),Zj.length+1),⟨hj,hext,hlen,hnew.imp (fun b _ hb=>by omega) h1⟩,by show ks.length-(j+1)<ks.length-j;omega,h,rfl⟩
 have hb:∀E,restrict [0,1,5,6,7,8,10] E=eK10 m cells s (.hs ba i 0 i 1) i (xW kd a0 a1 a2 a3 (.sl ks.length (ints ks))) (.hs bj N 0 N 1) j→WB ⟨C,lk,lim,[7]⟩ (.block 5 (.seq wK (.cond (ux 66) wT wE))) (Fol ⟨C,lk,lim,[7]⟩ (.regN [0,1,5,6,7,8,10] [kM 62 10,kU 63 62,kM 10 63]) R) E Zj:=fun E hE=>by
  rw[wb_block]
  refine wKT_ok hj hkq hqi (he ba _ hZ) hvl hvq hcall hE fun E' hE'=>?_
  have w:IntKind.i64.wrap ((j:Int)+1)=(j:Int)+1:=wrap64 (by omega) (by omega)
  generalize memT Zj N (mkR N ((ks.take (j+1)).foldl (wKid N kd ws) t0))=Z2 at next ⊢
  rw[blk_nrm,fol_nrm,wb_regN,hE']
  simp[w]
  refine next _ ?_
  rfl
 generalize (.block 5 (.seq wK (.cond (ux 66) wT wE)):AC)=F at hb ⊢
 simp[hj]
 refine hb _ ?_
 rfl
end
end Go.Proofs.Ytnhennjliinplaa

namespace Go.Proofs.Ytnhennjliinplaa
open Go Go.Hm
def AllW (H0:Heap)(Z:Heap)(av:AV)(N:Nat)(ws:List TT):Prop:=ExtH H0 Z∧((ws=[]∧av= .e0)∨∃(ba:Nat) (vs:List AV),av= .hs ba ws.length 0 ws.length 1∧Z[ba]?=some (.cells vs)∧vs.length=ws.length∧H0.length≤ba∧∀(j:Nat) w,ws[j]?=some w→∃v,vs[j]?=some v∧TabK (·≠ba) Z v N w)
theorem ExtH.trans {H Z Y:Heap}(h:ExtH H Z)(k:ExtH Z Y):ExtH H Y:=fun b x hb=>k b x (h b x hb)
theorem ExtH.len {H Z:Heap}(h:ExtH H Z):H.length≤Z.length:=by
 by_cases h0:H.length=0
 ·omega
 ·have:=get_lt (h (H.length-1) _ (List.getElem?_eq_getElem (by omega)))
  omega
section
variable {C:Orc}{Q:Ex→Kt}{E:Env}{lk lim i j k n N m ba bt bq bt' L0:Nat}{H Z Z':Heap}{s:List UInt8}{cells vs:List AV}{av kv tv:AV}{kd a0 a1 a2 a3:Int}{f:Nat→Nat→Bool}{ks:List Int}{ws:List TT}{t2:TT}
set_option maxRecDepth 20000 in
theorem tail35 {K:Nat→Prop}(hN:N=s.length+1)(hs1:s.length≤1000)(hL:L0≤Z.length)(ht:TabK K Z (.hs bt N 0 N 1) N t2)(hK:∀b,Z.length≤b→K b)(hav:av= .e0∨∃b,av= .hs b i 0 i 1)(hkv:RowI kv ks)
  (h53:∀{H:Heap} (sf:Bool),L0≤H.length→C lk lim 53 [I (N:Int),Bo sf] H=some (.hs (H.length+1) N 0 N 1,memT H N (mkR N (slF sf))))
  (h55:∀{H:Heap} {b1 b2:Nat} {fa fb:TT},TabH H (.hs b1 N 0 N 1) N fa→TabH H (.hs b2 N 0 N 1) N fb→L0≤H.length→C lk lim 55 [.hs b1 N 0 N 1,.hs b2 N 0 N 1] H=some (.hs (H.length+1) N 0 N 1,memT H N (mkR N fun i k=>fa i k||fb i k)))
  (h56:∀{H:Heap} {b1:Nat} {fa:TT},TabH H (.hs b1 N 0 N 1) N fa→L0≤H.length→C lk lim 56 [.hs b1 N 0 N 1] H=some (.hs (H.length+1) N 0 N 1,memT H N (mkR N (agM N (fun i k=>fa i k||fa i k) N))))
  (hE:restrict [0,1,5,6,7,8] E=eA m cells s av i (xW kd a0 a1 a2 a3 kv) (.hs bt N 0 N 1))
  (hQ:∀E' Z' bt',restrict [0,1,5,6,8] E'=[(0,.sl m cells),(1,Sg s),(5,av),(6,I i),(8,.hs bt' N 0 N 1)]→ExtH Z Z'→TabK K Z' (.hs bt' N 0 N 1) N (wT4 kd (wT3 N kd t2))→WB ⟨C,lk,lim,[7]⟩ wN Q E' Z'):
  WB ⟨C,lk,lim,[7]⟩ (.seq (.seq wG (.cond (ux 94) wA .skip)) (.seq (.seq wH (.cond (ux 104) wM .skip)) wN)) Q E Z:=by
 have h1:1≤N:=by omega
 -- the second half
 have half:∀(Z2:Heap) (b2:Nat),ExtH Z Z2→TabK K Z2 (.hs b2 N 0 N 1) N (wT3 N kd t2)→∀E,restrict [0,1,5,6,7,8] E=eA m cells s av i (xW kd a0 a1 a2 a3 kv) (.hs b2 N 0 N 1)→WB ⟨C,lk,lim,[7]⟩ (.seq (.seq wH (.cond (ux 104) wM .skip)) wN) Q E Z2:=by
  intro Z2 b2 e2 t2' E hE
  have hl2:L0≤Z2.length:=Nat.le_trans hL e2.len
  rw[wb_seq]
  by_cases h7:kd=5∨kd=7
  ·have k53:=h53 true hl2
   have eM:ExtH Z2 (memT Z2 N (mkR N (slF true))):=ext_memT
   have k55:=h55 (t2'.tab.mono eM) (tab_memT (H:=Z2) (f:=slF true) h1) (Nat.le_trans hl2 eM.len)
   rw[hN]at k53
   have hw4:wT4 kd (wT3 N kd t2)=fun i k=>wT3 N kd t2 i k||slF true i k:=if_pos h7
   subst hN
   refine wHM_ok (bm:=Z2.length+1) (Zm:=memT Z2 (s.length+1) (mkR (s.length+1) (slF true))) hs1 hav (fun _=>⟨k53,k55⟩) (fun h=>absurd h7 h) hE fun E' hE'=>?_
   rw[fol_nrm]
   refine hQ E' _ _ hE' (e2.trans (eM.trans ext_memT)) ?_
   rw[hw4]
   exact(tabK_memT h1).imp (fun b _ hb=>hK b (by have:=e2.len;have:=eM.len;omega)) h1
  ·have hw4:wT4 kd (wT3 N kd t2)=wT3 N kd t2:=if_neg h7
   refine wHM_ok (bm:=0) (Zm:=Z2) hs1 hav (fun h=>absurd h h7) (fun _=>⟨rfl,rfl⟩) hE fun E' hE'=>?_
   rw[fol_nrm]
   refine hQ E' _ _ hE' e2 ?_
   rw[hw4]
   exact t2'
 rw[wb_seq]
 by_cases h6:kd=5∨kd=6
 ·have k56:=h56 ht.tab hL
  have hw3:wT3 N kd t2=agM N (fun i k=>t2 i k||t2 i k) N:=if_pos h6
  refine wGA_ok hav hkv (fun _=>k56) (fun h=>absurd h6 h) hE fun E' hE'=>?_
  rw[fol_nrm]
  refine half _ _ ext_memT ?_ E' hE'
  rw[hw3]
  exact(tabK_memT h1).imp (fun b _ hb=>hK b hb) h1
 ·have hw3:wT3 N kd t2=t2:=if_neg h6
  refine wGA_ok (bt':=bt) (Z':=Z) hav hkv (fun h=>absurd h h6) (fun _=>⟨rfl,rfl⟩) hE fun E' hE'=>?_
  rw[fol_nrm]
  refine half Z bt (fun _ _ h=>h) ?_ E' hE'
  rw[hw3]
  exact ht
set_option maxRecDepth 20000 in
theorem round35 {H0:Heap}{R:List Nd}{x:Nd}(hL0:L0=H0.length)(hR:∀x∈R,NdOk x)(hcl:∀x∈R,Cl4 x)(hx:R[i]?=some x)(hks:∀q∈x.ks,0≤q∧q<(i:Int))(hN:N=s.length+1)(hs1:s.length≤1000)(hRl:R.length≤100000)(hlk:lk≤L0)(hlim:lim≤L0)(hwl:ws.length=i)(hA:AllW H0 Z av N ws)
  (h19:∀(a0 a1 a2 a3:Int) lk (b:UInt8) Z,C lk lim 19 [.agg [U a0,U a1,U a2,U a3],.val (.int .u8 b.toNat)] Z=some (Bo (hasC [U a0,U a1,U a2,U a3] b.toNat),Z))
  (h53:∀{H:Heap} (sf:Bool),L0≤H.length→C lk lim 53 [I (N:Int),Bo sf] H=some (.hs (H.length+1) N 0 N 1,memT H N (mkR N (slF sf))))
  (h54:∀{H:Heap} {b1 b2:Nat} {fa fb:TT},TabH H (.hs b1 N 0 N 1) N fa→TabH H (.hs b2 N 0 N 1) N fb→L0≤H.length→C lk lim 54 [.hs b1 N 0 N 1,.hs b2 N 0 N 1] H=some (.hs (H.length+1) N 0 N 1,memT H N (mkR N (thF fa fb N))))
  (h55:∀{H:Heap} {b1 b2:Nat} {fa fb:TT},TabH H (.hs b1 N 0 N 1) N fa→TabH H (.hs b2 N 0 N 1) N fb→L0≤H.length→C lk lim 55 [.hs b1 N 0 N 1,.hs b2 N 0 N 1] H=some (.hs (H.length+1) N 0 N 1,memT H N (mkR N fun i k=>fa i k||fb i k)))
  (h56:∀{H:Heap} {b1:Nat} {fa:TT},TabH H (.hs b1 N 0 N 1) N fa→L0≤H.length→C lk lim 56 [.hs b1 N 0 N 1] H=some (.hs (H.length+1) N 0 N 1,memT H N (mkR N (agM N (fun i k=>fa i k||fa i k) N))))
  (hE:restrict [0,1,5,6] E=[(0,.sl R.length (rxC R)),(1,Sg s),(5,av),(6,I i)])
  (hQ:∀E' Z' av',restrict [0,1,5,6] E'=[(0,.sl R.length (rxC R)),(1,Sg s),(5,av'),(6,I i)]→AllW H0 Z' av' N (ws++[nodeW N s ws x])→Q .nrm E' Z'):
  WB ⟨C,lk,lim,[7]⟩ (.seq wX (.seq wP (.seq (.seq (.regN [0,1,5,6,7,8] [kZ 9]) (.block 2 (.loop [0,1,5,6,7,8,9] t35L1))) (.seq (.seq (.regN [0,1,5,6,7,8] [kZ 10]) (.block 4 (.loop [0,1,5,6,7,8,10] t35L2))) (.seq (.seq wG (.cond (ux 94) wA .skip)) (.seq (.seq wH (.cond (ux 104) wM .skip)) wN)))))) Q E Z:=by
 have h1:1≤N:=by omega
 have hi:=get_lt hx
 obtain⟨hr,hl⟩:=rxC_at hR hx
 obtain⟨he0,hA⟩:=hA
 have hL:L0≤Z.length:=by rw[hL0];exact he0.len
 obtain⟨_,hkv,hkl⟩:=hR x (List.mem_of_getElem? hx)
 obtain⟨a0,a1,a2,a3,hcs⟩:=hcl x (List.mem_of_getElem? hx)
 obtain⟨kd,cs,ks,kv⟩:=x
 dsimp only at hks hkv hkl hcs
 subst hcs
 have hr:((rxC R).drop (i*6)).take 6=[I kd,U a0,U a1,U a2,U a3,kv]:=hr
 have hav:av= .e0∨∃b,av= .hs b i 0 i 1:=by
  rcases hA with⟨_,h⟩ | ⟨ba,vs,h,_⟩
  ·exact .inl h
  ·exact .inr ⟨ba,by rw[h,hwl]⟩
 have k53:=h53 (decide (kd=1)||decide (kd=3)) hL
 rw[hN]at k53
 rw[←hN]at k53
 rw[wb_seq]
 refine wX_ok hi hr hl hav hE fun E1 hE1=>?_
 rw[fol_nrm,wb_seq]
 refine wP_ok rfl hs1 (by rw[←hN];exact k53) hav hE1 fun E2 hE2=>?_
 have hw0:slF (decide (kd=1)||decide (kd=3))=wT0 kd:=rfl
 rw[hw0,fol_nrm]
 -- what stands behind the kids
 have hZ1:ExtH Z (memT Z N (mkR N (wT1 s kd [U a0,U a1,U a2,U a3]))):=ext_memT
 have hZ1l:L0≤(memT Z N (mkR N (wT1 s kd [U a0,U a1,U a2,U a3]))).length:=Nat.le_trans hL hZ1.len
 have htab:=tabK_memT (H:=Z) (N:=N) (f:=wT1 s kd [U a0,U a1,U a2,U a3]) h1
 have hnw:nodeW N s ws ⟨kd,[U a0,U a1,U a2,U a3],ks,kv⟩=wT4 kd (wT3 N kd (ks.foldl (wKid N kd ws) (wT1 s kd [U a0,U a1,U a2,U a3]))):=rfl
 rw[hnw]at hQ
 have hkid:∀E,restrict [0,1,5,6,7,8,10] E=eK10 R.length (rxC R) s av i (xW kd a0 a1 a2 a3 kv) (.hs (Z.length+1) N 0 N 1) 0→WB ⟨C,lk,lim,[7]⟩ (.block 4 (.loop [0,1,5,6,7,8,10] t35L2)) (Fol ⟨C,lk,lim,[7]⟩ (.seq (.seq wG (.cond (ux 94) wA .skip)) (.seq (.seq wH (.cond (ux 104) wM .skip)) wN)) Q) E (memT Z N (mkR N (wT1 s kd [U a0,U a1,U a2,U a3]))):=by
  intro E hE
  rcases hA with⟨hw0,hav0⟩ | ⟨ba,vs,hav0,hZb,hvl,hLb,hws⟩
  ·-- the first node
   subst hw0
   have hi0:i=0:=by simpa using hwl.symm
   have hks0:ks=[]:=by
    cases ks with
    | nil=>rfl
    | cons q l=>
     have:=hks q List.mem_cons_self
     omega
   subst hks0
   have hw2:([]:List Int).foldl (wKid N kd []) (wT1 s kd [U a0,U a1,U a2,U a3])=wT1 s kd [U a0,U a1,U a2,U a3]:=rfl
   rw[hw2]at hQ
   refine wb_loop0 ?_
   rw[hE]
   have htail:∀E,restrict [0,1,5,6,7,8] E=eA R.length (rxC R) s av i (xW kd a0 a1 a2 a3 kv) (.hs (Z.length+1) N 0 N 1)→WB ⟨C,lk,lim,[7]⟩ (.seq (.seq wG (.cond (ux 94) wA .skip)) (.seq (.seq wH (.cond (ux 104) wM .skip)) wN)) Q E (memT Z N (mkR N (wT1 s kd [U a0,U a1,U a2,U a3]))):=fun E hE=>
    tail35 (K:=fun _=>True) hN hs1 hZ1l (htab.imp (fun _ _ _=>trivial) h1) (fun _ _=>trivial) hav hkv h53 h55 h56 hE fun E' Z' bt' hE' he ht'=>by
     rw[hav0,hi0]at hE'
     refine wN0_ok hE' fun E3 hE3=>?_
     have hl3:=Nat.le_trans hZ1l he.len
     refine hQ E3 _ (.hs Z'.length 1 0 1 1) (by rw[hE3,hi0];rfl) ⟨fun b x hb=>by rw[List.getElem?_append_left (get_lt ((he0.trans (hZ1.trans he)) b x hb))];exact(he0.trans (hZ1.trans he)) b x hb,.inr ⟨Z'.length,[.hs bt' N 0 N 1],rfl,by simp,rfl,by omega,fun j w hw=>?_⟩⟩
     cases j with
     | zero=>
      simp at hw
      subst hw
      refine⟨_,rfl,?_⟩
      have e1:ExtH Z' (Z'++[.cells [.hs bt' N 0 N 1]]):=fun b x hb=>by rw[List.getElem?_append_left (get_lt hb),hb]
      exact(ht'.imp (fun b hb _=>Nat.ne_of_lt hb) h1).mono e1
     | succ j=>simp at hw
   rw[e352]
   generalize (.block 5 (.seq wK (.cond (ux 66) wT wE)):AC)=F
   generalize (.seq (.seq wG (.cond (ux 94) wA .skip)) (.seq (.seq wH (.cond (ux 104) wM .skip)) wN):AC)=TL at htail ⊢
   generalize memT Z N (mkR N (wT1 s kd [U a0,U a1,U a2,U a3]))=Z1 at htail ⊢
   rw[hav0]at htail ⊢
   rcases hkv with⟨hk1,_⟩ | hk1
   all_goals
    rw[hk1]at htail ⊢
    simp
    refine htail _ ?_
    rfl
  ·have hvl:vs.length=i:=by rw[hvl,hwl]
   have hba:=get_lt hZb
   rw[hwl]at hav0
   have hKb:∀b,Z.length≤b→b≠ba:=fun b hb=>by omega
   -- what is done with the table
   have htail:∀(Z2:Heap) (bt2:Nat) (t2:TT),ExtH Z Z2→L0≤Z2.length→TabK (·≠ba) Z2 (.hs bt2 N 0 N 1) N t2→t2=ks.foldl (wKid N kd ws) (wT1 s kd [U a0,U a1,U a2,U a3])→∀E,restrict [0,1,5,6,7,8] E=eA R.length (rxC R) s av i (xW kd a0 a1 a2 a3 kv) (.hs bt2 N 0 N 1)→WB ⟨C,lk,lim,[7]⟩ (.seq (.seq wG (.cond (ux 94) wA .skip)) (.seq (.seq wH (.cond (ux 104) wM .skip)) wN)) Q E Z2:=fun Z2 bt2 t2 he2 hl2 ht2 hte E hE=>
    tail35 (K:=(·≠ba)) hN hs1 hl2 ht2 (fun b hb=>hKb b (Nat.le_trans he2.len hb)) hav hkv h53 h55 h56 hE fun E' Z' bt' hE' he ht'=>by
     rw[hav0]at hE'
     have hZb':Z'[ba]?=some (.cells vs):=he ba _ (he2 ba _ hZb)
     refine wN1_ok hZb' hvl (by omega) (by omega) (by omega) hE' fun E3 hE3=>?_
     refine hQ E3 _ (.hs ba (i+1) 0 (i+1) 1) hE3 ⟨fun b x hb=>by rw[List.getElem?_set_ne (by have:=get_lt hb;omega)];exact(he0.trans (he2.trans he)) b x hb,.inr ⟨ba,vs++[.hs bt' N 0 N 1],by rw[List.length_append,hwl];rfl,?_,by simp;omega,hLb,fun j w hw=>?_⟩⟩
     ·rw[List.getElem?_set_self (get_lt hZb')]
     ·by_cases hj:j<ws.length
      ·rw[List.getElem?_append_left hj]at hw
       obtain⟨v,hv,htv⟩:=hws j w hw
       exact⟨v,by rw[List.getElem?_append_left (by omega),hv],(htv.mono (he2.trans he)).setb⟩
      ·have hjw:j=ws.length:=by
        have:=get_lt hw
        simp at this
        omega
       subst hjw
       rw[List.getElem?_append_right (Nat.le_refl _),Nat.sub_self]at hw
       simp at hw
       subst hw
       refine⟨.hs bt' N 0 N 1,by rw[List.getElem?_append_right (by omega),hvl,hwl,Nat.sub_self];rfl,?_⟩
       rw[hte]at ht'
       exact ht'.setb
   rcases hkv with⟨hk1,hk2⟩ | hk1
   ·subst hk2
    have ht0:=htail _ _ _ hZ1 hZ1l (htab.imp (fun b _ hb=>hKb b hb) h1) rfl
    refine wb_loop0 ?_
    rw[hE,e352]
    generalize (.block 5 (.seq wK (.cond (ux 66) wT wE)):AC)=F
    generalize (.seq (.seq wG (.cond (ux 94) wA .skip)) (.seq (.seq wH (.cond (ux 104) wM .skip)) wN):AC)=TL at ht0 ⊢
    generalize memT Z N (mkR N (wT1 s kd [U a0,U a1,U a2,U a3]))=Z1 at ht0 ⊢
    rw[hav0,hk1]at ht0 ⊢
    simp
    refine ht0 _ ?_
    rfl
   ·rw[hav0,hk1]at hE
    have hws':∀(j:Nat) w,ws[j]?=some w→∃v,vs[j]?=some v∧TabK (·≠ba) Z v N w:=hws
    refine kids35 hkl h1 (by omega) hZb hvl hks hws' hwl hL hlk hlim h54 h55 hZ1 hZ1l (htab.imp (fun b _ hb=>hKb b hb) h1) hE fun E' Z' bt' hE' he' hl' ht'=>?_
    rw[fol_nrm]
    refine htail Z' bt' _ he' hl' ht' rfl E' ?_
    rw[hE',hav0,hk1]
 have hcl2:∀E,restrict [0,1,5,6,7,8,9] E=e9 R.length (rxC R) s av i (xW kd a0 a1 a2 a3 kv) (.hs (Z.length+1) N 0 N 1) 0→WB ⟨C,lk,lim,[7]⟩ (.block 2 (.loop [0,1,5,6,7,8,9] t35L1)) (Fol ⟨C,lk,lim,[7]⟩ (.seq (.seq (.regN [0,1,5,6,7,8] [kZ 10]) (.block 4 (.loop [0,1,5,6,7,8,10] t35L2))) (.seq (.seq wG (.cond (ux 94) wA .skip)) (.seq (.seq wH (.cond (ux 104) wM .skip)) wN))) Q) E (memT Z N (mkR N (wT0 kd))):=fun E hE=>
  cls35 hN hs1 (by omega) (by omega) hav (fun lk b Z=>h19 a0 a1 a2 a3 lk b Z) hE fun E' hE'=>by
   generalize memT Z N (mkR N (wT1 s kd [U a0,U a1,U a2,U a3]))=Z1 at hkid ⊢
   generalize (.block 4 (.loop [0,1,5,6,7,8,10] t35L2):AC)=L4 at hkid ⊢
   generalize (.seq (.seq wG (.cond (ux 94) wA .skip)) (.seq (.seq wH (.cond (ux 104) wM .skip)) wN):AC)=TL at hkid ⊢
   rw[fol_nrm,wb_seq,wb_seq,wb_regN,hE']
   rcases hav with rfl | ⟨b,rfl⟩<;>rcases hkv with⟨rfl,_⟩ | rfl
   all_goals
    simp
    refine hkid _ ?_
    rfl
 generalize memT Z N (mkR N (wT0 kd))=Z0 at hcl2 ⊢
 generalize (.block 2 (.loop [0,1,5,6,7,8,9] t35L1):AC)=L2 at hcl2 ⊢
 generalize (.seq (.seq (.regN [0,1,5,6,7,8] [kZ 10]) (.block 4 (.loop [0,1,5,6,7,8,10] t35L2))) (.seq (.seq wG (.cond (ux 94) wA .skip)) (.seq (.seq wH (.cond (ux 104) wM .skip)) wN)):AC)=TL at hcl2 ⊢
 rw[wb_seq,wb_seq,wb_regN,hE2]
 rcases hav with rfl | ⟨b,rfl⟩<;>rcases hkv with⟨rfl,_⟩ | rfl
 all_goals
  simp
  refine hcl2 _ ?_
  rfl
end
end Go.Proofs.Ytnhennjliinplaa
