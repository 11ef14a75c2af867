/- Build, told to the evaluator. -/
import Derived.Test.YtnhennjliinplaaGD
import Derived.Test.YtnhennjliinplaaHmG10
set_option linter.all false
namespace Go.Proofs.Ytnhennjliinplaa
open Go Go.Hm

def decI:List AV→Option (List Int)
 | []=>some []
 | .val (.int .i64 n)::r=>match decI r with
  | some l=>some (n::l)
  | none=>none
 | _=>none
theorem decI_ok:∀{v:List AV} {l:List Int},decI v=some l→v=ints l
 | [],l,h=>by simp only[decI,Option.some.injEq]at h;subst h;rfl
 | a::r,l,h=>by
  unfold decI at h
  split at h
  ·rename_i e;cases e
  ·rename_i n r' e
   cases e
   split at h
   ·rename_i l' hl
    simp only[Option.some.injEq]at h
    subst h
    rw[decI_ok hl];rfl
   ·cases h
  ·cases h
def decK (v:AV):Option (List Int):=match v with
 | .e0=>some []
 | .sl n cs=>match decI cs with
  | some l=>if Nat.beq l.length n&&Nat.ble l.length 100000 then some l else none
  | none=>none
 | _=>none
theorem decK_ok {v:AV}{l:List Int}(h:decK v=some l):((v= .e0∧l=[])∨v= .sl l.length (ints l))∧l.length≤100000:=by
 unfold decK at h
 split at h
 ·simp at h;subst h;exact⟨.inl ⟨rfl,rfl⟩,Nat.zero_le _⟩
 ·split at h
  ·rename_i l' hl
   split at h
   ·rename_i hc
    simp only[Bool.and_eq_true,Nat.beq_eq,Nat.ble_eq]at hc
    simp only[Option.some.injEq]at h
    subst h
    obtain⟨h1,h2⟩:=hc
    rw[decI_ok hl,←h1]
    exact⟨.inr rfl,h2⟩
   ·cases h
  ·cases h
 ·cases h
def decN:List AV→Option (List Nd)
 | []=>some []
 | .val (.int .i64 kd):: .val (.int .u64 a):: .val (.int .u64 b):: .val (.int .u64 c):: .val (.int .u64 d)::kv::r=>match decK kv with
  | some ks=>match decN r with
   | some R=>some (⟨kd,[U a,U b,U c,U d],ks,kv⟩::R)
   | none=>none
  | none=>none
 | _=>none
def NdAll (R:List Nd):Prop:=∀x∈R,NdOk x∧Cl4 x∧x.ks.length≤100000
theorem decN_ok:∀{v:List AV} {R:List Nd},decN v=some R→v=rxC R∧NdAll R
 | [],R,h=>by simp[decN]at h;subst h;exact⟨rfl,fun _ h=>nomatch h⟩
 | a::r,R,h=>by
  unfold decN at h
  split at h
  ·rename_i e;cases e
  ·rename_i kd a' b c d kv r' e
   cases e
   split at h
   ·rename_i ks hks
    split at h
    ·rename_i R' hR
     simp only[Option.some.injEq]at h
     subst h
     obtain⟨h1,h2⟩:=decN_ok hR
     obtain⟨k1,k2⟩:=decK_ok hks
     refine⟨by rw[h1];rfl,fun x hx=>?_⟩
     rcases List.mem_cons.1 hx with rfl | hx
     ·exact⟨⟨rfl,k1,Nat.le_trans k2 (by omega)⟩,⟨_,_,_,_,rfl⟩,k2⟩
     ·exact h2 x hx
    ·cases h
   ·cases h
  ·cases h
def decR (v:AV):Option (List Nd):=match v with
 | .e0=>some []
 | .sl n cs=>match decN cs with
  | some R=>if Nat.beq R.length n then some R else none
  | none=>none
 | _=>none
theorem decR_ok {v:AV}{R:List Nd}(h:decR v=some R):RvOk v R:=by
 unfold decR at h
 split at h
 ·simp at h;subst h;exact⟨.inl ⟨rfl,rfl⟩,fun _ h=>nomatch h⟩
 ·split at h
  ·rename_i R' hR
   split at h
   ·rename_i hc
    simp only[Nat.beq_eq]at hc
    simp only[Option.some.injEq]at h
    subst h
    obtain⟨h1,h2⟩:=decN_ok hR
    rw[h1,←hc]
    exact⟨.inr rfl,h2⟩
   ·cases h
  ·cases h
 ·cases h
def decRs:List AV→Option (List (List Nd))
 | []=>some []
 | v::r=>match decR v with
  | some R=>match decRs r with
   | some l=>some (R::l)
   | none=>none
  | none=>none
theorem decRs_ok:∀{vs:List AV} {Ls:List (List Nd)},decRs vs=some Ls→∀(j:Nat) R,Ls[j]?=some R→∃v,vs[j]?=some v∧RvOk v R
 | [],Ls,h=>by simp[decRs]at h;subst h;intro j R h;cases h
 | v::r,Ls,h=>by
  simp only[decRs]at h
  split at h
  ·rename_i R hR
   split at h
   ·rename_i l hl
    simp only[Option.some.injEq]at h
    subst h
    intro j R' hj
    cases j with
    | zero=>simp at hj;subst hj;exact⟨v,rfl,decR_ok hR⟩
    | succ j=>exact decRs_ok hl j R' (by simpa using hj)
   ·cases h
  ·cases h
def decLs (lv:AV):Option (List (List Nd)):=match lv with
 | .e0=>some []
 | .sl n vs=>match decRs vs with
  | some Ls=>if Nat.beq Ls.length n&&Nat.ble Ls.length 1000 then some Ls else none
  | none=>none
 | _=>none
theorem decLs_ok {lv:AV}{Ls:List (List Nd)}(h:decLs lv=some Ls):(∃vs,LsOk lv vs Ls)∧Ls.length≤1000:=by
 unfold decLs at h
 split at h
 ·simp at h;subst h;exact⟨⟨[],.inl ⟨rfl,rfl⟩,fun j R h=>nomatch h⟩,Nat.zero_le _⟩
 ·split at h
  ·rename_i vs Ls' hL
   split at h
   ·rename_i hc
    simp only[Bool.and_eq_true,Nat.beq_eq,Nat.ble_eq]at hc
    simp only[Option.some.injEq]at h
    subst h
    exact⟨⟨_,.inr (by rw[hc.1]),decRs_ok hL⟩,hc.2⟩
   ·cases h
  ·cases h
 ·cases h
theorem long_code {lk lim b g o n es:Nat}{H:Heap}(hn:16<n)(hlk:lk≤H.length):callW X A lk lim 13 [.hs b g o n es] H=some (erB 3,H):=by
 have hX:X lk lim 13 [.hs b g o n es] H=none:=noX1 (by decide) (by decide) (by decide)
 refine wb_callB [] hX A13 rfl rfl ?_
 show WB ⟨callW X A,lk,H.length,[]⟩ t13B _ _ _
 obtain⟨H1,hH1⟩:∃H1,H1=H++[HB.cells [.e0,.e0,.e0]]:=⟨_,rfl⟩
 have ha:H1[H.length]?=some (.cells [.e0,.e0,.e0]):=by rw[hH1,List.getElem?_append_right (Nat.le_refl _)];simp
 have hpre:∀(b:Nat) (x:HB),H[b]?=some x→H1[b]?=some x:=fun b x hb=>by
  rw[hH1,List.getElem?_append_left (List.getElem?_eq_some_iff.1 hb).1,hb]
 have hset:H1.set H.length (.cells [.e0,.e0,.e0])=H1:=set_self ha
 have hbig2:(16:Int)<(n:Int):=by omega
 rw[e13B]
 generalize callW X A=C
 generalize x13=xx
 generalize L13a=LL
 generalize hP:FinT [.cell 2 3 true,.tmp 3] true H (erB 3,H)=P
 rw[wb_seq,wb_regN]
 simp[-wb_seq,-wb_regN]
 rw[←hH1,wb_seq,wb_seq,wb_regN]
 simp[hbig2,ha,hlk,setH,hset]
 rw[←hP]
 exact er_fin (e:=3) rfl rfl rfl ha hpre
def F13 (lk:Nat)(l:List AV)(H:Heap):Option (AV×Heap):=match l with
 | [.hs _ _ _ n _]=>if Nat.ble 17 n&&Nat.ble lk H.length then some (erB 3,H) else none
 | [lv]=>match decLs lv with
  | some Ls=>if Nat.ble lk H.length then some (buildR Ls,H) else none
  | none=>none
 | _=>none
def F40 (_:Nat)(l:List AV)(H:Heap):Option (AV×Heap):=match keysG l H with
 | some v=>some (v,H)
 | none=>none
theorem F13_ok {lk lim:Nat}{l:List AV}{H:Heap}{r:AV×Heap}(h:F13 lk l H=some r):callW X A lk lim 13 l H=some r:=by
 unfold F13 at h
 split at h
 ·split at h
  ·rename_i hc
   simp only[Bool.and_eq_true,Nat.ble_eq]at hc
   simp only[Option.some.injEq]at h
   subst h
   exact long_code hc.1 hc.2
  ·cases h
 ·rename_i lv _
  split at h
  ·rename_i Ls hL
   split at h
   ·rename_i hc
    simp only[Nat.ble_eq]at hc
    simp only[Option.some.injEq]at h
    subst h
    obtain⟨⟨vs,h1⟩,h2⟩:=decLs_ok hL
    exact build_code h1 h2 hc
   ·cases h
  ·cases h
 ·cases h
theorem F40_ok {lk lim:Nat}{l:List AV}{H:Heap}{r:AV×Heap}(h:F40 lk l H=some r):callW X A lk lim 40 l H=some r:=by
 refine callW_prim ?_
 unfold X
 refine callW_prim ?_
 unfold F40 at h
 split at h
 ·rename_i v hk
  simp only[Option.some.injEq]at h
  subst h
  simp[withFun,hk]
 ·cases h
def pr3 (f:Nat):Bool:=Nat.beq f 40||(Nat.beq f 61||Nat.beq f 72)
def ansN:Ans:=[(13,F13),(40,F40)]
noncomputable def EN (N n:Nat):Orc:=callE (gF X pr3 A ansN) N n
theorem run_N (N n:Nat){lk lim:Nat}{f:FuncId}{l:List AV}{H:Heap}{r:AV×Heap}(ha:l.all argOk=true)(h:EN N n lk lim f l H=some r):callW X A lk lim f l H=some r:=
 run_W (t:=ansN) (fun f hf lk lim l H=>by
  simp only[pr3,Bool.or_eq_false_iff]at hf
  exact noX1 (fun e=>by subst e;simp at hf) (fun e=>by subst e;simp at hf) (fun e=>by subst e;simp at hf)) (fun p hp lk lim l H r hr=>by
  simp only[ansN,List.mem_cons,List.not_mem_nil,or_false]at hp
  rcases hp with rfl | rfl
  ·exact F13_ok hr
  ·exact F40_ok hr) N n (EN N n) rfl lk lim f l H r ha h
end Go.Proofs.Ytnhennjliinplaa

namespace Go.Proofs.Ytnhennjliinplaa
open Go Go.Hm
theorem lives0:callW X A 0 0 8 [] []=some (Bo true,[]):=run_N 100000 300 rfl (by kernel_rfl)
end Go.Proofs.Ytnhennjliinplaa
