import Derived.Test.YtkllbcjanneppaaGreatGB
set_option maxRecDepth 20000
set_option linter.all false
namespace Go.Proofs.YtkllbcjanneppaaGreat
open Go Go.Hm

def mrg:List (List UInt8)->List (List UInt8)->List (List UInt8)
 | [],b=>b
 | a,[]=>a
 | x::a,y::b=>if Op.bytesLess y x=true then y::mrg (x::a) b else x::mrg a (y::b)
termination_by a b=>a.length+b.length
theorem mH {z:List UInt8}:∀(a b:List (List UInt8)),z∈mrg a b↔z∈a\/z∈b
 | [],b=>by simp[mrg]
 | x::a,[]=>by simp[mrg]
 | x::a,y::b=>by
  rw[mrg];split
  ·rw[List.mem_cons,mH (x::a) b];simp only[List.mem_cons];constructor
   ·rintro (h | (h | h) | h)
    ·exact .inr (.inl h)
    ·exact .inl (.inl h)
    ·exact .inl (.inr h)
    ·exact .inr (.inr h)
   ·rintro ((h | h) | h | h)
    ·exact .inr (.inl (.inl h))
    ·exact .inr (.inl (.inr h))
    ·exact .inl h
    ·exact .inr (.inr h)
  ·rw[List.mem_cons,mH a (y::b)];simp only[List.mem_cons];constructor
   ·rintro (h | h | h | h)
    ·exact .inl (.inl h)
    ·exact .inl (.inr h)
    ·exact .inr (.inl h)
    ·exact .inr (.inr h)
   ·rintro ((h | h) | h | h)
    ·exact .inl h
    ·exact .inr (.inl h)
    ·exact .inr (.inr (.inl h))
    ·exact .inr (.inr (.inr h))
termination_by a b=>a.length+b.length
theorem yJ:∀(a b:List (List UInt8)),Up a->Up b->(∀x∈a,∀y∈b,x≠y)->Up (mrg a b)
 | [],b,_,hb,_=>by simpa[mrg] using hb
 | x::a,[],ha,_,_=>by simpa[mrg] using ha
 | x::a,y::b,ha,hb,hd=>by
  rw[mrg];obtain⟨ha1,ha2⟩:=List.pairwise_cons.1 ha;obtain⟨hb1,hb2⟩:=List.pairwise_cons.1 hb;split
  ·rename_i hl;refine List.pairwise_cons.2 ⟨fun z hz=>?_,yJ (x::a) b ha hb2 fun u hu v hv=>hd u hu v (List.mem_cons_of_mem _ hv)⟩;rcases (mH _ _).1 hz with h | h
   ·rcases List.mem_cons.1 h with rfl | h
    ·exact hl
    ·exact eC hl (ha1 z h)
   ·exact hb1 z h
  ·rename_i hl;have hxy:Op.bytesLess x y=true:=by
    rcases fQ x y with h | h | h
    ·exact h
    ·exact absurd h (hd x (List.mem_cons_self ..) y (List.mem_cons_self ..))
    ·exact absurd h hl
   refine List.pairwise_cons.2 ⟨fun z hz=>?_,yJ a (y::b) ha2 hb fun u hu v hv=>hd u (List.mem_cons_of_mem _ hu) v hv⟩;rcases (mH _ _).1 hz with h | h
   ·exact ha1 z h
   ·rcases List.mem_cons.1 h with rfl | h
    ·exact hxy
    ·exact eC hxy (hb1 z h)
termination_by a b=>a.length+b.length
def srt:Nat->List (List UInt8)->List (List UInt8)
 | 0,l=>l
 | n+1,l=>if l.length<2 then l else mrg (srt n (l.take (l.length / 2))) (srt n (l.drop (l.length / 2)))
theorem mI {z:List UInt8}:∀(n:Nat) (l:List (List UInt8)),z∈srt n l↔z∈l
 | 0,l=>Iff.rfl
 | n+1,l=>by
  unfold srt;split
  ·exact Iff.rfl
  ·rw[mH,mI n,mI n,<-List.mem_append,List.take_append_drop]
theorem yK:∀(n:Nat) (l:List (List UInt8)),l.length<=n->l.Nodup->Up (srt n l)
 | 0,l,h,_=>by
  rw[List.eq_nil_of_length_eq_zero (by omega:l.length=0)]
  exact List.Pairwise.nil
 | n+1,l,h,hd=>by
  unfold srt;split
  ·rename_i hl
   match l,hl with
   | [],_=>exact List.Pairwise.nil
   | [x],_=>exact List.pairwise_singleton ..
   | _::_::_,hl=>exact absurd hl (by simp only[List.length_cons];omega)
  ·rename_i hl;have hd2:(l.take (l.length / 2)++l.drop (l.length / 2)).Nodup:=by rw[List.take_append_drop];exact hd
   rw[List.nodup_append]at hd2;refine yJ _ _ (yK n _ (by rw[List.length_take];omega) hd2.1) (yK n _ (by rw[List.length_drop];omega) hd2.2.1) fun x hx y hy=>?_
   exact hd2.2.2 x ((mI n _).1 hx) y ((mI n _).1 hy)
theorem Fz {l:List (List UInt8)}(hd:l.Nodup){n:Nat}(hn:l.length<=n):srt n l=bG l:=
 iG (yK n l hn hd) (eF l) fun x=>by rw[mI,dB]
theorem mJ:∀(a b:List (List UInt8)),(mrg a b).length=a.length+b.length
 | [],b=>by simp[mrg]
 | x::a,[]=>by simp[mrg]
 | x::a,y::b=>by
  rw[mrg];split
  ·rw[List.length_cons,mJ (x::a) b];simp only[List.length_cons];omega
  ·rw[List.length_cons,mJ a (y::b)];simp only[List.length_cons];omega
termination_by a b=>a.length+b.length
theorem pn:∀(n:Nat) (l:List (List UInt8)),(srt n l).length=l.length
 | 0,l=>rfl
 | n+1,l=>by
  unfold srt;split
  ·rfl
  ·rw[mJ,pn n,pn n,List.length_take,List.length_drop];omega

theorem IP (x y:List UInt8):(Op.bytesLess x y||x==y)=!Op.bytesLess y x:=by
 rcases fQ x y with h | h | h
 ·rw[h,fq h];rfl
 ·subst h;rw[fP];simp
 ·rw[h,fq h];have:x≠y:=fun e=>o5 h e.symm;simp[this]
theorem yO {lk lim:Nat}{H:Heap}{b:Nat}{cs:List AV}{x:List UInt8}(h:lk<=b):aR lk lim 0 H b cs [Sg x]=some (H.set b (.cells cs)):=by
 unfold aR;rw[if_pos ⟨h,.inr rfl,.inl (Nat.zero_le _)⟩]
theorem FA {lk lim:Nat}{H:Heap}{b:Nat}{cs:List AV}{l:List (List UInt8)}(h:lk<=b):aR lk lim 0 H b cs (ay l)=some (H.set b (.cells cs)):=by
 unfold aR;rw[if_pos ⟨h,.inr (c8 _ _),.inl (Nat.zero_le _)⟩]

theorem wI {lk lim:Nat}{H:Heap}(k:Nat)(x y:List UInt8)(hx:x.length<=1000000000000000)(hy:y.length<=1000000000000000):aj X A lk lim 94 [I k,Sg x,Sg y] H=some (Sg (join k x y),H):=by
 refine ar [] rfl A94 rfl rfl ?_;unfold Nv;generalize aj X A=C;have hadd:=qH (a:=x) (b:=y) (by omega)
 have hxy:(x++y).length=x.length+y.length:=List.length_append ..;by_cases h1:k<=x.length
 ·have h1':¬(x.length:Int)<k:=by omega
  have hj:join k x y=x.take k:=by unfold join;rw[if_pos (nA h1)]
  rw[hj];by_cases h3:x.length<=k
  ·have h3':¬(k:Int)<x.length:=by omega
   simp[bo,h1',h1,h3',List.take_of_length_le h3]
  ·have h3':(k:Int)<x.length:=by omega
   simp[bo,h1',h1,h3',ly,bnd]
 have h1':(x.length:Int)<k:=by omega
 by_cases hw:cq k x=true
 ·have hj:join k x y=x.take k:=by unfold join;rw[if_pos hw]
  rw[hj];have h2:x≠[]:=fun e=>by
   subst e;rcases jr hw with h | h
   ·exact h1 h
   ·simp at h
  obtain⟨c,hc,hl⟩:=mq h2;have hpos:0<x.length:=List.length_pos_iff.2 h2;have w1:IntKind.i64.wrap ((x.length:Int)-1)=((x.length-1:Nat):Int):=by rw[au (by omega) (by omega)];omega
  have hc2:c=255:=by
   rcases jr hw with h | h
   ·exact absurd h h1
   ·rw[hl]at h;cases h;rfl
  have hx2:(x==[])=false:=by simp[h2]
  have h3':¬(k:Int)<x.length:=by omega
  subst hc2;simp[bo,h1',iP,hx2,w1,ln,hc,h3',List.take_of_length_le (by omega:x.length<=k)]
 ·have hj:join k x y=(x++y).take k:=by unfold join;rw[if_neg hw]
  rw[hj];generalize hz:x++y=z at *;by_cases h2:x=[]
  ·subst h2;by_cases h3:z.length<=k
   ·have h3':¬(k:Int)<z.length:=by omega
    have h1k:0<k:=by simpa using h1'
    simp[bo,h1k,iP,hadd,h3',List.take_of_length_le h3]
   ·have h3':(k:Int)<z.length:=by omega
    have h1k:0<k:=by simpa using h1'
    simp[bo,h1k,iP,hadd,h3',ly,bnd,(by omega:k<=z.length)]
  ·obtain⟨c,hc,hl⟩:=mq h2;have hpos:0<x.length:=List.length_pos_iff.2 h2;have w1:IntKind.i64.wrap ((x.length:Int)-1)=((x.length-1:Nat):Int):=by rw[au (by omega) (by omega)];omega
   have hc2:(c==255)=false:=by
    simp;rintro rfl;exact hw (BN hl)
   have hx2:(x==[])=false:=by simp[h2]
   by_cases h3:z.length<=k
   ·have h3':¬(k:Int)<z.length:=by omega
    simp[bo,h1',iP,hx2,w1,ln,hc,pg,hc2,hadd,h3',List.take_of_length_le h3,bne]
   ·have h3':(k:Int)<z.length:=by omega
    simp[bo,h1',iP,hx2,w1,ln,hc,pg,hc2,hadd,h3',ly,bnd,(by omega:k<=z.length),bne]

def jd (ks:List (List UInt8)):List (AV×AV):=ks.map fun x=>(Sg x,Bo true)
theorem yP (x:List UInt8):∀ks:List (List UInt8),x∉ks->fc false [2] (Sg x) (Bo true) (jd ks)=some (jd (ks++[x]))
 | [],_=>by simp[jd,fc]
 | y::ks,h=>by
  have ih:=yP x ks (fun h2=>h (List.mem_cons_of_mem _ h2));show fc false [2] (Sg x) (Bo true) ((Sg y,Bo true)::jd ks)=_;unfold fc;rw[eqK];have h1:x≠y:=fun e=>h (e▸List.mem_cons_self ..);have hb:(x==y)=false:=by simp[h1]
  rw[hb];simp only[ih];rfl
theorem FB (x:List UInt8):∀ks:List (List UInt8),lK false [2] (Sg x) (jd ks)=some (if x∈ks then some (Bo true) else none)
 | []=>by simp[jd,lK]
 | y::ks=>by
  have ih:=FB x ks;show lK false [2] (Sg x) ((Sg y,Bo true)::jd ks)=_;unfold lK;rw[eqK];by_cases h1:x=y
  ·subst h1;simp
  ·have hb:(x==y)=false:=by simp[h1]
   rw[hb];simp only[ih,List.mem_cons,h1,false_or]
def KH (H:Heap)(ks:List (List UInt8)):Heap:=H++.map (jd ks)::rlG ks
theorem L8 (H:Heap)(ks:List (List UInt8)):(KH H ks)[H.length]?=some (.map (jd ks)):=by simp[KH]
theorem IQ (H:Heap)(ks:List (List UInt8)):(KH H ks).take H.length=H:=by simp[KH]
theorem wJ {lk lim:Nat}{H:Heap}(hlk:lk<=H.length)(x:List UInt8)(ks:List (List UInt8))(hl:ks.length<=4100000000000):aj X A lk lim 93 [rlV (H.length+1) ks,.mp H.length,Sg x] (KH H ks)=some (rlV (H.length+1) (cV ks x),KH H (cV ks x)):=by
 have hko:dN false [2] (Sg x)=true:=by simp[dN,eqK]
 have mg:=FB x ks;have hlk1:lk<=H.length+1:=by omega
 have hbel:Hm.below 0 (Bo true)=true:=rfl;cases ks with
 | nil=>
  have ms:=yP x [] (by simp)
  have r0:(16:Nat)<=aM:=by decide
  rw[show cV [] x=[x] from rfl];show aj X A lk lim 93 [.e0,.mp H.length,Sg x] (H++[.map (jd [])])=some (.hs (H.length+1) 1 0 1 1,H++[.map (jd [x]),.cells (ay [x])]);refine ar [] rfl A93 rfl rfl ?_;unfold IC;generalize aj X A=C;generalize jd []=e at *;simp[-jq,dw,mg,hko];rw[jq];simp[dw,mg,hko,ms,hlk,dG,r0];rfl
 | cons a q=>
  by_cases hx:x∈a::q
  ·have hp:cV (a::q) x=a::q:=if_pos hx;rw[hp];rw[if_pos hx]at mg;show aj X A lk lim 93 [.hs (H.length+1) (q.length+1) 0 (q.length+1) 1,.mp H.length,Sg x] (KH H (a::q))=some (.hs (H.length+1) (q.length+1) 0 (q.length+1) 1,KH H (a::q));refine ar [] rfl A93 rfl rfl ?_;unfold IC;generalize aj X A=C;have hg:=L8 H (a::q);generalize KH H (a::q)=G at *;simp[dw,hg,mg,hko]
  ·have hp:cV (a::q) x=a::q++[x]:=if_neg hx;rw[hp];rw[if_neg hx]at mg;have ms:=yP x (a::q) hx;have r1:(q.length+1+1)*16<=aM:=by unfold aM;simp only[List.length_cons]at hl;omega
   show aj X A lk lim 93 [.hs (H.length+1) (q.length+1) 0 (q.length+1) 1,.mp H.length,Sg x] (H++[.map (jd (a::q)),.cells (ay (a::q))])=some (.hs (H.length+1) ((q++[x]).length+1) 0 ((q++[x]).length+1) 1,H++[.map (jd (a::q++[x])),.cells (ay (a::q++[x]))]);have hrl:(ay (a::q)).length=q.length+1:=by simp
   have hra:ay (a::q++[x])=ay (a::q)++[Sg x]:=by simp[ay]
   rw[hra];refine ar [] rfl A93 rfl rfl ?_;unfold IC;generalize aj X A=C;generalize ay (a::q)=cs at *;generalize jd (a::q)=e at *;generalize jd (a::q++[x])=e' at *;simp[-jq,dw,mg,hko];rw[jq];simp[dw,mg,hko,ms,hlk,dG,r1,hrl,cS,eh,yO,hlk1]

theorem ou {l:List (List UInt8)}(h:l≠[]):rV l= .sl l.length (ay l):=if_neg h
theorem PR (n:Nat)(h:n<=9000000000000):(n:Int).tdiv 2=((n / 2:Nat):Int)/\IntKind.i64.wrap ((n / 2:Nat):Int)=((n / 2:Nat):Int):=by
 refine⟨?_,au (by omega) (by omega)⟩
 rw[Int.tdiv_eq_ediv_of_nonneg (by omega)]
 omega
theorem PS {C:Orc}{lk:Nat}{B:List Nat}{Q:Ex->Kt}{env:Env}{H:Heap}(hlk:lk<=H.length){a b:List (List UInt8)}(hl:a.length+b.length<=4100000000000)(ha:a≠[])(hb:b≠[])
  (hE:ab [3,4,5] env=[(3,rowsV a),(4,rowsV b),(5,.e0)])
  (hQ:∀env' a' b' o os,(o::os)++(a'++b')=mrg a b->ab [3,4,5] env'=[(3,rowsV a'),(4,rowsV b'),(5,.hs H.length (os.length+1) 0 (os.length+1) 1)]->Q (.exit 0) env' (H++[.cells (ay (o::os))])):
  WB ⟨C,lk,H.length,B⟩ (.loop [3,4,5] wt) Q env H:=by
 generalize hr:mrg a b=r at hQ;refine ax (σ:=List (List UInt8)×List (List UInt8)×List (List UInt8)) (fun s=>[(3,rowsV s.1),(4,rowsV s.2.1),(5,rlV H.length s.2.2)]) (fun s=>H++rlG s.2.2)
  (fun s=>s.2.2++mrg s.1 s.2.1=r/\(s.2.2=[]->s.1≠[]/\s.2.1≠[])/\s.2.2.length+s.1.length+s.2.1.length<=4100000000000) (fun s=>s.1.length+s.2.1.length) ?_ (a,b,[]) ⟨hr,fun _=>⟨ha,hb⟩,by simpa using hl⟩ hE (by simp[rlG])
 rintro⟨a,b,out⟩ ⟨hinv,hne,hlen⟩;simp only at hinv hne hlen;unfold wt;have fin:∀o os,out=o::os->(a=[]\/b=[])->(o::os)++(a++b)=r:=fun o os e h=>by
  rw[<-hinv,e];rcases h with rfl | rfl
  ·rw[mrg];simp
  ·cases a with
   | nil=>rw[mrg];simp
   | cons x a=>rw[mrg];simp;simp
 cases a with
 | nil=>
  cases out with
  | nil=>exact absurd rfl (hne rfl).1
  | cons o os=>
   have hQ:=fun env'=>hQ env' [] b o os (fin o os rfl (.inl rfl));show WB _ _ _ [(3,.sl 0 []),(4,rowsV b),(5,.hs H.length (os.length+1) 0 (os.length+1) 1)] (H++[.cells (ay (o::os))]);generalize ay (o::os)=cs at *;simp;refine hQ _ ?_;simp[ay]
 | cons x a=>
  cases b with
  | nil=>
   cases out with
   | nil=>exact absurd rfl (hne rfl).2
   | cons o os=>
    have hQ:=fun env'=>hQ env' (x::a) [] o os (fin o os rfl (.inr rfl));show WB _ _ _ [(3,.sl (a.length+1) (ay (x::a))),(4,.sl 0 []),(5,.hs H.length (os.length+1) 0 (os.length+1) 1)] (H++[.cells (ay (o::os))]);generalize ay (o::os)=cs at *;simp;refine hQ _ ?_;simp[ay]
  | cons y b=>
   have hm:mrg (x::a) (y::b)=if Op.bytesLess y x=true then y::mrg (x::a) b else x::mrg a (y::b):=by rw[mrg]
   have hleq:=(L5 x y).trans (by rw[IP])
   show WB _ _ _ [(3,.sl (a.length+1) (Sg x::ay a)),(4,.sl (b.length+1) (Sg y::ay b)),(5,rlV H.length out)] (H++rlG out);simp only[List.length_cons]at hlen;have hla:(ay a).length=a.length:=aW a;have hlb:(ay b).length=b.length:=aW b;have b1:(1:Int)<=(a.length:Int)+1:=by omega
   have b2:(1:Int)<=(b.length:Int)+1:=by omega
   have tka:(ay a).take a.length=ay a:=List.take_of_length_le (by omega)
   have tkb:(ay b).take b.length=ay b:=List.take_of_length_le (by omega)
   cases hlt:Op.bytesLess y x with
   | true=>
    rw[hlt]at hleq hm;rw[if_pos rfl]at hm;have hf:(out++[y])++mrg (x::a) b=r:=by rw[<-hinv,hm];simp
    cases out with
    | nil=>
     show WB _ _ _ [(3,.sl (a.length+1) (Sg x::ay a)),(4,.sl (b.length+1) (Sg y::ay b)),(5,.e0)] (H++[]);have r0:(16:Nat)<=aM:=by decide
     simp[hleq,dG,r0,bnd,b1,b2,tka,tkb,ao];exact⟨x::a,b,[y],⟨hf,by simp,by simp;omega⟩,by simp;try omega,⟨⟨rfl,rfl⟩,⟨rfl,rfl⟩,rfl⟩,rfl⟩
    | cons o os=>
     show WB _ _ _ [(3,.sl (a.length+1) (Sg x::ay a)),(4,.sl (b.length+1) (Sg y::ay b)),(5,.hs H.length (os.length+1) 0 (os.length+1) 1)] (H++[.cells (ay (o::os))]);simp only[List.length_cons]at hlen;have hrl:(ay (o::os)).length=os.length+1:=by simp
     have hra:ay (o::os++[y])=ay (o::os)++[Sg y]:=by simp[ay]
     have r1:(os.length+1+1)*16<=aM:=by unfold aM;omega
     have hl2:rlV H.length (o::os++[y])= .hs H.length (os.length+1+1) 0 (os.length+1+1) 1:=by simp[rlV]
     have hg2:rlG (o::os++[y])=[.cells (ay (o::os++[y]))]:=rfl;generalize ay (o::os)=cs at *;simp[hleq,dG,r1,hrl,cS,eh,yO,hlk,bnd,b1,b2,tka,tkb,ao];exact⟨x::a,b,o::os++[y],⟨hf,by simp,by simp;omega⟩,by simp;try omega,by rw[hl2];exact⟨⟨rfl,rfl⟩,⟨rfl,rfl⟩,rfl⟩,by rw[hg2,hra]⟩
   | false=>
    rw[hlt]at hleq hm;rw[if_neg Bool.false_ne_true]at hm;have hf:(out++[x])++mrg a (y::b)=r:=by rw[<-hinv,hm];simp
    cases out with
    | nil=>
     show WB _ _ _ [(3,.sl (a.length+1) (Sg x::ay a)),(4,.sl (b.length+1) (Sg y::ay b)),(5,.e0)] (H++[]);have r0:(16:Nat)<=aM:=by decide
     simp[hleq,dG,r0,bnd,b1,b2,tka,tkb,ao];exact⟨a,y::b,[x],⟨hf,by simp,by simp;omega⟩,by simp;try omega,⟨⟨rfl,rfl⟩,⟨rfl,rfl⟩,rfl⟩,rfl⟩
    | cons o os=>
     show WB _ _ _ [(3,.sl (a.length+1) (Sg x::ay a)),(4,.sl (b.length+1) (Sg y::ay b)),(5,.hs H.length (os.length+1) 0 (os.length+1) 1)] (H++[.cells (ay (o::os))]);simp only[List.length_cons]at hlen;have hrl:(ay (o::os)).length=os.length+1:=by simp
     have hra:ay (o::os++[x])=ay (o::os)++[Sg x]:=by simp[ay]
     have r1:(os.length+1+1)*16<=aM:=by unfold aM;omega
     have hl2:rlV H.length (o::os++[x])= .hs H.length (os.length+1+1) 0 (os.length+1+1) 1:=by simp[rlV]
     have hg2:rlG (o::os++[x])=[.cells (ay (o::os++[x]))]:=rfl;generalize ay (o::os)=cs at *;simp[hleq,dG,r1,hrl,cS,eh,yO,hlk,bnd,b1,b2,tka,tkb,ao];exact⟨a,y::b,o::os++[x],⟨hf,by simp,by simp;omega⟩,by simp;try omega,by rw[hl2];exact⟨⟨rfl,rfl⟩,⟨rfl,rfl⟩,rfl⟩,by rw[hg2,hra]⟩

theorem jD:∀(n:Nat) {lk lim:Nat} {H:Heap} (_:lk<=H.length) (l:List (List UInt8)) (_:l.length<=n) (_:l.length<=4000000000000),aj X A lk lim 95 [rV l] H=some (rV (srt n l),H)
 | 0,lk,lim,H,hlk,l,hn,hl=>by
  obtain rfl:l=[]:=List.eq_nil_of_length_eq_zero (by omega)
  show aj X A lk lim 95 [.e0] H=some (.e0,H);refine ar [] rfl A95 rfl rfl ?_;unfold En;generalize aj X A=C;simp
 | n+1,lk,lim,H,hlk,l,hn,hl=>by
  have ih:=fun (K:Nat) (hK:K<=H.length) (L:Nat) (m:List (List UInt8)) (h1:m.length<=n) (h3:m.length<=4000000000000) (h2:m≠[])=>jD n (lk:=K) (lim:=L) (H:=H) hK m h1 h3;have hn0:=Nat.le_refl H.length;unfold srt;by_cases h2:l.length<2
  ·rw[if_pos h2];have h2':(l.length:Int)<2:=by omega
   by_cases h0:l=[]
   ·subst h0;show aj X A lk lim 95 [.e0] H=some (.e0,H);refine ar [] rfl A95 rfl rfl ?_;unfold En;generalize aj X A=C;simp
   ·have hfr:=fun G d=>fy H.length G d l;have hbl:=c8 H.length l;have hbl0:=c8 0 l;rw[ou h0];generalize ay l=cs at *;refine ar [] rfl A95 rfl rfl ?_;unfold En;generalize aj X A=C;simp[h2',hfr,hbl,hbl0]
  ·rw[if_neg h2];have h2':¬(l.length:Int)<2:=by omega
   obtain⟨q1,q2⟩:=PR l.length (by omega)
   have t1:(l.take (l.length / 2)).length=l.length / 2:=by rw[List.length_take];omega
   have t2:(l.drop (l.length / 2)).length=l.length-l.length / 2:=List.length_drop ..;have hpos:1<=l.length / 2:=by omega
   have hlt:l.length / 2<l.length:=by omega
   have n1:l.take (l.length / 2)≠[]:=fun e=>by rw[e]at t1;simp at t1;omega
   have n2:l.drop (l.length / 2)≠[]:=fun e=>by rw[e]at t2;simp at t2;omega
   have k1:=fun K hK L=>ih K hK L (l.take (l.length / 2)) (by omega) (by omega) n1
   have k2:=fun K hK L=>ih K hK L (l.drop (l.length / 2)) (by omega) (by omega) n2
   have s1:=pn n (l.take (l.length / 2));have s2:=pn n (l.drop (l.length / 2));have m1:srt n (l.take (l.length / 2))≠[]:=fun e=>by rw[e]at s1;simp at s1;omega
   have m2:srt n (l.drop (l.length / 2))≠[]:=fun e=>by rw[e]at s2;simp at s2;omega
   rw[ou n1,t1]at k1;rw[ou n2,t2]at k2;rw[ou m1]at k1;rw[ou m2]at k2;have c1:(ay l).take (l.length / 2)=ay (l.take (l.length / 2)):=by simp[ay,List.map_take]
   have c2:((ay l).drop (l.length / 2)).take (l.length-l.length / 2)=ay (l.drop (l.length / 2)):=by rw[List.take_of_length_le (by simp)];simp[ay,List.map_drop]
   have hmn:mrg (srt n (l.take (l.length / 2))) (srt n (l.drop (l.length / 2)))≠[]:=fun e=>by
    have:=mJ (srt n (l.take (l.length / 2))) (srt n (l.drop (l.length / 2)));rw[e]at this;simp at this;omega
   have hab:(srt n (l.take (l.length / 2))).length+(srt n (l.drop (l.length / 2))).length<=4100000000000:=by omega
   rw[ou (by intro e;subst e;simp at h2:l≠[]),ou hmn]
   generalize srt n (l.take (l.length / 2))=a at *;generalize srt n (l.drop (l.length / 2))=b at *;generalize hr:mrg a b=r at *;have hrl:r.length=a.length+b.length:=by rw[<-hr,mJ]
   refine ar [] rfl A95 rfl rfl ?_;unfold En;generalize aj X A=C at k1 k2 |-;have main:∀(Q:Ex->Kt) (env:Env),ab [3,4,5] env=[(3,.sl a.length (ay a)),(4,.sl b.length (ay b)),(5,.e0)]->
     (∀env' a' b' o os,(o::os)++(a'++b')=r->ab [3,4,5] env'=[(3,rowsV a'),(4,rowsV b'),(5,.hs H.length (os.length+1) 0 (os.length+1) 1)]->Q (.exit 0) env' (H++[.cells (ay (o::os))]))->
     WB ⟨C,lk,H.length,[]⟩ (.loop [3,4,5] wt) Q env H:=fun Q env hE hQ=>PS hlk hab m1 m2 hE (by rw[hr];exact hQ)
   generalize wt=lp at *;generalize ay l=cl at *;generalize hca:ay (l.take (l.length / 2))=ca at *;generalize hcb:ay (l.drop (l.length / 2))=cb at *;have hm1:(l.length:Int) / 2=((l.length / 2:Nat):Int):=by omega
   generalize l.length / 2=h at *;generalize l.length=n at *;have hle:h<=n:=by omega
   have hhn:h<=h:=Nat.le_refl _;simp[hle,h2',q1,q2,bnd,c1,c2,k1,k2,hn0,hlk];refine main _ _ (by simp) fun env' a' b' o os hr' he=>?_
   have he:ab [3,4,5] env'=[(3,.sl a'.length (ay a')),(4,.sl b'.length (ay b')),(5,.hs H.length (os.length+1) 0 (os.length+1) 1)]:=he;have hR:ay r=ay (o::os)++ay a'++ay b':=by rw[<-hr'];simp[ay]
   have hrl2:r.length=os.length+1+a'.length+b'.length:=by rw[<-hr'];simp;omega
   have hco:(ay (o::os)).length=os.length+1:=by simp
   have hla:(ay a').length=a'.length:=by simp
   have hlb:(ay b').length=b'.length:=by simp
   have r1:(os.length+1+a'.length)*16<=aM:=by unfold aM;omega
   have r2:(os.length+1+a'.length+b'.length)*16<=aM:=by unfold aM;omega
   have hS1:=fun (lim:Nat) (G:Heap) (b:Nat) (cs:List AV) (h:lk<=b)=>FA (lk:=lk) (lim:=lim) (H:=G) (b:=b) (cs:=cs) (l:=a') h;have hS2:=fun (lim:Nat) (G:Heap) (b:Nat) (cs:List AV) (h:lk<=b)=>FA (lk:=lk) (lim:=lim) (H:=G) (b:=b) (cs:=cs) (l:=b') h;have hfr:=fun G d=>fy H.length G d r;have hbl:=c8 H.length r;have hbl0:=c8 0 r;have hlr:(ay r).length=r.length:=by simp
   rw[aG,if_pos rfl,ah,ai,ae,he];rw[hrl2,hR]at *;generalize ay (o::os)=co at *;generalize ay a'=ca' at *;generalize ay b'=cb' at *;generalize a'.length=na at *;generalize b'.length=nb at *;generalize os.length=no at *;have sr1:∀G,aN G (.sl na ca')=some (na,ca'):=fun G=>rfl;have sr2:∀G,aN G (.sl nb cb')=some (nb,cb'):=fun G=>rfl;have p1:∀x,no+1=no+1\/x:=fun _=>.inl rfl;rw[List.append_assoc]at hfr hbl hbl0 hlr;have htk:(co++(ca'++cb')).take (no+1+na+nb)=co++(ca'++cb'):=List.take_of_length_le (by omega)
   have hn2:no+1+(na+nb)=no+1+na+nb:=by omega
   simp[sr1,sr2,hla,hlb,hco,r1,r2,cS,eh,hS1,hS2,hlk];generalize co++(ca'++cb')=cz at *;simp[htk,hfr,hbl,hbl0,hn2]

theorem yQ {ks:List (List UInt8)}(h:ks.Nodup)(x:List UInt8):(cV ks x).Nodup:=by
 unfold cV;split
 ·exact h
 ·rename_i hx;rw[List.nodup_append];refine⟨h,List.pairwise_singleton ..,fun u hu v hv e=>?_⟩;obtain rfl:=List.mem_singleton.1 hv;exact hx (e▸hu)
theorem wK:∀(l ks:List (List UInt8)),ks.Nodup->(pl ks l).Nodup
 | [],_,h=>h
 | x::l,ks,h=>wK l (cV ks x) (yQ h x)
theorem FC (l:List (List UInt8)){n:Nat}(h:(pl [] l).length<=n):srt n (pl [] l)=bG l:=by
 rw[Fz (wK l [] List.Pairwise.nil) h,Ag]
theorem j2 (ks:List (List UInt8))(x:List UInt8):∃o os,cV ks x=o::os:=by
 have:cV ks x≠[]:=List.ne_nil_of_mem (wy.2 (.inr rfl));cases h:cV ks x with
 | nil=>exact absurd h this
 | cons o os=>exact⟨o,os,rfl⟩
theorem fV (B:Nat)(o:List UInt8)(os:List (List UInt8)):rlV B (o::os)= .hs B (os.length+1) 0 (os.length+1) 1:=rfl
theorem B1 (d:Nat)(l:List (List UInt8)):(ay l).map (zro d)=ay l:=by
 unfold ay;rw[List.map_map];refine List.map_congr_left fun x _=>?_;cases d<;>rfl
theorem FD (H:Heap)(ks:List (List UInt8)):kG H.length (KH H ks) (rlV (H.length+1) ks)=rV ks:=by
 cases ks with
 | nil=>rfl
 | cons o os=>
  rw[fV];have hfr:=fun G d=>fy H.length G d (o::os);have hbl:=c8 H.length (o::os);have hbl0:=c8 0 (o::os);have htk:(ay (o::os)).take (os.length+1)=ay (o::os):=List.take_of_length_le (by simp)
  have hln:(ay (o::os)).length=os.length+1:=by simp
  have hz:=B1 3 (o::os);have hg:(KH H (o::os))[H.length+1]?=some (.cells (ay (o::os))):=by
   unfold KH;rw[List.getElem?_append_right (by omega)]
   simp[rlG]
  rw[ou (by simp)]
  generalize KH H (o::os)=G at *;generalize hc:ay (o::os)=cs at *;have hn:¬H.length+1<H.length:=by omega
  simp[kG,frz,hn,hg,htk,hfr,hbl,hbl0,Hm.below,oJ,zro,hz,hln]
theorem Oz {C:Orc}{lk:Nat}{Q:Ex->Kt}{env:Env}{H:Heap}{va vb:AV}{a:List (List UInt8)}(hva:RV va a)(hl:a.length<=1000000000000)
  (kp:∀(L:Nat) (ks:List (List UInt8)) (x:List UInt8),ks.length<=4100000000000->C lk L 93 [rlV (H.length+1) ks,.mp H.length,Sg x] (KH H ks)=some (rlV (H.length+1) (cV ks x),KH H (cV ks x)))
  (hvb:vb= .e0\/∃n cs,vb= .sl n cs)
  (hE:ab [0,1,5,6,7] env=[(0,va),(1,vb),(5,.mp H.length),(6,.e0),(7,I 0)])
  (hQ:∀env',ab [1,5,6] env'=[(1,vb),(5,.mp H.length),(6,rlV (H.length+1) (pl [] a))]->Q (.exit 0) env' (KH H (pl [] a))):
  WB ⟨C,lk,H.length,[]⟩ (.loop [0,1,5,6,7] wu) Q env (H++[.map []]):=by
 refine ax (σ:=Nat) (fun i=>[(0,va),(1,vb),(5,.mp H.length),(6,rlV (H.length+1) (pl [] (a.take i))),(7,I i)]) (fun i=>KH H (pl [] (a.take i)))
  (fun i=>i<=a.length) (fun i=>a.length-i) ?_ 0 (by omega) hE (by simp[KH,pl,jd,rlG])
 intro i hi;unfold wu;by_cases hil:i<a.length;case neg=>
  obtain rfl:i=a.length:=by omega
  rw[List.take_length];have hlv:∃lv,rlV (H.length+1) (pl [] a)=lv/\(lv= .e0\/∃n,lv= .hs (H.length+1) n 0 n 1):=⟨_,rfl,by
   unfold rlV;split
   ·exact .inl rfl
   ·exact .inr ⟨_,rfl⟩⟩
  obtain⟨lv,e,hlv⟩:=hlv;show WB _ _ _ [(0,va),(1,vb),(5,.mp H.length),(6,rlV (H.length+1) (pl [] a)),(7,I a.length)] _;rw[e]at hQ |-;generalize KH H (pl [] a)=G at *;rcases hva with rfl | ⟨rfl,rfl⟩<;>rcases hvb with rfl | ⟨n,cs,rfl⟩<;>rcases hlv with rfl | ⟨m,rfl⟩;all_goals
   simp;refine hQ _ ?_;simp
 have hva:va=rowsV a:=by
  rcases hva with e | ⟨_,e⟩
  ·exact e
  ·subst e;simp at hil
 subst hva;have hil':(i:Int)<a.length:=by omega
 have w1:IntKind.i64.wrap ((i:Int)+1)=(i:Int)+1:=au (by omega) (by omega)
 have ga:=bE hil;have hsn:pl [] (a.take (i+1))=cV (pl [] (a.take i)) a[i]:=by rw[List.take_succ_eq_append_getElem hil,mr]
 have hlen:=jA (a.take i) [];rw[List.length_take,List.length_nil]at hlen;have kp1:=fun L=>kp L (pl [] (a.take i)) a[i] (by omega)
 obtain⟨o,os,hp⟩:=j2 (pl [] (a.take i)) a[i];rw[hp,fV]at kp1;rw[hp]at hsn;generalize a[i]=x at *;have hfin:∀n:Nat,n=i+1->rlV (H.length+1) (pl [] (a.take n))= .hs (H.length+1) (os.length+1) 0 (os.length+1) 1/\KH H (pl [] (a.take n))=KH H (o::os):=fun n e=>by
  subst e;rw[hsn];exact⟨rfl,rfl⟩
 have hf:=hfin (i+1) rfl;generalize pl [] (a.take i)=ks at *;generalize KH H (o::os)=G' at *;cases ks with
 | nil=>
  show WB _ _ _ [(0,rowsV a),(1,vb),(5,.mp H.length),(6,.e0),(7,I i)] _;have kp2:∀L,C lk L 93 [.e0,.mp H.length,Sg x] (KH H [])=_:=kp1;generalize KH H []=G at *;rcases hvb with rfl | ⟨n,cs,rfl⟩;all_goals
   simp[hil,hil',aW,ga,kp2,w1,ao];exact⟨i+1,by omega,by omega,⟨hf.1.symm,by omega⟩,hf.2.symm⟩
 | cons p q=>
  show WB _ _ _ [(0,rowsV a),(1,vb),(5,.mp H.length),(6,.hs (H.length+1) (q.length+1) 0 (q.length+1) 1),(7,I i)] _;have kp2:∀L,C lk L 93 [.hs (H.length+1) (q.length+1) 0 (q.length+1) 1,.mp H.length,Sg x] (KH H (p::q))=_:=kp1;generalize KH H (p::q)=G at *;rcases hvb with rfl | ⟨n,cs,rfl⟩;all_goals
   simp[hil,hil',aW,ga,kp2,w1,ao];exact⟨i+1,by omega,by omega,⟨hf.1.symm,by omega⟩,hf.2.symm⟩
theorem OA {C:Orc}{lk:Nat}{Q:Ex->Kt}{env:Env}{H:Heap}{vb:AV}{a b:List (List UInt8)}(hvb:RV vb b)(hla:a.length<=1000000000000)(hl:b.length<=1000000000000)
  (kp:∀(L:Nat) (ks:List (List UInt8)) (x:List UInt8),ks.length<=4100000000000->C lk L 93 [rlV (H.length+1) ks,.mp H.length,Sg x] (KH H ks)=some (rlV (H.length+1) (cV ks x),KH H (cV ks x)))
  (hE:ab [1,5,6,8] env=[(1,vb),(5,.mp H.length),(6,rlV (H.length+1) (pl [] a)),(8,I 0)])
  (hQ:∀env',ab [6] env'=[(6,rlV (H.length+1) (pl [] (a++b)))]->Q (.exit 2) env' (KH H (pl [] (a++b)))):
  WB ⟨C,lk,H.length,[]⟩ (.loop [1,5,6,8] wv) Q env (KH H (pl [] a)):=by
 refine ax (σ:=Nat) (fun i=>[(1,vb),(5,.mp H.length),(6,rlV (H.length+1) (pl [] (a++b.take i))),(8,I i)]) (fun i=>KH H (pl [] (a++b.take i)))
  (fun i=>i<=b.length) (fun i=>b.length-i) ?_ 0 (by omega) (by simpa using hE) (by simp)
 intro i hi;unfold wv;by_cases hil:i<b.length;case neg=>
  obtain rfl:i=b.length:=by omega
  rw[List.take_length];have hlv:∃lv,rlV (H.length+1) (pl [] (a++b))=lv/\(lv= .e0\/∃n,lv= .hs (H.length+1) n 0 n 1):=⟨_,rfl,by
   unfold rlV;split
   ·exact .inl rfl
   ·exact .inr ⟨_,rfl⟩⟩
  obtain⟨lv,e,hlv⟩:=hlv;show WB _ _ _ [(1,vb),(5,.mp H.length),(6,rlV (H.length+1) (pl [] (a++b))),(8,I b.length)] _;rw[e]at hQ |-;generalize KH H (pl [] (a++b))=G at *;rcases hvb with rfl | ⟨rfl,rfl⟩<;>rcases hlv with rfl | ⟨m,rfl⟩;all_goals
   simp;refine hQ _ ?_;simp
 have hvb:vb=rowsV b:=by
  rcases hvb with e | ⟨_,e⟩
  ·exact e
  ·subst e;simp at hil
 subst hvb;have hil':(i:Int)<b.length:=by omega
 have w1:IntKind.i64.wrap ((i:Int)+1)=(i:Int)+1:=au (by omega) (by omega)
 have ga:=bE hil;have hsn:pl [] (a++b.take (i+1))=cV (pl [] (a++b.take i)) b[i]:=by rw[List.take_succ_eq_append_getElem hil,<-List.append_assoc,mr]
 have hlen:=jA (a++b.take i) [];rw[List.length_append,List.length_take,List.length_nil]at hlen;have kp1:=fun L=>kp L (pl [] (a++b.take i)) b[i] (by omega)
 obtain⟨o,os,hp⟩:=j2 (pl [] (a++b.take i)) b[i];rw[hp,fV]at kp1;rw[hp]at hsn;generalize b[i]=x at *;have hfin:∀n:Nat,n=i+1->rlV (H.length+1) (pl [] (a++b.take n))= .hs (H.length+1) (os.length+1) 0 (os.length+1) 1/\KH H (pl [] (a++b.take n))=KH H (o::os):=fun n e=>by
  subst e;rw[hsn];exact⟨rfl,rfl⟩
 have hf:=hfin (i+1) rfl;generalize pl [] (a++b.take i)=ks at *;generalize KH H (o::os)=G' at *;cases ks with
 | nil=>
  show WB _ _ _ [(1,rowsV b),(5,.mp H.length),(6,.e0),(8,I i)] _;have kp2:∀L,C lk L 93 [.e0,.mp H.length,Sg x] (KH H [])=_:=kp1;generalize KH H []=G at *;all_goals
   simp[hil,hil',aW,ga,kp2,w1,ao];exact⟨i+1,by omega,by omega,⟨hf.1.symm,by omega⟩,hf.2.symm⟩
 | cons p q=>
  show WB _ _ _ [(1,rowsV b),(5,.mp H.length),(6,.hs (H.length+1) (q.length+1) 0 (q.length+1) 1),(8,I i)] _;have kp2:∀L,C lk L 93 [.hs (H.length+1) (q.length+1) 0 (q.length+1) 1,.mp H.length,Sg x] (KH H (p::q))=_:=kp1;generalize KH H (p::q)=G at *;all_goals
   simp[hil,hil',aW,ga,kp2,w1,ao];exact⟨i+1,by omega,by omega,⟨hf.1.symm,by omega⟩,hf.2.symm⟩

theorem gR (keep:List Nat)(lim:Nat)(H:Heap)(env:Env):ab keep (oM lim H env)=(ab keep env).map fun p=>(p.1,kG lim H p.2):=by
 simp[ab,jV]
theorem FE (H:Heap)(ks:List (List UInt8)):∃G,gk H.length (KH H ks)=H++G:=by
 unfold gk;rw[IQ];exact⟨_,rfl⟩
theorem ow {lk lim:Nat}{H:Heap}(hlk:lk<=H.length){va vb:AV}{a b:List (List UInt8)}(ha:RV va a)(hb:RV vb b)(hla:a.length<=1000000000000)(hlb:b.length<=1000000000000):aj X A lk lim 91 [va,vb] H=some (rV (uni a b),H):=by
 have kp:=fun (L:Nat) (ks:List (List UInt8)) (x:List UInt8) h=>wJ (lk:=lk) (lim:=L) (H:=H) hlk x ks h;have hle:=jA (a++b) [];rw[List.length_append,List.length_nil]at hle;obtain⟨G,hG⟩:=FE H (pl [] (a++b));have ks:=fun (L:Nat)=>jD (pl [] (a++b)).length (lk:=lk) (lim:=L) (H:=H++G) (by simp;omega) (pl [] (a++b)) (Nat.le_refl _) (by omega)
 rw[FC _ (Nat.le_refl _)]at ks;have hf:=FD H (pl [] (a++b));have hvb2:vb= .e0\/∃n cs,vb= .sl n cs:=by
  rcases hb with rfl | ⟨rfl,_⟩
  ·exact .inr ⟨_,_,rfl⟩
  ·exact .inl rfl
 have main1:∀(Q:Ex->Kt) (env:Env),ab [0,1,5,6,7] env=[(0,va),(1,vb),(5,.mp H.length),(6,.e0),(7,I 0)]->
   (∀env',ab [1,5,6] env'=[(1,vb),(5,.mp H.length),(6,rlV (H.length+1) (pl [] a))]->Q (.exit 0) env' (KH H (pl [] a)))->
   WB ⟨aj X A,lk,H.length,[]⟩ (.loop [0,1,5,6,7] wu) Q env (H++[.map []]):=fun Q env hE hQ=>Oz ha hla kp hvb2 hE hQ
 have main2:∀(Q:Ex->Kt) (env:Env),ab [1,5,6,8] env=[(1,vb),(5,.mp H.length),(6,rlV (H.length+1) (pl [] a)),(8,I 0)]->
   (∀env',ab [6] env'=[(6,rlV (H.length+1) (pl [] (a++b)))]->Q (.exit 2) env' (KH H (pl [] (a++b))))->
   WB ⟨aj X A,lk,H.length,[]⟩ (.loop [1,5,6,8] wv) Q env (KH H (pl [] a)):=fun Q env hE hQ=>OA hb hla hlb kp hE hQ
 have key:WB ⟨aj X A,lk,H.length,[]⟩ LH (oO [.tmp 4] true H (rV (uni a b),H)) (aP 0 [va,vb]) H:=by
  unfold LH;generalize aj X A=C at ks main1 main2 |-;generalize wu=l1 at *;generalize wv=l2 at *;simp;refine main1 _ _ (by simp) fun env' he=>?_
  rw[aG,if_pos rfl,ah,ai,ai,ae,he];simp;refine main2 _ _ (by simp) fun env' he=>?_
  rw[aG,if_pos rfl,ah,ai,ya];refine⟨hlk,by simp[KH],?_⟩
  rw[ah,ai,ae,gR,he,hG];simp only[List.map_cons,List.map_nil,hf];show WR _ _ _ _ (H++G);have hrv:=dE (pl [] (a++b));have hrn:=dE (bG (a++b));have hfr:=fun G d=>fy H.length G d (bG (a++b));have hbl:=c8 H.length (bG (a++b));have hbl0:=c8 0 (bG (a++b));show WR _ _ (Fol _ _ (oO _ _ _ (rV (bG (a++b)),H)) .nrm) _ _;generalize rV (pl [] (a++b))=x at *;generalize rV (bG (a++b))=y at *;rcases aC hrv with rfl | rfl<;>rcases aC hrn with rfl | rfl;all_goals
   generalize ay (bG (a++b))=cs at *;simp[ks,hlk,hfr,hbl,hbl0]
 rcases ha with rfl | ⟨rfl,rfl⟩<;>rcases hb with rfl | ⟨rfl,rfl⟩;all_goals exact ar [] rfl A91 rfl rfl key

def KP (C:Orc)(lk:Nat)(H:Heap):Prop:=∀(K:Nat) (_:K<=H.length) (L:Nat) (ks:List (List UInt8)) (x:List UInt8),ks.length<=4100000000000->C K L 93 [rlV (H.length+1) ks,.mp H.length,Sg x] (KH H ks)=some (rlV (H.length+1) (cV ks x),KH H (cV ks x))
def KJ (C:Orc):Prop:=∀(K L:Nat) (G:Heap) (k:Nat) (x y:List UInt8),x.length<=1000000000000000->y.length<=1000000000000000->C K L 94 [I k,Sg x,Sg y] G=some (Sg (join k x y),G)
theorem L9 {k:Nat}{x:List UInt8}(h:cq k x=false)(y:List UInt8):join k x y=(x++y).take k:=by unfold join;rw[if_neg (by simp[h])]
theorem Ma {k:Nat}{x:List UInt8}(h:cq k x=true)(y:List UInt8):join k x y=x.take k:=by unfold join;rw[if_pos h]
theorem OB {C:Orc}{lk:Nat}{Q:Ex->Kt}{env:Env}{H:Heap}{a b ks:List (List UInt8)}{k i:Nat}{x:List UInt8}{w:Bool}(hlk:lk<=H.length)(kp:KP C lk H)(kj:KJ C)(hil:i<a.length)(hax:a[i]=x)(hx:x.length<=1000000)(hb:∀y∈b,y.length<=1000000)(hl:b.length<=2000000)(hkl:ks.length<=4000000000001)
  (hE:ab [0,1,2,7,8,9,10,11] env=[(0,I k),(1,rowsV a),(2,rowsV b),(7,.mp H.length),(8,rlV (H.length+1) ks),(9,I i),(10,Bo w),(11,I 0)])
  (hQ:∀env',ab [0,1,2,7,8,9] env'=[(0,I k),(1,rowsV a),(2,rowsV b),(7,.mp H.length),(8,rlV (H.length+1) (pl ks (if w=true then [] else b.map (join k x)))),(9,I i)]->Q (.exit 2) env' (KH H (pl ks (if w=true then [] else b.map (join k x))))):
  WB ⟨C,lk,H.length,[]⟩ (.loop [0,1,2,7,8,9,10,11] wn) Q env (KH H ks):=by
 refine ax (σ:=Nat) (fun j=>[(0,I k),(1,rowsV a),(2,rowsV b),(7,.mp H.length),(8,rlV (H.length+1) (pl ks ((b.take j).map (join k x)))),(9,I i),(10,Bo w),(11,I j)]) (fun j=>KH H (pl ks ((b.take j).map (join k x))))
  (fun j=>j<=b.length/\(w=true->j=0)) (fun j=>b.length-j) ?_ 0 ⟨Nat.zero_le _,fun _=>rfl⟩ hE rfl
 rintro j ⟨hj,hw⟩;unfold wn;have hn0:=Nat.le_refl H.length;have lvc:∀l:List (List UInt8),∃lv,rlV (H.length+1) l=lv/\(lv= .e0\/∃n,lv= .hs (H.length+1) n 0 n 1):=fun l=>⟨_,rfl,by
  unfold rlV;split
  ·exact .inl rfl
  ·exact .inr ⟨_,rfl⟩⟩
 by_cases hjl:w=false/\j<b.length;case neg=>
  have he:pl ks ((b.take j).map (join k x))=pl ks (if w=true then [] else b.map (join k x)):=by
   cases w with
   | true=>rw[hw rfl];rfl
   | false=>
    have:j=b.length:=by simp at hjl;omega
    subst this;rw[List.take_length];rfl
  show WB _ _ _ [(0,I k),(1,rowsV a),(2,rowsV b),(7,.mp H.length),(8,rlV (H.length+1) (pl ks ((b.take j).map (join k x)))),(9,I i),(10,Bo w),(11,I j)] (KH H (pl ks ((b.take j).map (join k x))));rw[he];obtain⟨lv,e,hlv⟩:=lvc (pl ks (if w=true then [] else b.map (join k x)));rw[e]at hQ |-;generalize KH H (pl ks (if w=true then [] else b.map (join k x)))=G at *;cases w with
  | true=>
   rcases hlv with rfl | ⟨m,rfl⟩;all_goals
    by_cases hjl2:(j:Int)<b.length
    ·simp[hjl2];exact hQ _ (by simp)
    ·simp[hjl2];exact hQ _ (by simp)
  | false=>
   have hjl2:¬(j:Int)<b.length:=by simp at hjl;omega
   have hjl3:b.length<=j:=by omega
   rcases hlv with rfl | ⟨m,rfl⟩;all_goals
    simp[hjl2,hjl3];exact hQ _ (by simp)
 obtain⟨rfl,hjl⟩:=hjl;have hjl':(j:Int)<b.length:=by omega
 have hil':(i:Int)<a.length:=by omega
 have w1:IntKind.i64.wrap ((j:Int)+1)=(j:Int)+1:=au (by omega) (by omega)
 have ga:=bE hil;rw[hax]at ga;have gb:=bE hjl;have hy:=hb b[j] (List.getElem_mem hjl);have hsn:pl ks ((b.take (j+1)).map (join k x))=cV (pl ks ((b.take j).map (join k x))) (join k x b[j]):=by rw[List.take_succ_eq_append_getElem hjl,List.map_append,List.map_cons,List.map_nil,mr]
 have hlen:=jA ((b.take j).map (join k x)) ks;rw[List.length_map,List.length_take]at hlen;have kj1:=fun (K L:Nat) (G:Heap)=>kj K L G k x b[j] (by omega) (by omega)
 have kp1:=fun K hK L=>kp K hK L (pl ks ((b.take j).map (join k x))) (join k x b[j]) (by omega)
 obtain⟨o,os,hp⟩:=j2 (pl ks ((b.take j).map (join k x))) (join k x b[j]);rw[hp,fV]at kp1;rw[hp]at hsn;generalize join k x b[j]=z at *;generalize b[j]=y at *;have hfin:∀n:Nat,n=j+1->rlV (H.length+1) (pl ks ((b.take n).map (join k x)))= .hs (H.length+1) (os.length+1) 0 (os.length+1) 1/\KH H (pl ks ((b.take n).map (join k x)))=KH H (o::os):=fun n e=>by
  subst e;rw[hsn];exact⟨rfl,rfl⟩
 have hf:=hfin (j+1) rfl;generalize pl ks ((b.take j).map (join k x))=ks' at *;generalize KH H (o::os)=G' at *;clear hQ hE;cases ks' with
 | nil=>
  show WB _ _ _ [(0,I k),(1,rowsV a),(2,rowsV b),(7,.mp H.length),(8,.e0),(9,I i),(10,Bo false),(11,I j)] _;have kp2:∀K,K<=H.length->∀L,C K L 93 [.e0,.mp H.length,Sg z] (KH H [])=_:=kp1;generalize KH H []=G at *;simp[hjl,hjl',hil,hil',aW,ga,gb,kj1,kp2,hlk,hn0,w1,ao];exact⟨j+1,by omega,by omega,⟨by rw[<-List.map_take];exact hf.1.symm,by omega⟩,by rw[<-List.map_take];exact hf.2.symm⟩
 | cons p q=>
  show WB _ _ _ [(0,I k),(1,rowsV a),(2,rowsV b),(7,.mp H.length),(8,.hs (H.length+1) (q.length+1) 0 (q.length+1) 1),(9,I i),(10,Bo false),(11,I j)] _;have kp2:∀K,K<=H.length->∀L,C K L 93 [.hs (H.length+1) (q.length+1) 0 (q.length+1) 1,.mp H.length,Sg z] (KH H (p::q))=_:=kp1;generalize KH H (p::q)=G at *;simp[hjl,hjl',hil,hil',aW,ga,gb,kj1,kp2,hlk,hn0,w1,ao];exact⟨j+1,by omega,by omega,⟨by rw[<-List.map_take];exact hf.1.symm,by omega⟩,by rw[<-List.map_take];exact hf.2.symm⟩

def uE (k:Nat)(b:List (List UInt8))(x:List UInt8):List (List UInt8):=if cq k x=true then [x.take k] else b.map (join k x)
theorem sH (k:Nat)(a b:List (List UInt8)):cU k a b=a.flatMap (uE k b):=by
 unfold cU uE;congr 1;funext x;split
 ·rfl
 ·rename_i h;refine List.map_congr_left fun y _=>?_;rw[L9 (by simpa using h)]
def IR:AC:=match mf with
 | .seq _ (.seq (.block _ (.seq _ r)) _)=>r
 | _=>.skip
theorem IS {C:Orc}{lk:Nat}{Q:Ex->Kt}{env:Env}{H:Heap}{a b ks:List (List UInt8)}{k i:Nat}{x:List UInt8}(hlk:lk<=H.length)(kp:KP C lk H)(kj:KJ C)(hil:i<a.length)(hax:a[i]=x)(hx:x.length<=1000000)(hb:∀y∈b,y.length<=1000000)(hl:b.length<=2000000)(hkl:ks.length<=4000000000000)
  (hE:ab [0,1,2,7,8,9,10] env=[(0,I k),(1,rowsV a),(2,rowsV b),(7,.mp H.length),(8,rlV (H.length+1) ks),(9,I i),(10,Bo (cq k x))])
  (hQ:∀env',ab [0,1,2,7,8,9] env'=[(0,I k),(1,rowsV a),(2,rowsV b),(7,.mp H.length),(8,rlV (H.length+1) (pl ks (uE k b x))),(9,I i)]->Q .nrm env' (KH H (pl ks (uE k b x)))):
  WB ⟨C,lk,H.length,[]⟩ IR Q env (KH H ks):=by
 have main:∀(ks':List (List UInt8)) (w:Bool) (Q:Ex->Kt) (env:Env),ks'.length<=4000000000001->ab [0,1,2,7,8,9,10,11] env=[(0,I k),(1,rowsV a),(2,rowsV b),(7,.mp H.length),(8,rlV (H.length+1) ks'),(9,I i),(10,Bo w),(11,I 0)]->
   (∀env',ab [0,1,2,7,8,9] env'=[(0,I k),(1,rowsV a),(2,rowsV b),(7,.mp H.length),(8,rlV (H.length+1) (pl ks' (if w=true then [] else b.map (join k x)))),(9,I i)]->Q (.exit 2) env' (KH H (pl ks' (if w=true then [] else b.map (join k x)))))->
   WB ⟨C,lk,H.length,[]⟩ (.loop [0,1,2,7,8,9,10,11] wn) Q env (KH H ks'):=fun ks' w Q env hk hE hQ=>OB hlk kp kj hil hax hx hb hl hk hE hQ
 unfold IR mf;dsimp only;generalize wn=l1 at *;have hil':(i:Int)<a.length:=by omega
 have ga:=bE hil;rw[hax]at ga;cases hw:cq k x with
 | false=>
  rw[hw]at hE;have hk:uE k b x=b.map (join k x):=by unfold uE;rw[if_neg (by simp[hw])]
  rw[hk]at hQ;rw[ai,ai,ae,hE];simp;refine main ks false _ _ (by omega) (by simp) fun env' he=>?_
  rw[aG,if_pos rfl];exact hQ _ he
 | true=>
  rw[hw]at hE;have hk:uE k b x=[x.take k]:=by unfold uE;rw[if_pos hw]
  have hj:=Ma hw [];have hps:pl ks [x.take k]=cV ks (x.take k):=rfl;have kj1:=fun (K L:Nat) (G:Heap)=>kj K L G k x [] (by omega) (by simp)
  have kp1:=fun K hK L=>kp K hK L ks (x.take k) (by omega)
  rw[hj]at kj1;rw[hk,hps]at hQ;obtain⟨o,os,hp⟩:=j2 ks (x.take k);have hpl:=wz ks (x.take k);rw[hp]at hQ hpl;rw[hp,fV]at kp1;have main:=fun Q env=>main (o::os) true Q env;generalize x.take k=z at *;rw[ai,ai,ae,hE];have hnk:=Nat.le_refl H.length;have hp0:pl (o::os) (if true=true then [] else b.map (join k x))=o::os:=rfl;rw[hp0,fV]at main;rw[fV]at hQ;generalize KH H (o::os)=G' at *;cases ks with
  | nil=>
   have kp2:∀K,K<=H.length->∀L,C K L 93 [.e0,.mp H.length,Sg z] (KH H [])=_:=kp1;show WR _ _ _ [(0,I k),(1,rowsV a),(2,rowsV b),(7,.mp H.length),(8,.e0),(9,I i),(10,Bo true)] _;generalize KH H []=G at *;have kj2:∀(K L:Nat) (G:Heap),C K L 94 [I k,Sg x,.val (.string ⟨#[]⟩)] G=_:=kj1;simp[hil,hil',aW,ga,kj2,kp2,hlk];refine main _ _ (by omega) (by simp) fun env' he=>?_
   rw[aG,if_pos rfl];exact hQ _ he
  | cons p q=>
   have kp2:∀K,K<=H.length->∀L,C K L 93 [.hs (H.length+1) (q.length+1) 0 (q.length+1) 1,.mp H.length,Sg z] (KH H (p::q))=_:=kp1;show WR _ _ _ [(0,I k),(1,rowsV a),(2,rowsV b),(7,.mp H.length),(8,.hs (H.length+1) (q.length+1) 0 (q.length+1) 1),(9,I i),(10,Bo true)] _;generalize KH H (p::q)=G at *;have kj2:∀(K L:Nat) (G:Heap),C K L 94 [I k,Sg x,.val (.string ⟨#[]⟩)] G=_:=kj1;simp[hil,hil',aW,ga,kj2,kp2,hlk];refine main _ _ (by omega) (by simp) fun env' he=>?_
   rw[aG,if_pos rfl];exact hQ _ he

theorem OC {C:Orc}{lk:Nat}{Q:Ex->Kt}{env:Env}{H:Heap}{va:AV}{a b:List (List UInt8)}{k:Nat}(hlk:lk<=H.length)(kp:KP C lk H)(kj:KJ C)(hva:RV va a)(hb0:b≠[])(hla:a.length<=2000000)(hlb:b.length<=2000000)(ha:∀x∈a,x.length<=1000000)(hb:∀x∈b,x.length<=1000000)
  (hE:ab [0,1,2,7,8,9] env=[(0,I k),(1,va),(2,rowsV b),(7,.mp H.length),(8,.e0),(9,I 0)])
  (hQ:∀env',ab [8] env'=[(8,rlV (H.length+1) (pl [] (cU k a b)))]->Q (.exit 0) env' (KH H (pl [] (cU k a b)))):
  WB ⟨C,lk,H.length,[]⟩ (.loop [0,1,2,7,8,9] mf) Q env (H++[.map []]):=by
 refine ax (σ:=Nat) (fun i=>[(0,I k),(1,va),(2,rowsV b),(7,.mp H.length),(8,rlV (H.length+1) (pl [] (cU k (a.take i) b))),(9,I i)]) (fun i=>KH H (pl [] (cU k (a.take i) b)))
  (fun i=>i<=a.length) (fun i=>a.length-i) ?_ 0 (by omega) hE (by simp[KH,pl,jd,rlG,cU])
 intro i hi;have hbp:=List.length_pos_iff.2 hb0;by_cases hil:i<a.length;case neg=>
  obtain rfl:i=a.length:=by omega
  rw[List.take_length];show WB _ _ _ [(0,I k),(1,va),(2,rowsV b),(7,.mp H.length),(8,rlV (H.length+1) (pl [] (cU k a b))),(9,I a.length)] _;unfold mf;generalize KH H (pl [] (cU k a b))=G at *;generalize rlV (H.length+1) (pl [] (cU k a b))=lv at *;rcases hva with rfl | ⟨rfl,rfl⟩;all_goals
   simp;refine hQ _ ?_;simp
 have hva:va=rowsV a:=by
  rcases hva with e | ⟨_,e⟩
  ·exact e
  ·subst e;simp at hil
 subst hva;have hil':(i:Int)<a.length:=by omega
 have hbp':(0:Int)<b.length:=by omega
 have w1:IntKind.i64.wrap ((i:Int)+1)=(i:Int)+1:=au (by omega) (by omega)
 have ga:=bE hil;have hx:=ha a[i] (List.getElem_mem hil);have hsn:pl [] (cU k (a.take (i+1)) b)=pl (pl [] (cU k (a.take i) b)) (uE k b a[i]):=by
  rw[sH,sH,List.take_succ_eq_append_getElem hil,List.flatMap_append,List.flatMap_cons,List.flatMap_nil,List.append_nil,Fb]
 have hlen:=jA (cU k (a.take i) b) [];have hcl:=mt k b hb0 (a.take i);have hml:=yC (a.take i).length b.length (by rw[List.length_take];omega) hlb
 rw[List.length_nil]at hlen;have tail:=fun (Q:Ex->Kt) (env:Env) hE hQ=>IS (C:=C) (lk:=lk) (Q:=Q) (env:=env) (H:=H) (a:=a) (b:=b) (ks:=pl [] (cU k (a.take i) b)) (k:=k) (i:=i) (x:=a[i]'hil) hlk kp kj hil rfl hx hb hlb (by omega) hE hQ
 rw[<-hsn]at tail;obtain⟨K',hK'⟩:∃K',pl [] (cU k (a.take (i+1)) b)=K':=⟨_,rfl⟩;rw[hK']at tail;generalize pl [] (cU k (a.take i) b)=K at *;show WB _ (.seq (.seq _ _) (.seq (.block 1 (.seq _ IR)) _)) _ [(0,I k),(1,rowsV a),(2,rowsV b),(7,.mp H.length),(8,rlV (H.length+1) K),(9,I i)] _;generalize a[i]=x at *;generalize KH H K=G at *;generalize rlV (H.length+1) K=lv at *;have fin:∀(Q:Ex->Kt) (env:Env),True:=fun _ _=>trivial;generalize IR=T at *;by_cases h1:k<=x.length
 ·have h1':(k:Int)<=x.length:=by omega
  have hw:cq k x=true:=nA h1;rw[hw]at tail;simp[bo,h1,h1',hil,hil',aW,ga,hbp,hbp'];refine tail _ _ (by simp) fun env' he=>?_
  rw[a6,ah,ae,he];simp[w1];rw[ao];exact⟨i+1,by omega,by omega,by rw[hK'];simp,by rw[hK']⟩
 have h1':¬(k:Int)<=x.length:=by omega
 by_cases h2:x=[]
 ·subst h2;have hw:cq k []=false:=by simp at h1;simp[cq];omega
  rw[hw]at tail;have hk:¬k=0:=by simp at h1;omega
  simp[bo,hk,ml,hil,hil',aW,ga,hbp,hbp'];refine tail _ _ (by simp) fun env' he=>?_
  rw[a6,ah,ae,he];simp[w1];rw[ao];exact⟨i+1,by omega,by omega,by rw[hK'];simp,by rw[hK']⟩
 obtain⟨c,hc,hl⟩:=mq h2;have hpos:0<x.length:=List.length_pos_iff.2 h2;have w2:IntKind.i64.wrap ((x.length:Int)-1)=((x.length-1:Nat):Int):=by rw[au (by omega) (by omega)];omega
 have hw:cq k x=(c==255):=by simp[cq,h1,hl]
 have hx2:(x==[])=false:=by simp[h2]
 rw[hw]at tail;have hbe:=pg c;generalize (c==255)=wb at *;simp[bo,h1',ml,hx2,w2,ln,hc,hbe,hil,hil',aW,ga,hbp,hbp'];refine tail _ _ (by simp) fun env' he=>?_
 rw[a6,ah,ae,he];simp[w1];rw[ao];exact⟨i+1,by omega,by omega,by rw[hK'];simp,by rw[hK']⟩

def fW (k:Nat)(a b:List (List UInt8)):List (List UInt8):=if b=[] then [] else cU k a b
theorem B2 (k:Nat)(a b:List (List UInt8)):bG (fW k a b)=cat k a b:=by
 unfold fW cat;split
 ·rfl
 ·rfl
theorem OD {C:Orc}{lk:Nat}{Q:Ex->Kt}{env:Env}{H:Heap}{va vb:AV}{a b:List (List UInt8)}{k:Nat}(hlk:lk<=H.length)(kp:KP C lk H)(kj:KJ C)(hva:RV va a)(hvb:RV vb b)(hla:a.length<=2000000)(hlb:b.length<=2000000)(ha:∀x∈a,x.length<=1000000)(hb:∀x∈b,x.length<=1000000)
  (hE:ab [0,1,2,7,8,9] env=[(0,I k),(1,va),(2,vb),(7,.mp H.length),(8,.e0),(9,I 0)])
  (hQ:∀env',ab [8] env'=[(8,rlV (H.length+1) (pl [] (fW k a b)))]->Q (.exit 0) env' (KH H (pl [] (fW k a b)))):
  WB ⟨C,lk,H.length,[]⟩ (.loop [0,1,2,7,8,9] mf) Q env (H++[.map []]):=by
 by_cases hb0:b=[]
 ·subst hb0;have hQ2:∀env',ab [8] env'=[(8,.e0)]->Q (.exit 0) env' (H++[.map []]):=hQ;clear hQ;refine ax (σ:=Unit) (fun i=>[(0,I k),(1,va),(2,vb),(7,.mp H.length),(8,.e0),(9,I 0)]) (fun i=>H++[.map []]) (fun i=>True) (fun i=>0) ?_ () trivial hE rfl;intro i _;unfold mf;rcases hva with rfl | ⟨rfl,rfl⟩<;>rcases hvb with rfl | ⟨rfl,_⟩
  ·by_cases h0:0<a.length
   ·simp[h0];exact hQ2 _ (by simp)
   ·simp[h0];exact hQ2 _ (by simp)
  ·by_cases h0:0<a.length
   ·simp[h0];exact hQ2 _ (by simp)
   ·simp[h0];exact hQ2 _ (by simp)
  ·simp;exact hQ2 _ (by simp)
  ·simp;exact hQ2 _ (by simp)
 ·have e:fW k a b=cU k a b:=if_neg hb0;rw[e]at hQ;have hvb:vb=rowsV b:=by
   rcases hvb with e | ⟨_,e⟩
   ·exact e
   ·exact absurd e hb0
  subst hvb;exact OC hlk kp kj hva hb0 hla hlb ha hb hE hQ
theorem FF (k:Nat)(a b:List (List UInt8))(hla:a.length<=2000000)(hlb:b.length<=2000000):(fW k a b).length<=4000000000000:=by
 unfold fW;split
 ·simp
 ·rename_i h;exact Nat.le_trans (mt k b h a) (yC _ _ hla hlb)
theorem j3 {lk lim:Nat}{H:Heap}(hlk:lk<=H.length)(k:Int){va vb:AV}{a b:List (List UInt8)}(hva:RV va a)(hvb:RV vb b)(hla:a.length<=2000000)(hlb:b.length<=2000000)(ha:∀x∈a,x.length<=1000000)(hb:∀x∈b,x.length<=1000000):
  aj X A lk lim 67 [I k,va,vb] H=some (rV (cat k.toNat a b),H):=by
 have hm:bZ true [I k] .i64 0=some (.i64,(k.toNat:Int)):=by
  simp[bZ];omega
 have kp:KP (aj X A) lk H:=fun K hK L ks x h=>wJ (lk:=K) (lim:=L) (H:=H) hK x ks h;have kj:KJ (aj X A):=fun K L G k x y hx hy=>wI (lk:=K) (lim:=L) (H:=G) k x y hx hy;have hle:=jA (fW k.toNat a b) [];have hcl:=FF k.toNat a b hla hlb;rw[List.length_nil]at hle;obtain⟨G,hG⟩:=FE H (pl [] (fW k.toNat a b));have ks:=fun (L:Nat)=>jD (pl [] (fW k.toNat a b)).length (lk:=lk) (lim:=L) (H:=H++G) (by simp;omega) (pl [] (fW k.toNat a b)) (Nat.le_refl _) (by omega)
 rw[FC _ (Nat.le_refl _)]at ks;have hf:=FD H (pl [] (fW k.toNat a b));have main1:∀(Q:Ex->Kt) (env:Env),ab [0,1,2,7,8,9] env=[(0,I k.toNat),(1,va),(2,vb),(7,.mp H.length),(8,.e0),(9,I 0)]->
   (∀env',ab [8] env'=[(8,rlV (H.length+1) (pl [] (fW k.toNat a b)))]->Q (.exit 0) env' (KH H (pl [] (fW k.toNat a b))))->
   WB ⟨aj X A,lk,H.length,[]⟩ (.loop [0,1,2,7,8,9] mf) Q env (H++[.map []]):=fun Q env hE hQ=>OD hlk kp kj hva hvb hla hlb ha hb hE hQ
 have key:WB ⟨aj X A,lk,H.length,[]⟩ LG (oO [.tmp 6] true H (rV (bG (fW k.toNat a b)),H)) (aP 0 [I k,va,vb]) H:=by
  unfold LG;generalize aj X A=C at ks main1 |-;generalize mf=l1 at *;simp[hm];refine main1 _ _ (by simp) fun env' he=>?_
  rw[aG,if_pos rfl,ah,ai,ya];refine⟨hlk,by simp[KH],?_⟩
  rw[ah,ai,ae,gR,he,hG];simp only[List.map_cons,List.map_nil,hf];show WR _ _ _ _ (H++G);have hrv:=dE (pl [] (fW k.toNat a b));have hrn:=dE (bG (fW k.toNat a b));have hfr:=fun G d=>fy H.length G d (bG (fW k.toNat a b));have hbl:=c8 H.length (bG (fW k.toNat a b));have hbl0:=c8 0 (bG (fW k.toNat a b));generalize rV (pl [] (fW k.toNat a b))=x at *;generalize rV (bG (fW k.toNat a b))=y at *;rcases aC hrv with rfl | rfl<;>rcases aC hrn with rfl | rfl;all_goals
   generalize ay (bG (fW k.toNat a b))=cs at *;simp[ks,hlk,hfr,hbl,hbl0]
 rw[B2]at key;rcases hva with rfl | ⟨rfl,rfl⟩<;>rcases hvb with rfl | ⟨rfl,rfl⟩;all_goals exact ar [] rfl A67 rfl rfl key

theorem B3 {lk lim:Nat}{H:Heap}(hlk:lk<=H.length)(g:Gm)(v4:AV){cs:List AV}{S:Ss}(hS:SC cs S)(r:List Int)(hr:∀s∈r,s<g.t+S.length)(hg:0<=g.t/\g.t<=1000000)(hl:r.length<=1000000)(hSl:S.length<=1000000)
  (hO:∀i,(ofM g S (r.take i)).length<=2000000/\∀x∈ofM g S (r.take i),x.length<=1000000) (hN:∀s∈r,(nxt g S s).length<=2000000/\∀x∈nxt g S s,x.length<=1000000):
  aj X A lk lim 92 [.agg [I g.t,I g.n,I g.k,v4],.sl cs.length cs,.sl r.length (ints r)] H=some (rV (ofM g S r),H):=by
 have kc:=fun (K:Nat) (hK:K<=H.length) (L:Nat) (va vb:AV) (a b:List (List UInt8)) (h1:RV va a) (h2:RV vb b) (h3:a.length<=2000000) (h4:b.length<=2000000) h5 h6=>j3 (lk:=K) (lim:=L) (H:=H) hK g.k h1 h2 h3 h4 h5 h6;refine ar [3] rfl A92 rfl rfl ?_;unfold LF;generalize aj X A=C at kc |-;simp;refine ax (σ:=Nat) (fun i=>[(1,.sl cs.length cs),(2,.sl r.length (ints r)),(3,.box [I g.t,I g.n,I g.k,v4]),(7,rV (ofM g S (r.take i))),(8,I i)]) (fun _=>H) (fun i=>i<=r.length) (fun i=>r.length-i) ?_ 0 (by omega) (by simp[ab,find,ofM,rV,ay]) rfl
 intro i hi;unfold Em;by_cases hil:i<r.length
 ·have hil':(i:Int)<r.length:=by omega
  have w1:IntKind.i64.wrap ((i:Int)+1)=(i:Int)+1:=au (by omega) (by omega)
  have hrs:=hr r[i] (List.getElem_mem hil);have hn:=hN r[i] (List.getElem_mem hil);have ho:=hO i;have hrv:=dE (ofM g S (r.take i));have hsn:=congrArg rV (qL g S (r.take i) r[i]);rw[<-List.take_succ_eq_append_getElem hil]at hsn;obtain⟨s,hs⟩:∃s,r[i]=s:=⟨_,rfl⟩;rw[hs]at hrs hn hsn;generalize ofM g S (r.take i)=o at ho hrv hsn |-;generalize rV o=ov at hrv |-;have hn0:=Nat.le_refl H.length;by_cases hst:s<g.t
  ·have hst':¬g.t<=s:=by omega
   have hw8:=eH s;have hb1:=jB (byteI s);have hnx:nxt g S s=[[byteI s]]:=if_pos hst;rw[hnx]at hn hsn;have kc1:=fun K hK L=>kc K hK L ov (rowsV [[byteI s]]) o [[byteI s]] hrv (.inl rfl) ho.1 (by simp) ho.2 hn.2
   have hcv:=aC (dE (cat g.k.toNat o [[byteI s]]));generalize rV (cat g.k.toNat o [[byteI s]])=cv at kc1 hcv hsn;have e1:rowsV [[byteI s]]= .sl 1 [Sg [byteI s]]:=rfl;rw[e1]at kc1;rcases aC hrv with rfl | rfl<;>rcases hcv with rfl | rfl;all_goals
    simp[hil,hil',hs,hw8,hb1,hst,hst',kc1,hlk,hn0,w1,ao];exact⟨i+1,by omega,by omega,hsn.symm,by omega⟩
  ·have hst':g.t<=s:=by omega
   have hst2:¬s<g.t:=by omega
   have hw8:=eH s;have hb1:=jB (byteI s);have hnx:nxt g S s=S.getD (s-g.t).toNat []:=if_neg hst;obtain⟨j,hj⟩:∃j:Nat,s-g.t=(j:Int):=⟨(s-g.t).toNat,by omega⟩
   have hjl:j<S.length:=by omega
   have hjc:j<cs.length:=by rw[hS.1];exact hjl
   have hjc':(j:Int)<cs.length:=by omega
   have wj:IntKind.i64.wrap (s-g.t)=(j:Int):=by rw[au (by omega) (by omega)];exact hj
   rw[hj,Int.toNat_natCast]at hnx;obtain⟨v,hcv0,hv⟩:=hS.get hjl;have hcvE:cs[j]=v:=by rw[R4 hjc]at hcv0;simpa using hcv0
   rw[<-hnx]at hv;have kc1:=fun K hK L=>kc K hK L ov v o (nxt g S s) hrv hv ho.1 hn.1 ho.2 hn.2;have hcv:=aC (dE (cat g.k.toNat o (nxt g S s)));generalize rV (cat g.k.toNat o (nxt g S s))=cv at kc1 hcv hsn;generalize nxt g S s=nx at hv kc1 hcv hsn;rcases aC hrv with rfl | rfl<;>rcases hcv with rfl | rfl<;>rcases aC hv with rfl | rfl;all_goals
    simp[hil,hil',hs,hw8,hb1,hst',hst2,kc1,hlk,hn0,w1,ao,wj,hjc,hjc',hcv0,hcvE];exact⟨i+1,by omega,by omega,hsn.symm,by omega⟩
 ·obtain rfl:i=r.length:=by omega
  rw[List.take_length];have hrv:=dE (ofM g S r);rcases aC hrv with e | e<;>rw[e]<;>simp

theorem B4 {lk lim:Nat}{H:Heap}(hlk:lk<=H.length)(g:Gm)(v4:AV){cs:List AV}{S:Ss}(hS:SC cs S){b:Nat}(hb:H[b]?=some (.cells cs))(r:List Int)(hr:∀s∈r,s<g.t+S.length)(hg:0<=g.t/\g.t<=1000000)(hl:r.length<=1000000)(hSl:S.length<=1000000)
  (hO:∀i,(ofM g S (r.take i)).length<=2000000/\∀x∈ofM g S (r.take i),x.length<=1000000) (hN:∀s∈r,(nxt g S s).length<=2000000/\∀x∈nxt g S s,x.length<=1000000):
  aj X A lk lim 92 [.agg [I g.t,I g.n,I g.k,v4],.hs b cs.length 0 cs.length 1,.sl r.length (ints r)] H=some (rV (ofM g S r),H):=by
 have kc:=fun (K:Nat) (hK:K<=H.length) (L:Nat) (va vb:AV) (a b:List (List UInt8)) (h1:RV va a) (h2:RV vb b) (h3:a.length<=2000000) (h4:b.length<=2000000) h5 h6=>j3 (lk:=K) (lim:=L) (H:=H) hK g.k h1 h2 h3 h4 h5 h6;refine ar [3] rfl A92 rfl rfl ?_;unfold LF;generalize aj X A=C at kc |-;simp;refine ax (σ:=Nat) (fun i=>[(1,.hs b cs.length 0 cs.length 1),(2,.sl r.length (ints r)),(3,.box [I g.t,I g.n,I g.k,v4]),(7,rV (ofM g S (r.take i))),(8,I i)]) (fun _=>H) (fun i=>i<=r.length) (fun i=>r.length-i) ?_ 0 (by omega) (by simp[ab,find,ofM,rV,ay]) rfl
 intro i hi;unfold Em;by_cases hil:i<r.length
 ·have hil':(i:Int)<r.length:=by omega
  have w1:IntKind.i64.wrap ((i:Int)+1)=(i:Int)+1:=au (by omega) (by omega)
  have hrs:=hr r[i] (List.getElem_mem hil);have hn:=hN r[i] (List.getElem_mem hil);have ho:=hO i;have hrv:=dE (ofM g S (r.take i));have hsn:=congrArg rV (qL g S (r.take i) r[i]);rw[<-List.take_succ_eq_append_getElem hil]at hsn;obtain⟨s,hs⟩:∃s,r[i]=s:=⟨_,rfl⟩;rw[hs]at hrs hn hsn;generalize ofM g S (r.take i)=o at ho hrv hsn |-;generalize rV o=ov at hrv |-;have hn0:=Nat.le_refl H.length;by_cases hst:s<g.t
  ·have hst':¬g.t<=s:=by omega
   have hw8:=eH s;have hb1:=jB (byteI s);have hnx:nxt g S s=[[byteI s]]:=if_pos hst;rw[hnx]at hn hsn;have kc1:=fun K hK L=>kc K hK L ov (rowsV [[byteI s]]) o [[byteI s]] hrv (.inl rfl) ho.1 (by simp) ho.2 hn.2
   have hcv:=aC (dE (cat g.k.toNat o [[byteI s]]));generalize rV (cat g.k.toNat o [[byteI s]])=cv at kc1 hcv hsn;have e1:rowsV [[byteI s]]= .sl 1 [Sg [byteI s]]:=rfl;rw[e1]at kc1;rcases aC hrv with rfl | rfl<;>rcases hcv with rfl | rfl;all_goals
    simp[hil,hil',hs,hw8,hb1,hst,hst',kc1,hlk,hn0,w1,ao];exact⟨i+1,by omega,by omega,hsn.symm,by omega⟩
  ·have hst':g.t<=s:=by omega
   have hst2:¬s<g.t:=by omega
   have hw8:=eH s;have hb1:=jB (byteI s);have hnx:nxt g S s=S.getD (s-g.t).toNat []:=if_neg hst;obtain⟨j,hj⟩:∃j:Nat,s-g.t=(j:Int):=⟨(s-g.t).toNat,by omega⟩
   have hjl:j<S.length:=by omega
   have hjc:j<cs.length:=by rw[hS.1];exact hjl
   have hjc':(j:Int)<cs.length:=by omega
   have wj:IntKind.i64.wrap (s-g.t)=(j:Int):=by rw[au (by omega) (by omega)];exact hj
   rw[hj,Int.toNat_natCast]at hnx;obtain⟨v,hcv0,hv⟩:=hS.get hjl;have hcvE:cs[j]=v:=by rw[R4 hjc]at hcv0;simpa using hcv0
   rw[<-hnx]at hv;have kc1:=fun K hK L=>kc K hK L ov v o (nxt g S s) hrv hv ho.1 hn.1 ho.2 hn.2;have hcv:=aC (dE (cat g.k.toNat o (nxt g S s)));generalize rV (cat g.k.toNat o (nxt g S s))=cv at kc1 hcv hsn;generalize nxt g S s=nx at hv kc1 hcv hsn;rcases aC hrv with rfl | rfl<;>rcases hcv with rfl | rfl<;>rcases aC hv with rfl | rfl;all_goals
    simp[hil,hil',hs,hw8,hb1,hst',hst2,kc1,hlk,hn0,w1,ao,wj,hjc,hjc',hcv0,hcvE,hb];exact⟨i+1,by omega,by omega,hsn.symm,by omega⟩
 ·obtain rfl:i=r.length:=by omega
  rw[List.take_length];have hrv:=dE (ofM g S r);rcases aC hrv with e | e<;>rw[e]<;>simp

set_option maxHeartbeats 2000000 in
theorem qO {lk lim:Nat}{H:Heap}(hlk:lk<=H.length)(g:Gm)(hl:g.ps.length<=1000000)(hr:∀p∈g.ps,p.r.length<=1000000):
  ∃v h',aj X A lk lim 65 [gV g] H=some (v,h')/\h'=H/\if chkE g=0 then ∃cs,v= .sl cs.length cs/\SC cs (setsM g) else v= .e0:=by
 have kc:=fun (L:Nat)=>bN (lk:=lk) (lim:=L) (H:=H) g hl hr;refine dD [1,6] rfl A65 rfl rfl ?_;unfold Nu;by_cases hc:chkE g=0;case neg=>
  have h3:((chkE g) != 0)=true:=by simp[hc]
  obtain⟨t,n,k,ps⟩:=g;simp only[gV,Gm.cells]at kc;generalize aj X A=C at kc |-;simp[Gm.cells,kc,hc,bt];exact⟨.e0,H,⟨rfl,rfl⟩,rfl,rfl⟩
 have ok:=br hc;have ko:=fun (K:Nat) (hK:K<=H.length+1) (L:Nat) (cs:List AV) (S:Ss) (hS:SC cs S) (hok:SOk g S) (p:Pr) (hp:POk g p)=>
  B4 (lk:=K) (lim:=L) (H:=H++[.cells cs]) (by simp;omega) g (.sl g.ps.length (psC g.ps)) hS (b:=H.length) (by simp) p.r (cP ok hok hp).1 ⟨by have:=ok.t1;omega,by have:=ok.t2;omega⟩ (by have:=hp.len;omega) (by rw[hok.len];have:=ok.n2;omega) (cP ok hok hp).2.1 (cP ok hok hp).2.2
 have ku:=fun (K L:Nat) (G:Heap) (hK:K<=G.length) (va vb:AV) (a b:List (List UInt8)) (ha:RV va a) (hb:RV vb b) h1 h2=>ow (lk:=K) (lim:=L) (H:=G) hK ha hb h1 h2;rw[hc]at kc;obtain⟨t,n,k,ps⟩:=g;have ok2:=ok;obtain⟨t1,t2,n1,n2,k1,k2,l1,l2,okp⟩:=ok2;simp only at t1 t2 n1 n2 k1 k2 l1 l2 okp;obtain⟨n,rfl⟩:=Int.eq_ofNat_of_zero_le (by omega:0<=n)
 simp only[gV,Gm.cells]at kc ko;have hro:n*24<=aM:=by unfold aM;omega
 generalize aj X A=C at kc ko ku |-;simp[-fN,-ae,Gm.cells,hc];simp[-fN,Gm.cells,kc];rw[fN,uB (l:=.tmp 12) (z:=[.e0]) (es:=1) (n:=n) rfl rfl hro];simp
 let g:Gm:=⟨t,n,k,ps⟩
 let bx:AV:=.box [I t,I n,I k,.sl ps.length (psC ps)]
 let hsV:AV:=.hs H.length n 0 n 1
 have hcl:=js ok;have hS0:=SOk.start g;refine ax (σ:=Ss×List AV×Bool) (fun s=>[(1,bx),(3,hsV),(4,Bo s.2.2)]) (fun s=>H++[.cells s.2.1])
  (fun s=>SOk g s.1/\SC s.2.1 s.1/\cH (nB g) (n*585-szS s.1+1) s.1=setsM g/\(s.2.2=false->nB g s.1=s.1)) (fun s=>2*(n*585-szS s.1)+if s.2.2=true then 1 else 0) ?_ (List.replicate n [],repl n [.e0],true)
  ⟨hS0,mA n,by
   have h1:szS (List.replicate n [])=0:=by simp[szS]
   simp only[h1];rfl,by simp⟩ (by simp[bx,hsV]) rfl
 rintro⟨S,cs,more⟩ ⟨hS,hC,hcm,hm⟩;simp only at hS hC hcm hm;have hcn:cs.length=n:=by rw[hC.1,hS.len];rfl
 unfold JO;cases more with
 | false=>
  have h1:setsM g=S:=by
   rw[<-hcm];unfold cH;rw[if_pos (hm rfl)]
  have hz:=iR H.length (H++[.cells cs]) 6 hC;have htk:cs.take n=cs:=List.take_of_length_le (by omega)
  simp[bx,hsV,bt,hcn,htk,hz];exact⟨_,_,⟨rfl,rfl⟩,rfl,cs,by rw[hcn],by rw[h1];exact hC⟩
 | true=>
  simp[bx];refine ax (σ:=Nat×Ss×List AV×Bool) (fun s=>[(1,bx),(3,hsV),(4,Bo s.2.2.2),(5,I s.1)]) (fun s=>H++[.cells s.2.2.1])
   (fun s=>s.1<=ps.length/\s.2.1=(ps.take s.1).foldl (stS g) S/\SOk g s.2.1/\SC s.2.2.1 s.2.1/\((s.2.2.2=false/\s.2.1=S)\/(s.2.2.2=true/\szS S<szS s.2.1))) (fun s=>ps.length-s.1) ?_ (0,S,cs,false)
   ⟨Nat.zero_le _,rfl,hS,hC,.inl ⟨rfl,rfl⟩⟩ (by simp[bx,hsV,ab,find]) rfl
  rintro⟨i,S2,cs2,more⟩ ⟨hi,hS2,hok,hC2,hmo⟩;simp only at hi hS2 hok hC2 hmo;have hcn2:cs2.length=n:=by rw[hC2.1,hok.len];rfl
  unfold JN;have w1:IntKind.i64.wrap ((i:Int)+1)=(i:Int)+1:=au (by omega) (by omega)
  by_cases hil:i<ps.length;case neg=>
   obtain rfl:i=ps.length:=by omega
   rw[List.take_of_length_le (Nat.le_refl _)]at hS2;have hfo:nB g S=S2:=hS2.symm;have hle:=yj ok hok;simp only[Int.toNat_natCast]at hle;simp[bx,hsV,ao];rcases hmo with⟨e1,e2⟩ | ⟨e1,e2⟩
   ·subst e2;exact⟨S2,cs2,.inl ⟨⟨hok,hC2,hcm,hfo⟩,by omega,e1,rfl⟩⟩
   ·refine⟨S2,cs2,.inr ⟨⟨hok,hC2,?_⟩,by omega,e1,rfl⟩⟩
    have hne:nB g S≠S:=fun e=>by rw[hfo]at e;rw[e]at e2;omega
    have h1:=dL hcl (n*585-szS S) S2 hok (by show n*585-szS S2<_;omega)
    rw[<-hcm]
    conv=>rhs;unfold cH
    rw[if_neg hne,hfo];exact h1.symm
  obtain⟨p,hp⟩:∃p,ps[i]=p:=⟨_,rfl⟩;have pok:=okp p (hp▸List.getElem_mem hil);have hs:=cd hil;have hll:=aY ps;have h2:i*2+2<=2*ps.length:=by omega
  rw[hp]at hs;simp only[Pr.cells]at hs;have hnext:(ps.take (i+1)).foldl (stS g) S=stS g S2 p:=by
   rw[List.take_succ_eq_append_getElem hil,List.foldl_append,<-hS2,hp];rfl
  have hup:=yi hok pok;have hok3:=qq ok hok pok;have ko1:=fun L=>ko (H.length+1) (Nat.le_refl _) L cs2 S2 hC2 hok p pok;have hov:=dE (ofM g S2 p.r);have hofok:=eD ok hok (r:=p.r) fun s hs=>(pok.s s hs).1;have hosz:=hofok.size ok;obtain⟨pl,pr⟩:=p;obtain⟨q1,q2,q3,q4⟩:=pok;simp only at q1 q2 q3 q4 hs ko1 hov hosz;obtain⟨pl,rfl⟩:=Int.eq_ofNat_of_zero_le q2;have hpl:pl<n:=by omega
  obtain⟨v,hv,hrv⟩:=hC2.get (j:=pl) (by rw[hok.len];exact hpl)
  have hplc:pl<cs2.length:=by omega
  have hvE:cs2[pl]=v:=by rw[R4 hplc]at hv;simpa using hv
  have hgsz:=(hok.get pl).size ok;have ku1:=fun K L hK=>ku K L (H++[.cells cs2]) hK v _ _ _ hrv hov (Nat.le_trans hgsz (by decide)) (Nat.le_trans hosz (by decide))
  have hpn1:pl+1<=n:=hpl;simp only[stS,Int.toNat_natCast]at hup hok3 hnext;have huv:=dE (uni (S2.getD pl []) (ofM g S2 pr));have hC3:=nK hC2 (j:=pl) (l:=uni (S2.getD pl []) (ofM g S2 pr)) huv;have hgt:((S2.getD pl []).length:Int)<(uni (S2.getD pl []) (ofM g S2 pr)).length↔¬(uni (S2.getD pl []) (ofM g S2 pr)).length<=(S2.getD pl []).length:=by omega
  have hvl:slN v=(S2.getD pl []).length:=(my (H:=H) hrv).2;generalize rV (ofM g S2 pr)=ov at ko1 hov ku1;generalize rV (uni (S2.getD pl []) (ofM g S2 pr))=uv at *;generalize uni (S2.getD pl []) (ofM g S2 pr)=u at *;rw[hcn2]at ko1;simp[-bd,bx,hil,hll,hs,h2];rw[bd];have hset:∀w,List.take pl cs2++w::List.drop (pl+1) cs2=cs2.set pl w:=fun w=>by
   rw[List.set_eq_take_append_cons_drop,if_pos hplc]
  have hsh:∀w,Hm.below 0 w=true->aR lk H.length 0 (H++[.cells cs2]) H.length (cs2.set pl w) [w]=some (H++[.cells (cs2.set pl w)]):=fun w hw=>by
   unfold aR;rw[if_pos ⟨hlk,.inl (Nat.le_refl _),.inl (Nat.zero_le _)⟩,ph]
  have hlk1:lk<=H.length+1:=by omega
  have hn1:=Nat.le_refl (H.length+1);simp only[List.length_append,List.length_cons,List.length_nil,Nat.zero_add]at ku1;obtain⟨L,hL⟩:∃L,(S2.getD pl []).length=L:=⟨_,rfl⟩;rw[hL]at hup hvl;have fin:∀b:Bool,b=(more||decide (L<u.length))->(b=false/\S2.set pl u=S)\/(b=true/\szS S<szS (S2.set pl u)):=fun b hb=>by
   by_cases hgr:L<u.length
   ·have hb2:b=true:=by rw[hb];simp[hgr]
    have h3:szS S2<szS (S2.set pl u):=by
     rcases hup.1 with e | e
     ·exact absurd (hup.2.1 e) (by omega)
     ·exact e
    rcases hmo with⟨_,e⟩ | ⟨_,e⟩
    ·exact .inr ⟨hb2,by rw[<-e];exact h3⟩
    ·exact .inr ⟨hb2,by omega⟩
   ·have h3:S2.set pl u=S2:=hup.2.2 (by omega)
    rw[h3];have hb2:b=more:=by rw[hb];simp[hgr]
    rw[hb2];exact hmo
  have hbu:Hm.below 0 uv=true/\slN uv=u.length:=by
   rcases huv with rfl | ⟨rfl,rfl⟩
   ·exact⟨by simp[Hm.below],rfl⟩
   ·exact⟨rfl,rfl⟩
  have hsh1:=hsh uv hbu.1;have hset1:=hset uv;have hbul:=hbu.2;have huF:(uv= .e0/\u.length=0)\/uv= .sl u.length (ay u):=by
   rcases huv with rfl | ⟨rfl,rfl⟩
   ·exact .inr rfl
   ·exact .inl ⟨rfl,rfl⟩
  clear hsh hset hbu huv;generalize S2.getD pl []=q at *;generalize hu:u.length=ul at *;have hvF:(v= .e0/\L=0)\/v= .sl L (ay q):=by
   rcases aC hrv with rfl | rfl
   ·exact .inl ⟨rfl,hvl.symm⟩
   ·exact .inr (by rw[<-hL])
  clear hvl;have fin2:∀b:Bool,b=(more||decide (L<ul))->∃a S' cs',((a<=ps.length/\S'=List.foldl (stS g) S (List.take a ps)/\SOk g S'/\SC cs' S'/\((b=false/\S'=S)\/(b=true/\szS S<szS S')))/\ps.length-a<ps.length-i/\(i:Int)+1=(a:Int)/\cs2.set pl uv=cs'):=fun b hb=>by
   refine⟨i+1,S2.set pl u,cs2.set pl uv,⟨by omega,hnext.symm,hok3,hC3,fin b hb⟩,by omega,by omega,rfl⟩
  have hL0:¬(L:Int)<0:=by omega
  by_cases hgr:L<ul
  ·have hgr':(L:Int)<ul:=by omega
   have hf:=fin2 true (by simp[hgr])
   rcases hvF with⟨rfl,rfl⟩ | rfl<;>rcases aC hov with rfl | rfl<;>rcases huF with⟨rfl,rfl⟩ | rfl;all_goals
    try (exact absurd hgr (Nat.not_lt_zero _))
   all_goals
    cases more;all_goals
     simp[an,hsV,hpl,hcn2,hv,hvE,ko1,ku1,hpn1,hset1,hsh1,w1,ao,hlk,hlk1,hn1,hgr,hgr']
     try simpa using hf
  ·have hgr':¬(L:Int)<ul:=by omega
   have hf:=fin2 more (by simp[hgr])
   rcases hvF with⟨rfl,rfl⟩ | rfl<;>rcases aC hov with rfl | rfl<;>rcases huF with⟨rfl,rfl⟩ | rfl;all_goals
    cases more;all_goals
     simp[an,hsV,hpl,hcn2,hv,hvE,ko1,ku1,hpn1,hset1,hsh1,w1,ao,hlk,hlk1,hn1,hgr,hgr',hL0]
     try simpa using hf

theorem sI {l:List (List UInt8)}{i:Nat}(hi:i<l.length)(x:List UInt8):ct (l.drop i) x=(x==l[i]||ct (l.drop (i+1)) x):=by
 rw[List.drop_eq_getElem_cons hi];rfl
theorem B5 {lk lim:Nat}{H:Heap}{v:AV}{l:List (List UInt8)}(hv:RV v l)(x:List UInt8)(hl:l.length<=1000000000):aj X A lk lim 69 [v,Sg x] H=some (Bo (ct l x),H):=by
 rcases hv with rfl | ⟨rfl,rfl⟩
 ·refine ar [] rfl A69 rfl rfl ?_;unfold LI;generalize aj X A=C;simp;refine ax (σ:=Nat) (fun i=>[(0,rowsV l),(1,Sg x),(5,I i)]) (fun _=>H) (fun i=>i<=l.length/\ct l x=ct (l.drop i) x) (fun i=>l.length-i) ?_ 0 ⟨Nat.zero_le _,rfl⟩ (by simp[ab,find]) rfl
  rintro i ⟨hi,hinv⟩;unfold Et;rw[hinv];by_cases hil:i<l.length
  ·have hil':(i:Int)<l.length:=by omega
   have w1:IntKind.i64.wrap ((i:Int)+1)=(i:Int)+1:=au (by omega) (by omega)
   have ga:=bE hil;rw[sI hil];have hinv2:=sI hil x;generalize l[i]=y at *;by_cases hxy:y=x
   ·subst hxy;simp[hil,hil',aW,ga,qG]
   ·have h1:(y==x)=false:=by simp[hxy]
    have h2:(x==y)=false:=by simp[Ne.symm hxy]
    rw[h2,Bool.false_or]at hinv2 |-;simp[hil,hil',aW,ga,qG,h1,w1,ao];exact⟨i+1,⟨by omega,rfl⟩,by omega,by omega⟩
  ·obtain rfl:i=l.length:=by omega
   rw[List.drop_length];simp[ct]
 ·refine ar [] rfl A69 rfl rfl ?_;unfold LI;generalize aj X A=C;simp;refine ax (σ:=Unit) (fun i=>[(0,.e0),(1,Sg x),(5,I 0)]) (fun i=>H) (fun i=>True) (fun i=>0) ?_ () trivial (by simp[ab,find]) (by simp)
  intro i _;unfold Et;simp[ct]

theorem FG {r:List Int}{i:Nat}(hi:i<r.length)(P:Int->Bool):(r.drop i).any P=(P r[i]||(r.drop (i+1)).any P):=by
 rw[List.drop_eq_getElem_cons hi];rfl
theorem sJ {lk lim:Nat}{H:Heap}(hlk:lk<=H.length)(g:Gm)(hl:g.ps.length<=1000000)(hr:∀p∈g.ps,p.r.length<=1000000){cs:List AV}{S:Ss}(hS:SC cs S)(r:List Int)(hrl:r.length<=1000000)(hSl:S.length<=1000000)
  (hO:OfOk g S r->(∀i,(ofM g S (r.take i)).length<=2000000/\∀x∈ofM g S (r.take i),x.length<=1000000)/\∀s∈r,(nxt g S s).length<=2000000/\∀x∈nxt g S s,x.length<=1000000):
  aj X A lk lim 68 [gV g,.sl cs.length cs,.sl r.length (ints r)] H=some (if OfOk g S r then rV (ofM g S r) else .e0,H):=by
 have kc:=fun (L:Nat)=>bN (lk:=lk) (lim:=L) (H:=H) g hl hr;have k45:=fun (L:Nat) h1 h2 h3 h4=>B3 (lk:=lk) (lim:=L) (H:=H) hlk g (.sl g.ps.length (psC g.ps)) hS r h1 h2 hrl hSl h3 h4;have hcl:=hS.1;refine ar [3] rfl A68 rfl rfl ?_;unfold Nx;by_cases hc:chkE g=0;case neg=>
  rw[if_neg (fun h:OfOk g S r=>hc h.1)];have hc2:(chkE g != 0)=true:=by simpa using hc
  generalize chkE g=e at kc hc2 hc;obtain⟨t,n,k,ps⟩:=g;simp only[gV,Gm.cells]at kc;generalize aj X A=C at kc |-;simp[Gm.cells,kc,hc2,hc]
 have ok:=br hc;by_cases hn:(S.length:Int)=g.n;case neg=>
  rw[if_neg (fun h:OfOk g S r=>hn h.2.1)];rw[hc]at kc;obtain⟨t,n,k,ps⟩:=g;simp only[gV,Gm.cells]at kc hn;have hn2:((cs.length:Int) != n)=true:=by rw[hcl];simpa using hn
  have hn3:¬(cs.length:Int)=n:=by rw[hcl];exact hn
  generalize aj X A=C at kc |-;simp[Gm.cells,kc,hn2,hn3]
 have hn2:((cs.length:Int) != g.n)=false:=by rw[hcl];simpa using hn
 have hn3:(cs.length:Int)=g.n:=by rw[hcl];exact hn
 have hw:IntKind.i64.wrap (g.t+g.n)=g.t+g.n:=by have:=ok.t1;have:=ok.t2;have:=ok.n1;have:=ok.n2;exact au (by omega) (by omega)
 have hokE:OfOk g S r↔r.any (du g)=false:=⟨fun h=>h.2.2,fun h=>⟨hc,hn,h⟩⟩;have k45:=fun L (h:r.any (du g)=false)=>k45 L (fun s hs=>by
  have:=List.any_eq_false.1 h s hs;simp only[du,Bool.or_eq_true,decide_eq_true_eq,not_or]at this;omega) ⟨by have:=ok.t1;omega,by have:=ok.t2;omega⟩ (hO (hokE.2 h)).1 (hO (hokE.2 h)).2
 have e:(if OfOk g S r then rV (ofM g S r) else .e0)=(if r.any (du g)=false then rV (ofM g S r) else .e0):=by
  by_cases h:r.any (du g)=false
  ·rw[if_pos h,if_pos (hokE.2 h)]
  ·rw[if_neg h,if_neg (fun h2=>h (hokE.1 h2))]
 rw[e];rw[hc]at kc;have hov:=dE (ofM g S r);generalize rV (ofM g S r)=ov at k45 hov |-;have hbd:∀s,du g s=(decide (s<0)||decide (g.t+g.n<=s)):=fun s=>rfl;generalize du g=P at *;obtain⟨t,n,k,ps⟩:=g;simp only[gV,Gm.cells]at kc hn2 hn3 k45 hw hbd;obtain⟨w,hPw⟩:∃w,r.any P=w:=⟨_,rfl⟩;rw[hPw];simp only[hPw]at k45;generalize aj X A=C at kc k45 |-;simp[Gm.cells,kc,hn2,hn3];refine ax (σ:=Nat) (fun i=>[(1,.sl cs.length cs),(2,.sl r.length (ints r)),(3,.box [I t,I n,I k,.sl ps.length (psC ps)]),(7,I i)]) (fun _=>H) (fun i=>i<=r.length/\w=(r.drop i).any P) (fun i=>r.length-i) ?_ 0 ⟨Nat.zero_le _,hPw.symm⟩ (by simp[ab,find,hn3]) rfl
 rintro i ⟨hi,hinv⟩;unfold JR;by_cases hil:i<r.length
 ·have hil':(i:Int)<r.length:=by omega
  have w1:IntKind.i64.wrap ((i:Int)+1)=(i:Int)+1:=au (by omega) (by omega)
  have ha:=FG hil P;rw[<-hinv]at ha;obtain⟨s,hs⟩:∃s,r[i]=s:=⟨_,rfl⟩;rw[hs,hbd]at ha;by_cases h1:s<0
  ·have hb:w=true:=by rw[ha];simp[h1]
   subst hb;simp[hil,hil',hs,h1]
  ·by_cases h2:t+n<=s
   ·have hb:w=true:=by rw[ha];simp[h2]
    subst hb;simp[hil,hil',hs,h1,h2,hw]
   ·have hb:w=(r.drop (i+1)).any P:=by rw[ha];simp[h1,h2]
    simp[hil,hil',hs,h1,h2,hw,w1,ao];exact⟨i+1,⟨by omega,hb⟩,by omega,by omega⟩
 ·obtain rfl:i=r.length:=by omega
  have hb:w=false:=by rw[hinv,List.drop_length];rfl
  have k45:=fun L=>k45 L hb;subst hb;rcases aC hov with rfl | rfl;all_goals simp[hn3,k45]
end Go.Proofs.YtkllbcjanneppaaGreat
