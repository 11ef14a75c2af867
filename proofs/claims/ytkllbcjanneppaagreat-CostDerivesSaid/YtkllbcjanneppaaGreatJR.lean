import Derived.Test.YtkllbcjanneppaaGreatJP
set_option maxRecDepth 20000
set_option linter.unusedSimpArgs false
set_option linter.unusedVariables false
namespace Go.Proofs.YtkllbcjanneppaaGreat
open Go Go.Hm

structure SM (S:List AV)(st:List Int):Prop where
 le:st.length<=S.length
 tk:S.take st.length=ints st.reverse
theorem SM.top {S:List AV}{x:Int}{st:List Int}(h:SM S (x::st)):S[st.length]?=some (I x)/\SM S st:=by
 obtain ⟨h1,h2⟩:=AB h.le h.tk;exact ⟨h1,⟨by have:=h.le;simp only [List.length_cons] at this;omega,h2⟩⟩
theorem SM.push {S:List AV}{x:Int}{st:List Int}(h:SM S st):SM (cS st.length S.length S [I x]) (x::st)/\(cS st.length S.length S [I x]).length=eh st.length S.length 1:=by
 obtain ⟨a1,a2,a3⟩:=s7 (a:=I x) h.le;refine ⟨⟨by simpa using a3,?_⟩,a2⟩
 rw [List.length_cons,a1,h.tk];simp [ints]
section
variable {C:Orc}{Q:Ex->Kt}{E:Env}{lk L:Nat}{H:Heap}{t gn k x:Int}{ps:List Pr}{lv:AV}{out:List UInt8}{S:List AV}{sn:Nat}{r st:List Int}{pl:Int}{kk:Int}
def e25 (t gn k:Int)(ps:List Pr)(lv:AV)(b sc sn:Nat)(out:List UInt8)(e:Env):Env:=(1,lv)::(2,.box [I t,I gn,I k,.sl ps.length (psC ps)])::(6,.hs b sc 0 sn 1)::(7,Sg out)::e
theorem v85 (hE:ab [1,2,6,7,9,10] E=e25 t gn k ps lv H.length S.length sn out [(9,.box [I pl,.sl r.length (ints r)]),(10,I kk)])
  (hQ:∀E',find E' 85=Bo (decide (0<=kk))->ab [1,2,6,7,9,10] E'=e25 t gn k ps lv H.length S.length sn out [(9,.box [I pl,.sl r.length (ints r)]),(10,I kk)]->ab [1,2,6,7] E'=e25 t gn k ps lv H.length S.length sn out []->Q .nrm E' (H++[.cells S])):
  WB ⟨C,lk,L,[2,9]⟩ (.regN [1,2,6,7,9,10] [ kM 84 10,kx 85 (.bini .geq (ux 84) c0)]) Q E (H++[.cells S]):=by
 unfold e25 at *;rw [ae,hE];simp;refine hQ _ ?_ ?_ ?_
 ·simp [find]
 ·rfl
 ·rfl
theorem v95 {m n:Nat}{cs:List AV}(hlv:lv= .sl n cs)(hk:kk=(m:Nat))(hm:m < r.length)(hx:∀h,(ints r)[m]'h=I x)(hsn:sn<=S.length)(hn:sn<=100000000)(hlk:lk<=H.length)(hL:L<=H.length)
  (hE:ab [1,2,6,7,9,10] E=e25 t gn k ps lv H.length S.length sn out [(9,.box [I pl,.sl r.length (ints r)]),(10,I kk)])
  (hQ:∀E',ab [1,2,6,7,9,10] E'=e25 t gn k ps lv H.length (eh sn S.length 1) (sn+1) out [(9,.box [I pl,.sl r.length (ints r)]),(10,I kk)]->Q .nrm E' (H++[.cells (cS sn S.length S [I x])])):
  WB ⟨C,lk,L,[2,9]⟩ (.regN [1,2,6,7,9,10] [ kM 88 6,kF 89 1 9,kS 90 9 89,kM 91 10,kI 92 1 90 91,kL 93 92,kx 94 (.buildS 1 [(.val (.int .i64 0))] [(0,1,(ux 93))]),kx 95 (.app 1 8 (ux 88) (ux 94)),kM 6 95]) Q E (H++[.cells S]):=by
 subst hk;subst hlv;have hb:(H++[HB.cells S])[H.length]?=some (.cells S):=by simp
 have hset:∀y,(H++[HB.cells S]).set H.length y=H++[y]:=fun y=>by simp
 have r1:(sn+1) * 8<=aM:=by unfold aM;omega
 have h8:sn=S.length\/sn+1<=S.length:=by omega
 have hrl:=aV r;unfold e25 at *;rw [ae,hE];simp [hm,hx,hrl,aN,hb,hset,r1,h8,aR,hlk,hL];refine hQ _ ?_;rfl
theorem v86 (hw:IntKind.i64.wrap (kk - 1)=kk - 1)(hE:ab [1,2,6,7,9,10] E=e25 t gn k ps lv H.length S.length sn out [(9,.box [I pl,.sl r.length (ints r)]),(10,I kk)])
  (hQ:∀E',ab [1,2,6,7,9,10] E'=e25 t gn k ps lv H.length S.length sn out [(9,.box [I pl,.sl r.length (ints r)]),(10,I (kk - 1))]->Q .nrm E' (H++[.cells S])):
  WB ⟨C,lk,L,[2,9]⟩ (.regN [1,2,6,7,9,10] [ kM 86 10,kx 87 (.bini .sub (ux 86) c1),kM 10 87]) Q E (H++[.cells S]):=by
 unfold e25 at *;rw [ae,hE];simp [hw];refine hQ _ ?_;rfl
theorem ML {n:Nat}{cs:List AV}(hlv:lv= .sl n cs)(hlk:lk<=H.length)(hL:L<=H.length)(hrl:r.length<=1000)(hst:st.length<=10000000)(hm:SM S st)
  (hE:ab [1,2,6,7,9,10] E=e25 t gn k ps lv H.length S.length st.length out [(9,.box [I pl,.sl r.length (ints r)]),(10,I ((r.length:Int) - 1))])
  (hQ:∀E' S',SM S' (r++st)->ab [1,2,6,7] E'=e25 t gn k ps lv H.length S'.length (r++st).length out []->Q .nrm E' (H++[.cells S'])):
  WB ⟨C,lk,L,[2,9]⟩ (.block 2 (.loop [1,2,6,7,9,10] ES)) Q E (H++[.cells S]):=by
 rw [ap];refine ax (σ:=Nat×List AV) (fun s=>e25 t gn k ps lv H.length s.2.length (r.drop (r.length - s.1)++st).length out [(9,.box [I pl,.sl r.length (ints r)]),(10,I ((r.length:Int) - 1 - s.1))]) (fun s=>H++[.cells s.2])
  (fun s=>s.1<=r.length/\SM s.2 (r.drop (r.length - s.1)++st)) (fun s=>r.length - s.1) ?_ (0,S) ⟨Nat.zero_le _,by simpa using hm⟩ (by simpa using hE) rfl
 rintro ⟨j,S'⟩ ⟨hj,hs⟩;simp only at hj hs;have hln:(r.drop (r.length - j)++st).length<=100000000:=by simp;omega
 unfold ES;rw [ai,ai];refine v85 rfl fun E1 g1 h1 h1'=>?_;rw [ah];by_cases hjl:j < r.length;case neg=>
  rw [decide_eq_false (by simp only;omega)] at g1
  rw [af (aI g1),bT,a8,bQ,aG,if_pos rfl];obtain rfl:j=r.length:=by omega
  simp only [Nat.sub_self,List.drop_zero] at hs h1';exact hQ _ _ hs h1'
 rw [decide_eq_true (by simp only;omega)] at g1
 rw [ak (aI g1),aA,ah,ai,ap];have hm2:r.length - 1 - j < r.length:=by omega
 have hxe:∀h,(ints r)[r.length - 1 - j]'h=I r[r.length - 1 - j]:=fun h=>bv hm2 h;have hd:r.drop (r.length - (j+1))=r[r.length - 1 - j]::r.drop (r.length - j):=by
  rw [List.drop_eq_getElem_cons (by omega:r.length - (j+1) < r.length)]
  congr 1
  ·congr 1;omega
  ·congr 1;omega
 generalize r[r.length - 1 - j]=y at *;generalize hss:r.drop (r.length - j)++st=ss at *;have hkk:(r.length:Int) - 1 - (j:Nat)=((r.length - 1 - j:Nat):Int):=by omega
 refine v95 hlv hkk hm2 hxe hs.le hln hlk hL h1 fun E2 h2=>?_;obtain ⟨p1,p2⟩:=hs.push (x:=y);rw [<-p2] at h2;rw [a6,ah];refine v86 (au (by omega) (by omega)) h2 fun E3 h3=>?_
 rw [ao];refine ⟨(j+1,_),⟨hjl,?_⟩,by simp only;omega,?_,rfl⟩
 ·simp only;rw [hd,List.cons_append,hss];exact p1
 ·simp only;rw [hd,List.cons_append,hss,List.length_cons];rw [show (r.length:Int) - 1 - ((j+1:Nat):Int)=(r.length:Int) - 1 - (j:Nat) - 1 by omega]
  exact h3
theorem v16 (hE:ab [1,2,6,7] E=e25 t gn k ps lv H.length S.length sn out [])
  (hQ:∀E',find E' 16=Bo (decide (0 < sn))->ab [1,2,6,7] E'=e25 t gn k ps lv H.length S.length sn out []->ab [1,7] E'=[(1,lv),(7,Sg out)]->Q .nrm E' (H++[.cells S])):
  WB ⟨C,lk,L,[2,9]⟩ (.regN [1,2,6,7] [ kM 14 6,kN 15 14,kx 16 (.bini .gtr (ux 15) c0)]) Q E (H++[.cells S]):=by
 unfold e25 at *;rw [ae,hE];simp;refine hQ _ ?_ ?_ ?_
 ·simp [find]
 ·rfl
 ·rfl
theorem v22 {m:Nat}(hsn:sn=m+1)(hm:m<=100000000)(hx:S[m]?=some (I x))(hE:ab [1,2,6,7] E=e25 t gn k ps lv H.length S.length sn out [])
  (hQ:∀E',ab [1,2,6,7,8] E'=e25 t gn k ps lv H.length S.length sn out [(8,I x)]->Q .nrm E' (H++[.cells S])):
  WB ⟨C,lk,L,[2,9]⟩ (.regN [1,2,6,7] [ kM 17 6,kM 18 6,kN 19 18,kx 20 (.bini .sub (ux 19) c1),kI 21 1 17 20,kL 22 21,kM 8 22]) Q E (H++[.cells S]):=by
 subst hsn;have hb:(H++[HB.cells S])[H.length]?=some (.cells S):=by simp
 have hm2:=(List.getElem?_eq_some_iff.1 hx).1;have hx2:∀h,S[m]'h=I x:=fun h=>(List.getElem?_eq_some_iff.1 hx).2;have w1:IntKind.i64.wrap (m:Int)=(m:Int):=au (by omega) (by omega)
 have hlt:(m:Int) < (m:Int)+1:=by omega
 unfold e25 at *;rw [ae,hE];simp [hb,hm2,hx2,w1,hlt];refine hQ _ ?_;rfl
theorem v27 {m:Nat}(hsn:sn=m+1)(hm:m<=100000000)(hE:ab [1,2,6,7,8] E=e25 t gn k ps lv H.length S.length sn out [(8,I x)])
  (hQ:∀E',ab [1,2,6,7,8] E'=e25 t gn k ps lv H.length S.length m out [(8,I x)]->Q .nrm E' (H++[.cells S])):
  WB ⟨C,lk,L,[2,9]⟩ (.regN [1,2,6,7,8] [ kM 23 6,kM 24 6,kN 25 24,kx 26 (.bini .sub (ux 25) c1),kx 27 (.slC 1 (ux 23) none (some (ux 26))),kM 6 27]) Q E (H++[.cells S]):=by
 subst hsn;have w1:IntKind.i64.wrap (m:Int)=(m:Int):=au (by omega) (by omega)
 have hle:(m:Int)<=(m:Int)+1:=by omega
 unfold e25 at *;rw [ae,hE];simp [w1,hle,bnd];refine hQ _ ?_;rfl
theorem v31 (hE:ab [1,2,6,7,8] E=e25 t gn k ps lv H.length S.length sn out [(8,I x)])
  (hQ:∀E',find E' 31=Bo (decide (x < t))->ab [1,2,6,7,8] E'=e25 t gn k ps lv H.length S.length sn out [(8,I x)]->Q .nrm E' (H++[.cells S])):
  WB ⟨C,lk,L,[2,9]⟩ (.regN [1,2,6,7,8] [ kM 28 8,kF 29 0 2,kS 30 2 29,kT 31 28 30]) Q E (H++[.cells S]):=by
 unfold e25 at *;rw [ae,hE];simp;refine hQ _ ?_ ?_
 ·simp [find]
 ·rfl
theorem v37 (ho:out.length<=1000000)(hE:ab [1,2,6,7,8] E=e25 t gn k ps lv H.length S.length sn out [(8,I x)])
  (hQ:∀E',ab [1,2,6,7] E'=e25 t gn k ps lv H.length S.length sn (out++[byteI x]) []->Q .nrm E' (H++[.cells S])):
  WB ⟨C,lk,L,[2,9]⟩ (.regN [1,2,6,7,8] [ kM 32 7,kM 33 8,kx 34 (.cvi .u8 (ux 33)),kx 35 (.buildS 1 [(.val (.int .u8 0))] [(0,1,(ux 34))]),kx 36 (.b2s (ux 35)),kx 37 (.bins .add (ux 32) (ux 36)),kM 7 37]) Q E (H++[.cells S]):=by
 have hadd:=qH (a:=out) (b:=[byteI x]) (by simp;omega)
 have hw:=eH x;have ho2:UInt8.ofNat (byteI x).toNat=byteI x:=UInt8.ofNat_toNat;unfold e25 at *;rw [ae,hE];simp [hw,dF,hadd];refine hQ _ ?_;rfl
theorem v70 {i:Nat}{l:List Int}(hlv:lv= .sl (l.length+1) (I i::ints l))(hi:i < ps.length)(hp:∀h,(psC ps)[i * 2]'h=I (x - t))(hw:IntKind.i64.wrap (x - t)=x - t)
  (hE:ab [1,2,6,7,8] E=e25 t gn k ps lv H.length S.length sn out [(8,I x)])
  (hQ:∀E',find E' 70=Bo false->ab [1,2,6,7] E'=e25 t gn k ps lv H.length S.length sn out []->Q .nrm E' (H++[.cells S])):
  WB ⟨C,lk,L,[2,9]⟩ (.regD [1,2,6,7,8] 0 [ kM 38 1,kN 39 38,kx 40 (.bini .eql (ux 39) c0),kM 41 40,zM 42 41 1,kz 43 41 (.ixA 1 (ux 42) c0),zL 44 41 43,kz 45 41 (.bini .lss (ux 44) c0),kO 46 41 45,kM 47 46,zM 48 47 1,kz 49 47 (.ixA 1 (ux 48) c0),zL 50 47 49,zF 51 47 3 2,zS 52 47 2 51,zN 53 47 52,kz 54 47 (.bini .geq (ux 50) (ux 53)),kO 55 47 54,kM 56 55,zF 57 56 3 2,zS 58 56 2 57,zM 59 56 1,kz 60 56 (.ixA 1 (ux 59) c0),zL 61 56 60,zI 62 56 2 58 61,zF 63 56 0 62,zL 64 56 63,zM 65 56 8,zF 66 56 0 2,zS 67 56 2 66,kz 68 56 (.bini .sub (ux 65) (ux 67)),kz 69 56 (.bini .neq (ux 64) (ux 68)),kO 70 56 69]) Q E (H++[.cells S]):=by
 subst hlv;have hll:=aY ps;have h2:i * 2 < 2 * ps.length:=by omega
 have e1:((l.length:Int)+1==0)=false:=by rw [beq_eq_false_iff_ne];omega
 have e2:¬(i:Int) < 0:=by omega
 have e3:(i:Int) < (ps.length:Int):=by omega
 have e4:¬ps.length<=i:=by omega
 have e5:(0:Int) < (l.length:Int)+1:=by omega
 unfold e25 at *;rw [aB rfl,hE];simp [hi,hll,h2,hp,hw,e1,e2,e3,e4,e5];refine hQ _ ?_ ?_
 ·simp [find,e1,e2,e3,e4]
 ·rfl
theorem v77 {i:Nat}{l:List Int}(hlv:lv= .sl (l.length+1) (I i::ints l))(hi:i < ps.length)(hs:((psC ps).drop (i * 2)).take 2=[I pl,.sl r.length (ints r)])
  (hE:ab [1,2,6,7] E=e25 t gn k ps lv H.length S.length sn out [])
  (hQ:∀E',ab [1,2,6,7,9] E'=e25 t gn k ps lv H.length S.length sn out [(9,.box [I pl,.sl r.length (ints r)])]->Q .nrm E' (H++[.cells S])):
  WB ⟨C,lk,L,[2,9]⟩ (.regD [1,2,6,7] 0 [ kF 71 3 2,kS 72 2 71,kM 73 1,kx 74 (.ixA 1 (ux 73) c0),kL 75 74,kI 76 2 72 75,kx 77 (.ldA none 2 (ux 76)),kx 9 (.allocR [(.val (.int .i64 0)),.e0]),kn (.st (some 9) 2 (ux 9) (ux 77))]) Q E (H++[.cells S]):=by
 subst hlv;have hll:=aY ps;have h2:i * 2+2<=2 * ps.length:=by omega
 have e5:(0:Int) < (l.length:Int)+1:=by omega
 unfold e25 at *;rw [aB rfl,hE];simp [hi,hll,h2,hs,e5,an];refine hQ _ ?_;rfl
theorem v79 {i:Nat}{l:List Int}(hlv:lv= .sl (l.length+1) (I i::ints l))
  (hE:ab [1,2,6,7,9] E=e25 t gn k ps lv H.length S.length sn out [(9,.box [I pl,.sl r.length (ints r)])])
  (hQ:∀E',ab [1,2,6,7,9] E'=e25 t gn k ps (.sl l.length (ints l)) H.length S.length sn out [(9,.box [I pl,.sl r.length (ints r)])]->Q .nrm E' (H++[.cells S])):
  WB ⟨C,lk,L,[2,9]⟩ (.regN [1,2,6,7,9] [ kM 78 1,kx 79 (.slC 1 (ux 78) (some c1) none),kM 1 79]) Q E (H++[.cells S]):=by
 subst hlv;have e5:(1:Int)<=(l.length:Int)+1:=by omega
 have hl:=aV l;unfold e25 at *;rw [ae,hE];simp [bnd,e5,hl];refine hQ _ ?_;rfl
theorem v83 (hr:r.length<=1000)(hlv:∃n cs,lv= .sl n cs)(hE:ab [1,2,6,7,9] E=e25 t gn k ps lv H.length S.length sn out [(9,.box [I pl,.sl r.length (ints r)])])
  (hQ:∀E',ab [1,2,6,7,9,10] E'=e25 t gn k ps lv H.length S.length sn out [(9,.box [I pl,.sl r.length (ints r)]),(10,I ((r.length:Int) - 1))]->Q .nrm E' (H++[.cells S])):
  WB ⟨C,lk,L,[2,9]⟩ (.regN [1,2,6,7,9] [ kF 80 1 9,kS 81 9 80,kN 82 81,kx 83 (.bini .sub (ux 82) c1),kM 10 83]) Q E (H++[.cells S]):=by
 obtain ⟨n,cs,rfl⟩:=hlv;have hw:IntKind.i64.wrap ((r.length:Int) - 1)=(r.length:Int) - 1:=au (by omega) (by omega)
 unfold e25 at *;rw [ae,hE];simp [hw];refine hQ _ ?_;rfl
end

theorem AW {g:Gm}{n:Nat}{st:List Int}{w:List UInt8}{l:List Int}(h:Der g n st w l):st.length<=n+0/\w.length+l.length=n:=by
 induction h with
 | nil=>exact ⟨Nat.le_refl _,rfl⟩
 | tok b h hb d ih=>exact ⟨by simp only [List.length_cons];omega,by simp only [List.length_cons];omega⟩
 | non i h hi hl d ih=>exact ⟨by have:=ih.1;rw [List.length_append] at this;simp only [List.length_cons];omega,by simp only [List.length_cons];omega⟩
structure T25 (g:Gm)(N:Nat)(w:List UInt8)(x:Nat×List Int×List AV×List UInt8×List Int×List UInt8):Prop where
 d:Der g x.1 x.2.1 x.2.2.2.1 x.2.2.2.2.1
 o:x.2.2.2.2.2++x.2.2.2.1=w
 n:x.1<=N
 m:SM x.2.2.1 x.2.1
 s:∀y∈x.2.1,0<=y/\y < g.t+g.n
theorem CE {lk lim:Nat}{H:Heap}(hlk:lk<=H.length){g:Gm}(hg:GOk g){n:Nat}{w:List UInt8}{l:List Int}(hd:Der g n [g.t] w l)(hn:n<=1000000):
  aj X A lk lim 25 [gV g,.sl l.length (ints l)] H=some (.tup [Sg w,Bo true],H):=by
 refine ar [2,9] rfl A25 rfl rfl ?_;show WB ⟨aj X A,lk,H.length,[2,9]⟩ IH _ _ _;generalize aj X A=C;have hps:g.ps.length<=64:=hg.l2;have start:∀(Q:Ex->Kt),(∀E,ab [1,2,6,7] E=e25 g.t g.n g.k g.ps (.sl l.length (ints l)) H.length 1 1 [] []->WB ⟨C,lk,H.length,[2,9]⟩ (.seq (.block 0 (.loop [1,2,6,7] ET)) (.seq (.regN [1,7] [ kx 96 (um 7),kx 97 (um 1),kx 98 (.len false (ux 97)),kx 99 (.bini .eql (ux 98) c0),kx 4 (um 96),kx 5 (um 99)]) .ret)) Q E (H++[.cells [I g.t]]))->WB ⟨C,lk,H.length,[2,9]⟩ IH Q (aP 0 [gV g,.sl l.length (ints l)]) H:=by
  intro Q hQ;unfold IH;obtain ⟨t,gn,k,ps⟩:=g;simp only [gV,Gm.cells];unfold e25 at hQ;simp [-ap];refine hQ _ ?_;rfl
 refine start _ fun E hE=>?_;rw [ai,ap];refine ax (σ:=Nat×List Int×List AV×List UInt8×List Int×List UInt8) (fun x=>e25 g.t g.n g.k g.ps (.sl x.2.2.2.2.1.length (ints x.2.2.2.2.1)) H.length x.2.2.1.length x.2.1.length x.2.2.2.2.2 []) (fun x=>H++[.cells x.2.2.1])
  (T25 g n w) (fun x=>x.1) ?_ (n,[g.t],[I g.t],w,l,[]) ⟨hd,rfl,Nat.le_refl _,⟨by simp,rfl⟩,jO hg⟩ hE rfl
 rintro ⟨m,st,S,w',l',out⟩ ⟨hd',ho,hmn,hm,hs⟩;simp only at hd' ho hmn hm hs;have hlen:=AW hd';have holen:out.length<=w.length:=by rw [<-ho];simp
 have hwl:=(AW hd).2;unfold ET;rw [ai,ai];refine v16 (lv:=.sl l'.length (ints l')) (S:=S) (sn:=st.length) (out:=out) rfl fun E1 g1 h1 h1'=>?_;rw [ah];cases hd' with
 | nil=>
  rw [decide_eq_false (by simp)] at g1
  rw [af (aI g1),bT,a8,bQ,aG,if_pos rfl,ah,ai,ae];rw [h1'];have hw:w=out:=by rw [<-ho];simp
  rw [hw];simp [ints]
 | @tok m x st w' l' b hx hb d=>
  have hp0:0 < (x::st).length:=Nat.succ_pos _;rw [decide_eq_true hp0] at g1;rw [ak (aI g1),aA,ah,ap,ai];obtain ⟨tp,hm'⟩:=hm.top;have hst:st.length<=100000000:=by have:=hlen.1;simp only [List.length_cons] at this;omega
  refine v22 (m:=st.length) rfl hst tp h1 fun E2 h2=>?_;rw [ah,ai];refine v27 (m:=st.length) rfl hst h2 fun E3 h3=>?_;rw [ah,ai,ai];refine v31 h3 fun E4 g4 h4=>?_;rw [decide_eq_true hx] at g4;rw [ah,ak (aI g4),ai];refine v37 (by omega) h4 fun E5 h5=>?_
  rw [ah,bT,a8,aG,if_pos rfl,ao];have hbx:byteI x=b:=by
   rw [<-hb];unfold byteI;rw [show ((b.toNat:Int) % 256).toNat=b.toNat by have:=b.toNat_lt;omega];exact UInt8.ofNat_toNat
  rw [hbx] at h5;exact ⟨(m,st,S,w',l',out++[b]),⟨d,by rw [<-ho];simp,by simp only;omega,hm',fun y hy=>hs y (by simp [hy])⟩,by simp only;omega,h5,rfl⟩
 | @non m x st w' l' i hx hi hl d=>
  have hp0:0 < (x::st).length:=Nat.succ_pos _;rw [decide_eq_true hp0] at g1;rw [ak (aI g1),aA,ah,ap,ai];obtain ⟨tp,hm'⟩:=hm.top;have hst:st.length<=10000000:=by have:=hlen.1;simp only [List.length_cons] at this;omega
  have hx2:=hs x (by simp)
  refine v22 (m:=st.length) rfl (by omega) tp h1 fun E2 h2=>?_
  rw [ah,ai];refine v27 (m:=st.length) rfl (by omega) h2 fun E3 h3=>?_
  rw [ah,ai,ai];refine v31 h3 fun E4 g4 h4=>?_;rw [decide_eq_false hx] at g4;rw [ah,af (aI g4),aA,ah,ai,ai];have hpe:∀h,(psC g.ps)[i * 2]'h=I (x - g.t):=fun h=>by
   rw [<-hl,List.getD_eq_getElem?_getD,List.getElem?_eq_getElem hi];exact (List.getElem?_eq_some_iff.1 (Ae hi)).2
  have hsub:((psC g.ps).drop (i * 2)).take 2=[I (g.ps.getD i ⟨0,[]⟩).l,.sl (g.ps.getD i ⟨0,[]⟩).r.length (ints (g.ps.getD i ⟨0,[]⟩).r)]:=by
   rw [cd hi,List.getD_eq_getElem?_getD,List.getElem?_eq_getElem hi];rfl
  have hrl:=(hg.p _ (bW hi)).len;have hrs:=(hg.p _ (bW hi)).s;have hlv:(AV.sl ((i:Int)::l').length (ints ((i:Int)::l')))= .sl (l'.length+1) (I i::ints l'):=rfl;refine v70 hlv hi hpe (au (by have:=hg.t2;omega) (by have:=hg.t2;have:=hg.n2;omega)) h4 fun E5 g5 h5=>?_
  rw [ah,af (aI g5),aA,ah,ai];refine v77 hlv hi hsub h5 fun E6 h6=>?_;rw [ah,ai];refine v79 hlv h6 fun E7 h7=>?_;rw [ah,ai];refine v83 (by omega) ⟨_,_,rfl⟩ h7 fun E8 h8=>?_
  rw [ah];refine ML rfl hlk (Nat.le_refl _) (by omega) hst hm' h8 fun E9 S' hm2 h9=>?_
  rw [a6,ao];refine ⟨(m,(g.ps.getD i ⟨0,[]⟩).r++st,S',w',l',out),⟨d,ho,by simp only;omega,hm2,fun y hy=>?_⟩,by simp only;omega,h9,rfl⟩
  rcases List.mem_append.1 hy with hy | hy
  ·exact hrs y hy
  ·exact hs y (by simp [hy])
end Go.Proofs.YtkllbcjanneppaaGreat
