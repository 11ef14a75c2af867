import Derived.Test.YtgbpioccaenjaaaGreatGP
import Derived.Test.YtgbpioccaenjaaaGreatHmG10
set_option linter.unusedSimpArgs false
set_option linter.unusedVariables false
namespace Go.Proofs.YtgbpioccaenjaaaGreat
open Go Go.Hm

def rowL (n : Nat) (o : List Bool) (i : Nat) : List Bool:=(o.drop (i * n)).take n
def matB (n : Nat) (o : List Bool) : Heap:=(List.range n).map fun i => .cells (bools (rowL n o i))
theorem rowL_len {n : Nat} {o : List Bool} {i : Nat} (ho : o.length = n * n) (hi : i < n) : (rowL n o i).length = n:=by
 unfold rowL
 rw [List.length_take,List.length_drop,ho]
 have h1 : (i + 1) * n ≤ n * n:=Nat.mul_le_mul_right n hi
 rw [Nat.succ_mul] at h1
 omega
theorem rowL_get {n : Nat} {o : List Bool} {i k : Nat} (hk : k < n) : (rowL n o i)[k]? = o[i * n + k]?:=by
 unfold rowL
 rw [List.getElem?_take,if_pos hk,List.getElem?_drop]
theorem matB_len (n : Nat) (o : List Bool) : (matB n o).length = n:=by simp [matB]
theorem matB_get {n : Nat} {o : List Bool} {i : Nat} (hi : i < n) : (matB n o)[i]? = some (.cells (bools (rowL n o i))):=by
 unfold matB
 rw [List.getElem?_map,List.getElem?_range hi];rfl
theorem rowL_set {n : Nat} {o : List Bool} {i k i' : Nat} {v : Bool} (ho : o.length = n * n) (hi : i < n) (hk : k < n) (hi' : i' < n) : rowL n (o.set (i * n + k) v) i' = if i' = i then (rowL n o i).set k v else rowL n o i':=by
 apply List.ext_getElem?
 intro j
 rcases Nat.lt_or_ge j n with hj | hj
 ·rw [rowL_get hj,List.getElem?_set]
  by_cases h : i' = i
  ·subst h
   rw [if_pos rfl,List.getElem?_set,rowL_len ho hi,rowL_get hj]
   by_cases hkj : k = j
   ·subst hkj
    rw [if_pos rfl,if_pos rfl,if_pos hk,if_pos (by rw [ho];exact ix_lt hi hk)]
   ·rw [if_neg hkj,if_neg (by omega)]
  ·rw [if_neg h,rowL_get hj,if_neg (fun e => h (ix_inj hk hj e).1.symm)]
 ·have hl : (rowL n (o.set (i * n + k) v) i').length = n:=rowL_len (by rw [List.length_set];exact ho) hi'
  rw [List.getElem?_eq_none (by omega)]
  split
  ·rw [List.getElem?_eq_none (by rw [List.length_set,rowL_len ho hi];omega)]
  ·rw [List.getElem?_eq_none (by rw [rowL_len ho hi'];omega)]
theorem matB_set {n : Nat} {o : List Bool} {i k : Nat} {v : Bool} (ho : o.length = n * n) (hi : i < n) (hk : k < n) : (matB n o).set i (.cells (bools ((rowL n o i).set k v))) = matB n (o.set (i * n + k) v):=by
 apply List.ext_getElem?
 intro j
 rw [List.getElem?_set,matB_len]
 rcases Nat.lt_or_ge j n with hj | hj
 ·rw [matB_get hj,matB_get hj,rowL_set ho hi hk hj]
  by_cases h : i = j
  ·subst h
   rw [if_pos rfl,if_pos hj,if_pos rfl]
  ·rw [if_neg h,if_neg (fun e => h e.symm)]
 ·rw [if_neg (by omega),List.getElem?_eq_none (by rw [matB_len];omega),List.getElem?_eq_none (by rw [matB_len];omega)]
theorem rowL_zero (n i : Nat) (hi : i < n) : rowL n (List.replicate (n * n) false) i = List.replicate n false:=by
 unfold rowL
 rw [List.drop_replicate,List.take_replicate]
 congr 1
 have h1 : (i + 1) * n ≤ n * n:=Nat.mul_le_mul_right n hi
 rw [Nat.succ_mul] at h1
 omega
def rowV (b n m : Nat) : List AV:=(List.range m).map fun i => .hs (b + i) n 0 n 1
theorem rowV_get {b n m i : Nat} (h : i < m) : (rowV b n m)[i]? = some (.hs (b + i) n 0 n 1):=by
 unfold rowV
 rw [List.getElem?_map,List.getElem?_range h];rfl
theorem rowV_ge {b n m i : Nat} (h : i < (rowV b n m).length) : (rowV b n m)[i] = .hs (b + i) n 0 n 1:=by simp [rowV]
theorem rowV_len (b n m : Nat) : (rowV b n m).length = m:=by simp [rowV]
def outC (b n m : Nat) : List AV:=rowV b n m ++ List.replicate (n - m) .e0
theorem outC_set {b n m : Nat} (h : m < n) : (outC b n m).set m (.hs (b + m) n 0 n 1) = outC b n (m + 1):=by
 unfold outC
 rw [List.set_append_right _ _ (by rw [rowV_len];omega),rowV_len,Nat.sub_self,show n - m = (n - (m + 1)) + 1 by omega,List.replicate_succ,List.set_cons_zero]
 unfold rowV
 rw [List.range_succ,List.map_append,List.append_assoc]
 rfl
theorem outC_len {b n m : Nat} (h : m ≤ n) : (outC b n m).length = n:=by
 unfold outC
 rw [List.length_append,rowV_len,List.length_replicate];omega
theorem outC_all (b n : Nat) : outC b n n = rowV b n n:=by
 unfold outC
 rw [Nat.sub_self];simp
theorem matB_zero (n m : Nat) (h : m ≤ n) : (List.range m).map (fun i => HB.cells (bools (rowL n (List.replicate (n * n) false) i))) = List.replicate m (.cells (bools (List.replicate n false))):=by
 apply List.ext_getElem?
 intro i
 rw [List.getElem?_map,List.getElem?_replicate]
 rcases Nat.lt_or_ge i m with hi | hi
 ·rw [List.getElem?_range hi,if_pos hi,Option.map_some,rowL_zero n i (by omega)]
 ·rw [List.getElem?_eq_none (by simpa using hi),if_neg (by omega)];rfl

set_option maxRecDepth 20000 in
theorem beg_code {lk lim : Nat} {H : Heap} (g : Gm) (ok : GOk g) (null : List Bool) (hn : null.length = g.n.toNat) (r : List Int) (hr : r.length ≤ 8) (hs : ∀ x ∈ r,0 ≤ x ∧ x < g.t + g.n) (hlk : lk ≤ H.length) :
  callW X A lk lim 59 [gV g,.sl g.n.toNat (bools null),.sl r.length (ints r)] H = some (slvN (bgL g.t null r),H):=by
 refine wb_callB [3] rfl A59 rfl rfl ?_
 generalize callW X A = C
 unfold t59B
 obtain ⟨t,n,k,ps⟩:=g
 obtain ⟨t1,t2,n1,n2,k1,k2,l1,l2,okp⟩:=ok
 simp only at t1 t2 n1 n2 hn hs
 obtain ⟨n,rfl⟩:=Int.eq_ofNat_of_zero_le (by omega : 0 ≤ n)
 simp only [Int.toNat_natCast] at hn ⊢
 simp [Gm.cells]
 let bx : AV:=.box [I t,I n,I k,.sl ps.length (psC ps)]
 have hbl:=bgL_len (t:=t) (null:=null) r
 obtain ⟨B,hB⟩ : ∃ B,bgL t null r = B:=⟨_,rfl⟩
 rw [hB] at hbl
 rw [hB]
 refine wb_loop (σ:=Nat × List Nat) (fun s => [(1,.sl n (bools null)),(3,bx),(6,oV H s.2),(9,.sl r.length (ints r)),(10,I r.length),(11,I s.1)]) (fun s => oH H s.2)
  (fun s => s.1 ≤ r.length ∧ s.2.length = s.1 ∧ s.2 ++ bgL t null (r.drop s.1) = B) (fun s => r.length - s.1) ?_ (0,[]) ⟨Nat.zero_le _,rfl,by rw [← hB];rfl⟩ (by simp [bx,oV]) (by simp [oH])
 rintro ⟨i,o⟩ ⟨hi,ho,hinv⟩
 simp only at hi ho hinv
 unfold t59L1
 have w1 : IntKind.i64.wrap ((i : Int) + 1) = (i : Int) + 1:=wrap64 (by omega) (by omega)
 have fin : o = B → ∀ e : Env,ev e (.tmp 6) = oV H o → True:=fun _ _ _ => trivial
 clear fin
 by_cases hil : i < r.length
 case neg =>
  obtain rfl : i = r.length:=by omega
  rw [List.drop_length] at hinv
  have hinv : o = B:=by simpa [bgL] using hinv
  subst hinv
  by_cases h0 : o = []
  ·simp [bx,oV,oH,slvN,h0]
  ·simp [bx,oV,oH,slvN,h0]
 have hro1 : 8 ≤ room:=by unfold room;omega
 have hro : (o.length + 1) * 8 ≤ room:=by unfold room;omega
 obtain ⟨x,hx⟩ : ∃ x,r[i] = x:=⟨_,rfl⟩
 obtain ⟨x1,x2⟩:=hs x (hx ▸ List.getElem_mem hil)
 rw [List.drop_eq_getElem_cons hil,hx,bgL] at hinv
 by_cases hxt : x < t
 ·rw [if_pos hxt,List.append_nil] at hinv
  subst hinv
  by_cases h0 : o = []
  ·simp [bx,oV,oH,slvN,h0,hil,hx,hxt]
  ·simp [bx,oV,oH,slvN,h0,hil,hx,hxt]
 rw [if_neg hxt] at hinv
 obtain ⟨y,rfl⟩ : ∃ y : Nat,x = t + (y : Int):=⟨(x - t).toNat,by omega⟩
 have hy2 : (t + (y : Int) - t).toNat = y:=by omega
 have w3 : IntKind.i64.wrap (y : Int) = y:=wrap64 (by omega) (by omega)
 have hty : ¬ ((y : Int) < 0):=by omega
 have hsub : t + (y : Int) - t = y:=by omega
 rw [hy2] at hinv
 have hyn : y < null.length:=by omega
 have hyn2 : y < n:=by omega
 rw [getD_of hyn] at hinv
 have hnn : (bools null)[y]? = some (Bo null[y]):=by rw [bools_get,List.getElem?_eq_getElem hyn];rfl
 have hbn : (bools null).length = n:=by rw [bools_len,hn]
 have hna : nts o ++ [.val (.int .i64 y)] = nts (o ++ [y]):=by rw [nts_app];rfl
 have hne : ¬ o ++ [y] = []:=by simp
 have hol : (o ++ [y]).length = o.length + 1:=by simp
 have hro' : (o.length + 1) * 8 ≤ room:=hro
 obtain ⟨v,hv⟩ : ∃ v,null[y] = v:=⟨_,rfl⟩
 rw [hv] at hnn hinv
 have hinv2 : v = true → (o ++ [y]) ++ bgL t null (r.drop (i + 1)) = B:=fun h => by rw [← hinv,h];simp
 have hinv3 : v = false → o ++ [y] = B:=fun h => by rw [← hinv,h];simp
 clear hinv
 by_cases h0 : o = []
 ·subst h0
  simp only [List.nil_append] at hinv2 hinv3
  have hn1 : nts [y] = [AV.val (.int .i64 y)]:=rfl
  cases v with
  | false =>
   have hinv3:=hinv3 rfl
   subst hinv3
   simp [-wi_app,bx,oV,hil,hx,hxt,hsub,w3]
   rw [wi_app]
   simp [oH,slvN,srcCells,hro1,hx,hxt,hty,hsub,w3,hyn2,hbn,hnn,hyn,hv,hn1]
  | true =>
   have hinv2:=hinv2 rfl
   simp [-wi_app,bx,oV,hil,hx,hxt,hsub,w3]
   rw [wi_app]
   simp [oH,srcCells,hro1,hx,hxt,hty,hsub,w3,hyn2,hbn,hnn,hyn,hv,hn1,w1]
   rw [rnd_nrm]
   refine ⟨(i + 1,[y]),⟨by simp only;omega,by simp only [List.length_nil] at ho;simp;omega,hinv2⟩,by simp only;omega,?_,?_⟩
   ·simp [bx,oV]
   ·simp [oH,hn1]
 ·cases v with
  | false =>
   have hinv3:=hinv3 rfl
   subst hinv3
   generalize hoy : o ++ [y] = oy at hna hol hne
   simp [bx,oV,oH,slvN,h0,hil,hx,hxt,hty,hsub,w3,hyn2,hbn,hnn,hyn,hv,hro',srcCells,setH,nts_len,hlk,hna,hne,hol,appC,appG]
  | true =>
   have hinv2:=hinv2 rfl
   simp [bx,oV,oH,h0,hil,hx,hxt,hty,hsub,w3,hyn2,hbn,hnn,hyn,hv,hro',srcCells,setH,nts_len,hlk,w1,hna,appC,appG]
   rw [rnd_nrm]
   refine ⟨(i + 1,o ++ [y]),⟨by simp only;omega,by simp;omega,hinv2⟩,by simp only;omega,?_,?_⟩
   ·simp [bx,oV]
   ·simp [oH]
end Go.Proofs.YtgbpioccaenjaaaGreat

namespace Go.Proofs.YtgbpioccaenjaaaGreat
open Go Go.Hm

def LS (g : Gm) (H : Heap) (null : List Bool) (n : Nat) (o : List Bool) : Heap:=H ++ (.cells g.cells :: .cells [.sl n (bools null)] :: .cells (rowV (H.length + 4) n n) :: .cells [.hs (H.length + 2) n 0 n 1] :: matB n o)
section
variable {g : Gm} {H : Heap} {null : List Bool} {n : Nat} {o : List Bool}
theorem LS_len : (LS g H null n o).length = H.length + 4 + n:=by
 unfold LS
 rw [List.length_append]
 simp only [List.length_cons,matB_len];omega
theorem LS_0 : (LS g H null n o)[H.length]? = some (.cells g.cells):=by unfold LS;rw [get_at0];rfl
theorem LS_1 : (LS g H null n o)[H.length + 1]? = some (.cells [.sl n (bools null)]):=by unfold LS;rw [Hm.get_at];rfl
theorem LS_2 : (LS g H null n o)[H.length + 2]? = some (.cells (rowV (H.length + 4) n n)):=by unfold LS;rw [Hm.get_at];rfl
theorem LS_3 : (LS g H null n o)[H.length + 3]? = some (.cells [.hs (H.length + 2) n 0 n 1]):=by unfold LS;rw [Hm.get_at];rfl
theorem LS_row {i : Nat} (hi : i < n) : (LS g H null n o)[H.length + 4 + i]? = some (.cells (bools (rowL n o i))):=by
 unfold LS
 rw [Nat.add_assoc,Hm.get_at,show 4 + i = i + 1 + 1 + 1 + 1 by omega]
 simp only [List.getElem?_cons_succ]
 exact matB_get hi
theorem LS_set {i k : Nat} (ho : o.length = n * n) (hi : i < n) (hk : k < n) (v : Bool) : (LS g H null n o).set (H.length + 4 + i) (.cells (bools ((rowL n o i).set k v))) = LS g H null n (o.set (i * n + k) v):=by
 unfold LS
 rw [Nat.add_assoc,set_at,show 4 + i = i + 1 + 1 + 1 + 1 by omega]
 simp only [List.set_cons_succ]
 rw [matB_set ho hi hk]
end
def chg (o o0 : List Bool) : Bool:=decide (o ≠ o0)
theorem dec_step {x cur o0 : List Bool} (h : x = cur ∨ cntF x < cntF cur) (hc : cntF cur ≤ cntF o0) : cntF x ≤ cntF o0 ∧ (x = cur → chg x o0 = chg cur o0) ∧ (x ≠ cur → chg x o0 = true):=by
 rcases h with h | h
 ·subst h
  exact ⟨hc,fun _ => rfl,fun h => absurd rfl h⟩
 ·refine ⟨by omega,fun e => by rw [e],fun _ => ?_⟩
  unfold chg
  rw [decide_eq_true_eq]
  rintro rfl
  omega
theorem lfK_do {n l s k : Nat} {o : List Bool} {u v : Bool} (h1 : o.getD (s * n + k) false = u) (h2 : o.getD (l * n + k) false = v) : lfK n l s o k = if ((u || decide (k = s)) && !v) = true then o.set (l * n + k) true else o:=by
 unfold lfK
 rw [h1,h2]
abbrev c39E (H : Heap) (n l s i k : Nat) (B : List Nat) (more : Bool) : Env:=[(1,.hp (H.length + 3) 1 0),(5,Bo more),(6,.hs (H.length + 4 + l) n 0 n 1),(8,I s),(20,.sl B.length (nts B)),(21,I B.length),(22,I i),(29,.hs (H.length + 4 + s) n 0 n 1),(30,I n),(31,I k)]
set_option maxRecDepth 20000 in
theorem c39L1 {C : Orc} {Q : Ex → Kt} {env : Env} {lk L : Nat} {H : Heap} {g : Gm} {null : List Bool} {n l s i : Nat} {B : List Nat} {o o0 : List Bool} (hn : n ≤ 16) (hl : l < n) (hs : s < n) (ho : o.length = n * n) (hc : cntF o ≤ cntF o0) (hlk : lk ≤ H.length)
  (hE : restrict [1,5,6,8,20,21,22,29,30,31] env = c39E H n l s i 0 B (chg o o0))
  (hQ : ∀ env',restrict [1,5,6,20,21,22] env' = [(1,.hp (H.length + 3) 1 0),(5,Bo (chg (lfS n l o s) o0)),(6,.hs (H.length + 4 + l) n 0 n 1),(20,.sl B.length (nts B)),(21,I B.length),(22,I i)] → cntF (lfS n l o s) ≤ cntF o0 → Q (.exit 2) env' (LS g H null n (lfS n l o s))) :
  WB ⟨C,lk,L,[4]⟩ (.loop [1,5,6,8,20,21,22,29,30,31] t58L1) Q env (LS g H null n o):=by
 refine wb_loop (σ:=Nat × List Bool) (fun s' => c39E H n l s i s'.1 B (chg s'.2 o0)) (fun s' => LS g H null n s'.2)
  (fun s' => s'.1 ≤ n ∧ s'.2 = (List.range s'.1).foldl (lfK n l s) o ∧ s'.2.length = n * n ∧ cntF s'.2 ≤ cntF o0) (fun s' => n - s'.1) ?_ (0,o) ⟨Nat.zero_le _,rfl,ho,hc⟩ hE rfl
 rintro ⟨k,q⟩ ⟨hk,hq,hql,hqc⟩
 simp only at hk hq hql hqc
 unfold t58L1
 have w1 : IntKind.i64.wrap ((k : Int) + 1) = (k : Int) + 1:=wrap64 (by omega) (by omega)
 by_cases hkn : k < n
 case neg =>
  obtain rfl : k = n:=by omega
  have e : lfS k l o s = q:=hq.symm
  rw [e] at hQ
  simp
  refine hQ _ ?_ hqc
  simp
 have hnx : (List.range (k + 1)).foldl (lfK n l s) o = lfK n l s q k:=by rw [List.range_succ,List.foldl_append,← hq];rfl
 have hgr:=lfK_grows n l s k q
 obtain ⟨c1,c2,c3⟩:=dec_step hgr hqc
 simp only at c1 c2 c3
 have fin : ∀ (E : Env) (H' : Heap) (m : Bool),m = chg (lfK n l s q k) o0 → E = c39E H n l s i (k + 1) B m → H' = LS g H null n (lfK n l s q k) →
  ∃ s' : Nat × List Bool,(s'.1 ≤ n ∧ s'.2 = (List.range s'.1).foldl (lfK n l s) o ∧ s'.2.length = n * n ∧ cntF s'.2 ≤ cntF o0) ∧ n - s'.1 < n - k ∧ E = c39E H n l s i s'.1 B (chg s'.2 o0) ∧ H' = LS g H null n s'.2:=
  fun E H' m h1 h2 h3 => ⟨(k + 1,lfK n l s q k),⟨by simp only;omega,hnx.symm,by simp only;rw [lfK_len];exact hql,c1⟩,by simp only;omega,by rw [h2,h1],h3⟩
 have g1:=LS_row (g:=g) (H:=H) (null:=null) (o:=q) hs
 have g2:=LS_row (g:=g) (H:=H) (null:=null) (o:=q) hl
 have r1:=rowL_len hql hs
 have r2:=rowL_len hql hl
 have s1:=rowL_get (o:=q) (i:=s) hkn
 have s2:=rowL_get (o:=q) (i:=l) hkn
 have i1 : s * n + k < q.length:=by rw [hql];exact ix_lt hs hkn
 have i2 : l * n + k < q.length:=by rw [hql];exact ix_lt hl hkn
 obtain ⟨u,hu⟩ : ∃ u,q[s * n + k] = u:=⟨_,rfl⟩
 obtain ⟨v,hv⟩ : ∃ v,q[l * n + k] = v:=⟨_,rfl⟩
 have hdo:=lfK_do (n:=n) (l:=l) (s:=s) (k:=k) (o:=q) (u:=u) (v:=v) (by rw [getD_of i1,hu]) (by rw [getD_of i2,hv])
 have hset:=LS_set (g:=g) (H:=H) (null:=null) hql hl hkn true
 rw [List.getElem?_eq_getElem i1,hu] at s1
 rw [List.getElem?_eq_getElem i2,hv] at s2
 have hne : v = false → q.set (l * n + k) true ≠ q:=fun h e => by
  have:=congrArg (fun l' : List Bool => l'[l * n + k]?) e
  simp only [List.getElem?_set_self i2,List.getElem?_eq_getElem i2,hv,h] at this
  simp at this
 generalize hR1 : rowL n q s = R1 at g1 r1 s1
 generalize hR2 : rowL n q l = R2 at g2 r2 s2 hset
 have k1 : k < R1.length:=by omega
 have k2 : k < R2.length:=by omega
 rw [List.getElem?_eq_getElem k1,Option.some.injEq] at s1
 rw [List.getElem?_eq_getElem k2,Option.some.injEq] at s2
 have b1 : (bools R1).length = n:=by rw [bools_len,r1]
 have b2 : (bools R2).length = n:=by rw [bools_len,r2]
 have hrp:=replaceAt_one (Bo true) (show k < (bools R2).length by omega)
 rw [bools_set] at hrp
 have hlk4 : lk ≤ H.length + 4 + l:=by omega
 have hkn2 : k + 1 ≤ n:=hkn
 have hks : ((k : Int) == s) = decide (k = s):=by
  by_cases h : k = s
  ·subst h;simp
  ·simp [h];omega
 cases hw : ((u || decide (k = s)) && !v) with
 | false =>
  rw [hw] at hdo
  have hdo : lfK n l s q k = q:=hdo
  rw [hdo] at fin
  have fin:=fun E H' => fin E H' _ rfl
  by_cases hk2 : k = s
  ·have hv1 : v = true:=by simpa [hk2] using hw
   subst hv1
   subst hk2
   cases u <;> (simp [hkn,g1,g2,k1,k2,s1,s2,b1,b2,bools_get,w1];rw [rnd_nrm];refine fin _ _ ?_ rfl;simp)
  ·cases u with
   | false =>
    have hks3 : ((k : Int) == s) = false:=by rw [hks];simp [hk2]
    simp [hkn,g1,g2,k1,k2,s1,s2,b1,b2,bools_get,w1,hks3]
    rw [rnd_nrm]
    refine fin _ _ ?_ rfl
    simp
   | true =>
    have hv1 : v = true:=by simpa using hw
    subst hv1
    simp [hkn,g1,g2,k1,k2,s1,s2,b1,b2,bools_get,w1]
    rw [rnd_nrm]
    refine fin _ _ ?_ rfl
    simp
 | true =>
  rw [hw] at hdo
  have hdo : lfK n l s q k = q.set (l * n + k) true:=hdo
  have hv0 : v = false:=by
   simp only [Bool.and_eq_true,Bool.not_eq_true'] at hw
   exact hw.2
  have hx:=c3 (by rw [hdo];exact hne hv0)
  rw [hx,hdo] at fin
  have fin:=fun E H' => fin E H' _ rfl
  subst hv0
  have hor : (u || decide (k = s)) = true:=by simpa using hw
  cases u with
  | true =>
   simp [hkn,g1,g2,k1,k2,s1,s2,b1,b2,bools_get,w1,setH,hlk4,hrp,hset,hkn2]
   rw [rnd_nrm]
   refine fin _ _ ?_ rfl
   simp
  | false =>
   have hk2 : k = s:=by simpa using hor
   subst hk2
   simp [hkn,g1,g2,k1,k2,s1,s2,b1,b2,bools_get,w1,setH,hlk4,hrp,hset,hkn2]
   rw [rnd_nrm]
   refine fin _ _ ?_ rfl
   simp
abbrev c39F (H : Heap) (n l i : Nat) (B : List Nat) (more : Bool) : Env:=[(1,.hp (H.length + 3) 1 0),(5,Bo more),(6,.hs (H.length + 4 + l) n 0 n 1),(20,.sl B.length (nts B)),(21,I B.length),(22,I i)]
theorem lfS_le2 (n l s : Nat) (o : List Bool) : cntF (lfS n l o s) ≤ cntF o:=by
 rcases lfS_grows n l s o with h | h
 ·simp only at h;rw [h];exact Nat.le_refl _
 ·simp only at h;omega
set_option maxRecDepth 20000 in
theorem c39L2 {C : Orc} {Q : Ex → Kt} {env : Env} {lk L : Nat} {H : Heap} {g : Gm} {null : List Bool} {n l : Nat} {B : List Nat} {o : List Bool} (hn : n ≤ 16) (hl : l < n) (hB : ∀ s ∈ B,s < n) (hBl : B.length ≤ 8) (ho : o.length = n * n) (hlk : lk ≤ H.length)
  (hE : restrict [1,5,6,20,21,22] env = c39F H n l 0 B false)
  (hQ : ∀ env',restrict [5] env' = [(5,Bo (chg (B.foldl (lfS n l) o) o))] → Q (.exit 0) env' (LS g H null n (B.foldl (lfS n l) o))) :
  WB ⟨C,lk,L,[4]⟩ (.loop [1,5,6,20,21,22] t58L2) Q env (LS g H null n o):=by
 refine wb_loop (σ:=Nat × List Bool) (fun s' => c39F H n l s'.1 B (chg s'.2 o)) (fun s' => LS g H null n s'.2)
  (fun s' => s'.1 ≤ B.length ∧ s'.2 = (B.take s'.1).foldl (lfS n l) o ∧ s'.2.length = n * n ∧ cntF s'.2 ≤ cntF o) (fun s' => B.length - s'.1) ?_ (0,o) ⟨Nat.zero_le _,rfl,ho,Nat.le_refl _⟩ (by rw [hE];simp [chg]) rfl
 rintro ⟨i,q⟩ ⟨hi,hq,hql,hqc⟩
 simp only at hi hq hql hqc
 unfold t58L2
 have w1 : IntKind.i64.wrap ((i : Int) + 1) = (i : Int) + 1:=wrap64 (by omega) (by omega)
 by_cases hil : i < B.length
 case neg =>
  obtain rfl : i = B.length:=by omega
  rw [List.take_of_length_le (Nat.le_refl _)] at hq
  rw [← hq] at hQ
  simp
  refine hQ _ ?_
  simp
 have hs:=hB B[i] (List.getElem_mem hil)
 have hnx : (B.take (i + 1)).foldl (lfS n l) o = lfS n l q B[i]:=by
  rw [List.take_succ_eq_append_getElem hil,List.foldl_append,← hq];rfl
 generalize hsv : B[i] = s at hs hnx
 have g3:=LS_3 (g:=g) (H:=H) (null:=null) (n:=n) (o:=q)
 have g2:=LS_2 (g:=g) (H:=H) (null:=null) (n:=n) (o:=q)
 have hrl:=rowV_len (H.length + 4) n n
 have hrg:=rowV_get (b:=H.length + 4) (n:=n) hs
 have hqc2:=lfS_le2 n l s q
 simp [hil,nts_get,hsv,g3,g2,hs,hrl,rowV_ge]
 refine c39L1 (i:=i) (B:=B) (o0:=o) hn hl hs hql hqc hlk (by simp) (fun env' hE' hc' => ?_)
 rw [blk_exit,if_pos rfl,blk_nrm,fol_nrm,wb_regN,hE']
 simp [w1]
 rw [rnd_nrm]
 refine ⟨(i + 1,lfS n l q s),⟨by simp only;omega,hnx.symm,by simp only;rw [lfS_len];exact hql,hc'⟩,by simp only;omega,?_,rfl⟩
 simp
set_option maxRecDepth 20000 in
theorem c39_code {lk lim : Nat} {H : Heap} {g : Gm} {null : List Bool} {o : List Bool} (ok : GOk g) (hnull : null.length = g.n.toNat) (ho : o.length = g.n.toNat * g.n.toNat) (hlk : lk ≤ H.length) (p : Pr) (pok : POk g p) :
  callW X A lk lim 58 [.agg p.cells,.hp (H.length + 3) 1 0,.hp H.length 4 0,.hp (H.length + 1) 1 0] (LS g H null g.n.toNat o) = some (Bo (decide (lfP g.n.toNat g.t null o p ≠ o)),LS g H null g.n.toNat (lfP g.n.toNat g.t null o p)):=by
 have kb:=fun (L : Nat) => beg_code (lk:=lk) (lim:=L) (H:=LS g H null g.n.toNat o) g ok null hnull p.r pok.len pok.s (by rw [LS_len];omega)
 refine wb_callB [4] rfl A58 rfl rfl ?_
 unfold t58B
 have g0:=LS_0 (g:=g) (H:=H) (null:=null) (n:=g.n.toNat) (o:=o)
 have g1:=LS_1 (g:=g) (H:=H) (null:=null) (n:=g.n.toNat) (o:=o)
 have g2:=LS_2 (g:=g) (H:=H) (null:=null) (n:=g.n.toNat) (o:=o)
 have g3:=LS_3 (g:=g) (H:=H) (null:=null) (n:=g.n.toNat) (o:=o)
 have hB:=bgL_lt (t:=g.t) (null:=null) (n:=g.n.toNat) (r:=p.r) (fun x hx => by have:=pok.s x hx;have:=ok.n1;omega)
 have hBl:=bgL_len (t:=g.t) (null:=null) p.r
 have hpl:=pok.len
 have n1:=ok.n1
 have n2:=ok.n2
 have p0:=pok.l0
 have p1:=pok.l1
 have hfold : lfP g.n.toNat g.t null o p = (bgL g.t null p.r).foldl (lfS g.n.toNat p.l.toNat) o:=rfl
 rw [hfold]
 have hlen:=LS_len (g:=g) (H:=H) (null:=null) (n:=g.n.toNat) (o:=o)
 generalize bgL g.t null p.r = B at kb hB hBl
 generalize hn : g.n.toNat = n at *
 have hgn : g.n = n:=by omega
 obtain ⟨pl,pr⟩:=p
 simp only at kb hBl p0 p1 hpl
 obtain ⟨pl,rfl⟩:=Int.eq_ofNat_of_zero_le p0
 have hln : pl < n:=by omega
 have hrl:=rowV_len (H.length + 4) n n
 have hrg:=rowV_get (b:=H.length + 4) (n:=n) hln
 have hgc : g.cells.length = 4:=rfl
 simp only [Int.toNat_natCast]
 generalize callW X A = C at kb ⊢
 have hch : ∀ q : List Bool,decide (q ≠ o) = chg q o:=fun q => rfl
 rw [hch]
 generalize hcl : g.cells = gc at g0 hgc
 have kb2 : ∀ L,C lk L 59 [.agg gc,.sl n (bools null),.sl pr.length (ints pr)] (LS g H null n o) = some (slvN B,LS g H null n o):=by rw [← hcl];exact kb
 clear kb
 have hgt : gc.take 4 = gc:=List.take_of_length_le (by omega)
 by_cases hB0 : B = []
 ·have hsv : slvN B = .e0:=by unfold slvN;rw [if_pos hB0]
  rw [hsv] at kb2
  subst hB0
  have hc0 : chg o o = false:=by simp [chg]
  simp only [List.foldl_nil,hc0]
  simp [Pr.cells,g3,g2,hln,hrl,rowV_ge,g0,g1,hgc,hgt,kb2]
  refine wb_loop0 ?_
  unfold t58L2
  simp
 ·have hsv : slvN B = .sl B.length (nts B):=by unfold slvN;rw [if_neg hB0]
  rw [hsv] at kb2
  simp [Pr.cells,g3,g2,hln,hrl,rowV_ge,g0,g1,hgc,hgt,kb2]
  refine c39L2 (by omega) hln hB (by omega) ho hlk (by simp) (fun env' hE' => ?_)
  generalize chg (B.foldl (lfS n pl) o) o = c at hE' ⊢
  rw [blk_exit,if_pos rfl,fol_nrm,wb_seq,wb_regN,hE']
  have hlen2:=LS_len (g:=g) (H:=H) (null:=null) (n:=n) (o:=B.foldl (lfS n pl) o)
  simp [hlen]
  rw [← hlen,hlen,← hlen2]
  simp
end Go.Proofs.YtgbpioccaenjaaaGreat

namespace Go.Proofs.YtgbpioccaenjaaaGreat
open Go Go.Hm

def leftR (g : Gm) : Int × Bool:=if chkE g = 0 then dgL g.n.toNat (leftM g.n.toNat g.t (derM g false) g.ps) g.n.toNat 0 else (0,false)
def leftV (g : Gm) : AV:=.tup [I (leftR g).1,Bo (leftR g).2]
def LR (g : Gm) (H : Heap) (null : List Bool) (n i : Nat) : Heap:=H ++ (.cells g.cells :: .cells [.sl n (bools null)] :: .cells (outC (H.length + 4) n i) :: .cells [.hs (H.length + 2) n 0 n 1] :: List.replicate i (.cells (bools (List.replicate n false))))
section
variable {g : Gm} {H : Heap} {null : List Bool} {n i : Nat}
theorem LR_len : (LR g H null n i).length = H.length + 4 + i:=by
 unfold LR
 rw [List.length_append]
 simp only [List.length_cons,List.length_replicate];omega
theorem LR_0 : (LR g H null n i)[H.length]? = some (.cells g.cells):=by unfold LR;rw [get_at0];rfl
theorem LR_2 : (LR g H null n i)[H.length + 2]? = some (.cells (outC (H.length + 4) n i)):=by unfold LR;rw [Hm.get_at];rfl
theorem LR_3 : (LR g H null n i)[H.length + 3]? = some (.cells [.hs (H.length + 2) n 0 n 1]):=by unfold LR;rw [Hm.get_at];rfl
theorem LR_next (hi : i < n) : (LR g H null n i ++ [HB.cells (bools (List.replicate n false))]).set (H.length + 2) (.cells ((outC (H.length + 4) n i).set i (.hs (H.length + 4 + i) n 0 n 1))) = LR g H null n (i + 1):=by
 unfold LR
 rw [List.append_assoc,set_at,outC_set hi,List.replicate_succ']
 rfl
theorem LR_LS : LR g H null n n = LS g H null n (List.replicate (n * n) false):=by
 unfold LR LS matB
 rw [outC_all,matB_zero n n (Nat.le_refl _)]
end
theorem repl_e0 (n : Nat) : repl n [.e0] = List.replicate n .e0:=by simp [repl]
theorem outC_zero (b n : Nat) : outC b n 0 = List.replicate n .e0:=by simp [outC,rowV]
set_option maxRecDepth 20000 in
theorem left_code13 {lk lim : Nat} {H : Heap} (g : Gm) (hl : g.ps.length ≤ 1000000) (hr : ∀ p ∈ g.ps,p.r.length ≤ 1000000) (hlk : lk ≤ H.length) : callW X A lk lim 31 [gV g] H = some (leftV g,H):=by
 have kc:=fun (L : Nat) (H' : Heap) => check_code (lk:=lk) (lim:=L) (H:=H') g hl hr
 have kn:=fun (L : Nat) (H' : Heap) (h : lk ≤ H'.length) => null_code (lk:=lk) (lim:=L) (H:=H') g hl hr h
 refine wb_callB [] rfl A31 rfl rfl ?_
 unfold t31B
 unfold leftV leftR
 by_cases hc : chkE g = 0
 case neg =>
  rw [if_neg hc]
  obtain ⟨t,n,k,ps⟩:=g
  simp only [gV,Gm.cells] at kc
  generalize callW X A = C at kc ⊢
  simp [Gm.cells,kc,hc]
 have ok:=gok_of hc
 rw [if_pos hc]
 rw [hc] at kc
 have lN:=derM_len g false
 unfold derV at kn
 rw [if_pos hc] at kn
 generalize derM g false = N at kn lN ⊢
 have hok : PsOk g.t g.n.toNat g.ps:=fun p hp => by
  have pok:=ok.p p hp
  have:=pok.l0
  have:=pok.l1
  have:=ok.n1
  exact ⟨by omega,fun x hx => by have:=pok.s x hx;omega⟩
 have kg:=fun (L : Nat) => grow_code (lk:=lk) (lim:=L) (f:=58) (cap:=[.hp (H.length + 3) 1 0,.hp H.length 4 0,.hp (H.length + 1) 1 0]) g.ps (lfP g.n.toNat g.t N) (LS g H N g.n.toNat) (fun o => o.length = g.n.toNat * g.n.toNat) (H.length + 4 + g.n.toNat) hl rfl
  (fun p => lfP_grows g.n.toNat g.t N p) (fun o p _ h => by rw [lfP_len];exact h) (fun o => LS_len) (fun o p hp ho => c39_code ok lN ho hlk p (ok.p p hp)) (List.replicate (g.n.toNat * g.n.toNat) false) (by simp)
 have hF:=leftM_len (n:=g.n.toNat) (t:=g.t) (null:=N) (ps:=g.ps)
 have kg : ∀ L,callW X A lk L 57 [.sl g.ps.length (psC g.ps),.fn 58 [.hp (H.length + 3) 1 0,.hp H.length 4 0,.hp (H.length + 1) 1 0]] (LS g H N g.n.toNat (List.replicate (g.n.toNat * g.n.toNat) false)) = some (.tup [],LS g H N g.n.toNat (leftM g.n.toNat g.t N g.ps)):=kg
 generalize leftM g.n.toNat g.t N g.ps = F at hF kg ⊢
 obtain ⟨res,hres⟩ : ∃ res,dgL g.n.toNat F g.n.toNat 0 = res:=⟨_,rfl⟩
 rw [hres]
 have n1:=ok.n1
 have n2:=ok.n2
 have r0:=fun i => LR_0 (g:=g) (H:=H) (null:=N) (n:=g.n.toNat) (i:=i)
 have r2:=fun i => LR_2 (g:=g) (H:=H) (null:=N) (n:=g.n.toNat) (i:=i)
 have r3:=fun i => LR_3 (g:=g) (H:=H) (null:=N) (n:=g.n.toNat) (i:=i)
 have q0:=LS_0 (g:=g) (H:=H) (null:=N) (n:=g.n.toNat) (o:=F)
 have q2:=LS_2 (g:=g) (H:=H) (null:=N) (n:=g.n.toNat) (o:=F)
 have q3:=LS_3 (g:=g) (H:=H) (null:=N) (n:=g.n.toNat) (o:=F)
 have qr:=fun i hi => LS_row (g:=g) (H:=H) (null:=N) (n:=g.n.toNat) (o:=F) (i:=i) hi
 have ql:=LS_len (g:=g) (H:=H) (null:=N) (n:=g.n.toNat) (o:=F)
 have hLR:=fun i hi => LR_next (g:=g) (H:=H) (null:=N) (n:=g.n.toNat) (i:=i) hi
 have hLl:=fun i => LR_len (g:=g) (H:=H) (null:=N) (n:=g.n.toNat) (i:=i)
 have hLS:=LR_LS (g:=g) (H:=H) (null:=N) (n:=g.n.toNat)
 generalize hnn : g.n.toNat = n at *
 have hgn : g.n = n:=by omega
 have hstart : H ++ [.cells g.cells,.cells [.sl n (bools N)],.cells (repl n [.e0]),.cells [.hs (H.length + 2) n 0 n 1]] = LR g H N n 0:=by
  unfold LR
  rw [repl_e0,outC_zero];rfl
 have htk : ∀ o,(LS g H N n o).take H.length = H:=fun o => by unfold LS;simp
 obtain ⟨t,n',k,ps⟩:=g
 simp only at hgn
 subst hgn
 simp only at n1 n2 hl hr kg
 simp only [gV,Gm.cells] at kc kn hstart r0 q0
 have hro : (n : Int) ≤ (room : Int):=by unfold room;omega
 have hro2 : (n : Int) * 24 ≤ (room : Int):=by unfold room;omega
 generalize callW X A = C at kc kn kg ⊢
 have kn1 : ∀ L,C lk L 56 [.agg [I t,I n,I k,.sl ps.length (psC ps)]] (H ++ [.cells [I t,I n,I k,.sl ps.length (psC ps)]]) = some (.sl n (bools N),H ++ [.cells [I t,I n,I k,.sl ps.length (psC ps)]]):=fun L => kn L _ (by simp;omega)
 have k1 : lk ≤ H.length + 1:=by omega
 have k2 : lk ≤ H.length + 2:=by omega
 have k3 : lk ≤ H.length + 3:=by omega
 simp [Gm.cells,kc,kn1,setH,k1,k2,k3,set_at,Hm.get_at,get_at0,hro2]
 generalize hg : (⟨t,n,k,ps⟩ : Gm) = g at *
 refine wb_loop (σ:=Nat) (fun i => [(1,.hp H.length 4 0),(4,.hp (H.length + 1) 1 0),(5,.hp (H.length + 3) 1 0),(17,I n),(18,I i)]) (fun i => LR g H N n i)
  (fun i => i ≤ n) (fun i => n - i) ?_ 0 (by simp) (by simp) hstart
 intro i hi
 unfold t31L1
 have w1 : IntKind.i64.wrap ((i : Int) + 1) = (i : Int) + 1:=wrap64 (by omega) (by omega)
 have hcl:=outC_len (b:=H.length + 4) hi
 have r0:=r0 i
 have r2:=r2 i
 have r3:=r3 i
 have hLl:=hLl i
 have hbt : H.length < (LR g H N n i).length:=by omega
 have hbt2 : H.length + 2 < (LR g H N n i).length:=by omega
 by_cases hil : i < n
 ·have hLR:=hLR i hil
  have hli : i < (outC (H.length + 4) n i).length:=by omega
  have hrp:=fun v => replaceAt_one (cs:=outC (H.length + 4) n i) (k:=i) v hli
  have hi1 : i + 1 ≤ n:=hil
  have a2 : (LR g H N n i ++ [HB.hole])[H.length + 2]? = some (.cells (outC (H.length + 4) n i)):=by rw [List.getElem?_append_left hbt2];exact r2
  have s1 : (LR g H N n i ++ [HB.hole]).set (LR g H N n i).length (.cells (bools (List.replicate n false))) = LR g H N n i ++ [.cells (bools (List.replicate n false))]:=by simp
  have a3 : (LR g H N n i ++ [HB.cells (bools (List.replicate n false))])[H.length + 2]? = some (.cells (outC (H.length + 4) n i)):=by rw [List.getElem?_append_left hbt2];exact r2
  have a4 : (LR g H N n i ++ [HB.hole])[(LR g H N n i).length]? = some .hole:=by simp
  have htl : (LR g H N n i ++ [HB.hole]).take (LR g H N n i).length = LR g H N n i:=by simp
  have htl2 : (LR g H N n i ++ [HB.cells (bools (List.replicate n false))]).take (LR g H N n i).length = LR g H N n i:=by simp
  simp [hil]
  refine wb_regM rfl (by decide) (inv_cons2 rfl (inv_cons2 rfl (inv_cons2 rfl (inv_cons2 rfl (inv_cons2 rfl (inv_cons2 rfl (inv_nil _))))))) ?_
  rw [hLl] at s1 a4 htl htl2
  simp [cls,rpOp,isRp,hLl,r3,r0,hil,hi1,hcl,bools_rep,hro,s1,a3,a4,htl,htl2,setH,k2,hrp,hLR]
  rw [rnd_nrm]
  refine ⟨i + 1,by omega,by omega,?_,rfl⟩
  simp [w1]
 obtain rfl : i = n:=by omega
 have g0:=LR_0 (g:=g) (H:=H) (null:=N) (n:=i) (i:=i)
 rw [hLS] at g0 r3 r0
 rw [hLS]
 simp [r0,kg,q0]
 refine wb_loop (σ:=Nat) (fun j => [(5,.hp (H.length + 3) 1 0),(33,I i),(34,I j)]) (fun _ => LS g H N i F)
  (fun j => j ≤ i ∧ dgL i F (i - j) j = res) (fun j => i - j) ?_ 0 ⟨Nat.zero_le _,hres⟩ (by simp) (by simp)
 rintro j ⟨hj,hinv⟩
 unfold t31L2
 have w2 : IntKind.i64.wrap ((j : Int) + 1) = (j : Int) + 1:=wrap64 (by omega) (by omega)
 by_cases hjl : j < i
 case neg =>
  obtain rfl : j = i:=by omega
  rw [Nat.sub_self] at hinv
  subst hinv
  simp [dgL,htk]
 have hrl:=rowV_len (H.length + 4) i i
 have qr:=qr j hjl
 have r1:=rowL_len hF hjl
 have s1:=rowL_get (o:=F) (i:=j) hjl
 have i1 : j * i + j < F.length:=by rw [hF];exact ix_lt hjl hjl
 obtain ⟨u,hu⟩ : ∃ u,F[j * i + j] = u:=⟨_,rfl⟩
 rw [List.getElem?_eq_getElem i1,hu] at s1
 rw [show i - j = (i - (j + 1)) + 1 by omega,dgL,getD_of i1,hu] at hinv
 generalize hR1 : rowL i F j = R1 at qr r1 s1
 have k1 : j < R1.length:=by omega
 rw [List.getElem?_eq_getElem k1,Option.some.injEq] at s1
 have b1 : (bools R1).length = i:=by rw [bools_len,r1]
 cases u with
 | true =>
  rw [if_pos rfl] at hinv
  subst hinv
  simp [hjl,q3,q2,hrl,rowV_ge,qr,k1,s1,b1,bools_get,htk]
 | false =>
  rw [if_neg (by simp)] at hinv
  simp [hjl,q3,q2,hrl,rowV_ge,qr,k1,s1,b1,bools_get,w2]
  rw [rnd_nrm]
  refine ⟨j + 1,⟨by omega,hinv⟩,by omega,?_,rfl⟩
  simp
end Go.Proofs.YtgbpioccaenjaaaGreat
