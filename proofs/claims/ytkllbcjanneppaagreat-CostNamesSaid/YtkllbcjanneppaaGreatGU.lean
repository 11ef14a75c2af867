import Derived.Test.YtkllbcjanneppaaGreatGE
import Derived.Test.YtkllbcjanneppaaGreatGC
import Derived.Test.YtkllbcjanneppaaGreatGT
import Derived.Test.YtkllbcjanneppaaGreatGB
set_option linter.unusedSimpArgs false
set_option linter.unusedVariables false
namespace Go.Proofs.YtkllbcjanneppaaGreat.Z
open Go Go.Hm
set_option maxRecDepth 20000 in
theorem idx51_code {lk lim : Nat} {H : Heap} {f : FuncId} {cap : List AV} (l : List Int) (P : Int → Bool) (hl : l.length ≤ 1000000) (hc : cap.all argOk = true) (hP : ∀ x ∈ l,callW X0 A lk H.length f (I x :: cap) H = some (Bo (P x),H)) :
  callW X0 A lk lim 97 [.sl l.length (ints l),.fn f cap] H = some (I (idxF P l 0),H):=by
 refine wb_callB [] rfl A97 rfl rfl ?_
 unfold t97B
 simp
 refine wb_loop (σ:=Nat) (fun i => [(0,.sl l.length (ints l)),(1,.fn f cap),(7,I l.length),(8,I i)]) (fun _ => H)
  (fun i => i ≤ l.length ∧ idxF P (l.drop i) i = idxF P l 0) (fun i => l.length - i) ?_ 0 (by simp) (by simp) rfl
 rintro i ⟨hi,hinv⟩
 unfold t97L1
 have w : IntKind.i64.wrap ((i : Int) + 1) = (i : Int) + 1:=wrap64 (by omega) (by omega)
 by_cases hil : i < l.length
 ·obtain ⟨x,hx⟩ : ∃ x,l[i] = x:=⟨_,rfl⟩
  have hp:=hP x (hx ▸ List.getElem_mem hil)
  rw [List.drop_eq_getElem_cons hil,hx] at hinv
  simp only [idxF] at hinv
  cases hpx : P x with
  | true =>
   rw [hpx] at hp hinv
   rw [if_pos rfl] at hinv
   rw [← hinv]
   generalize callW X0 A = C at hp ⊢
   simp [-argOk,aok_val,hil,hx,hp,hc]
  | false =>
   rw [hpx] at hp hinv
   rw [if_neg (by simp)] at hinv
   generalize callW X0 A = C at hp ⊢
   simp [-argOk,aok_val,hil,hx,hp,hc,w,rnd_nrm]
   exact ⟨i + 1,⟨by omega,hinv⟩,by omega,by simp⟩
 ·obtain rfl : i = l.length:=by omega
  rw [List.drop_length] at hinv
  simp only [idxF] at hinv
  rw [← hinv]
  simp
theorem has35_code {lk lim : Nat} {H : Heap} {f : FuncId} {cap : List AV} (l : List Int) (P : Int → Bool) (hl : l.length ≤ 1000000) (hc : cap.all argOk = true) (hP : ∀ x ∈ l,callW X0 A lk H.length f (I x :: cap) H = some (Bo (P x),H)) :
  callW X0 A lk lim 72 [.sl l.length (ints l),.fn f cap] H = some (Bo (l.any P),H):=by
 have k:=idx51_code (lim:=H.length) l P hl hc hP
 have ha:=idxF_any P l 0 (Int.le_refl _)
 refine wb_callB [] rfl A72 rfl rfl ?_
 unfold t72B
 generalize callW X0 A = C at k ⊢
 simp [k,ha]
set_option maxRecDepth 20000 in
theorem idx50_code {lk lim : Nat} {H : Heap} {f : FuncId} {cap : List AV} (l : List Pr) (P : Pr → Bool) (hl : l.length ≤ 1000000) (hc : cap.all argOk = true) (hP : ∀ x ∈ l,callW X0 A lk H.length f (.agg x.cells :: cap) H = some (Bo (P x),H)) :
  callW X0 A lk lim 96 [.sl l.length (psC l),.fn f cap] H = some (I (idxF P l 0),H):=by
 refine wb_callB [] rfl A96 rfl rfl ?_
 unfold t96B
 simp
 refine wb_loop (σ:=Nat) (fun i => [(0,.sl l.length (psC l)),(1,.fn f cap),(7,I l.length),(8,I i)]) (fun _ => H)
  (fun i => i ≤ l.length ∧ idxF P (l.drop i) i = idxF P l 0) (fun i => l.length - i) ?_ 0 (by simp) (by simp) rfl
 rintro i ⟨hi,hinv⟩
 unfold t96L1
 have w : IntKind.i64.wrap ((i : Int) + 1) = (i : Int) + 1:=wrap64 (by omega) (by omega)
 by_cases hil : i < l.length
 ·obtain ⟨x,hx⟩ : ∃ x,l[i] = x:=⟨_,rfl⟩
  have hp:=hP x (hx ▸ List.getElem_mem hil)
  have hs:=psC_sub hil
  have hll:=psC_len l
  have h2 : i * 2 + 2 ≤ 2 * l.length:=by omega
  rw [hx] at hs
  rw [List.drop_eq_getElem_cons hil,hx] at hinv
  simp only [idxF] at hinv
  cases hpx : P x with
  | true =>
   rw [hpx] at hp hinv
   rw [if_pos rfl] at hinv
   rw [← hinv]
   generalize callW X0 A = C at hp ⊢
   simp [-argOk,aok_val,aok_agg,hil,hs,hll,h2,hp,hc]
  | false =>
   rw [hpx] at hp hinv
   rw [if_neg (by simp)] at hinv
   generalize callW X0 A = C at hp ⊢
   simp [-argOk,aok_val,aok_agg,hil,hs,hll,h2,hp,hc,w,rnd_nrm]
   exact ⟨i + 1,⟨by omega,hinv⟩,by omega,by simp⟩
 ·obtain rfl : i = l.length:=by omega
  rw [List.drop_length] at hinv
  simp only [idxF] at hinv
  rw [← hinv]
  simp
theorem has33_code {lk lim : Nat} {H : Heap} {f : FuncId} {cap : List AV} (l : List Pr) (P : Pr → Bool) (hl : l.length ≤ 1000000) (hc : cap.all argOk = true) (hP : ∀ x ∈ l,callW X0 A lk H.length f (.agg x.cells :: cap) H = some (Bo (P x),H)) :
  callW X0 A lk lim 70 [.sl l.length (psC l),.fn f cap] H = some (Bo (l.any P),H):=by
 have k:=idx50_code (lim:=H.length) l P hl hc hP
 have ha:=idxF_any P l 0 (Int.le_refl _)
 refine wb_callB [] rfl A70 rfl rfl ?_
 unfold t70B
 generalize callW X0 A = C at k ⊢
 simp [k,ha]
theorem c34_code {lk lim : Nat} {H : Heap} (p : Pr) : callW X0 A lk lim 71 [.agg p.cells] H = some (Bo (decide (8 < p.r.length)),H):=by
 refine wb_callB [1] rfl A71 rfl rfl ?_
 unfold t71B
 have h : decide ((8 : Int) < p.r.length) = decide (8 < p.r.length):=by
  rw [Bool.eq_iff_iff];simp;omega
 simp [Pr.cells,h]
theorem c36_code {lk lim : Nat} {H : Heap} {g : Gm} {b : Nat} (hb : H[b]? = some (.cells g.cells)) (hw : IntKind.i64.wrap (g.t + g.n) = g.t + g.n) (s : Int) : callW X0 A lk lim 73 [I s,.hp b 4 0] H = some (Bo (badS g s),H):=by
 refine wb_callB [] rfl A73 rfl rfl ?_
 unfold t73B
 unfold Gm.cells at hb
 unfold badS
 by_cases h : s < 0
 ·simp [h]
 ·simp [h,hb,hw]
set_option maxRecDepth 20000 in
theorem check_code {lk lim : Nat} {H : Heap} (g : Gm) (hl : g.ps.length ≤ 1000000) (hr : ∀ p ∈ g.ps,p.r.length ≤ 1000000) : callW X0 A lk lim 48 [gV g] H = some (I (chkE g),H):=by
 have k1:=fun L => has33_code (lk:=lk) (lim:=L) (H:=H ++ [.cells g.cells]) (f:=71) (cap:=[]) g.ps (fun p => decide (8 < p.r.length)) hl rfl (fun p _ => c34_code p)
 have k2:=fun (L : Nat) (hw : IntKind.i64.wrap (g.t + g.n) = g.t + g.n) (p : Pr) (hp : p ∈ g.ps) => has35_code (lk:=lk) (lim:=L) (H:=H ++ [.cells g.cells]) (f:=73) (cap:=[.hp H.length 4 0]) p.r (badS g) (hr p hp) rfl (fun s _ => c36_code (by simp) hw s)
 refine wb_callB [4] rfl A48 rfl rfl ?_
 unfold t48B
 obtain ⟨t,n,k,ps⟩:=g
 simp only [Gm.cells] at hl hr k1 k2 ⊢
 have e0 : ∀ c : Bool,chkE ⟨t,n,k,ps⟩ = chkE ⟨t,n,k,ps⟩:=fun _ => rfl
 by_cases c1 : 8 < t
 ·have e : chkE ⟨t,n,k,ps⟩ = 3:=by unfold chkE;rw [if_pos (by simp only;omega)]
  rw [e]
  simp [Gm.cells,c1]
 by_cases c2 : 16 < n
 ·have e : chkE ⟨t,n,k,ps⟩ = 3:=by unfold chkE;rw [if_pos (by simp only;omega)]
  rw [e]
  simp [Gm.cells,c1,c2]
 by_cases c3 : 3 < k
 ·have e : chkE ⟨t,n,k,ps⟩ = 3:=by unfold chkE;rw [if_pos (by simp only;omega)]
  rw [e]
  simp [Gm.cells,c1,c2,c3]
 by_cases c4 : 64 < ps.length
 ·have e : chkE ⟨t,n,k,ps⟩ = 3:=by unfold chkE;rw [if_pos (by simp only;omega)]
  have c4' : (64 : Int) < ps.length:=by omega
  rw [e]
  simp [Gm.cells,c1,c2,c3,c4']
 have c4' : ¬ (64 : Int) < ps.length:=by omega
 have e1 : chkE ⟨t,n,k,ps⟩ = if (ps.any fun p => decide (8 < p.r.length)) = true then 3 else if t < 1 ∨ n < 1 ∨ k < 1 ∨ ps.length < 1 then 2 else if ps.any (badP ⟨t,n,k,ps⟩) = true then 2 else 0:=by
  rw [chkE,if_neg (by simp only;omega)]
 rw [e1]
 cases c5 : (ps.any fun p => decide (8 < p.r.length)) with
 | true =>
  rw [c5] at k1
  generalize callW X0 A = C at k1 ⊢
  simp [Gm.cells,c1,c2,c3,c4',k1]
 | false =>
  rw [c5] at k1
  rw [if_neg (show ¬ (false = true) by simp)]
  by_cases c6 : t < 1 ∨ n < 1 ∨ k < 1 ∨ ps.length < 1
  ·have c6':=(mm_min t n k ps.length).2 (by omega)
   rw [if_pos c6]
   generalize callW X0 A = C at k1 ⊢
   simp [Gm.cells,c1,c2,c3,c4',k1,mmFold,c6']
   done
  ·have c6' : ¬ _:=fun h => c6 (by have:=(mm_min t n k ps.length).1 h;omega)
   rw [if_neg c6]
   have k2:=fun L => k2 L (wrap64 (by omega) (by omega))
   obtain ⟨bb,hbb⟩ : ∃ bb,ps.any (badP ⟨t,n,k,ps⟩) = bb:=⟨_,rfl⟩
   rw [hbb]
   simp [Gm.cells,c1,c2,c3,c4',k1,mmFold,c6']
   refine wb_loop (σ:=Nat) (fun i => [(1,.hp H.length 4 0),(39,.sl ps.length (psC ps)),(40,I ps.length),(41,I i)]) (fun _ => H ++ [.cells [I t,I n,I k,.sl ps.length (psC ps)]])
    (fun i => i ≤ ps.length ∧ bb = (ps.drop i).any (badP ⟨t,n,k,ps⟩)) (fun i => ps.length - i) ?_ 0 ⟨by omega,by rw [← hbb];rfl⟩ (by simp) rfl
   rintro i ⟨hi,hinv⟩
   unfold t48L1
   have w : IntKind.i64.wrap ((i : Int) + 1) = (i : Int) + 1:=wrap64 (by omega) (by omega)
   by_cases hil : i < ps.length
   case neg =>
    obtain rfl : i = ps.length:=by omega
    rw [List.drop_length] at hinv
    have hinv : bb = false:=hinv
    rw [hinv]
    simp
   obtain ⟨p,hp⟩ : ∃ p,ps[i] = p:=⟨_,rfl⟩
   have hpm : p ∈ ps:=hp ▸ List.getElem_mem hil
   have hs:=psC_sub hil
   have hll:=psC_len ps
   have h2 : i * 2 + 2 ≤ 2 * ps.length:=by omega
   rw [hp] at hs
   simp only [Pr.cells] at hs
   rw [List.drop_eq_getElem_cons hil,hp,List.any_cons] at hinv
   have k3:=k2 H.length p hpm
   generalize callW X0 A = C at k3 ⊢
   simp [-wi_stL,hil,hll,hs,h2]
   rw [wi_stL]
   unfold badP at hinv
   simp only at hinv
   by_cases d1 : p.l < 0
   ·rw [decide_eq_true d1] at hinv
    simp only [Bool.true_or] at hinv
    simp [replaceAt,d1,hinv]
   rw [decide_eq_false d1] at hinv
   by_cases d2 : n ≤ p.l
   ·rw [decide_eq_true d2] at hinv
    simp only [Bool.true_or,Bool.false_or] at hinv
    simp [replaceAt,d1,d2,hinv]
   rw [decide_eq_false d2] at hinv
   cases d3 : p.r.any (badS ⟨t,n,k,ps⟩) with
   | true =>
    rw [d3] at hinv k3
    simp only [Bool.true_or,Bool.false_or] at hinv
    simp [replaceAt,d1,d2,k3,hinv]
   | false =>
    rw [d3] at hinv k3
    simp only [Bool.false_or] at hinv
    simp [replaceAt,d1,d2,k3,w,rnd_nrm]
    exact ⟨i + 1,⟨by omega,hinv⟩,by omega,by simp⟩
set_option maxRecDepth 20000 in
theorem gof_code {lk lim : Nat} {H : Heap} (g : Gm) (left : Int) (hl : g.ps.length ≤ 1000000) (hr : ∀ p ∈ g.ps,p.r.length ≤ 1000000) (hlk : lk ≤ H.length) : callW X0 A lk lim 53 [gV g,I left] H = some (gofV g left,H):=by
 have kc:=fun (L : Nat) => check_code (lk:=lk) (lim:=L) (H:=H) g hl hr
 refine wb_callB [2,6] rfl A53 rfl rfl ?_
 unfold t53B
 unfold gofV
 by_cases hc : chkE g = 0
 case neg =>
  rw [if_neg hc]
  obtain ⟨t,n,k,ps⟩:=g
  simp only [gV,Gm.cells] at kc
  generalize callW X0 A = C at kc ⊢
  simp [Gm.cells,kc,hc]
 have ok:=gok_of hc
 rw [if_pos hc]
 rw [hc] at kc
 obtain ⟨t,n,k,ps⟩:=g
 obtain ⟨t1,t2,n1,n2,k1,k2,l1,l2,okp⟩:=ok
 simp only at t1 t2 n1 n2 k1 k2 l1 l2 okp
 simp only [gV,Gm.cells] at kc
 simp [Gm.cells,kc]
 refine wb_loop (σ:=Nat) (fun i => [(1,I left),(4,oV H (ofN ps left i)),(11,.sl ps.length (psC ps)),(12,I ps.length),(13,I i)]) (fun i => oH H (ofN ps left i))
  (fun i => i ≤ ps.length) (fun i => ps.length - i) ?_ 0 (by simp) (by simp [ofN,oV]) (by simp [ofN,oH])
 intro i hi
 unfold t53L1
 have w1 : IntKind.i64.wrap ((i : Int) + 1) = (i : Int) + 1:=wrap64 (by omega) (by omega)
 by_cases hil : i < ps.length
 case neg =>
  obtain rfl : i = ps.length:=by omega
  have hon:=ofN_len ps left ps.length
  generalize ofN ps left ps.length = o at hon ⊢
  by_cases ho : o = []
  ·subst ho
   simp [oV,oH,slvN]
  ·simp [oV,oH,slvN,ho]
 have hs:=psC_sub hil
 have hll:=psC_len ps
 have h2 : i * 2 + 2 ≤ 2 * ps.length:=by omega
 have hnx:=ofN_succ ps left i hil
 have hon:=ofN_len ps left i
 generalize ps[i] = p at hs hnx
 obtain ⟨pl,pr⟩:=p
 simp only [Pr.cells] at hs
 simp only at hnx
 have done : ∀ (E : Env) (H' : Heap),E = [(1,I left),(4,oV H (ofN ps left (i + 1))),(11,.sl ps.length (psC ps)),(12,I ps.length),(13,I ((i : Int) + 1))] → H' = oH H (ofN ps left (i + 1)) →
  ∃ i' : Nat,i' ≤ ps.length ∧ ps.length - i' < ps.length - i ∧ E = [(1,I left),(4,oV H (ofN ps left i')),(11,.sl ps.length (psC ps)),(12,I ps.length),(13,I i')] ∧ H' = oH H (ofN ps left i'):=fun E H' h1 h2 => ⟨i + 1,by omega,by omega,by rw [h1];simp,h2⟩
 generalize ofN ps left (i + 1) = o' at hnx done
 generalize ofN ps left i = o at hnx hon ⊢
 have hro1 : 8 ≤ room:=by unfold room;omega
 have hro : (o.length + 1) * 8 ≤ room:=by unfold room;omega
 simp [-wi_stL,hil,hs,hll,h2]
 rw [wi_stL]
 by_cases hpl : pl = left
 ·rw [if_pos hpl] at hnx
  by_cases ho : o = []
  ·subst ho
   simp [replaceAt,oV,oH,hpl,w1,hro1,srcCells]
   rw [rnd_nrm]
   refine done _ _ ?_ ?_
   ·simp [hnx,oV]
   ·simp [hnx,oH,nts]
  ·simp [replaceAt,oV,oH,hpl,w1,hro,ho,srcCells,setH,nts_len,hlk]
   rw [rnd_nrm]
   refine done _ _ ?_ ?_
   ·simp [hnx,oV,appG]
   ·simp [hnx,oH,nts,appC]
 ·rw [if_neg hpl] at hnx
  subst hnx
  have hnr : noRp 6 [(4,oV H o'),(11,.sl ps.length (psC ps)),(12,I ps.length),(13,I i)] = true:=by unfold oV;split <;> rfl
  simp [replaceAt,hpl,w1,hnr]
  rw [rnd_nrm]
  refine done _ _ ?_ ?_
  ·simp
  ·rfl
end Go.Proofs.YtkllbcjanneppaaGreat.Z

namespace Go.Proofs.YtkllbcjanneppaaGreat.Z
open Go Go.Hm

theorem sg_lss (a b : List UInt8) : abins .lss ⟨⟨a⟩⟩ ⟨⟨b⟩⟩ = some (Bo (Op.bytesLess a b)):=by
 simp only [abins,sg_toList]
theorem sg_gtr (a b : List UInt8) : abins .gtr ⟨⟨a⟩⟩ ⟨⟨b⟩⟩ = some (Bo (!(Op.bytesLess a b || a == b))):=by
 simp only [abins,sg_toList]
theorem nan_code {lk lim : Nat} {H : Heap} (a : List UInt8) : callW X0 A lk lim 121 [Sg a] H = some (Bo false,H):=by
 refine wb_callB [] rfl A121 rfl rfl ?_
 unfold t121B
 generalize callW X0 A = C
 have:=sg_neq a a
 simp [this]
def cmpI (a b : List UInt8) : Int:=if Op.bytesLess a b = true then -1 else if a = b then 0 else 1
theorem cmp_code {lk lim : Nat} {H : Heap} (a b : List UInt8) : callW X0 A lk lim 114 [Sg a,Sg b] H = some (I (cmpI a b),H):=by
 have k1:=fun L => nan_code (lk:=lk) (lim:=L) (H:=H) a
 have k2:=fun L => nan_code (lk:=lk) (lim:=L) (H:=H) b
 refine wb_callB [] rfl A114 rfl rfl ?_
 unfold t114B cmpI
 generalize callW X0 A = C at k1 k2 ⊢
 have h1:=sg_lss a b
 have h2:=sg_gtr a b
 by_cases he : a = b
 ·subst he
  simp [less_irr] at h1 h2 ⊢
  simp [k1,h1,h2]
 ·have heb : (a == b) = false:=by simp [he]
  rw [heb] at h2
  cases hab : Op.bytesLess a b <;> rw [hab] at h1 h2 <;> simp at h2 <;> simp [k1,k2,h1,h2,he]
theorem drop_rows (x : List UInt8) (p : List (List UInt8)) : (rowsB (x :: p)).tail = rowsB p:=rfl
theorem meet_code {lk lim : Nat} {H : Heap} (a b : List (List UInt8)) (ha : a.length ≤ 1000000) (hb : b.length ≤ 1000000) :
  callW X0 A lk lim 107 [rowsV a,rowsV b] H = some (.tup [Sg ((meetM a b).getD []),Bo (meetM a b).isSome],H):=by
 have kc:=fun L x y => cmp_code (lk:=lk) (lim:=L) (H:=H) x y
 refine wb_callB [] rfl A107 rfl rfl ?_
 unfold t107B
 generalize callW X0 A = C at kc ⊢
 simp
 refine wb_loop (σ:=List (List UInt8) × List (List UInt8)) (fun s => [(0,rowsV s.1),(1,rowsV s.2),(4,Sg [])]) (fun _ => H)
  (fun s => s.1.length ≤ a.length ∧ s.2.length ≤ b.length ∧ meetM a b = meetM s.1 s.2) (fun s => s.1.length + s.2.length) ?_ (a,b) (by simp) (by simp [restrict,find]) rfl
 rintro ⟨p,q⟩ ⟨hp,hq,hinv⟩
 simp only at hp hq hinv
 unfold t107L1
 rw [hinv]
 cases p with
 | nil =>
  have : meetM [] q = none:=by unfold meetM;cases ([] : List (List UInt8)).length + q.length <;> rfl
  rw [this]
  simp
 | cons x p =>
  have hp2 : ¬ ((p.length : Int) + 1 ≤ 0):=by omega
  have hp3 : (0 : Int) < (p.length : Int) + 1:=by omega
  cases q with
  | nil =>
   have : meetM (x :: p) [] = none:=by unfold meetM;simp [meetF]
   rw [this]
   simp [hp2,hp3]
  | cons y q =>
   have hq2 : ¬ ((q.length : Int) + 1 ≤ 0):=by omega
   have hq3 : (0 : Int) < (q.length : Int) + 1:=by omega
   have hx0 : ∀ (p : List (List UInt8)) h,(rowsB (x :: p))[0]'h = Sg x:=fun _ _ => rfl
   have hy0 : ∀ h,(rowsB (y :: q))[0]'h = Sg y:=fun _ => rfl
   have kxy:=fun L => kc L x y
   unfold cmpI at kxy
   by_cases he : x = y
   ·subst he
    have hm : meetM (x :: p) (x :: q) = some x:=by unfold meetM;simp [meetF]
    rw [hm]
    simp [less_irr] at kxy
    simp [hp3,hq3,hx0,hy0,kxy]
   ·by_cases hl : Op.bytesLess x y = true
    ·have hm : meetM (x :: p) (y :: q) = meetM p (y :: q):=by unfold meetM;rw [show (x :: p).length + (y :: q).length = (p.length + (y :: q).length) + 1 by simp;omega];simp [meetF,he,hl]
     rw [if_pos hl] at kxy
     have ht : (rowsB p).take p.length = rowsB p:=rowsB_take p _ (Nat.le_refl _)
     simp [hp3,hq3,hx0,hy0,kxy,bnd,show (1 : Int) ≤ (p.length : Int) + 1 by omega,drop_rows,ht,rnd_nrm]
     exact ⟨p,y :: q,⟨by simp at hp;omega,hq,hm⟩,by simp,by simp⟩
    ·have hm : meetM (x :: p) (y :: q) = meetM (x :: p) q:=by unfold meetM;simp [meetF,he,hl]
     rw [if_neg hl,if_neg he] at kxy
     have ht : (rowsB q).take q.length = rowsB q:=rowsB_take q _ (Nat.le_refl _)
     simp [hp3,hq3,hx0,hy0,kxy,bnd,show (1 : Int) ≤ (q.length : Int) + 1 by omega,drop_rows,ht,rnd_nrm]
     exact ⟨x :: p,q,⟨hp,by simp at hq;omega,hm⟩,by simp,by simp⟩
end Go.Proofs.YtkllbcjanneppaaGreat.Z

namespace Go.Proofs.YtkllbcjanneppaaGreat
open Go Go.Hm Go.RowKit Go.Shelf Go.Proofs

theorem pure_calls {P : Program} {C : Orc} (hC : OrcOk P C) {f : FuncId} (hf : f < 1000) {lk lim : Nat} {avs : List AV} {r : AV} {args : Array Value} {φ : Phi} {F : Nat → Nat → Prop} {w : World} (hF : ∀ k o,F k o → k < w.heap.size)
  (hr : ARel φ F [] w avs args.toList) (h : C lk lim f avs [] = some (r,[])) :
  Calls P f args w fun e w' => Below w.heap.size w w' ∧ ∃ v φ' F',e = .returned v ∧ VRel φ' F' [] w' r v ∧ (∀ k o,F' k o → k < w'.heap.size):=by
 obtain ⟨_,hc⟩:=hC _ _ _ _ _ _ _ h
 have sr : SR φ F [] w:=⟨fun b cs h => by simp at h,fun b es h => by simp at h,fun b b' ⟨cs,h,_⟩ => by simp at h,fun b o ⟨cs,h,_⟩ => by simp at h,hF⟩
 have:=hc φ F w args.toList sr hr
 rw [Nat.mod_eq_of_lt hf] at this
 simp only [Array.toArray_toList] at this
 refine this.mono fun e W' ⟨v,he,φ',F',hv,sr',_,hch,_⟩ => ?_
 exact ⟨⟨hch.os,hch.tape,hch.output,hch.size,fun k hk => hch.block k hk fun ⟨b,⟨x,hx,_⟩,_⟩ => by simp at hx⟩,v,φ',F',he,hv,sr'.fsz⟩
theorem rowAt_rel {W : World} {v : Value} {l : List (List UInt8)} (h : RowAt W v l) : ∃ a,RV a l ∧ VRel id0 (oldF W) [] W a v:=by
 rcases h with ⟨rfl,x,rfl⟩ | ⟨bk,o,c,rfl,hc,hb,hcell⟩
 ·exact ⟨.sl 0 [],.inl rfl,.one (.slnil x)⟩
 ·refine ⟨rowsV l,.inl rfl,.one (.sl bk o l.length c (rowsB l) (l.map fun x => .string ⟨⟨x⟩⟩) hc (by simp [rowsB]) ?_ (fun i hi => ?_) (fun i v hv => ?_) (fun i a v ha hv => ?_))⟩
  ·exact belowL_iff.2 fun a ha => by
    unfold rowsB at ha
    obtain ⟨x,_,rfl⟩:=List.mem_map.1 ha
    rfl
  ·refine hb fun e => ?_
   subst e
   simp [rowsB] at hi
  ·rw [List.getElem?_map] at hv
   obtain ⟨x,hx,rfl⟩:=Option.map_eq_some_iff.1 hv
   exact hcell i x hx
  ·unfold rowsB at ha
   rw [List.getElem?_map] at ha hv
   obtain ⟨x,hx,rfl⟩:=Option.map_eq_some_iff.1 ha
   rw [hx] at hv
   simp only [Option.map_some,Option.some.injEq] at hv
   subst hv
   exact .val _ rfl
theorem rowAt_sl {W : World} {v : Value} {l : List (List UInt8)} (h : RowAt W v l) : VRel id0 (oldF W) [] W (rowsV l) v:=by
 obtain ⟨a,ha,hr⟩:=rowAt_rel h
 rcases ha with rfl | ⟨rfl,rfl⟩
 ·exact hr
 ·cases hr with
  | one hr => cases hr with
   | e0 x => exact .one (.slnil x)
theorem arel_two {φ : Phi} {F : Nat → Nat → Prop} {H : Heap} {w : World} {a b : AV} {u v : Value} (h : VRel φ F H w a u) (k : VRel φ F H w b v) : ARel φ F H w [a,b] [u,v]:=
 ⟨rfl,fun i x y hx hy => by
  match i with
  | 0 => simp only [List.getElem?_cons_zero,Option.some.injEq] at hx hy;subst hx;subst hy;exact h
  | 1 => simp only [List.getElem?_cons_succ,List.getElem?_cons_zero,Option.some.injEq] at hx hy;subst hx;subst hy;exact k
  | i + 2 => simp at hx⟩
theorem meet_ok {P : Program} (hC : OrcOk P (callW X0 A)) : MeetOk P 107:=fun W va vb a b ha hb hla hlb => by
 refine (pure_calls hC (by decide) (φ:=id0) (F:=oldF W) (fun _ _ h => h) (arel_two (rowAt_sl ha) (rowAt_sl hb)) (Z.meet_code (lk:=0) (lim:=0) a b hla hlb)).mono fun e W' ⟨hbl,v,φ',F',he,hv,_⟩ => ⟨hbl,?_⟩
 rw [he]
 cases hv with
 | one h => cases h
 | tup avs vs hl h =>
  match vs,hl with
  | [x,y],_ =>
   have h0:=h 0 _ x rfl rfl
   have h1:=h 1 _ y rfl rfl
   cases h0 with
   | one h0 =>
    cases h1 with
    | one h1 => rw [(CRel.inv_val h0).1,(CRel.inv_val h1).1]
def mkP (p : Int × List Int) : Pr:=⟨p.1,p.2⟩
def toG (t n k : Int) (ps : List (Int × List Int)) : Gm:=⟨t,n,k,ps.map mkP⟩
theorem intsA_get : ∀ {cs : List AV} {r : List Int},intsA cs = some r → cs = ints r
 | [],r,h => by
  simp only [intsA,Option.some.injEq] at h
  subst h;rfl
 | v :: cs,r,h => by
  unfold intsA at h
  split at h
  ·rename_i e;cases e
  ·rename_i n q e
   cases e
   cases hq : intsA cs with
   | none => rw [hq] at h;cases h
   | some l =>
    rw [hq] at h
    simp only [Option.some.injEq] at h
    subst h
    rw [intsA_get hq];rfl
  ·cases h
theorem prodsA_get : ∀ {cs : List AV} {ps : List (Int × List Int)},prodsA cs = some ps → cs = psC (ps.map mkP)
 | [],ps,h => by
  simp only [prodsA,Option.some.injEq] at h
  subst h;rfl
 | [v],ps,h => by
  unfold prodsA at h
  split at h
  ·rename_i e;cases e
  ·rename_i e;cases e
  ·cases h
 | v :: u :: cs,ps,h => by
  unfold prodsA at h
  split at h
  ·rename_i e;cases e
  ·rename_i l n c2 r e
   cases e
   split at h
   ·rename_i x q hx hq
    split at h
    ·rename_i hn
     simp only [Option.some.injEq] at h
     subst h
     rw [prodsA_get hq,intsA_get hx,← hn];rfl
    ·cases h
   ·cases h
  ·cases h
theorem rowA_get {v : AV} {l : List (List UInt8)} (h : rowA v = some l) : RV v l:=by
 unfold rowA at h
 split at h
 ·simp only [Option.some.injEq] at h;exact .inr ⟨rfl,h.symm⟩
 ·rename_i n cs
  split at h
  ·rename_i l' hl
   split at h
   ·rename_i hn
    simp only [Option.some.injEq] at h
    subst h
    obtain ⟨h1,h2⟩:=textsL_get hl
    refine .inl ?_
    rw [← hn]
    congr 1
    refine List.ext_getElem? fun j => ?_
    by_cases hj : j < l'.length
    ·rw [h2 j l'[j] (by simp [hj]),rowsB_get hj]
    ·rw [List.getElem?_eq_none (by omega),List.getElem?_eq_none (by rw [rowsB_len];omega)]
   ·cases h
  ·cases h
 ·cases h
theorem rowsA_get : ∀ {cs : List AV} {look : List (List (List UInt8))},rowsA cs = some look → cs.length = look.length ∧ ∀ (j : Nat) l,look[j]? = some l → ∃ v,cs[j]? = some v ∧ RV v l
 | [],look,h => by
  simp only [rowsA,Option.some.injEq] at h
  subst h;simp
 | v :: r,look,h => by
  unfold rowsA at h
  split at h
  ·rename_i x q hx hq
   simp only [Option.some.injEq] at h
   subst h
   obtain ⟨h1,h2⟩:=rowsA_get hq
   refine ⟨by simp [h1],fun j l hj => ?_⟩
   cases j with
   | zero =>
    simp only [List.getElem?_cons_zero,Option.some.injEq] at hj
    subst hj
    exact ⟨v,rfl,rowA_get hx⟩
   | succ j => exact h2 j l (by simpa using hj)
  ·cases h
theorem okA_chk {t n k : Int} {ps : List (Int × List Int)} (h : okA t n k ps = true) : chkE (toG t n k ps) = 0:=by
 simp only [okA,Bool.and_eq_true,decide_eq_true_eq,List.all_eq_true] at h
 obtain ⟨⟨h1,h2,h3,h4,h5,h6,h7,h8⟩,hp⟩:=h
 have q1 : ¬ ((ps.map mkP).any fun p => decide (8 < p.r.length)) = true:=by
  rw [Bool.not_eq_true,List.any_eq_false]
  intro p hp'
  obtain ⟨q,hq,rfl⟩:=List.mem_map.1 hp'
  have h1:=(hp q hq).1.2
  have : ¬ 8 < (mkP q).r.length:=by show ¬ 8 < q.2.length;omega
  simp [this]
 have q2 : ¬ (ps.map mkP).any (badP (toG t n k ps)) = true:=by
  rw [Bool.not_eq_true,List.any_eq_false]
  intro p hp'
  obtain ⟨q,hq,rfl⟩:=List.mem_map.1 hp'
  have h1:=hp q hq
  have h2:=h1.1.1
  have : badP (toG t n k ps) (mkP q) = false:=by
   simp only [badP,Bool.or_eq_false_iff,decide_eq_false_iff_not,List.any_eq_false]
   refine ⟨⟨show ¬ q.1 < 0 by omega,show ¬ n ≤ q.1 by omega⟩,fun s hs => ?_⟩
   have h3:=h1.2 s hs
   have : badS (toG t n k ps) s = false:=by
    simp only [badS,Bool.or_eq_false_iff,decide_eq_false_iff_not]
    exact ⟨by omega,show ¬ t + n ≤ s by omega⟩
   simp [this]
  simp [this]
 unfold chkE
 show (if 8 < t ∨ 16 < n ∨ 3 < k ∨ 64 < (ps.map mkP).length then (3 : Int) else if ((ps.map mkP).any fun p => decide (8 < p.r.length)) = true then 3 else if t < 1 ∨ n < 1 ∨ k < 1 ∨ (ps.map mkP).length < 1 then 2 else
  if (ps.map mkP).any (badP (toG t n k ps)) = true then 2 else 0) = 0
 rw [if_neg (by rw [List.length_map];omega),if_neg q1,if_neg (by rw [List.length_map];omega),if_neg q2]
theorem getD_mk (ps : List (Int × List Int)) (i : Nat) : ((ps.map mkP).getD i ⟨0,[]⟩).l = (ps.getD i (0,[])).1:=by
 rw [List.getD_eq_getElem?_getD,List.getD_eq_getElem?_getD,List.getElem?_map]
 cases ps[i]? <;> rfl
theorem lefts_ofN (ps : List (Int × List Int)) (left : Nat) : leftsM ps left = ofN (ps.map mkP) left (ps.map mkP).length:=by
 unfold leftsM ofN
 rw [List.length_map]
 congr 1
 funext i
 rw [getD_mk]
theorem sl_inv {φ : Phi} {F : Nat → Nat → Prop} {H : Heap} {w : World} {n : Nat} {cs : List AV} {v : Value} (h : CRel φ F H w (.sl n cs) v) :
  (n = 0 ∧ cs = [] ∧ ∃ x,v = .slice x 0 0) ∨ ∃ b o cap,∃ vs : List Value,v = .slice (some ⟨b,o,none⟩) n cap ∧ n ≤ cap ∧ vs.length = cs.length ∧ (∀ i,i < cs.length → F b (o + i)) ∧ (∀ (i : Nat) v,vs[i]? = some v → w.cell? ⟨b,o + i,none⟩ = some v) ∧
   ∀ (i : Nat) a v,cs[i]? = some a → vs[i]? = some v → CRel φ F H w a v:=by
 cases h with
 | sl b o n cap cells vs hn hl hb hF hc hr => exact .inr ⟨b,o,cap,vs,rfl,hn,hl,hF,hc,hr⟩
 | slnil x => exact .inl ⟨rfl,rfl,x,rfl⟩
theorem rv_rowAt {φ : Phi} {F : Nat → Nat → Prop} {H : Heap} {w : World} (hF : ∀ k o,F k o → k < w.heap.size) {a : AV} {l : List (List UInt8)} {v : Value} (ha : RV a l) (h : CRel φ F H w a v) : RowAt w v l:=by
 rcases ha with rfl | ⟨rfl,rfl⟩
 ·rcases sl_inv h with ⟨h1,_,x,rfl⟩ | ⟨b,o,cap,vs,rfl,hn,hl,hFF,hc,hr⟩
  ·exact .inl ⟨List.eq_nil_of_length_eq_zero h1,x,rfl⟩
  ·rw [rowsB_len] at hl hFF
   refine .inr ⟨b,o,cap,rfl,hn,fun hne => ?_,fun j x hj => ?_⟩
   ·exact hF b (o + 0) (hFF 0 (List.length_pos_iff.2 hne))
   ·have hjl : j < l.length:=(List.getElem?_eq_some_iff.1 hj).1
    have hx : l[j] = x:=(List.getElem?_eq_some_iff.1 hj).2
    have hv : vs[j]? = some (vs[j]'(by omega)):=List.getElem?_eq_getElem (by omega)
    have:=hr j _ _ (rowsB_get hjl) hv
    rw [hc j _ hv,(CRel.inv_val this).1,hx]
 ·cases h with
  | e0 x => exact .inl ⟨rfl,x,rfl⟩
theorem agg_inv {φ : Phi} {F : Nat → Nat → Prop} {H : Heap} {w : World} {cs : List AV} {v : Value} (h : VRel φ F H w (.agg cs) v) : ∃ vs : List Value,v = .agg vs.toArray ∧ CL φ F H w cs vs:=by
 cases h with
 | one h => cases h
 | agg cs vs h => exact ⟨vs,rfl,h⟩
theorem of_calls {C : Orc} (hC : OrcOk Tryz.prog C) (hw : C = callW X0 A) {φ : Phi} {F : Nat → Nat → Prop} {w : World} {t n k : Int} {ps : List (Int × List Int)} {gs : Value} (hk : okA t n k ps = true) (hF : ∀ k o,F k o → k < w.heap.size)
  (hg : CRel φ F [] w (.sl (ps.map mkP).length (psC (ps.map mkP))) gs) (W : World) (hb : Below w.heap.size w W) (left : Nat) :
  Calls Tryz.prog 53 #[.agg #[.int .i64 t,.int .i64 n,.int .i64 k,gs],.int .i64 left] W fun e W' => Below W.heap.size W W' ∧ ∃ v,e = .returned v ∧ NumsAt W' v (leftsM ps left):=by
 subst hw
 have hc:=okA_chk hk
 have hok:=gok_of hc
 have sr : SR φ F [] w:=⟨fun b cs h => by simp at h,fun b es h => by simp at h,fun b b' ⟨cs,h,_⟩ => by simp at h,fun b o ⟨cs,h,_⟩ => by simp at h,hF⟩
 obtain ⟨e,s⟩:=grow sr (F':=F) hb (fun _ _ h => h) (fun _ _ h => .inl h)
 have hgV : VRel φ F [] W (gV (toG t n k ps)) (.agg #[.int .i64 t,.int .i64 n,.int .i64 k,gs]):=by
  refine .agg _ [.int .i64 t,.int .i64 n,.int .i64 k,gs] ⟨rfl,fun i a v ha hv => ?_⟩
  match i with
  | 0 | 1 | 2 => simp [Gm.cells,toG] at ha hv;subst ha;subst hv;exact .val _ rfl
  | 3 => simp [Gm.cells,toG] at ha hv;subst ha;subst hv;simpa using hg.mono e
  | i + 4 => simp at hv
 refine (pure_calls hC (by decide) s.fsz (arel_two hgV (.one (.val (.int .i64 left) rfl))) (Z.gof_code (lk:=0) (lim:=0) (H:=[]) (toG t n k ps) left (Nat.le_trans hok.l2 (by decide)) (fun p hp => Nat.le_trans (hok.p p hp).len (by decide)) (Nat.le_refl _))).mono
  fun e W' ⟨hbl,v,φ',F',he,hv,hF'⟩ => ⟨hbl,v,he,?_⟩
 unfold gofV at hv
 rw [if_pos hc] at hv
 rw [lefts_ofN]
 simp only [toG] at hv
 generalize ofN (ps.map mkP) left (ps.map mkP).length = o at hv ⊢
 unfold slvN at hv
 by_cases h0 : o = []
 ·rw [if_pos h0] at hv
  cases hv with
  | one h => cases h with
   | e0 x => exact .inl ⟨h0,x,rfl⟩
 ·rw [if_neg h0] at hv
  cases hv with
  | one h =>
   rcases sl_inv h with ⟨h1,_,x,rfl⟩ | ⟨b,of,cap,vs,rfl,hn,hl,hFF,hcc,hr⟩
   ·exact .inl ⟨List.eq_nil_of_length_eq_zero h1,x,rfl⟩
   ·have hln : (nts o).length = o.length:=nts_len o
    rw [hln] at hl hFF
    refine .inr ⟨b,of,cap,rfl,hn,hF' b (of + 0) (hFF 0 (List.length_pos_iff.2 h0)),fun j a hj => ?_⟩
    have hjl : j < o.length:=(List.getElem?_eq_some_iff.1 hj).1
    have hx : o[j] = a:=(List.getElem?_eq_some_iff.1 hj).2
    have hv : vs[j]? = some (vs[j]'(by omega)):=List.getElem?_eq_getElem (by omega)
    have:=hr j (I a) _ (by simp [nts,hj]) hv
    rw [hcc j _ hv,(CRel.inv_val this).1]
theorem conv_rel {φ : Phi} {F : Nat → Nat → Prop} {H : Heap} {w : World} (c : Option (Nat × Nat × Nat × List UInt8)) : VRel φ F H w (conV c) (confR c):=by
 have hB : ∀ b : Bool,VRel φ F H w (Bo b) (.bool b):=fun b => .one (.val _ rfl)
 have hA : ∀ (l a b : Nat) (x : List UInt8),VRel φ F H w (.agg [I l,I a,I b,Sg x]) (.agg #[.int .i64 l,.int .i64 a,.int .i64 b,.string ⟨⟨x⟩⟩]):=fun l a b x =>
  .agg _ [.int .i64 l,.int .i64 a,.int .i64 b,.string ⟨⟨x⟩⟩] ⟨rfl,fun i a v ha hv => by
   match i with
   | 0 | 1 | 2 | 3 => simp at ha hv;subst ha;subst hv;exact .val _ rfl
   | i + 4 => simp at hv⟩
 cases c with
 | none =>
  refine .tup _ [.agg #[.int .i64 0,.int .i64 0,.int .i64 0,.string ⟨⟨[]⟩⟩],.bool false] rfl ?_
  intro i a v ha hv
  match i with
  | 0 => simp at ha hv;subst ha;subst hv;exact hA 0 0 0 []
  | 1 => simp at ha hv;subst ha;subst hv;exact hB _
  | i + 2 => simp at hv
 | some c =>
  obtain ⟨l,a,b,x⟩:=c
  refine .tup _ [.agg #[.int .i64 l,.int .i64 a,.int .i64 b,.string ⟨⟨x⟩⟩],.bool true] rfl ?_
  intro i u v ha hv
  match i with
  | 0 => simp at ha hv;subst ha;subst hv;exact hA l a b x
  | 1 => simp at ha hv;subst ha;subst hv;exact hB _
  | i + 2 => simp at hv
theorem arel_inv2 {φ : Phi} {F : Nat → Nat → Prop} {H : Heap} {w : World} {a b : AV} {vs : List Value} (h : ARel φ F H w [a,b] vs) : ∃ u v,vs = [u,v] ∧ VRel φ F H w a u ∧ VRel φ F H w b v:=by
 obtain ⟨hl,h⟩:=h
 match vs,hl with
 | [u,v],_ => exact ⟨u,v,rfl,h 0 _ _ rfl rfl,h 1 _ _ rfl rfl⟩
theorem vrel_shrink {φ : Phi} {F : Nat → Nat → Prop} {H : Heap} {w : World} {a : AV} {v : Value} (h : CRel φ F H w a v) (hb : Hm.below 0 a = true) : CRel φ F [] w a v:=by
 have:=h.shrink hb
 simpa using this
theorem below0 {φ : Phi} {F : Nat → Nat → Prop} {H : Heap} {w : World} {n : Nat} {cs : List AV} {v : Value} (h : CRel φ F H w (.sl n cs) v) : Hm.below 0 (.sl n cs) = true:=by
 cases h with
 | sl b o n cap cells vs hn hl hb hF hc hr => simp [Hm.below,hb]
 | slnil x => rfl
set_option maxRecDepth 100000 in
theorem conflict_ok0 (hC : OrcOk Tryz.prog (callW X0 A)) : FunOk Tryz.prog 60 conflictG0:=by
 refine ⟨⟨Tryz.f60,Tryz.func60,by decide,rfl⟩,?_⟩
 intro φ F H w avs r vs h sr ha
 unfold conflictG0 at h
 split at h
 case h_2 => cases h
 rename_i t n k m cs lv
 split at h
 case h_2 => cases h
 rename_i ps look hps hlook
 split at h
 case isFalse => cases h
 rename_i hcond
 obtain ⟨hm,hll,hok,hbig⟩:=hcond
 simp only [Option.some.injEq] at h
 subst h
 obtain ⟨u,v,rfl,hu,hv⟩:=arel_inv2 ha
 obtain ⟨us,rfl,hul,hur⟩:=agg_inv hu
 obtain ⟨ws,rfl,hwl,hwr⟩:=agg_inv hv
 obtain ⟨u0,u1,u2,gs,rfl⟩ : ∃ u0 u1 u2 gs,us = [u0,u1,u2,gs]:=by
  match us,hul with
  | [u0,u1,u2,gs],_ => exact ⟨u0,u1,u2,gs,rfl⟩
 obtain ⟨lk,rfl⟩ : ∃ lk,ws = [lk]:=by
  match ws,hwl with
  | [lk],_ => exact ⟨lk,rfl⟩
 have e0:=(CRel.inv_val (hur 0 _ u0 rfl rfl)).1
 have e1:=(CRel.inv_val (hur 1 _ u1 rfl rfl)).1
 have e2:=(CRel.inv_val (hur 2 _ u2 rfl rfl)).1
 have hg:=hur 3 _ gs rfl rfl
 have hlr:=hwr 0 _ lk rfl rfl
 subst e0;subst e1;subst e2
 have hcs:=prodsA_get hps
 subst hcs
 have hok2:=hok
 simp only [okA,Bool.and_eq_true,decide_eq_true_eq] at hok2
 obtain ⟨⟨t1,t2,n1,n2,k1,k2,l1,l2⟩,-⟩:=hok2
 obtain ⟨n,rfl⟩:=Int.eq_ofNat_of_zero_le (by omega : 0 ≤ n)
 have hg0:=vrel_shrink hg (below0 hg)
 rw [show m = (ps.map mkP).length by rw [List.length_map];exact hm.symm] at hg0
 -- the table
 unfold lookA at hlook
 split at hlook
 ·simp only [Option.some.injEq] at hlook
  subst hlook
  simp at hll;omega
 ·rename_i nl cl
  split at hlook
  case h_2 => cases hlook
  rename_i l hl
  split at hlook
  case isFalse => cases hlook
  rename_i hnl
  simp only [Option.some.injEq] at hlook
  subst hlook
  obtain ⟨hr1,hr2⟩:=rowsA_get hl
  rcases sl_inv hlr with ⟨h1,_,x,rfl⟩ | ⟨lb,lo,cap,vs,rfl,hn,hlv,hFF,hcc,hrr⟩
  ·omega
  ·have hat : LookAt w lb lo ps.length cap l:=⟨hll,by omega,sr.fsz lb (lo + 0) (hFF 0 (by omega)),fun j x hj => by
    have hjl:=(List.getElem?_eq_some_iff.1 hj).1
    have hjx:=(List.getElem?_eq_some_iff.1 hj).2
    refine ⟨by have:=List.all_eq_true.1 hbig x (List.mem_of_getElem? hj);simpa using this,?_⟩
    obtain ⟨av,h1,h2⟩:=hr2 j x hj
    have hvj : vs[j]? = some (vs[j]'(by omega)):=List.getElem?_eq_getElem (by omega)
    exact ⟨_,hcc j _ hvj,rv_rowAt sr.fsz h2 (hrr j av _ h1 hvj)⟩⟩
   have hcap : nl = ps.length:=by omega
   subst hcap
   refine ((callsIn_wide (n:=9)).1 (conflict_walk (meet_ok hC) w lb lo cap l ps t k n gs hat (by omega) (by omega) fun W hb left _ => of_calls hC rfl hok sr.fsz hg0 W hb left)).mono ?_
   rintro e w' ⟨hb,rfl⟩
   obtain ⟨e,s⟩:=grow sr (F':=F) hb (fun _ _ h => h) (fun _ _ h => .inl h)
   exact ⟨_,rfl,φ,F,conv_rel _,s,e,Chg.of_below hb _,fun b hb => .inl ⟨hb,rfl⟩,fun _ _ h => .inl h⟩
 ·cases hlook
theorem conflict_ok (hC : OrcOk Tryz.prog (callW X0 A)) : FunOk Tryz.prog 60 conflictG:=
 ⟨(conflict_ok0 hC).1,fun φ F H w l r vs h sr ha => (conflict_ok0 hC).2 φ F H w (l.map nrA) r vs h sr (nrAs_rel ha)⟩
end Go.Proofs.YtkllbcjanneppaaGreat
