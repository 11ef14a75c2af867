import Derived.Test.YtkllbcjanneppaaGreatGD
set_option linter.unusedSimpArgs false
set_option linter.unusedVariables false
namespace Go.Proofs.YtkllbcjanneppaaGreat
open Go Go.Hm

def OfOk (g : Gm) (S : Ss) (r : List Int) : Prop:=chkE g = 0 ∧ (S.length : Int) = g.n ∧ r.any (badS g) = false
instance (g : Gm) (S : Ss) (r : List Int) : Decidable (OfOk g S r):=by unfold OfOk;exact inferInstance
end Go.Proofs.YtkllbcjanneppaaGreat

namespace Go.Proofs.YtkllbcjanneppaaGreat
open Go Go.Hm
end Go.Proofs.YtkllbcjanneppaaGreat

namespace Go.Proofs.YtkllbcjanneppaaGreat
open Go Go.Hm

def ofN (ps : List Pr) (left : Int) (m : Nat) : List Nat:=(List.range m).filter fun i => decide ((ps.getD i ⟨0,[]⟩).l = left)
def slvN (o : List Nat) : AV:=if o = [] then .e0 else .sl o.length (nts o)
def gofV (g : Gm) (left : Int) : AV:=if chkE g = 0 then slvN (ofN g.ps left g.ps.length) else .e0
theorem ofN_succ (ps : List Pr) (left : Int) (m : Nat) (h : m < ps.length) : ofN ps left (m + 1) = if ps[m].l = left then ofN ps left m ++ [m] else ofN ps left m:=by
 unfold ofN
 rw [List.range_succ,List.filter_append]
 have : ps.getD m ⟨0,[]⟩ = ps[m]:=by rw [List.getD_eq_getElem?_getD,List.getElem?_eq_getElem h];rfl
 split
 ·rename_i h1
  rw [List.filter_cons_of_pos (by rw [this,h1];simp)]
  rfl
 ·rename_i h1
  rw [List.filter_cons_of_neg (by rw [this];simpa using h1)]
  simp
theorem ofN_len (ps : List Pr) (left : Int) (m : Nat) : (ofN ps left m).length ≤ m:=by
 unfold ofN
 have:=List.length_filter_le (fun i => decide ((ps.getD i ⟨0,[]⟩).l = left)) (List.range m)
 rwa [List.length_range] at this
def oV (H : Heap) (o : List Nat) : AV:=if o = [] then .e0 else .hs H.length o.length 0 o.length 1
def oH (H : Heap) (o : List Nat) : Heap:=if o = [] then H else H ++ [.cells (nts o)]
set_option maxRecDepth 20000 in
theorem gof_code {lk lim : Nat} {H : Heap} (g : Gm) (left : Int) (hl : g.ps.length ≤ 1000000) (hr : ∀ p ∈ g.ps,p.r.length ≤ 1000000) (hlk : lk ≤ H.length) : callW X A lk lim 53 [gV g,I left] H = some (gofV g left,H):=by
 have kc:=fun (L : Nat) => check_code (lk:=lk) (lim:=L) (H:=H) g hl hr
 refine wb_callB [2,6] rfl A53 rfl rfl ?_
 unfold t53B
 unfold gofV
 by_cases hc : chkE g = 0
 case neg =>
  rw [if_neg hc]
  obtain ⟨t,n,k,ps⟩:=g
  simp only [gV,Gm.cells] at kc
  generalize callW X A = C at kc ⊢
  simp [Gm.cells,kc,hc]
 have ok:=gok_of hc
 rw [if_pos hc]
 rw [hc] at kc
 obtain ⟨t,n,k,ps⟩:=g
 obtain ⟨t1,t2,n1,n2,k1,k2,l1,l2,okp⟩:=ok
 simp only at t1 t2 n1 n2 k1 k2 l1 l2 okp
 simp only [gV,Gm.cells] at kc
 simp [Gm.cells,kc]
 refine wb_loop (σ:=Nat) (fun i => [(1,I left),(4,oV H (ofN ps left i)),(11,.sl ps.length (psC ps)),(12,I ps.length),(13,I i)]) (fun i => oH H (ofN ps left i))
  (fun i => i ≤ ps.length) (fun i => ps.length - i) ?_ 0 (by simp) (by simp [ofN,oV]) (by simp [ofN,oH])
 intro i hi
 unfold t53L1
 have w1 : IntKind.i64.wrap ((i : Int) + 1) = (i : Int) + 1:=wrap64 (by omega) (by omega)
 by_cases hil : i < ps.length
 case neg =>
  obtain rfl : i = ps.length:=by omega
  have hon:=ofN_len ps left ps.length
  generalize ofN ps left ps.length = o at hon ⊢
  by_cases ho : o = []
  ·subst ho
   simp [oV,oH,slvN]
  ·simp [oV,oH,slvN,ho]
 have hs:=psC_sub hil
 have hll:=psC_len ps
 have h2 : i * 2 + 2 ≤ 2 * ps.length:=by omega
 have hnx:=ofN_succ ps left i hil
 have hon:=ofN_len ps left i
 generalize ps[i] = p at hs hnx
 obtain ⟨pl,pr⟩:=p
 simp only [Pr.cells] at hs
 simp only at hnx
 have done : ∀ (E : Env) (H' : Heap),E = [(1,I left),(4,oV H (ofN ps left (i + 1))),(11,.sl ps.length (psC ps)),(12,I ps.length),(13,I ((i : Int) + 1))] → H' = oH H (ofN ps left (i + 1)) →
  ∃ i' : Nat,i' ≤ ps.length ∧ ps.length - i' < ps.length - i ∧ E = [(1,I left),(4,oV H (ofN ps left i')),(11,.sl ps.length (psC ps)),(12,I ps.length),(13,I i')] ∧ H' = oH H (ofN ps left i'):=fun E H' h1 h2 => ⟨i + 1,by omega,by omega,by rw [h1];simp,h2⟩
 generalize ofN ps left (i + 1) = o' at hnx done
 generalize ofN ps left i = o at hnx hon ⊢
 have hro1 : 8 ≤ room:=by unfold room;omega
 have hro : (o.length + 1) * 8 ≤ room:=by unfold room;omega
 simp [-wi_stL,hil,hs,hll,h2]
 rw [wi_stL]
 by_cases hpl : pl = left
 ·rw [if_pos hpl] at hnx
  by_cases ho : o = []
  ·subst ho
   simp [replaceAt,oV,oH,hpl,w1,hro1,srcCells]
   rw [rnd_nrm]
   refine done _ _ ?_ ?_
   ·simp [hnx,oV]
   ·simp [hnx,oH,nts]
  ·simp [replaceAt,oV,oH,hpl,w1,hro,ho,srcCells,setH,nts_len,hlk]
   rw [rnd_nrm]
   refine done _ _ ?_ ?_
   ·simp [hnx,oV,appG]
   ·simp [hnx,oH,nts,appC]
 ·rw [if_neg hpl] at hnx
  subst hnx
  have hnr : noRp 6 [(4,oV H o'),(11,.sl ps.length (psC ps)),(12,I ps.length),(13,I i)] = true:=by unfold oV;split <;> rfl
  simp [replaceAt,hpl,w1,hnr]
  rw [rnd_nrm]
  refine done _ _ ?_ ?_
  ·simp
  ·rfl
end Go.Proofs.YtkllbcjanneppaaGreat
