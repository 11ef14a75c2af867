import Derived.Test.YtgbpioccaenjaaaGreatT
import Derived.Test.YtgbpioccaenjaaaGreatGA
set_option linter.unusedSimpArgs false
set_option linter.unusedVariables false
namespace Go.Proofs.YtgbpioccaenjaaaGreat
open Go Go.Hm

def Pr.cells (p : Pr) : List AV:=[I p.l,.sl p.r.length (ints p.r)]
def psC : List Pr → List AV
 | [] => []
 | p :: l => p.cells ++ psC l
def Gm.cells (g : Gm) : List AV:=[I g.t,I g.n,I g.k,.sl g.ps.length (psC g.ps)]
abbrev gV (g : Gm) : AV:=.agg g.cells
theorem psC_len : ∀ l : List Pr,(psC l).length = 2 * l.length
 | [] => rfl
 | x :: l => by simp only [psC,Pr.cells,List.length_append,List.length_cons,List.length_nil,psC_len l];omega
theorem psC_drop : ∀ (l : List Pr) (n : Nat),(psC l).drop (n * 2) = psC (l.drop n)
 | [],n => by simp [psC]
 | x :: l,0 => by simp
 | x :: l,n + 1 => by
  rw [show (n + 1) * 2 = 2 + n * 2 by omega,← List.drop_drop]
  simp only [psC,Pr.cells,List.drop_succ_cons,List.cons_append,List.nil_append,List.drop_zero]
  exact psC_drop l n
theorem psC_sub {l : List Pr} {i : Nat} (h : i < l.length) : ((psC l).drop (i * 2)).take 2 = l[i].cells:=by
 rw [psC_drop,List.drop_eq_getElem_cons h]
 simp [psC,Pr.cells]
theorem psC_get {l : List Pr} {i : Nat} (h : i < l.length) (j : Nat) (hj : j < 2) : (psC l)[i * 2 + j]? = l[i].cells[j]?:=by
 rw [← psC_sub h,List.getElem?_take,if_pos hj,List.getElem?_drop]
theorem psC_l {l : List Pr} {i : Nat} (h : i < l.length) : (psC l)[i * 2]? = some (I l[i].l):=psC_get h 0 (by omega)
theorem psC_r {l : List Pr} {i : Nat} (h : i < l.length) : (psC l)[i * 2 + 1]? = some (.sl l[i].r.length (ints l[i].r)):=psC_get h 1 (by omega)

def light (g : Gm) : Bool:=
 if 100 < g.ps.length then false
 else if (g.ps.any fun p => decide (5 < p.r.length ∧ p.r.length ≤ 8) || decide (100 < p.r.length)) = true then false
 else if 8 < g.t ∨ 16 < g.n ∨ 3 < g.k ∨ 64 < g.ps.length then true
 else decide (g.t ≤ 4 ∧ g.n ≤ 6 ∧ g.ps.length ≤ 14 ∧ (g.k ≤ 2 ∨ g.t ≤ 3))
set_option maxRecDepth 20000 in
theorem light_code {lk lim : Nat} {H : Heap} (g : Gm) : callW X A lk lim 5 [gV g] H = some (Bo (light g),H):=by
 refine wb_callB [1] rfl A5 rfl rfl ?_
 unfold t5B
 obtain ⟨t,n,k,ps⟩:=g
 by_cases h1 : 100 < ps.length
 ·have h1' : (100 : Int) < ps.length:=by omega
  simp [Gm.cells,light,h1,h1']
 have h1' : ¬ (100 : Int) < ps.length:=by omega
 simp [Gm.cells,h1,h1']
 let bx : AV:=.box [I t,I n,I k,.sl ps.length (psC ps)]
 let bad : Pr → Bool:=fun p => decide (5 < p.r.length ∧ p.r.length ≤ 8) || decide (100 < p.r.length)
 refine wb_loop (σ:=Nat) (fun i => [(1,bx),(3,I i)]) (fun _ => H) (fun i => i ≤ ps.length ∧ ps.any bad = (ps.drop i).any bad) (fun i => ps.length - i) ?_ 0 (by simp) (by simp [bx]) rfl
 rintro i ⟨hi,hinv⟩
 unfold t5L1
 have w1 : IntKind.i64.wrap ((i : Int) + 1) = (i : Int) + 1:=wrap64 (by omega) (by omega)
 by_cases hil : i < ps.length
 ·obtain ⟨p,hp⟩ : ∃ p,ps[i] = p:=⟨_,rfl⟩
  have hr:=psC_r hil
  rw [hp] at hr
  have hl:=psC_len ps
  rw [List.drop_eq_getElem_cons hil,hp,List.any_cons] at hinv
  obtain ⟨m,hm⟩ : ∃ m,p.r.length = m:=⟨_,rfl⟩
  rw [hm] at hr
  by_cases c1 : 5 < m
  ·have c1' : (5 : Int) < m:=by omega
   by_cases c2 : m ≤ 8
   ·have c2' : (m : Int) ≤ 8:=by omega
    have hb : ps.any bad = true:=by rw [hinv];simp [bad,hm,c1,c2]
    have hL : light ⟨t,n,k,ps⟩ = false:=by unfold light;rw [if_neg (by simp only;omega),if_pos (by exact hb)]
    simp [bx,hil,hr,c1',c2',hL]
   ·have c2' : ¬ (m : Int) ≤ 8:=by omega
    by_cases c3 : 100 < m
    ·have c3' : (100 : Int) < m:=by omega
     have hb : ps.any bad = true:=by rw [hinv];simp [bad,hm,c3]
     have hL : light ⟨t,n,k,ps⟩ = false:=by unfold light;rw [if_neg (by simp only;omega),if_pos (by exact hb)]
     simp [bx,hil,hr,c1',c2',c3',hL]
    ·have c3' : ¬ (100 : Int) < m:=by omega
     have hb : bad p = false:=by simp [bad,hm];omega
     rw [hb,Bool.false_or] at hinv
     simp [bx,hil,hr,c1',c2',c3',w1,rnd_nrm]
     exact ⟨i + 1,⟨by omega,hinv⟩,by omega,by simp⟩
  ·have c1' : ¬ (5 : Int) < m:=by omega
   have c3' : ¬ (100 : Int) < m:=by omega
   have hb : bad p = false:=by simp [bad,hm];omega
   rw [hb,Bool.false_or] at hinv
   simp [bx,hil,hr,c1',c3',w1,rnd_nrm]
   exact ⟨i + 1,⟨by omega,hinv⟩,by omega,by simp⟩
 ·obtain rfl : i = ps.length:=by omega
  rw [List.drop_length] at hinv
  have hb : ps.any bad = false:=hinv
  have hL : light ⟨t,n,k,ps⟩ = if 8 < t ∨ 16 < n ∨ 3 < k ∨ 64 < ps.length then true else decide (t ≤ 4 ∧ n ≤ 6 ∧ ps.length ≤ 14 ∧ (k ≤ 2 ∨ t ≤ 3)):=by
   unfold light
   rw [if_neg (by simp only;omega),if_neg (by rw [show (ps.any fun p => decide (5 < p.r.length ∧ p.r.length ≤ 8) || decide (100 < p.r.length)) = false from hb];simp)]
  rw [hL]
  by_cases c1 : 8 < t
  ·simp [bx,c1]
  by_cases c2 : 16 < n
  ·simp [bx,c1,c2]
  by_cases c3 : 3 < k
  ·simp [bx,c1,c2,c3]
  by_cases c4 : 64 < ps.length
  ·have c4' : (64 : Int) < ps.length:=by omega
   simp [bx,c1,c2,c3,c4,c4']
  have c4' : ¬ (64 : Int) < ps.length:=by omega
  rw [if_neg (by omega)]
  by_cases d1 : t ≤ 4
  case neg =>
   have : decide (t ≤ 4 ∧ n ≤ 6 ∧ ps.length ≤ 14 ∧ (k ≤ 2 ∨ t ≤ 3)) = false:=decide_eq_false (by omega)
   rw [this]
   simp [bx,c1,c2,c3,c4',d1]
  by_cases d2 : n ≤ 6
  case neg =>
   have : decide (t ≤ 4 ∧ n ≤ 6 ∧ ps.length ≤ 14 ∧ (k ≤ 2 ∨ t ≤ 3)) = false:=decide_eq_false (by omega)
   rw [this]
   simp [bx,c1,c2,c3,c4',d1,d2]
  by_cases d3 : ps.length ≤ 14
  case neg =>
   have d3' : ¬ (ps.length : Int) ≤ 14:=by omega
   have : decide (t ≤ 4 ∧ n ≤ 6 ∧ ps.length ≤ 14 ∧ (k ≤ 2 ∨ t ≤ 3)) = false:=decide_eq_false (by omega)
   rw [this]
   simp [bx,c1,c2,c3,c4',d1,d2,d3']
  have d3' : (ps.length : Int) ≤ 14:=by omega
  by_cases d4 : k ≤ 2
  ·have : decide (t ≤ 4 ∧ n ≤ 6 ∧ ps.length ≤ 14 ∧ (k ≤ 2 ∨ t ≤ 3)) = true:=decide_eq_true (by omega)
   rw [this]
   simp [bx,c1,c2,c3,c4',d1,d2,d3',d4]
  by_cases d5 : t ≤ 3
  ·have : decide (t ≤ 4 ∧ n ≤ 6 ∧ ps.length ≤ 14 ∧ (k ≤ 2 ∨ t ≤ 3)) = true:=decide_eq_true (by omega)
   rw [this]
   simp [bx,c1,c2,c3,c4',d1,d2,d3',d4,d5]
  ·have : decide (t ≤ 4 ∧ n ≤ 6 ∧ ps.length ≤ 14 ∧ (k ≤ 2 ∨ t ≤ 3)) = false:=decide_eq_false (by omega)
   rw [this]
   simp [bx,c1,c2,c3,c4',d1,d2,d3',d4,d5]
end Go.Proofs.YtgbpioccaenjaaaGreat

namespace Go.Proofs.YtgbpioccaenjaaaGreat
open Go Go.Hm

def idxF {α : Type} (P : α → Bool) : List α → Int → Int
 | [],_ => -1
 | x :: l,i => if P x = true then i else idxF P l (i + 1)
theorem idxF_any {α : Type} (P : α → Bool) : ∀ (l : List α) (i : Int),0 ≤ i → (decide (0 ≤ idxF P l i) = l.any P)
 | [],i,h => by simp [idxF]
 | x :: l,i,h => by
  have ih:=idxF_any P l (i + 1) (by omega)
  simp only [idxF,List.any_cons]
  by_cases hp : P x = true
  ·simp [hp,h]
  ·simp only [hp,if_false,Bool.false_eq_true]
   rw [ih];simp [hp]
theorem aok_val (v : Value) : argOk (.val v) = true:=rfl
theorem aok_agg (c : List AV) : argOk (.agg c) = true:=rfl
set_option maxRecDepth 20000 in
theorem idx51_code {lk lim : Nat} {H : Heap} {f : FuncId} {cap : List AV} (l : List Int) (P : Int → Bool) (hl : l.length ≤ 1000000) (hc : cap.all argOk = true) (hP : ∀ x ∈ l,callW X A lk H.length f (I x :: cap) H = some (Bo (P x),H)) :
  callW X A lk lim 65 [.sl l.length (ints l),.fn f cap] H = some (I (idxF P l 0),H):=by
 refine wb_callB [] rfl A65 rfl rfl ?_
 unfold t65B
 simp
 refine wb_loop (σ:=Nat) (fun i => [(0,.sl l.length (ints l)),(1,.fn f cap),(7,I l.length),(8,I i)]) (fun _ => H)
  (fun i => i ≤ l.length ∧ idxF P (l.drop i) i = idxF P l 0) (fun i => l.length - i) ?_ 0 (by simp) (by simp) rfl
 rintro i ⟨hi,hinv⟩
 unfold t65L1
 have w : IntKind.i64.wrap ((i : Int) + 1) = (i : Int) + 1:=wrap64 (by omega) (by omega)
 by_cases hil : i < l.length
 ·obtain ⟨x,hx⟩ : ∃ x,l[i] = x:=⟨_,rfl⟩
  have hp:=hP x (hx ▸ List.getElem_mem hil)
  rw [List.drop_eq_getElem_cons hil,hx] at hinv
  simp only [idxF] at hinv
  cases hpx : P x with
  | true =>
   rw [hpx] at hp hinv
   rw [if_pos rfl] at hinv
   rw [← hinv]
   generalize callW X A = C at hp ⊢
   simp [-argOk,aok_val,hil,hx,hp,hc]
  | false =>
   rw [hpx] at hp hinv
   rw [if_neg (by simp)] at hinv
   generalize callW X A = C at hp ⊢
   simp [-argOk,aok_val,hil,hx,hp,hc,w,rnd_nrm]
   exact ⟨i + 1,⟨by omega,hinv⟩,by omega,by simp⟩
 ·obtain rfl : i = l.length:=by omega
  rw [List.drop_length] at hinv
  simp only [idxF] at hinv
  rw [← hinv]
  simp
theorem has35_code {lk lim : Nat} {H : Heap} {f : FuncId} {cap : List AV} (l : List Int) (P : Int → Bool) (hl : l.length ≤ 1000000) (hc : cap.all argOk = true) (hP : ∀ x ∈ l,callW X A lk H.length f (I x :: cap) H = some (Bo (P x),H)) :
  callW X A lk lim 42 [.sl l.length (ints l),.fn f cap] H = some (Bo (l.any P),H):=by
 have k:=idx51_code (lim:=H.length) l P hl hc hP
 have ha:=idxF_any P l 0 (Int.le_refl _)
 refine wb_callB [] rfl A42 rfl rfl ?_
 unfold t42B
 generalize callW X A = C at k ⊢
 simp [k,ha]
set_option maxRecDepth 20000 in
theorem idx50_code {lk lim : Nat} {H : Heap} {f : FuncId} {cap : List AV} (l : List Pr) (P : Pr → Bool) (hl : l.length ≤ 1000000) (hc : cap.all argOk = true) (hP : ∀ x ∈ l,callW X A lk H.length f (.agg x.cells :: cap) H = some (Bo (P x),H)) :
  callW X A lk lim 64 [.sl l.length (psC l),.fn f cap] H = some (I (idxF P l 0),H):=by
 refine wb_callB [] rfl A64 rfl rfl ?_
 unfold t64B
 simp
 refine wb_loop (σ:=Nat) (fun i => [(0,.sl l.length (psC l)),(1,.fn f cap),(7,I l.length),(8,I i)]) (fun _ => H)
  (fun i => i ≤ l.length ∧ idxF P (l.drop i) i = idxF P l 0) (fun i => l.length - i) ?_ 0 (by simp) (by simp) rfl
 rintro i ⟨hi,hinv⟩
 unfold t64L1
 have w : IntKind.i64.wrap ((i : Int) + 1) = (i : Int) + 1:=wrap64 (by omega) (by omega)
 by_cases hil : i < l.length
 ·obtain ⟨x,hx⟩ : ∃ x,l[i] = x:=⟨_,rfl⟩
  have hp:=hP x (hx ▸ List.getElem_mem hil)
  have hs:=psC_sub hil
  have hll:=psC_len l
  have h2 : i * 2 + 2 ≤ 2 * l.length:=by omega
  rw [hx] at hs
  rw [List.drop_eq_getElem_cons hil,hx] at hinv
  simp only [idxF] at hinv
  cases hpx : P x with
  | true =>
   rw [hpx] at hp hinv
   rw [if_pos rfl] at hinv
   rw [← hinv]
   generalize callW X A = C at hp ⊢
   simp [-argOk,aok_val,aok_agg,hil,hs,hll,h2,hp,hc]
  | false =>
   rw [hpx] at hp hinv
   rw [if_neg (by simp)] at hinv
   generalize callW X A = C at hp ⊢
   simp [-argOk,aok_val,aok_agg,hil,hs,hll,h2,hp,hc,w,rnd_nrm]
   exact ⟨i + 1,⟨by omega,hinv⟩,by omega,by simp⟩
 ·obtain rfl : i = l.length:=by omega
  rw [List.drop_length] at hinv
  simp only [idxF] at hinv
  rw [← hinv]
  simp
theorem has33_code {lk lim : Nat} {H : Heap} {f : FuncId} {cap : List AV} (l : List Pr) (P : Pr → Bool) (hl : l.length ≤ 1000000) (hc : cap.all argOk = true) (hP : ∀ x ∈ l,callW X A lk H.length f (.agg x.cells :: cap) H = some (Bo (P x),H)) :
  callW X A lk lim 40 [.sl l.length (psC l),.fn f cap] H = some (Bo (l.any P),H):=by
 have k:=idx50_code (lim:=H.length) l P hl hc hP
 have ha:=idxF_any P l 0 (Int.le_refl _)
 refine wb_callB [] rfl A40 rfl rfl ?_
 unfold t40B
 generalize callW X A = C at k ⊢
 simp [k,ha]
end Go.Proofs.YtgbpioccaenjaaaGreat

namespace Go.Proofs.YtgbpioccaenjaaaGreat
open Go Go.Hm

def badS (g : Gm) (s : Int) : Bool:=decide (s < 0) || decide (g.t + g.n ≤ s)
def badP (g : Gm) (p : Pr) : Bool:=decide (p.l < 0) || decide (g.n ≤ p.l) || p.r.any (badS g)
def chkE (g : Gm) : Int:=
 if 8 < g.t ∨ 16 < g.n ∨ 3 < g.k ∨ 64 < g.ps.length then 3
 else if (g.ps.any fun p => decide (8 < p.r.length)) = true then 3
 else if g.t < 1 ∨ g.n < 1 ∨ g.k < 1 ∨ g.ps.length < 1 then 2
 else if g.ps.any (badP g) = true then 2 else 0
theorem c34_code {lk lim : Nat} {H : Heap} (p : Pr) : callW X A lk lim 41 [.agg p.cells] H = some (Bo (decide (8 < p.r.length)),H):=by
 refine wb_callB [1] rfl A41 rfl rfl ?_
 unfold t41B
 have h : decide ((8 : Int) < p.r.length) = decide (8 < p.r.length):=by
  rw [Bool.eq_iff_iff];simp;omega
 simp [Pr.cells,h]
theorem c36_code {lk lim : Nat} {H : Heap} {g : Gm} {b : Nat} (hb : H[b]? = some (.cells g.cells)) (hw : IntKind.i64.wrap (g.t + g.n) = g.t + g.n) (s : Int) : callW X A lk lim 43 [I s,.hp b 4 0] H = some (Bo (badS g s),H):=by
 refine wb_callB [] rfl A43 rfl rfl ?_
 unfold t43B
 unfold Gm.cells at hb
 unfold badS
 by_cases h : s < 0
 ·simp [h]
 ·simp [h,hb,hw]
theorem mm_min (t n k m : Int) : (if m < (if k < (if n < t then n else t) then k else (if n < t then n else t)) then m else (if k < (if n < t then n else t) then k else (if n < t then n else t))) < 1 ↔ t < 1 ∨ n < 1 ∨ k < 1 ∨ m < 1:=by
 split <;> split <;> split <;> omega
set_option maxRecDepth 20000 in
theorem check_code {lk lim : Nat} {H : Heap} (g : Gm) (hl : g.ps.length ≤ 1000000) (hr : ∀ p ∈ g.ps,p.r.length ≤ 1000000) : callW X A lk lim 22 [gV g] H = some (I (chkE g),H):=by
 have k1:=fun L => has33_code (lk:=lk) (lim:=L) (H:=H ++ [.cells g.cells]) (f:=41) (cap:=[]) g.ps (fun p => decide (8 < p.r.length)) hl rfl (fun p _ => c34_code p)
 have k2:=fun (L : Nat) (hw : IntKind.i64.wrap (g.t + g.n) = g.t + g.n) (p : Pr) (hp : p ∈ g.ps) => has35_code (lk:=lk) (lim:=L) (H:=H ++ [.cells g.cells]) (f:=43) (cap:=[.hp H.length 4 0]) p.r (badS g) (hr p hp) rfl (fun s _ => c36_code (by simp) hw s)
 refine wb_callB [4] rfl A22 rfl rfl ?_
 unfold t22B
 obtain ⟨t,n,k,ps⟩:=g
 simp only [Gm.cells] at hl hr k1 k2 ⊢
 have e0 : ∀ c : Bool,chkE ⟨t,n,k,ps⟩ = chkE ⟨t,n,k,ps⟩:=fun _ => rfl
 by_cases c1 : 8 < t
 ·have e : chkE ⟨t,n,k,ps⟩ = 3:=by unfold chkE;rw [if_pos (by simp only;omega)]
  rw [e]
  simp [Gm.cells,c1]
 by_cases c2 : 16 < n
 ·have e : chkE ⟨t,n,k,ps⟩ = 3:=by unfold chkE;rw [if_pos (by simp only;omega)]
  rw [e]
  simp [Gm.cells,c1,c2]
 by_cases c3 : 3 < k
 ·have e : chkE ⟨t,n,k,ps⟩ = 3:=by unfold chkE;rw [if_pos (by simp only;omega)]
  rw [e]
  simp [Gm.cells,c1,c2,c3]
 by_cases c4 : 64 < ps.length
 ·have e : chkE ⟨t,n,k,ps⟩ = 3:=by unfold chkE;rw [if_pos (by simp only;omega)]
  have c4' : (64 : Int) < ps.length:=by omega
  rw [e]
  simp [Gm.cells,c1,c2,c3,c4']
 have c4' : ¬ (64 : Int) < ps.length:=by omega
 have e1 : chkE ⟨t,n,k,ps⟩ = if (ps.any fun p => decide (8 < p.r.length)) = true then 3 else if t < 1 ∨ n < 1 ∨ k < 1 ∨ ps.length < 1 then 2 else if ps.any (badP ⟨t,n,k,ps⟩) = true then 2 else 0:=by
  rw [chkE,if_neg (by simp only;omega)]
 rw [e1]
 cases c5 : (ps.any fun p => decide (8 < p.r.length)) with
 | true =>
  rw [c5] at k1
  generalize callW X A = C at k1 ⊢
  simp [Gm.cells,c1,c2,c3,c4',k1]
 | false =>
  rw [c5] at k1
  rw [if_neg (show ¬ (false = true) by simp)]
  by_cases c6 : t < 1 ∨ n < 1 ∨ k < 1 ∨ ps.length < 1
  ·have c6':=(mm_min t n k ps.length).2 (by omega)
   rw [if_pos c6]
   generalize callW X A = C at k1 ⊢
   simp [Gm.cells,c1,c2,c3,c4',k1,mmFold,c6']
   done
  ·have c6' : ¬ _:=fun h => c6 (by have:=(mm_min t n k ps.length).1 h;omega)
   rw [if_neg c6]
   have k2:=fun L => k2 L (wrap64 (by omega) (by omega))
   obtain ⟨bb,hbb⟩ : ∃ bb,ps.any (badP ⟨t,n,k,ps⟩) = bb:=⟨_,rfl⟩
   rw [hbb]
   simp [Gm.cells,c1,c2,c3,c4',k1,mmFold,c6']
   refine wb_loop (σ:=Nat) (fun i => [(1,.hp H.length 4 0),(39,.sl ps.length (psC ps)),(40,I ps.length),(41,I i)]) (fun _ => H ++ [.cells [I t,I n,I k,.sl ps.length (psC ps)]])
    (fun i => i ≤ ps.length ∧ bb = (ps.drop i).any (badP ⟨t,n,k,ps⟩)) (fun i => ps.length - i) ?_ 0 ⟨by omega,by rw [← hbb];rfl⟩ (by simp) rfl
   rintro i ⟨hi,hinv⟩
   unfold t22L1
   have w : IntKind.i64.wrap ((i : Int) + 1) = (i : Int) + 1:=wrap64 (by omega) (by omega)
   by_cases hil : i < ps.length
   case neg =>
    obtain rfl : i = ps.length:=by omega
    rw [List.drop_length] at hinv
    have hinv : bb = false:=hinv
    rw [hinv]
    simp
   obtain ⟨p,hp⟩ : ∃ p,ps[i] = p:=⟨_,rfl⟩
   have hpm : p ∈ ps:=hp ▸ List.getElem_mem hil
   have hs:=psC_sub hil
   have hll:=psC_len ps
   have h2 : i * 2 + 2 ≤ 2 * ps.length:=by omega
   rw [hp] at hs
   simp only [Pr.cells] at hs
   rw [List.drop_eq_getElem_cons hil,hp,List.any_cons] at hinv
   have k3:=k2 H.length p hpm
   generalize callW X A = C at k3 ⊢
   simp [-wi_stL,hil,hll,hs,h2]
   rw [wi_stL]
   unfold badP at hinv
   simp only at hinv
   by_cases d1 : p.l < 0
   ·rw [decide_eq_true d1] at hinv
    simp only [Bool.true_or] at hinv
    simp [replaceAt,d1,hinv]
   rw [decide_eq_false d1] at hinv
   by_cases d2 : n ≤ p.l
   ·rw [decide_eq_true d2] at hinv
    simp only [Bool.true_or,Bool.false_or] at hinv
    simp [replaceAt,d1,d2,hinv]
   rw [decide_eq_false d2] at hinv
   cases d3 : p.r.any (badS ⟨t,n,k,ps⟩) with
   | true =>
    rw [d3] at hinv k3
    simp only [Bool.true_or,Bool.false_or] at hinv
    simp [replaceAt,d1,d2,k3,hinv]
   | false =>
    rw [d3] at hinv k3
    simp only [Bool.false_or] at hinv
    simp [replaceAt,d1,d2,k3,w,rnd_nrm]
    exact ⟨i + 1,⟨by omega,hinv⟩,by omega,by simp⟩
end Go.Proofs.YtgbpioccaenjaaaGreat

namespace Go.Proofs.YtgbpioccaenjaaaGreat
open Go Go.Hm

theorem any_nil {α : Type} (P : α → Bool) : ([] : List α).any P = false:=rfl
set_option maxRecDepth 20000 in
theorem rcheck_code {lk lim : Nat} {H : Heap} (g : Gm) (hl : g.ps.length ≤ 1000000) (hr : ∀ p ∈ g.ps,p.r.length ≤ 1000000) : callW X A lk lim 27 [gV g] H = some (I (chkE g),H):=by
 refine wb_callB [1,5] rfl A27 rfl rfl ?_
 unfold t27B
 obtain ⟨t,n,k,ps⟩:=g
 simp only at hl hr
 by_cases c1 : 8 < t
 ·have e : chkE ⟨t,n,k,ps⟩ = 3:=by unfold chkE;rw [if_pos (by simp only;omega)]
  rw [e]
  simp [Gm.cells,c1]
 by_cases c2 : 16 < n
 ·have e : chkE ⟨t,n,k,ps⟩ = 3:=by unfold chkE;rw [if_pos (by simp only;omega)]
  rw [e]
  simp [Gm.cells,c1,c2]
 by_cases c3 : 3 < k
 ·have e : chkE ⟨t,n,k,ps⟩ = 3:=by unfold chkE;rw [if_pos (by simp only;omega)]
  rw [e]
  simp [Gm.cells,c1,c2,c3]
 by_cases c4 : 64 < ps.length
 ·have e : chkE ⟨t,n,k,ps⟩ = 3:=by unfold chkE;rw [if_pos (by simp only;omega)]
  have c4' : (64 : Int) < ps.length:=by omega
  rw [e]
  simp [Gm.cells,c1,c2,c3,c4']
 have c4' : ¬ (64 : Int) < ps.length:=by omega
 have e1 : chkE ⟨t,n,k,ps⟩ = if (ps.any fun p => decide (8 < p.r.length)) = true then 3 else if t < 1 ∨ n < 1 ∨ k < 1 ∨ ps.length < 1 then 2 else if ps.any (badP ⟨t,n,k,ps⟩) = true then 2 else 0:=by
  rw [chkE,if_neg (by simp only;omega)]
 rw [e1]
 obtain ⟨b1,hb1⟩ : ∃ b1,(ps.any fun p => decide (8 < p.r.length)) = b1:=⟨_,rfl⟩
 obtain ⟨b2,hb2⟩ : ∃ b2,ps.any (badP ⟨t,n,k,ps⟩) = b2:=⟨_,rfl⟩
 rw [hb1,hb2]
 simp [Gm.cells,c1,c2,c3,c4']
 let bx : AV:=.box [I t,I n,I k,.sl ps.length (psC ps)]
 refine wb_loop (σ:=Nat) (fun i => [(1,bx),(3,I i)]) (fun _ => H) (fun i => i ≤ ps.length ∧ b1 = (ps.drop i).any fun p => decide (8 < p.r.length)) (fun i => ps.length - i) ?_ 0 ⟨by omega,by rw [← hb1];rfl⟩ (by simp [bx]) rfl
 rintro i ⟨hi,hinv⟩
 unfold t27L1
 have w1 : IntKind.i64.wrap ((i : Int) + 1) = (i : Int) + 1:=wrap64 (by omega) (by omega)
 by_cases hil : i < ps.length
 ·obtain ⟨p,hp⟩ : ∃ p,ps[i] = p:=⟨_,rfl⟩
  have hr:=psC_r hil
  rw [hp] at hr
  rw [List.drop_eq_getElem_cons hil,hp,List.any_cons] at hinv
  by_cases d1 : 8 < p.r.length
  ·have d1' : (8 : Int) < p.r.length:=by omega
   rw [decide_eq_true d1,Bool.true_or] at hinv
   simp [bx,hil,hr,d1',hinv]
  ·have d1' : ¬ (8 : Int) < p.r.length:=by omega
   rw [decide_eq_false d1,Bool.false_or] at hinv
   simp [bx,hil,hr,d1',w1,rnd_nrm]
   exact ⟨i + 1,⟨by omega,hinv⟩,by omega,by simp⟩
 obtain rfl : i = ps.length:=by omega
 rw [List.drop_length,any_nil] at hinv
 subst hinv
 by_cases f1 : t < 1
 ·simp [bx,f1]
 by_cases f2 : n < 1
 ·simp [bx,f1,f2]
 by_cases f3 : k < 1
 ·simp [bx,f1,f2,f3]
 by_cases f4 : ps.length < 1
 ·have f4' : (ps.length : Int) < 1:=by omega
  simp [bx,f1,f2,f3,f4,f4']
  intro h
  exact absurd (List.length_eq_zero_iff.1 (by omega)) h
 have f4' : ¬ (ps.length : Int) < 1:=by omega
 have wtn : IntKind.i64.wrap (t + n) = t + n:=wrap64 (by omega) (by omega)
 have hne : ps ≠ []:=by intro h;rw [h] at f4;simp at f4
 simp [bx,f1,f2,f3,f4',hne]
 refine wb_loop (σ:=Nat) (fun i => [(1,bx),(4,I i)]) (fun _ => H) (fun i => i ≤ ps.length ∧ b2 = (ps.drop i).any (badP ⟨t,n,k,ps⟩)) (fun i => ps.length - i) ?_ 0 ⟨by omega,by rw [← hb2];rfl⟩ (by simp [bx]) rfl
 rintro i ⟨hi,hinv⟩
 unfold t27L3
 have w1 : IntKind.i64.wrap ((i : Int) + 1) = (i : Int) + 1:=wrap64 (by omega) (by omega)
 by_cases hil : i < ps.length
 case neg =>
  obtain rfl : i = ps.length:=by omega
  rw [List.drop_length,any_nil] at hinv
  subst hinv
  simp [bx]
 obtain ⟨p,hp⟩ : ∃ p,ps[i] = p:=⟨_,rfl⟩
 have hrp:=hr p (hp ▸ List.getElem_mem hil)
 have hs:=psC_sub hil
 have hll:=psC_len ps
 have h2 : i * 2 + 2 ≤ 2 * ps.length:=by omega
 rw [hp] at hs
 simp only [Pr.cells] at hs
 rw [List.drop_eq_getElem_cons hil,hp,List.any_cons] at hinv
 simp [-wi_stL,bx,hil,hll,hs,h2]
 rw [wi_stL]
 unfold badP at hinv
 simp only at hinv
 by_cases d1 : p.l < 0
 ·rw [decide_eq_true d1] at hinv
  simp only [Bool.true_or] at hinv
  subst hinv
  simp [replaceAt,d1]
 rw [decide_eq_false d1] at hinv
 by_cases d2 : n ≤ p.l
 ·rw [decide_eq_true d2] at hinv
  simp only [Bool.true_or,Bool.false_or] at hinv
  subst hinv
  simp [replaceAt,d1,d2]
 rw [decide_eq_false d2] at hinv
 simp only [Bool.false_or] at hinv
 simp [replaceAt,d1,d2]
 refine wb_loop (σ:=Nat) (fun m => [(1,bx),(4,I i),(5,.box [I p.l,.sl p.r.length (ints p.r)]),(6,I m)]) (fun _ => H)
  (fun m => m ≤ p.r.length ∧ p.r.any (badS ⟨t,n,k,ps⟩) = (p.r.drop m).any (badS ⟨t,n,k,ps⟩)) (fun m => p.r.length - m) ?_ 0 ⟨by omega,rfl⟩ (by simp [bx]) rfl
 rintro m ⟨hm,hinv2⟩
 unfold t27L2
 have w2 : IntKind.i64.wrap ((m : Int) + 1) = (m : Int) + 1:=wrap64 (by omega) (by omega)
 by_cases hml : m < p.r.length
 case neg =>
  obtain rfl : m = p.r.length:=by omega
  rw [List.drop_length,any_nil] at hinv2
  rw [hinv2,Bool.false_or] at hinv
  simp [bx,w1,rnd_nrm]
  exact ⟨i + 1,⟨by omega,hinv⟩,by omega,by simp⟩
 obtain ⟨s,hsx⟩ : ∃ s,p.r[m] = s:=⟨_,rfl⟩
 rw [List.drop_eq_getElem_cons hml,hsx,List.any_cons] at hinv2
 unfold badS at hinv2
 simp only at hinv2
 by_cases e1 : s < 0
 ·rw [decide_eq_true e1] at hinv2
  simp only [Bool.true_or] at hinv2
  have hb : b2 = true:=by rw [hinv,show p.r.any (badS ⟨t,n,k,ps⟩) = true from hinv2];rfl
  subst hb
  simp [bx,hml,hsx,e1]
 rw [decide_eq_false e1] at hinv2
 by_cases e2 : t + n ≤ s
 ·rw [decide_eq_true e2] at hinv2
  simp only [Bool.true_or,Bool.false_or] at hinv2
  have hb : b2 = true:=by rw [hinv,show p.r.any (badS ⟨t,n,k,ps⟩) = true from hinv2];rfl
  subst hb
  simp [bx,hml,hsx,e1,e2,wtn]
 rw [decide_eq_false e2] at hinv2
 simp only [Bool.false_or] at hinv2
 simp [bx,hml,hsx,e1,e2,wtn,w2,rnd_nrm]
 exact ⟨m + 1,⟨by omega,hinv2⟩,by omega,by simp⟩
end Go.Proofs.YtgbpioccaenjaaaGreat

namespace Go.Proofs.YtgbpioccaenjaaaGreat
open Go Go.Hm
theorem gok_of {g : Gm} (h : chkE g = 0) : GOk g:=by
 unfold chkE at h
 split at h
 ·omega
 ·split at h
  ·omega
  ·split at h
   ·omega
   ·split at h
    ·omega
    ·rename_i h1 h2 h3 h4
     simp only [Bool.not_eq_true,List.any_eq_false,decide_eq_true_eq] at h2 h4
     refine ⟨by omega,by omega,by omega,by omega,by omega,by omega,by omega,by omega,fun p hp => ?_⟩
     have h5:=h2 p hp
     have h6:=h4 p hp
     have h6 : badP g p = false:=by simpa using h6
     simp only [badP,Bool.or_eq_false_iff,decide_eq_false_iff_not,List.any_eq_false] at h6
     refine ⟨by omega,by omega,by omega,fun x hx => ?_⟩
     have h7:=h6.2 x hx
     simp only [badS,Bool.or_eq_true,decide_eq_true_eq,not_or] at h7
     omega
end Go.Proofs.YtgbpioccaenjaaaGreat
