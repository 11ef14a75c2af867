/- Sets' steps: plain facts. -/
import Derived.Test.YtnhennjliinplaaSh
import Derived.Test.YtnhennjliinplaaHs
import Derived.Test.YtnhennjliinplaaY
set_option linter.all false
namespace Go.Proofs.Ytnhennjliinplaa
open Go Go.Hm

theorem mem_hitI {cl : List AV} {b : Nat} {z : Int} : ∀ (l hit : List Int),z ∈ l.foldl (hitI cl b) hit ↔ z ∈ hit ∨ (z ∈ l ∧ hasC ((cl.drop (z.toNat * 4)).take 4) b = true)
 | [],hit => by simp
 | t :: l,hit => by
  show z ∈ l.foldl (hitI cl b) (hitI cl b hit t) ↔ _
  rw [mem_hitI l]
  unfold hitI
  by_cases h : hasC ((cl.drop (t.toNat * 4)).take 4) b = true
  ·rw [if_pos h,mem_addI,List.mem_cons]
   constructor
   ·rintro ((h1 | h1) | h1)
    ·exact .inl h1
    ·exact .inr ⟨.inl h1,h1 ▸ h⟩
    ·exact .inr ⟨.inr h1.1,h1.2⟩
   ·rintro (h1 | ⟨h1 | h1,h2⟩)
    ·exact .inl (.inl h1)
    ·exact .inl (.inr h1)
    ·exact .inr ⟨h1,h2⟩
  ·rw [if_neg h,List.mem_cons]
   constructor
   ·rintro (h1 | h1)
    ·exact .inl h1
    ·exact .inr ⟨.inr h1.1,h1.2⟩
   ·rintro (h1 | ⟨h1 | h1,h2⟩)
    ·exact .inl h1
    ·subst h1;exact absurd h2 h
    ·exact .inr ⟨h1,h2⟩
theorem mem_hitS1 {N : Nf} {b : Nat} {z k : Int} {hit : List Int} : z ∈ hitS N b hit k ↔ z ∈ hit ∨ z ∈ hitS N b [] k:=by
 unfold hitS
 split
 ·rw [mem_hitI,mem_hitI];simp
 ·simp
theorem mem_hitS {N : Nf} {b : Nat} {z : Int} : ∀ (set hit : List Int),z ∈ set.foldl (hitS N b) hit ↔ z ∈ hit ∨ ∃ k ∈ set,z ∈ hitS N b [] k
 | [],hit => by simp
 | k :: set,hit => by
  show z ∈ set.foldl (hitS N b) (hitS N b hit k) ↔ _
  rw [mem_hitS set,mem_hitS1]
  constructor
  ·rintro ((h | h) | ⟨q,h1,h2⟩)
   ·exact .inl h
   ·exact .inr ⟨k,List.mem_cons_self,h⟩
   ·exact .inr ⟨q,List.mem_cons_of_mem _ h1,h2⟩
  ·rintro (h | ⟨q,h1,h2⟩)
   ·exact .inl (.inl h)
   ·rcases List.mem_cons.1 h1 with rfl | h1
    ·exact .inl (.inr h2)
    ·exact .inr ⟨q,h1,h2⟩
theorem mem_stepM {N : Nf} {b : Nat} {z : Int} {set : List Int} : z ∈ stepM N set b ↔ ∃ k ∈ set,z ∈ hitS N b [] k:=by
 unfold stepM
 rw [mem_normI,mem_hitS];simp
theorem stepM_app {N : Nf} {b : Nat} {z : Int} {p q : List Int} : z ∈ stepM N (p ++ q) b ↔ z ∈ stepM N p b ∨ z ∈ stepM N q b:=by
 simp only [mem_stepM,List.mem_append]
 constructor
 ·rintro ⟨k,h | h,h2⟩
  ·exact .inl ⟨k,h,h2⟩
  ·exact .inr ⟨k,h,h2⟩
 ·rintro (⟨k,h,h2⟩ | ⟨k,h,h2⟩)
  ·exact ⟨k,.inl h,h2⟩
  ·exact ⟨k,.inr h,h2⟩
theorem up_stepM {N : Nf} {b : Nat} {set : List Int} : UpI (stepM N set b):=up_normI _
theorem up_nd {l : List Int} (h : UpI l) : l.Nodup:=List.Pairwise.imp (fun h => Int.ne_of_lt h) h
theorem risK_pos {k : Nat} : ∀ (l : List Int) (last : Int),0 ≤ last → risK k last l = true → ∀ t ∈ l,1 ≤ t ∧ t < (k : Int)
 | [],_,_,_ => fun _ h => nomatch h
 | t :: r,last,h0,h => by
  simp only [risK,Bool.and_eq_true,decide_eq_true_eq] at h
  intro z hz
  rcases List.mem_cons.1 hz with rfl | hz
  ·omega
  ·exact risK_pos r t (by omega) h.2.2 z hz
theorem chkZ_pos {k : Nat} : ∀ (nx : List (List Int)) (rl : List Int),nx.length = rl.length → chkZ k nx rl = true → ∀ l ∈ nx,∀ t ∈ l,1 ≤ t ∧ t < (k : Int)
 | [],_,_,_ => fun _ h => nomatch h
 | l :: nx,[],h,_ => by simp at h
 | l :: nx,r :: rl,h,hc => by
  simp only [chkZ,Bool.and_eq_true] at hc
  intro x hx
  rcases List.mem_cons.1 hx with rfl | hx
  ·exact risK_pos _ 0 (Int.le_refl _) hc.1
  ·exact chkZ_pos nx rl (by simpa using h) hc.2.2.2 x hx
theorem step_all {N : Nf} (hc : chkF N = true) {set : List Int} {b : Nat} {z : Int} (h : z ∈ stepM N set b) : 1 ≤ z ∧ z < (N.k : Int) ∧ hasC ((N.cl.drop (z.toNat * 4)).take 4) b = true:=by
 obtain ⟨_,_,h3,h4,_⟩:=chkF_get hc
 obtain ⟨k,_,h⟩:=mem_stepM.1 h
 unfold hitS at h
 split at h
 ·rename_i hk
  have hl : k.toNat < N.nx.length:=by omega
  rw [List.getD_eq_getElem?_getD,List.getElem?_eq_getElem hl,Option.getD_some,mem_hitI] at h
  rcases h with h | ⟨h,h2⟩
  ·cases h
  ·unfold chkF at hc
   simp only [Bool.and_eq_true] at hc
   have:=chkZ_pos _ _ (by omega) hc.2 _ (List.getElem_mem hl) z h
   exact ⟨this.1,this.2,h2⟩
 ·cases h
def cmb (p q : Int) : Int:=if p < 0 ∨ (0 ≤ q ∧ q < p) then q else p
theorem ruleS_one (rl : List Int) (k out : Int) (h : out = -1 ∨ 0 ≤ out) : ruleS rl out k = cmb out (ruleS rl (-1) k) ∧ (ruleS rl (-1) k = -1 ∨ 0 ≤ ruleS rl (-1) k):=by
 unfold ruleS
 generalize rl.getD k.toNat 0 = r
 by_cases hk : 0 ≤ k ∧ k < (rl.length : Int)
 ·rw [if_pos hk,if_pos hk]
  by_cases c1 : 0 ≤ r
  ·rw [if_pos (show 0 ≤ r ∧ ((-1 : Int) < 0 ∨ r < -1) from ⟨c1,.inl (by omega)⟩)]
   refine ⟨?_,.inr c1⟩
   unfold cmb
   split <;> split <;> omega
  ·rw [if_neg (by omega),if_neg (show ¬ (0 ≤ r ∧ ((-1 : Int) < 0 ∨ r < -1)) from by omega)]
   refine ⟨?_,.inl rfl⟩
   unfold cmb
   split <;> omega
 ·rw [if_neg hk,if_neg hk]
  refine ⟨?_,.inl rfl⟩
  unfold cmb
  split <;> omega
theorem cmb_cmb {o v q : Int} (ho : o = -1 ∨ 0 ≤ o) (hv : v = -1 ∨ 0 ≤ v) (hq : q = -1 ∨ 0 ≤ q) : cmb (cmb o v) q = cmb o (cmb v q):=by
 by_cases h1 : o < 0 ∨ (0 ≤ v ∧ v < o)
 ·have e1 : cmb o v = v:=if_pos h1
  rw [e1]
  by_cases h2 : v < 0 ∨ (0 ≤ q ∧ q < v)
  ·have e2 : cmb v q = q:=if_pos h2
   rw [e2]
   unfold cmb
   split <;> omega
  ·have e2 : cmb v q = v:=if_neg h2
   rw [e2,e1]
 ·have e1 : cmb o v = o:=if_neg h1
  rw [e1]
  by_cases h2 : v < 0 ∨ (0 ≤ q ∧ q < v)
  ·have e2 : cmb v q = q:=if_pos h2
   rw [e2]
  ·have e2 : cmb v q = v:=if_neg h2
   rw [e2,e1]
   unfold cmb
   split <;> omega
theorem ruleS_cmb {rl : List Int} (set : List Int) : ∀ (out : Int),(out = -1 ∨ 0 ≤ out) → set.foldl (ruleS rl) out = cmb out (set.foldl (ruleS rl) (-1)) ∧ (set.foldl (ruleS rl) out = -1 ∨ 0 ≤ set.foldl (ruleS rl) out):=by
 induction set with
 | nil =>
  intro out h
  refine ⟨?_,h⟩
  show out = cmb out (-1)
  unfold cmb
  split <;> omega
 | cons k set ih =>
  intro out h
  show set.foldl (ruleS rl) (ruleS rl out k) = cmb out (set.foldl (ruleS rl) (ruleS rl (-1) k)) ∧ (set.foldl (ruleS rl) (ruleS rl out k) = -1 ∨ 0 ≤ set.foldl (ruleS rl) (ruleS rl out k))
  have hs : ∀ o : Int,(o = -1 ∨ 0 ≤ o) → (ruleS rl o k = -1 ∨ 0 ≤ ruleS rl o k):=fun o ho => by
   unfold ruleS
   split
   ·split <;> omega
   ·exact ho
  obtain ⟨h1,h2⟩:=ih _ (hs out h)
  obtain ⟨h3,_⟩:=ih _ (hs (-1) (.inl rfl))
  obtain ⟨_,h4⟩:=ih (-1) (.inl rfl)
  refine ⟨?_,h2⟩
  obtain ⟨e1,e2⟩:=ruleS_one rl k out h
  rw [h1,h3,e1]
  generalize set.foldl (ruleS rl) (-1) = q at h4
  generalize ruleS rl (-1) k = v at e2
  exact cmb_cmb h e2 h4
theorem ruleM_app {rl p q : List Int} : ruleM rl (p ++ q) = cmb (ruleM rl p) (ruleM rl q):=by
 unfold ruleM
 rw [List.foldl_append]
 exact (ruleS_cmb q _ ((ruleS_cmb p (-1) (.inl rfl)).2)).1
def eo (n : Int) : AV × AV:=(I n,I 1)
def mE (l : List Int) : List (AV × AV):=l.map eo
@[simp] theorem mE_nil : mE [] = []:=rfl
@[simp] theorem mE_len (l : List Int) : (mE l).length = l.length:=by simp [mE]
theorem mset_mE : ∀ (l : List Int) (n : Int),mset false [1] (I n) (I 1) (mE l) = some (mE (addI l n))
 | [],n => rfl
 | m :: l,n => by
  have ih:=mset_mE l n
  have e : eqKey false [1] (I n) (I m) = some (n == m):=by simp [eqKey,eqScalar]
  simp only [mE,List.map_cons,eo,mset,e]
  by_cases h : n = m
  ·subst h
   simp [addI,eo]
  ·have hb : (n == m) = false:=by simpa using h
   rw [hb]
   dsimp only
   unfold mE at ih
   rw [ih]
   simp only [Option.some.injEq]
   unfold addI
   by_cases hm : n ∈ l
   ·rw [if_pos hm,if_pos (List.mem_cons_of_mem _ hm)];rfl
   ·rw [if_neg hm,if_neg (by simp [h,hm])];rfl
theorem mget_mE : ∀ (l : List Int) (n : Int),n ∈ l → mget false [1] (I n) (mE l) = some (some (I 1))
 | [],n,h => nomatch h
 | m :: l,n,h => by
  have e : eqKey false [1] (I n) (I m) = some (n == m):=by simp [eqKey,eqScalar]
  simp only [mE,List.map_cons,eo,mget,e]
  by_cases hn : n = m
  ·subst hn;simp
  ·have hb : (n == m) = false:=by simpa using hn
   rw [hb]
   exact mget_mE l n ((List.mem_cons.1 h).resolve_left hn)
theorem nd_same {a b : List Int} (ha : a.Nodup) (hb : UpI b) (h : ∀ x,x ∈ a ↔ x ∈ b) : a.length = b.length:=by
 have e : normI a = b:=up_extI (up_normI a) hb fun x => by rw [mem_normI,h]
 rw [← e,← merge_normI ha,List.length_mergeSort]
end Go.Proofs.Ytnhennjliinplaa
