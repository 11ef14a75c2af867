import Derived.Test.YtgbpioccaenjaaaGreatGO
set_option linter.unusedSimpArgs false
set_option linter.unusedVariables false
namespace Go.Proofs.YtgbpioccaenjaaaGreat
open Go Go.Hm

def bgL (t : Int) (null : List Bool) : List Int → List Nat
 | [] => []
 | x :: r => if x < t then [] else (x - t).toNat :: (if null.getD (x - t).toNat false = true then bgL t null r else [])
theorem bgL_lt {t : Int} {null : List Bool} {n : Nat} : ∀ {r : List Int},(∀ x ∈ r,0 ≤ x ∧ x < t + n) → ∀ s ∈ bgL t null r,s < n
 | [],_,s,h => by simp [bgL] at h
 | x :: r,hr,s,h => by
  simp only [bgL] at h
  split at h
  ·simp at h
  ·rename_i h1
   rcases List.mem_cons.1 h with h | h
   ·have:=hr x (List.mem_cons_self ..)
    omega
   ·split at h
    ·exact bgL_lt (fun y hy => hr y (List.mem_cons_of_mem _ hy)) s h
    ·simp at h
theorem bgL_len {t : Int} {null : List Bool} : ∀ (r : List Int),(bgL t null r).length ≤ r.length
 | [] => Nat.le_refl _
 | x :: r => by
  simp only [bgL]
  split
  ·simp
  ·split
   ·have:=bgL_len (t:=t) (null:=null) r
    simp;omega
   ·simp
def Edge (t : Int) (null : List Bool) (ps : List Pr) (i s : Nat) : Prop:=∃ p ∈ ps,p.l.toNat = i ∧ s ∈ bgL t null p.r
inductive Path (E : Nat → Nat → Prop) : Nat → Nat → Prop
 | one {i j : Nat} : E i j → Path E i j
 | cons {i s j : Nat} : E i s → Path E s j → Path E i j
theorem Path.trans {E : Nat → Nat → Prop} {i j k : Nat} (h : Path E i j) (h2 : Path E j k) : Path E i k:=by
 induction h with
 | one h => exact .cons h h2
 | cons h _ ih => exact .cons h (ih h2)

theorem ix_lt {n i j : Nat} (hi : i < n) (hj : j < n) : i * n + j < n * n:=by
 have h1 : (i + 1) * n ≤ n * n:=Nat.mul_le_mul_right n hi
 rw [Nat.succ_mul] at h1
 omega
theorem ix_inj {n i j i' j' : Nat} (hj : j < n) (hj' : j' < n) (h : i * n + j = i' * n + j') : i = i' ∧ j = j':=by
 have h1 : i = i':=by
  have e1 : (i * n + j) / n = i:=by
   rw [Nat.mul_comm,Nat.mul_add_div (by omega),Nat.div_eq_of_lt hj];rfl
  have e2 : (i' * n + j') / n = i':=by
   rw [Nat.mul_comm,Nat.mul_add_div (by omega),Nat.div_eq_of_lt hj'];rfl
  rw [← e1,← e2,h]
 subst h1
 exact ⟨rfl,by omega⟩
abbrev Mx (n : Nat) (o : List Bool) (i j : Nat) : Prop:=tr o (i * n + j)
theorem Mx_set {n : Nat} {o : List Bool} {i j i' j' : Nat} {v : Bool} (ho : o.length = n * n) (hi : i < n) (hj : j < n) (hj' : j' < n) : Mx n (o.set (i * n + j) v) i' j' ↔ if i' = i ∧ j' = j then v = true else Mx n o i' j':=by
 unfold Mx tr
 rw [List.getD_eq_getElem?_getD,List.getD_eq_getElem?_getD,List.getElem?_set]
 by_cases h : i' = i ∧ j' = j
 ·obtain ⟨rfl,rfl⟩:=h
  rw [if_pos rfl,if_pos (by rw [ho];exact ix_lt hi hj),if_pos ⟨rfl,rfl⟩]
  simp
 ·rw [if_neg h,if_neg (fun e => h (by have:=ix_inj hj hj' e;exact ⟨this.1.symm,this.2.symm⟩))]

def lfK (n l s : Nat) (o : List Bool) (k : Nat) : List Bool:=if ((o.getD (s * n + k) false || decide (k = s)) && !o.getD (l * n + k) false) = true then o.set (l * n + k) true else o
def lfS (n l : Nat) (o : List Bool) (s : Nat) : List Bool:=(List.range n).foldl (lfK n l s) o
def lfP (n : Nat) (t : Int) (null : List Bool) (o : List Bool) (p : Pr) : List Bool:=(bgL t null p.r).foldl (lfS n p.l.toNat) o
theorem lfK_grows (n l s k : Nat) : Grows fun o => lfK n l s o k:=fun o => by
 simp only [lfK]
 split
 ·rename_i h
  refine set_grows o _ (fun h2 => ?_)
  rw [h2] at h
  simp at h
 ·exact .inl rfl
theorem lfS_grows (n l s : Nat) : Grows fun o => lfS n l o s:=fun o => rnd_grows (st:=lfK n l s) (fun k => lfK_grows n l s k) (List.range n) o
theorem lfP_grows (n : Nat) (t : Int) (null : List Bool) (p : Pr) : Grows fun o => lfP n t null o p:=fun o => rnd_grows (st:=lfS n p.l.toNat) (fun s => lfS_grows n p.l.toNat s) (bgL t null p.r) o
theorem lfK_len (n l s : Nat) (o : List Bool) (k : Nat) : (lfK n l s o k).length = o.length:=by
 unfold lfK
 split <;> simp
theorem lfS_len (n l : Nat) (o : List Bool) (s : Nat) : (lfS n l o s).length = o.length:=rnd_len (fun o k => lfK_len n l s o k) _ o
theorem lfP_len (n : Nat) (t : Int) (null : List Bool) (o : List Bool) (p : Pr) : (lfP n t null o p).length = o.length:=rnd_len (fun o s => lfS_len n p.l.toNat o s) _ o
def leftM (n : Nat) (t : Int) (null : List Bool) (ps : List Pr) : List Bool:=fin (rnd (lfP n t null) ps) (List.replicate (n * n) false)
def PsOk (t : Int) (n : Nat) (ps : List Pr) : Prop:=∀ p ∈ ps,p.l.toNat < n ∧ ∀ x ∈ p.r,0 ≤ x ∧ x < t + n
section
variable {n : Nat} {t : Int} {null : List Bool} {ps : List Pr}
theorem leftM_len : (leftM n t null ps).length = n * n:=
 fin_ind (rnd_grows (fun p => lfP_grows n t null p) ps) (fun o => o.length = n * n) (fun o h => by rw [rnd_len (fun o p => lfP_len n t null o p)];exact h) _ _ (Nat.le_refl _) (by simp)
theorem leftM_sound (ok : PsOk t n ps) (i j : Nat) (hj : j < n) (h : Mx n (leftM n t null ps) i j) : Path (Edge t null ps) i j:=by
 have:=fin_ind (rnd_grows (fun p => lfP_grows n t null p) ps) (fun o => o.length = n * n ∧ ∀ i j,j < n → Mx n o i j → Path (Edge t null ps) i j) (fun o ho => ?_) _ (List.replicate (n * n) false) (Nat.le_refl _) ⟨by simp,fun i j _ h => absurd h (rep_not _ _)⟩
 ·exact this.2 i j hj h
 ·refine rnd_ind (st:=lfP n t null) (fun o => o.length = n * n ∧ ∀ i j,j < n → Mx n o i j → Path (Edge t null ps) i j) ps (fun o p hp ho => ?_) ps (fun _ h => h) o ho
  obtain ⟨hl,hr⟩:=ok p hp
  refine rnd_ind (st:=lfS n p.l.toNat) (fun o => o.length = n * n ∧ ∀ i j,j < n → Mx n o i j → Path (Edge t null ps) i j) (bgL t null p.r) (fun o s hs ho => ?_) _ (fun _ h => h) o ho
  have hsn:=bgL_lt hr s hs
  have he : Edge t null ps p.l.toNat s:=⟨p,hp,rfl,hs⟩
  refine rnd_ind (st:=lfK n p.l.toNat s) (fun o => o.length = n * n ∧ ∀ i j,j < n → Mx n o i j → Path (Edge t null ps) i j) (List.range n) (fun o k hk ho => ?_) _ (fun _ h => h) o ho
  have hk:=List.mem_range.1 hk
  refine ⟨by rw [lfK_len];exact ho.1,fun i j hj h => ?_⟩
  unfold lfK at h
  split at h
  ·rename_i hc
   simp only [Bool.and_eq_true,Bool.or_eq_true,decide_eq_true_eq] at hc
   rw [Mx_set ho.1 hl hk hj] at h
   split at h
   ·rename_i hij
    obtain ⟨rfl,rfl⟩:=hij
    rcases hc.1 with h1 | h1
    ·exact .cons he (ho.2 _ _ hj h1)
    ·rw [h1];exact .one he
   ·exact ho.2 i j hj h
  ·exact ho.2 i j hj h
theorem leftM_closed (ok : PsOk t n ps) {l s k : Nat} (he : Edge t null ps l s) (hk : k < n) (h : k = s ∨ Mx n (leftM n t null ps) s k) : Mx n (leftM n t null ps) l k:=by
 obtain ⟨p,hp,rfl,hs⟩:=he
 obtain ⟨hl,hr⟩:=ok p hp
 have f1:=rnd_fixed (fun p => lfP_grows n t null p) ps _ (fin_fix (rnd_grows (fun p => lfP_grows n t null p) ps) _ (List.replicate (n * n) false) (Nat.le_refl _)) p hp
 change lfP n t null (leftM n t null ps) p = leftM n t null ps at f1
 have f2:=rnd_fixed (st:=lfS n p.l.toNat) (fun s => lfS_grows n p.l.toNat s) (bgL t null p.r) (leftM n t null ps) f1 s hs
 have f3:=rnd_fixed (st:=lfK n p.l.toNat s) (fun k => lfK_grows n p.l.toNat s k) (List.range n) (leftM n t null ps) f2 k (List.mem_range.2 hk)
 unfold lfK at f3
 split at f3
 ·rw [← f3]
  exact tr_set_self (by rw [leftM_len];exact ix_lt hl hk)
 ·rename_i hc
  simp only [Bool.and_eq_true,Bool.or_eq_true,decide_eq_true_eq,Bool.not_eq_true',not_and] at hc
  have:=hc (h.symm.imp (fun h => h) (fun h => h))
  unfold Mx tr
  simpa using this
theorem leftM_iff (ok : PsOk t n ps) (i j : Nat) (hj : j < n) : Mx n (leftM n t null ps) i j ↔ Path (Edge t null ps) i j:=by
 refine ⟨leftM_sound ok i j hj,fun h => ?_⟩
 induction h with
 | one h => exact leftM_closed ok h hj (.inl rfl)
 | cons h _ ih => exact leftM_closed ok h hj (.inr (ih hj))
end
end Go.Proofs.YtgbpioccaenjaaaGreat

namespace Go.Proofs.YtgbpioccaenjaaaGreat
open Go Go.Hm

theorem Mx_mono_set {n : Nat} {o : List Bool} {i : Nat} {j a b : Nat} (h : Mx n o a b) : Mx n (o.set (i * n + j) true) a b:=tr_set h
theorem foldl_ind {α β : Type} {f : β → α → β} (Q : β → Prop) : ∀ (l : List α) (o : β),(∀ o,∀ x ∈ l,Q o → Q (f o x)) → Q o → Q (l.foldl f o)
 | [],_,_,h => h
 | x :: l,o,hq,h => foldl_ind Q l (f o x) (fun o y hy => hq o y (List.mem_cons_of_mem _ hy)) (hq o x (List.mem_cons_self ..) h)
theorem foldl_at {α β : Type} {f : β → α → β} (I Q : β → Prop) : ∀ (l : List α) (o : β) (x : α),x ∈ l → I o → (∀ o,∀ y ∈ l,I o → I (f o y)) → (∀ o,I o → Q (f o x)) → (∀ o,∀ y ∈ l,I o → Q o → Q (f o y)) → Q (l.foldl f o)
 | [],_,_,h,_,_,_,_ => by simp at h
 | y :: l,o,x,h,hi,ki,h1,h2 => by
  rw [List.foldl_cons]
  have ki2 : ∀ o,∀ z ∈ l,I o → I (f o z):=fun o z hz => ki o z (List.mem_cons_of_mem _ hz)
  have hi2:=ki o y (List.mem_cons_self ..) hi
  by_cases hx : x ∈ l
  ·exact foldl_at I Q l (f o y) x hx hi2 ki2 h1 fun o z hz => h2 o z (List.mem_cons_of_mem _ hz)
  ·rcases List.mem_cons.1 h with rfl | h
   ·have:=foldl_ind (f:=f) (fun o => I o ∧ Q o) l (f o x) (fun o z hz hq => ⟨ki2 o z hz hq.1,h2 o z (List.mem_cons_of_mem _ hz) hq.1 hq.2⟩) ⟨hi2,h1 o hi⟩
    exact this.2
   ·exact absurd h hx

def edS (n l : Nat) (o : List Bool) (s : Nat) : List Bool:=o.set (l * n + s) true
def edP (n : Nat) (t : Int) (null : List Bool) (o : List Bool) (p : Pr) : List Bool:=(bgL t null p.r).foldl (edS n p.l.toNat) o
def edM (n : Nat) (t : Int) (null : List Bool) (ps : List Pr) : List Bool:=ps.foldl (edP n t null) (List.replicate (n * n) false)
def waC (n m i : Nat) (o : List Bool) (k : Nat) : List Bool:=o.set (i * n + k) (o.getD (i * n + k) false || (o.getD (i * n + m) false && o.getD (m * n + k) false))
def waR (n m : Nat) (o : List Bool) (i : Nat) : List Bool:=(List.range n).foldl (waC n m i) o
def waM (n : Nat) (o : List Bool) (m : Nat) : List Bool:=(List.range n).foldl (waR n m) o
def refM (n : Nat) (t : Int) (null : List Bool) (ps : List Pr) : List Bool:=(List.range n).foldl (waM n) (edM n t null ps)
theorem foldl_len {α : Type} {f : List Bool → α → List Bool} (h : ∀ o x,(f o x).length = o.length) (l : List α) (o : List Bool) : (l.foldl f o).length = o.length:=rnd_len h l o
theorem waC_len (n m i : Nat) (o : List Bool) (k : Nat) : (waC n m i o k).length = o.length:=by simp [waC]
theorem waR_len (n m : Nat) (o : List Bool) (i : Nat) : (waR n m o i).length = o.length:=foldl_len (fun o k => waC_len n m i o k) _ _
theorem waM_len (n : Nat) (o : List Bool) (m : Nat) : (waM n o m).length = o.length:=foldl_len (fun o i => waR_len n m o i) _ _
theorem edP_len (n : Nat) (t : Int) (null : List Bool) (o : List Bool) (p : Pr) : (edP n t null o p).length = o.length:=foldl_len (fun o s => by simp [edS]) _ _
theorem edM_len (n : Nat) (t : Int) (null : List Bool) (ps : List Pr) : (edM n t null ps).length = n * n:=by
 unfold edM
 rw [foldl_len (fun o p => edP_len n t null o p)]
 simp
section
variable {n : Nat} {t : Int} {null : List Bool} {ps : List Pr}
theorem edM_iff (ok : PsOk t n ps) (i j : Nat) (hj : j < n) : Mx n (edM n t null ps) i j ↔ Edge t null ps i j:=by
 constructor
 ·intro h
  have:=foldl_ind (f:=edP n t null) (fun o => o.length = n * n ∧ ∀ i j,j < n → Mx n o i j → Edge t null ps i j) ps (List.replicate (n * n) false) (fun o p hp ho => ?_) ⟨by simp,fun i j _ h => absurd h (rep_not _ _)⟩
  ·exact this.2 i j hj h
  ·obtain ⟨hl,hr⟩:=ok p hp
   refine foldl_ind (f:=edS n p.l.toNat) (fun o => o.length = n * n ∧ ∀ i j,j < n → Mx n o i j → Edge t null ps i j) _ o (fun o s hs ho => ?_) ho
   have hsn:=bgL_lt hr s hs
   refine ⟨by simp [edS,ho.1],fun i j hj h => ?_⟩
   unfold edS at h
   rw [Mx_set ho.1 hl hsn hj] at h
   split at h
   ·rename_i hij
    obtain ⟨rfl,rfl⟩:=hij
    exact ⟨p,hp,rfl,hs⟩
   ·exact ho.2 i j hj h
 ·rintro ⟨p,hp,rfl,hs⟩
  obtain ⟨hl,hr⟩:=ok p hp
  refine foldl_at (f:=edP n t null) (fun o => o.length = n * n) (fun o => Mx n o p.l.toNat j) ps _ p hp (by simp) (fun o q _ h => by rw [edP_len];exact h) (fun o ho => ?_) (fun o q hq ho h => ?_)
  ·refine foldl_at (f:=edS n p.l.toNat) (fun o => o.length = n * n) (fun o => Mx n o p.l.toNat j) _ o j hs ho (fun o s _ h => by simp [edS,h]) (fun o ho => ?_) (fun o s _ _ h => Mx_mono_set h)
   exact tr_set_self (by rw [ho];exact ix_lt hl hj)
  ·exact foldl_ind (f:=edS n q.l.toNat) (fun o => Mx n o p.l.toNat j) _ o (fun o s _ h => Mx_mono_set h) h
theorem waM_iff {b : List Bool} {m : Nat} (hb : b.length = n * n) (hm : m < n) (i j : Nat) (hi : i < n) (hj : j < n) : Mx n (waM n b m) i j ↔ Mx n b i j ∨ (Mx n b i m ∧ Mx n b m j):=by
 have cell : ∀ (i k : Nat) (o : List Bool),i < n → k < n → o.length = n * n → (∀ i' j',i' < n → j' < n → (Mx n o i' j' ↔ if i' < i ∨ (i' = i ∧ j' < k) then Mx n b i' j' ∨ (Mx n b i' m ∧ Mx n b m j') else Mx n b i' j')) →
   ∀ i' j',i' < n → j' < n → (Mx n (waC n m i o k) i' j' ↔ if i' < i ∨ (i' = i ∧ j' < k + 1) then Mx n b i' j' ∨ (Mx n b i' m ∧ Mx n b m j') else Mx n b i' j'):=by
  intro i k o hi hk ho h i' j' hi' hj'
  unfold waC
  rw [Mx_set ho hi hk hj']
  by_cases hij : i' = i ∧ j' = k
  ·obtain ⟨rfl,rfl⟩:=hij
   rw [if_pos ⟨rfl,rfl⟩,if_pos (.inr ⟨rfl,by omega⟩)]
   have e1:=h i' j' hi' hj'
   rw [if_neg (by omega)] at e1
   have e2 : Mx n o i' m ↔ Mx n b i' m:=by
    rw [h i' m hi' hm]
    split
    ·constructor
     ·rintro (h | h)
      ·exact h
      ·exact h.1
     ·exact .inl
    ·exact Iff.rfl
   have e3 : Mx n o m j' ↔ Mx n b m j':=by
    rw [h m j' hm hj']
    split
    ·constructor
     ·rintro (h | h)
      ·exact h
      ·exact h.2
     ·exact .inl
    ·exact Iff.rfl
   rw [Bool.or_eq_true,Bool.and_eq_true]
   exact or_congr e1 (and_congr e2 e3)
  ·rw [if_neg hij,h i' j' hi' hj']
   by_cases h1 : i' < i ∨ (i' = i ∧ j' < k)
   ·rw [if_pos h1,if_pos (by omega)]
   ·rw [if_neg h1,if_neg (by omega)]
 have row : ∀ (i : Nat) (o : List Bool),i < n → o.length = n * n → (∀ i' j',i' < n → j' < n → (Mx n o i' j' ↔ if i' < i then Mx n b i' j' ∨ (Mx n b i' m ∧ Mx n b m j') else Mx n b i' j')) →
   ∀ i' j',i' < n → j' < n → (Mx n (waR n m o i) i' j' ↔ if i' < i + 1 then Mx n b i' j' ∨ (Mx n b i' m ∧ Mx n b m j') else Mx n b i' j'):=by
  intro i o hi ho h
  have main : ∀ k,k ≤ n → ((List.range k).foldl (waC n m i) o).length = n * n ∧ ∀ i' j',i' < n → j' < n → (Mx n ((List.range k).foldl (waC n m i) o) i' j' ↔ if i' < i ∨ (i' = i ∧ j' < k) then Mx n b i' j' ∨ (Mx n b i' m ∧ Mx n b m j') else Mx n b i' j'):=by
   intro k
   induction k with
   | zero =>
    intro _
    refine ⟨ho,fun i' j' h1 h2 => ?_⟩
    rw [List.range_zero,List.foldl_nil,h i' j' h1 h2]
    by_cases h3 : i' < i
    ·rw [if_pos h3,if_pos (.inl h3)]
    ·rw [if_neg h3,if_neg (by omega)]
   | succ k ih =>
    intro hk
    obtain ⟨h1,h2⟩:=ih (by omega)
    rw [List.range_succ,List.foldl_append]
    exact ⟨by simp only [List.foldl_cons,List.foldl_nil];rw [waC_len];exact h1,cell i k _ hi (by omega) h1 h2⟩
  intro i' j' h1 h2
  unfold waR
  rw [(main n (Nat.le_refl _)).2 i' j' h1 h2]
  by_cases h3 : i' < i + 1
  ·rw [if_pos (by omega),if_pos h3]
  ·rw [if_neg (by omega),if_neg h3]
 have all : ∀ k,k ≤ n → ((List.range k).foldl (waR n m) b).length = n * n ∧ ∀ i' j',i' < n → j' < n → (Mx n ((List.range k).foldl (waR n m) b) i' j' ↔ if i' < k then Mx n b i' j' ∨ (Mx n b i' m ∧ Mx n b m j') else Mx n b i' j'):=by
  intro k
  induction k with
  | zero =>
   intro _
   exact ⟨hb,fun i' j' h1 h2 => by rw [List.range_zero,List.foldl_nil,if_neg (by omega)]⟩
  | succ k ih =>
   intro hk
   obtain ⟨h1,h2⟩:=ih (by omega)
   rw [List.range_succ,List.foldl_append]
   exact ⟨by simp only [List.foldl_cons,List.foldl_nil];rw [waR_len];exact h1,row k _ (by omega) h1 h2⟩
 unfold waM
 rw [(all n (Nat.le_refl _)).2 i j hi hj,if_pos hi]
theorem refM_iff (ok : PsOk t n ps) (i j : Nat) (hi : i < n) (hj : j < n) : Mx n (refM n t null ps) i j ↔ Path (Edge t null ps) i j:=by
 have Elt : ∀ a b,Edge t null ps a b → a < n ∧ b < n:=fun a b ⟨p,hp,h1,h2⟩ => by
  obtain ⟨hl,hr⟩:=ok p hp
  exact ⟨h1 ▸ hl,bgL_lt hr b h2⟩
 have main : ∀ m,m ≤ n → ((List.range m).foldl (waM n) (edM n t null ps)).length = n * n ∧
   (∀ i j,i < n → j < n → Edge t null ps i j → Mx n ((List.range m).foldl (waM n) (edM n t null ps)) i j) ∧
   (∀ i j,i < n → j < n → Mx n ((List.range m).foldl (waM n) (edM n t null ps)) i j → Path (Edge t null ps) i j) ∧
   ∀ m',m' < m → ∀ i j,i < n → j < n → Mx n ((List.range m).foldl (waM n) (edM n t null ps)) i m' → Mx n ((List.range m).foldl (waM n) (edM n t null ps)) m' j → Mx n ((List.range m).foldl (waM n) (edM n t null ps)) i j:=by
  intro m
  induction m with
  | zero =>
   intro _
   exact ⟨edM_len ..,fun i j _ hj h => (edM_iff ok i j hj).2 h,fun i j _ hj h => .one ((edM_iff ok i j hj).1 h),fun m' h => absurd h (by omega)⟩
  | succ m ih =>
   intro hm
   obtain ⟨h1,h2,h3,h4⟩:=ih (by omega)
   rw [List.range_succ,List.foldl_append,List.foldl_cons,List.foldl_nil]
   generalize (List.range m).foldl (waM n) (edM n t null ps) = b at h1 h2 h3 h4
   have hmn : m < n:=hm
   have e:=fun i j hi hj => waM_iff h1 hmn i j hi hj
   refine ⟨by rw [waM_len];exact h1,fun i j hi hj h => (e i j hi hj).2 (.inl (h2 i j hi hj h)),fun i j hi hj h => ?_,fun m' hm' i j hi hj ha hb => ?_⟩
   ·rcases (e i j hi hj).1 h with h | ⟨ha,hb⟩
    ·exact h3 i j hi hj h
    ·exact (h3 i m hi hmn ha).trans (h3 m j hmn hj hb)
   ·have hm'n : m' < n:=by omega
    have ha:=(e i m' hi hm'n).1 ha
    have hb:=(e m' j hm'n hj).1 hb
    refine (e i j hi hj).2 ?_
    by_cases hmm : m' = m
    ·subst hmm
     have ha : Mx n b i m':=by rcases ha with h | h;exact h;exact h.1
     have hb : Mx n b m' j:=by rcases hb with h | h;exact h;exact h.2
     exact .inr ⟨ha,hb⟩
    ·have hlt : m' < m:=by omega
     rcases ha with ha | ⟨ha1,ha2⟩
     ·rcases hb with hb | ⟨hb1,hb2⟩
      ·exact .inl (h4 m' hlt i j hi hj ha hb)
      ·exact .inr ⟨h4 m' hlt i m hi hmn ha hb1,hb2⟩
     ·rcases hb with hb | ⟨hb1,hb2⟩
      ·exact .inr ⟨ha1,h4 m' hlt m j hmn hj ha2 hb⟩
      ·exact .inr ⟨ha1,hb2⟩
 obtain ⟨h1,h2,h3,h4⟩:=main n (Nat.le_refl _)
 refine ⟨h3 i j hi hj,fun h => ?_⟩
 induction h with
 | one h => exact h2 _ _ hi hj h
 | cons h _ ih =>
  obtain ⟨ha,hb⟩:=Elt _ _ h
  exact h4 _ hb _ _ hi hj (h2 _ _ ha hb h) (ih hb hj)
end
end Go.Proofs.YtgbpioccaenjaaaGreat

namespace Go.Proofs.YtgbpioccaenjaaaGreat
open Go Go.Hm

section
variable {n : Nat} {t : Int} {null : List Bool} {ps : List Pr}
def PathN (E : Nat → Nat → Prop) : Nat → Nat → Nat → Prop
 | 0,_,_ => False
 | r + 1,i,j => ∃ s,E i s ∧ (s = j ∨ PathN E r s j)
theorem PathN.more {E : Nat → Nat → Prop} : ∀ {r i j : Nat},PathN E r i j → PathN E (r + 1) i j
 | r + 1,i,j,⟨s,h1,h2⟩ => ⟨s,h1,h2.imp (fun h => h) fun h => h.more⟩
open Classical in
end
def dgL (n : Nat) (o : List Bool) : Nat → Nat → Int × Bool
 | 0,_ => (0,false)
 | m + 1,i => if o.getD (i * n + i) false = true then ((i : Int),true) else dgL n o m (i + 1)
theorem dgL_eq {n : Nat} {o o' : List Bool} : ∀ (m i : Nat),i + m ≤ n → (∀ i,i < n → (Mx n o i i ↔ Mx n o' i i)) → dgL n o m i = dgL n o' m i
 | 0,_,_,_ => rfl
 | m + 1,i,hi,h => by
  simp only [dgL]
  have:=h i (by omega)
  unfold Mx tr at this
  by_cases h1 : o.getD (i * n + i) false = true
  ·rw [if_pos h1,if_pos (this.1 h1)]
  ·rw [if_neg h1,if_neg (fun h2 => h1 (this.2 h2)),dgL_eq m (i + 1) (by omega) h]
end Go.Proofs.YtgbpioccaenjaaaGreat
