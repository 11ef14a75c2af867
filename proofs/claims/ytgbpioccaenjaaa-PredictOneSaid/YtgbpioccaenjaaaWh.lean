import Derived.Test.YtgbpioccaenjaaaGW
import Derived.Test.YtgbpioccaenjaaaGE
set_option linter.unusedSimpArgs false
set_option linter.unusedVariables false
namespace Go.Proofs.Ytgbpioccaenjaaa
open Go Go.Hm

theorem meetF_some : ∀ (k : Nat) (a b : List (List UInt8)) (x : List UInt8), meetF k a b = some x → x ∈ a ∧ x ∈ b
 | 0, a, b, x, h => by simp [meetF] at h
 | k + 1, [], b, x, h => by simp [meetF] at h
 | k + 1, y :: a, [], x, h => by simp [meetF] at h
 | k + 1, y :: a, z :: b, x, h => by
  unfold meetF at h
  split at h
  ·rename_i e
   simp only [Option.some.injEq] at h
   subst h; subst e
   exact ⟨List.mem_cons_self .., List.mem_cons_self ..⟩
  ·split at h
   ·have := meetF_some k _ _ x h
    exact ⟨List.mem_cons_of_mem _ this.1, this.2⟩
   ·have := meetF_some k _ _ x h
    exact ⟨this.1, List.mem_cons_of_mem _ this.2⟩
theorem meetF_none : ∀ (k : Nat) (a b : List (List UInt8)), Up a → Up b → a.length + b.length ≤ k → meetF k a b = none → ∀ x ∈ a, x ∉ b
 | 0, a, b, _, _, hk, _ => fun x hx => by
  have : a = [] := List.eq_nil_of_length_eq_zero (by omega)
  subst this; simp at hx
 | k + 1, [], b, _, _, _, _ => fun x hx => by simp at hx
 | k + 1, y :: a, [], _, _, _, _ => fun x _ hx => by simp at hx
 | k + 1, y :: a, z :: b, ha, hb, hk, h => by
  have ha2 := List.pairwise_cons.1 ha
  have hb2 := List.pairwise_cons.1 hb
  unfold meetF at h
  split at h
  ·cases h
  ·rename_i hne
   split at h
   ·rename_i hl
    have ih := meetF_none k _ _ ha2.2 hb (by simp at hk ⊢; omega) h
    intro x hx hxb
    rcases List.mem_cons.1 hx with rfl | hx
    ·rcases List.mem_cons.1 hxb with rfl | hxb
     ·exact hne rfl
     ·have h2 := less_asym hl
      rw [hb2.1 x hxb] at h2
      cases h2
    ·exact ih x hx hxb
   ·rename_i hl
    have hzl : Op.bytesLess z y = true := by
     rcases less_tot y z with h1 | h1 | h1
     ·exact absurd h1 hl
     ·exact absurd h1 hne
     ·exact h1
    have ih := meetF_none k _ _ ha hb2.2 (by simp at hk ⊢; omega) h
    intro x hx hxb
    rcases List.mem_cons.1 hxb with rfl | hxb
    ·rcases List.mem_cons.1 hx with rfl | hx
     ·exact hne rfl
     ·have h2 := less_asym hzl
      rw [ha2.1 x hx] at h2
      cases h2
    ·exact ih x hx hxb
theorem meetM_some {a b : List (List UInt8)} {x : List UInt8} (h : meetM a b = some x) : x ∈ a ∧ x ∈ b := meetF_some _ _ _ _ h
theorem meetM_none {a b : List (List UInt8)} (ha : Up a) (hb : Up b) (h : meetM a b = none) : ∀ x ∈ a, x ∉ b := meetF_none _ _ _ ha hb (Nat.le_refl _) h
theorem pairB_some {look : Ss} {a : Nat} : ∀ {l : List Nat} {b : Nat} {x : List UInt8}, pairB look a l = some (b, x) → b ∈ l ∧ meetM (look.getD a []) (look.getD b []) = some x
 | [], b, x, h => by simp [pairB] at h
 | c :: l, b, x, h => by
  unfold pairB at h
  split at h
  ·rename_i y hy
   simp only [Option.some.injEq, Prod.mk.injEq] at h
   obtain ⟨rfl, rfl⟩ := h
   exact ⟨List.mem_cons_self .., hy⟩
  ·have := pairB_some h
   exact ⟨List.mem_cons_of_mem _ this.1, this.2⟩
theorem pairB_none {look : Ss} {a : Nat} : ∀ {l : List Nat}, pairB look a l = none → ∀ b ∈ l, meetM (look.getD a []) (look.getD b []) = none
 | [], h, b, hb => by simp at hb
 | c :: l, h, b, hb => by
  unfold pairB at h
  split at h
  ·cases h
  ·rename_i hy
   rcases List.mem_cons.1 hb with rfl | hb
   ·exact hy
   ·exact pairB_none h b hb
theorem pairsM_some {look : Ss} : ∀ {l : List Nat} {a b : Nat} {x : List UInt8}, l.Pairwise (· < ·) → pairsM look l = some (a, b, x) → a ∈ l ∧ b ∈ l ∧ a < b ∧ meetM (look.getD a []) (look.getD b []) = some x
 | [], a, b, x, _, h => by simp [pairsM] at h
 | c :: l, a, b, x, hp, h => by
  have hp2 := List.pairwise_cons.1 hp
  unfold pairsM at h
  split at h
  ·rename_i b' x' hy
   simp only [Option.some.injEq, Prod.mk.injEq] at h
   obtain ⟨rfl, rfl, rfl⟩ := h
   have := pairB_some hy
   exact ⟨List.mem_cons_self .., List.mem_cons_of_mem _ this.1, hp2.1 _ this.1, this.2⟩
  ·have := pairsM_some hp2.2 h
   exact ⟨List.mem_cons_of_mem _ this.1, List.mem_cons_of_mem _ this.2.1, this.2.2⟩
theorem pairsM_none {look : Ss} : ∀ {l : List Nat}, pairsM look l = none → l.Pairwise fun a b => meetM (look.getD a []) (look.getD b []) = none
 | [], _ => List.Pairwise.nil
 | c :: l, h => by
  unfold pairsM at h
  split at h
  ·cases h
  ·rename_i hy
   exact List.pairwise_cons.2 ⟨pairB_none hy, pairsM_none h⟩
theorem confF_some {ps : List (Int × List Int)} {look : Ss} : ∀ {k left : Nat} {l a b : Nat} {x : List UInt8}, confF ps look k left = some (l, a, b, x) → left ≤ l ∧ l < left + k ∧ pairsM look (leftsM ps l) = some (a, b, x)
 | 0, left, l, a, b, x, h => by simp [confF] at h
 | k + 1, left, l, a, b, x, h => by
  unfold confF at h
  split at h
  ·rename_i a' b' x' hy
   simp only [Option.some.injEq, Prod.mk.injEq] at h
   obtain ⟨rfl, rfl, rfl, rfl⟩ := h
   exact ⟨Nat.le_refl _, by omega, hy⟩
  ·have := confF_some h
   exact ⟨by omega, by omega, this.2.2⟩
theorem confF_none {ps : List (Int × List Int)} {look : Ss} : ∀ {k left : Nat}, confF ps look k left = none → ∀ l, left ≤ l → l < left + k → pairsM look (leftsM ps l) = none
 | 0, left, h, l, h1, h2 => by omega
 | k + 1, left, h, l, h1, h2 => by
  unfold confF at h
  split at h
  ·cases h
  ·rename_i hy
   by_cases he : l = left
   ·subst he; exact hy
   ·exact confF_none h l (by omega) (by omega)
theorem lefts_sorted (ps : List (Int × List Int)) (left : Nat) : (leftsM ps left).Pairwise (· < ·) := by
 unfold leftsM
 exact List.Pairwise.filter _ List.pairwise_lt_range

theorem getD_un (ps : List Pr) (i : Nat) : ((ps.map unP).getD i (0, [])).1 = (ps.getD i ⟨0, []⟩).l := by
 rw [List.getD_eq_getElem?_getD, List.getD_eq_getElem?_getD, List.getElem?_map]
 cases ps[i]? <;> rfl
theorem lefts_un (ps : List Pr) (left : Nat) : leftsM (ps.map unP) left = ofN ps left ps.length := by
 unfold leftsM ofN
 rw [List.length_map]
 congr 1
 funext i
 rw [getD_un]
theorem look_get (g : Gm) {i : Nat} (h : i < g.ps.length) : (lookM g).getD i [] = lookP g g.ps[i] := by
 rw [List.getD_eq_getElem?_getD]
 simp [lookM, h]
theorem conf_some {g : Gm} (hg : GOk g) {l a b : Nat} {x : List UInt8} (h : confM g = some (l, a, b, x)) :
  a < b ∧ ∃ (ha : a < g.ps.length) (hb : b < g.ps.length), g.ps[a].l = l ∧ g.ps[b].l = l ∧ x ∈ lookP g g.ps[a] ∧ x ∈ lookP g g.ps[b] := by
 obtain ⟨_, _, h3⟩ := confF_some h
 obtain ⟨h4, h5, h6, h7⟩ := pairsM_some (lefts_sorted _ _) h3
 rw [lefts_un] at h4 h5
 obtain ⟨ha, hla⟩ := mem_ofN.1 h4
 obtain ⟨hb, hlb⟩ := mem_ofN.1 h5
 obtain ⟨m1, m2⟩ := meetM_some h7
 rw [look_get g ha] at m1
 rw [look_get g hb] at m2
 exact ⟨h6, ha, hb, hla, hlb, m1, m2⟩
theorem conf_none {g : Gm} (hg : GOk g) : confM g = none ↔ ∀ (a b : Nat) (ha : a < g.ps.length) (hb : b < g.ps.length), a < b → g.ps[a].l = g.ps[b].l → ∀ x ∈ lookP g g.ps[a], x ∉ lookP g g.ps[b] := by
 constructor
 ·intro h a b ha hb hab hl x hx
  have hp := hg.p _ (List.getElem_mem ha)
  have h1 := pairsM_none (confF_none h g.ps[a].l.toNat (Nat.zero_le _) (by have := hp.l0; have := hp.l1; omega))
  rw [lefts_un] at h1
  have hto : ((g.ps[a].l.toNat : Nat) : Int) = g.ps[a].l := Int.toNat_of_nonneg hp.l0
  rw [hto] at h1
  have m1 : a ∈ ofN g.ps g.ps[a].l g.ps.length := mem_ofN.2 ⟨ha, rfl⟩
  have m2 : b ∈ ofN g.ps g.ps[a].l g.ps.length := mem_ofN.2 ⟨hb, hl.symm⟩
  have hs : (ofN g.ps g.ps[a].l g.ps.length).Pairwise (· < ·) := by
   have := lefts_sorted (g.ps.map unP) g.ps[a].l.toNat
   rwa [lefts_un, hto] at this
  have key : ∀ (l : List Nat), l.Pairwise (· < ·) → l.Pairwise (fun a b => meetM ((lookM g).getD a []) ((lookM g).getD b []) = none) → a ∈ l → b ∈ l → meetM ((lookM g).getD a []) ((lookM g).getD b []) = none := by
   intro l
   induction l with
   | nil => intro _ _ h; simp at h
   | cons c l ih =>
    intro h1 h2 h3 h4
    have h1 := List.pairwise_cons.1 h1
    have h2 := List.pairwise_cons.1 h2
    rcases List.mem_cons.1 h3 with e3 | e3
    ·rcases List.mem_cons.1 h4 with e4 | e4
     ·omega
     ·rw [e3]; exact h2.1 _ e4
    ·rcases List.mem_cons.1 h4 with e4 | e4
     ·have := h1.1 _ e3; omega
     ·exact ih h1.2 h2.2 e3 e4
  have hm := key _ hs h1 m1 m2
  rw [look_get g ha, look_get g hb] at hm
  exact meetM_none (look_ok hg (List.getElem_mem ha)).up (look_ok hg (List.getElem_mem hb)).up hm x hx
 ·intro h
  cases hc : confM g with
  | none => rfl
  | some c =>
   obtain ⟨l, a, b, x⟩ := c
   obtain ⟨h1, ha, hb, h2, h3, h4, h5⟩ := conf_some hg hc
   exact absurd h5 (h a b ha hb h1 (by rw [h2, h3]) x h4)

def cnd (g : Gm) (left : Int) (row : List UInt8) (j : Nat) : Bool := decide ((g.ps.getD j ⟨0, []⟩).l = left) && hasV ((lookM g).getD j []) row
def stepW (g : Gm) (left : Int) (row : List UInt8) (s : Int × Int) (j : Nat) : Int × Int := if cnd g left row j = true then (j, s.2 + 1) else s
def wantM (g : Gm) (left : Int) (row : List UInt8) (m : Nat) : Int × Int := (List.range m).foldl (stepW g left row) (-1, 0)
theorem wantM_succ (g : Gm) (left : Int) (row : List UInt8) (m : Nat) : wantM g left row (m + 1) = stepW g left row (wantM g left row m) m := by
 simp [wantM, List.range_succ]
theorem prdF_snoc (S : Ss) (row : List UInt8) (m : Nat) : ∀ l : List Nat, prdF S row (l ++ [m]) = if prdF S row l = -1 then (if hasV (S.getD m []) row = true then (m : Int) else -1) else prdF S row l
 | [] => by simp [prdF]
 | c :: l => by
  rw [List.cons_append]
  by_cases h : hasV (S.getD c []) row = true
  ·have e : ∀ r, prdF S row (c :: r) = c := fun r => if_pos h
   rw [e, e, if_neg (by omega)]
  ·have e : ∀ r, prdF S row (c :: r) = prdF S row r := fun r => if_neg h
   rw [e, e]
   exact prdF_snoc S row m l
theorem ofN_succ2 (ps : List Pr) (left : Int) (m : Nat) : ofN ps left (m + 1) = if (ps.getD m ⟨0, []⟩).l = left then ofN ps left m ++ [m] else ofN ps left m := by
 unfold ofN
 rw [List.range_succ, List.filter_append]
 by_cases h : (ps.getD m ⟨0, []⟩).l = left
 ·rw [if_pos h]
  simp [h] at *
  simp [h]
 ·rw [if_neg h]
  simp at h
  simp [h]
theorem want_one {g : Gm} (hg : GOk g) (hc : confM g = none) (left : Int) (row : List UInt8) : ∀ m, m ≤ g.ps.length →
  ((∀ j, j < m → cnd g left row j = false) ∧ wantM g left row m = (-1, 0) ∧ prdF (lookM g) row (ofN g.ps left m) = -1) ∨
  (∃ j, j < m ∧ cnd g left row j = true ∧ wantM g left row m = ((j : Int), 1) ∧ prdF (lookM g) row (ofN g.ps left m) = j)
 | 0, _ => .inl ⟨fun j h => by omega, rfl, rfl⟩
 | m + 1, hm => by
  have hmm : m < g.ps.length := hm
  rw [wantM_succ, ofN_succ2]
  unfold stepW
  rcases want_one hg hc left row m (by omega) with ⟨h1, h2, h3⟩ | ⟨j, h1, h2, h3, h4⟩
  ·by_cases hcm : cnd g left row m = true
   ·refine .inr ⟨m, by omega, hcm, by rw [if_pos hcm, h2]; rfl, ?_⟩
    simp only [cnd, Bool.and_eq_true, decide_eq_true_eq] at hcm
    rw [if_pos hcm.1, prdF_snoc, if_pos h3, if_pos hcm.2]
   ·refine .inl ⟨fun j hj => ?_, by rw [if_neg hcm, h2], ?_⟩
    ·by_cases he : j = m
     ·subst he; simpa using hcm
     ·exact h1 j (by omega)
    ·by_cases hl : (g.ps.getD m ⟨0, []⟩).l = left
     ·rw [if_pos hl, prdF_snoc, if_pos h3, if_neg]
      intro hh
      apply hcm
      unfold cnd
      rw [hh, decide_eq_true hl]; rfl
     ·rw [if_neg hl]; exact h3
  ·have hcm : ¬ cnd g left row m = true := fun hcm => by
    simp only [cnd, Bool.and_eq_true, decide_eq_true_eq] at hcm h2
    have hjl : j < g.ps.length := by omega
    have e1 : (g.ps.getD m ⟨0, []⟩) = g.ps[m] := by rw [List.getD_eq_getElem?_getD, List.getElem?_eq_getElem hmm]; rfl
    have e2 : (g.ps.getD j ⟨0, []⟩) = g.ps[j] := by rw [List.getD_eq_getElem?_getD, List.getElem?_eq_getElem hjl]; rfl
    rw [e1, look_get g hmm, hasV_iff] at hcm
    rw [e2, look_get g hjl, hasV_iff] at h2
    exact (conf_none hg).1 hc j m hjl hmm h1 (by rw [h2.1, hcm.1]) row h2.2 hcm.2
   refine .inr ⟨j, by omega, h2, by rw [if_neg hcm, h3], ?_⟩
   by_cases hl : (g.ps.getD m ⟨0, []⟩).l = left
   ·rw [if_pos hl, prdF_snoc, if_neg (by rw [h4]; omega)]; exact h4
   ·rw [if_neg hl]; exact h4
theorem prdM_look {g : Gm} (hc : chkE g = 0) (left : Int) (row : List UInt8) : prdM g (lookM g) left row = prdF (lookM g) row (ofN g.ps left g.ps.length) := by
 unfold prdM
 rw [if_neg (by rw [lookM_len]; simp), if_neg (by simp [hc])]
theorem ofN_none {g : Gm} (hg : GOk g) {left : Int} (h : left < 0 ∨ g.n ≤ left) : ofN g.ps left g.ps.length = [] := by
 rw [List.eq_nil_iff_forall_not_mem]
 intro i hi
 obtain ⟨h1, h2⟩ := mem_ofN.1 hi
 have := hg.p _ (List.getElem_mem h1)
 have := this.l0
 have := (hg.p _ (List.getElem_mem h1)).l1
 omega

section
variable {g h : Gm} (hg : GOk g) (hh : GOk h) (ht : h.t = g.t) (hp : h.ps = g.ps) (hk : g.k ≤ h.k)
include hg hh ht hp hk
end
theorem build_ok {g : Gm} (hc : chkE g = 0) : buildE g = 0 ↔ confM g = none := by
 unfold buildE
 rw [if_pos hc]
 cases confM g <;> simp
theorem build_bad {g : Gm} (hc : chkE g = 0) (h : ¬ buildE g = 0) : buildE g = 9 := by
 unfold buildE at h ⊢
 rw [if_pos hc] at h ⊢
 cases hm : confM g with
 | none => rw [hm] at h; simp at h
 | some c => rfl
end Go.Proofs.Ytgbpioccaenjaaa
