import Derived.Test.YtgbpioccaenjaaaGW
import Derived.Test.YtgbpioccaenjaaaGE
set_option linter.unusedSimpArgs false
set_option linter.unusedVariables false
namespace Go.Proofs.Ytgbpioccaenjaaa
open Go Go.Hm

theorem meetF_some : ∀ (k : Nat) (a b : List (List UInt8)) (x : List UInt8), meetF k a b = some x → x ∈ a ∧ x ∈ b
  | 0, a, b, x, h => by simp [meetF] at h
  | k + 1, [], b, x, h => by simp [meetF] at h
  | k + 1, y :: a, [], x, h => by simp [meetF] at h
  | k + 1, y :: a, z :: b, x, h => by
    unfold meetF at h
    split at h
    · rename_i e
      simp only [Option.some.injEq] at h
      subst h; subst e
      exact ⟨List.mem_cons_self .., List.mem_cons_self ..⟩
    · split at h
      · have := meetF_some k _ _ x h
        exact ⟨List.mem_cons_of_mem _ this.1, this.2⟩
      · have := meetF_some k _ _ x h
        exact ⟨this.1, List.mem_cons_of_mem _ this.2⟩
theorem meetF_none : ∀ (k : Nat) (a b : List (List UInt8)), Up a → Up b → a.length + b.length ≤ k → meetF k a b = none → ∀ x ∈ a, x ∉ b
  | 0, a, b, _, _, hk, _ => fun x hx => by
    have : a = [] := List.eq_nil_of_length_eq_zero (by omega)
    subst this; simp at hx
  | k + 1, [], b, _, _, _, _ => fun x hx => by simp at hx
  | k + 1, y :: a, [], _, _, _, _ => fun x _ hx => by simp at hx
  | k + 1, y :: a, z :: b, ha, hb, hk, h => by
    have ha2 := List.pairwise_cons.1 ha
    have hb2 := List.pairwise_cons.1 hb
    unfold meetF at h
    split at h
    · cases h
    · rename_i hne
      split at h
      · rename_i hl
        have ih := meetF_none k _ _ ha2.2 hb (by simp at hk ⊢; omega) h
        intro x hx hxb
        rcases List.mem_cons.1 hx with rfl | hx
        · rcases List.mem_cons.1 hxb with rfl | hxb
          · exact hne rfl
          · have h2 := less_asym hl
            rw [hb2.1 x hxb] at h2
            cases h2
        · exact ih x hx hxb
      · rename_i hl
        have hzl : Op.bytesLess z y = true := by
          rcases less_tot y z with h1 | h1 | h1
          · exact absurd h1 hl
          · exact absurd h1 hne
          · exact h1
        have ih := meetF_none k _ _ ha hb2.2 (by simp at hk ⊢; omega) h
        intro x hx hxb
        rcases List.mem_cons.1 hxb with rfl | hxb
        · rcases List.mem_cons.1 hx with rfl | hx
          · exact hne rfl
          · have h2 := less_asym hzl
            rw [ha2.1 x hx] at h2
            cases h2
        · exact ih x hx hxb
theorem meetM_some {a b : List (List UInt8)} {x : List UInt8} (h : meetM a b = some x) : x ∈ a ∧ x ∈ b := meetF_some _ _ _ _ h
theorem meetM_none {a b : List (List UInt8)} (ha : Up a) (hb : Up b) (h : meetM a b = none) : ∀ x ∈ a, x ∉ b := meetF_none _ _ _ ha hb (Nat.le_refl _) h
theorem pairB_some {look : Ss} {a : Nat} : ∀ {l : List Nat} {b : Nat} {x : List UInt8}, pairB look a l = some (b, x) → b ∈ l ∧ meetM (look.getD a []) (look.getD b []) = some x
  | [], b, x, h => by simp [pairB] at h
  | c :: l, b, x, h => by
    unfold pairB at h
    split at h
    · rename_i y hy
      simp only [Option.some.injEq, Prod.mk.injEq] at h
      obtain ⟨rfl, rfl⟩ := h
      exact ⟨List.mem_cons_self .., hy⟩
    · have := pairB_some h
      exact ⟨List.mem_cons_of_mem _ this.1, this.2⟩
theorem pairB_none {look : Ss} {a : Nat} : ∀ {l : List Nat}, pairB look a l = none → ∀ b ∈ l, meetM (look.getD a []) (look.getD b []) = none
  | [], h, b, hb => by simp at hb
  | c :: l, h, b, hb => by
    unfold pairB at h
    split at h
    · cases h
    · rename_i hy
      rcases List.mem_cons.1 hb with rfl | hb
      · exact hy
      · exact pairB_none h b hb
theorem pairsM_some {look : Ss} : ∀ {l : List Nat} {a b : Nat} {x : List UInt8}, l.Pairwise (· < ·) → pairsM look l = some (a, b, x) → a ∈ l ∧ b ∈ l ∧ a < b ∧ meetM (look.getD a []) (look.getD b []) = some x
  | [], a, b, x, _, h => by simp [pairsM] at h
  | c :: l, a, b, x, hp, h => by
    have hp2 := List.pairwise_cons.1 hp
    unfold pairsM at h
    split at h
    · rename_i b' x' hy
      simp only [Option.some.injEq, Prod.mk.injEq] at h
      obtain ⟨rfl, rfl, rfl⟩ := h
      have := pairB_some hy
      exact ⟨List.mem_cons_self .., List.mem_cons_of_mem _ this.1, hp2.1 _ this.1, this.2⟩
    · have := pairsM_some hp2.2 h
      exact ⟨List.mem_cons_of_mem _ this.1, List.mem_cons_of_mem _ this.2.1, this.2.2⟩
theorem pairsM_none {look : Ss} : ∀ {l : List Nat}, pairsM look l = none → l.Pairwise fun a b => meetM (look.getD a []) (look.getD b []) = none
  | [], _ => List.Pairwise.nil
  | c :: l, h => by
    unfold pairsM at h
    split at h
    · cases h
    · rename_i hy
      exact List.pairwise_cons.2 ⟨pairB_none hy, pairsM_none h⟩
theorem confF_some {ps : List (Int × List Int)} {look : Ss} : ∀ {k left : Nat} {l a b : Nat} {x : List UInt8}, confF ps look k left = some (l, a, b, x) → left ≤ l ∧ l < left + k ∧ pairsM look (leftsM ps l) = some (a, b, x)
  | 0, left, l, a, b, x, h => by simp [confF] at h
  | k + 1, left, l, a, b, x, h => by
    unfold confF at h
    split at h
    · rename_i a' b' x' hy
      simp only [Option.some.injEq, Prod.mk.injEq] at h
      obtain ⟨rfl, rfl, rfl, rfl⟩ := h
      exact ⟨Nat.le_refl _, by omega, hy⟩
    · have := confF_some h
      exact ⟨by omega, by omega, this.2.2⟩
theorem confF_none {ps : List (Int × List Int)} {look : Ss} : ∀ {k left : Nat}, confF ps look k left = none → ∀ l, left ≤ l → l < left + k → pairsM look (leftsM ps l) = none
  | 0, left, h, l, h1, h2 => by omega
  | k + 1, left, h, l, h1, h2 => by
    unfold confF at h
    split at h
    · cases h
    · rename_i hy
      by_cases he : l = left
      · subst he; exact hy
      · exact confF_none h l (by omega) (by omega)
theorem lefts_sorted (ps : List (Int × List Int)) (left : Nat) : (leftsM ps left).Pairwise (· < ·) := by
  unfold leftsM
  exact List.Pairwise.filter _ List.pairwise_lt_range

theorem getD_un (ps : List Pr) (i : Nat) : ((ps.map unP).getD i (0, [])).1 = (ps.getD i ⟨0, []⟩).l := by
  rw [List.getD_eq_getElem?_getD, List.getD_eq_getElem?_getD, List.getElem?_map]
  cases ps[i]? <;> rfl
theorem lefts_un (ps : List Pr) (left : Nat) : leftsM (ps.map unP) left = ofN ps left ps.length := by
  unfold leftsM ofN
  rw [List.length_map]
  congr 1
  funext i
  rw [getD_un]
theorem look_get (g : Gm) {i : Nat} (h : i < g.ps.length) : (lookM g).getD i [] = lookP g g.ps[i] := by
  rw [List.getD_eq_getElem?_getD]
  simp [lookM, h]
theorem conf_some {g : Gm} (hg : GOk g) {l a b : Nat} {x : List UInt8} (h : confM g = some (l, a, b, x)) :
    a < b ∧ ∃ (ha : a < g.ps.length) (hb : b < g.ps.length), g.ps[a].l = l ∧ g.ps[b].l = l ∧ x ∈ lookP g g.ps[a] ∧ x ∈ lookP g g.ps[b] := by
  obtain ⟨_, _, h3⟩ := confF_some h
  obtain ⟨h4, h5, h6, h7⟩ := pairsM_some (lefts_sorted _ _) h3
  rw [lefts_un] at h4 h5
  obtain ⟨ha, hla⟩ := mem_ofN.1 h4
  obtain ⟨hb, hlb⟩ := mem_ofN.1 h5
  obtain ⟨m1, m2⟩ := meetM_some h7
  rw [look_get g ha] at m1
  rw [look_get g hb] at m2
  exact ⟨h6, ha, hb, hla, hlb, m1, m2⟩
theorem conf_none {g : Gm} (hg : GOk g) : confM g = none ↔ ∀ (a b : Nat) (ha : a < g.ps.length) (hb : b < g.ps.length), a < b → g.ps[a].l = g.ps[b].l → ∀ x ∈ lookP g g.ps[a], x ∉ lookP g g.ps[b] := by
  constructor
  · intro h a b ha hb hab hl x hx
    have hp := hg.p _ (List.getElem_mem ha)
    have h1 := pairsM_none (confF_none h g.ps[a].l.toNat (Nat.zero_le _) (by have := hp.l0; have := hp.l1; omega))
    rw [lefts_un] at h1
    have hto : ((g.ps[a].l.toNat : Nat) : Int) = g.ps[a].l := Int.toNat_of_nonneg hp.l0
    rw [hto] at h1
    have m1 : a ∈ ofN g.ps g.ps[a].l g.ps.length := mem_ofN.2 ⟨ha, rfl⟩
    have m2 : b ∈ ofN g.ps g.ps[a].l g.ps.length := mem_ofN.2 ⟨hb, hl.symm⟩
    have hs : (ofN g.ps g.ps[a].l g.ps.length).Pairwise (· < ·) := by
      have := lefts_sorted (g.ps.map unP) g.ps[a].l.toNat
      rwa [lefts_un, hto] at this
    have key : ∀ (l : List Nat), l.Pairwise (· < ·) → l.Pairwise (fun a b => meetM ((lookM g).getD a []) ((lookM g).getD b []) = none) → a ∈ l → b ∈ l → meetM ((lookM g).getD a []) ((lookM g).getD b []) = none := by
      intro l
      induction l with
      | nil => intro _ _ h; simp at h
      | cons c l ih =>
        intro h1 h2 h3 h4
        have h1 := List.pairwise_cons.1 h1
        have h2 := List.pairwise_cons.1 h2
        rcases List.mem_cons.1 h3 with e3 | e3
        · rcases List.mem_cons.1 h4 with e4 | e4
          · omega
          · rw [e3]; exact h2.1 _ e4
        · rcases List.mem_cons.1 h4 with e4 | e4
          · have := h1.1 _ e3; omega
          · exact ih h1.2 h2.2 e3 e4
    have hm := key _ hs h1 m1 m2
    rw [look_get g ha, look_get g hb] at hm
    exact meetM_none (look_ok hg (List.getElem_mem ha)).up (look_ok hg (List.getElem_mem hb)).up hm x hx
  · intro h
    cases hc : confM g with
    | none => rfl
    | some c =>
      obtain ⟨l, a, b, x⟩ := c
      obtain ⟨h1, ha, hb, h2, h3, h4, h5⟩ := conf_some hg hc
      exact absurd h5 (h a b ha hb h1 (by rw [h2, h3]) x h4)

def cnd (g : Gm) (left : Int) (row : List UInt8) (j : Nat) : Bool := decide ((g.ps.getD j ⟨0, []⟩).l = left) && hasV ((lookM g).getD j []) row
def stepW (g : Gm) (left : Int) (row : List UInt8) (s : Int × Int) (j : Nat) : Int × Int := if cnd g left row j = true then (j, s.2 + 1) else s
def wantM (g : Gm) (left : Int) (row : List UInt8) (m : Nat) : Int × Int := (List.range m).foldl (stepW g left row) (-1, 0)
theorem wantM_succ (g : Gm) (left : Int) (row : List UInt8) (m : Nat) : wantM g left row (m + 1) = stepW g left row (wantM g left row m) m := by
  simp [wantM, List.range_succ]
theorem prdF_snoc (S : Ss) (row : List UInt8) (m : Nat) : ∀ l : List Nat, prdF S row (l ++ [m]) = if prdF S row l = -1 then (if hasV (S.getD m []) row = true then (m : Int) else -1) else prdF S row l
  | [] => by simp [prdF]
  | c :: l => by
    rw [List.cons_append]
    by_cases h : hasV (S.getD c []) row = true
    · have e : ∀ r, prdF S row (c :: r) = c := fun r => if_pos h
      rw [e, e, if_neg (by omega)]
    · have e : ∀ r, prdF S row (c :: r) = prdF S row r := fun r => if_neg h
      rw [e, e]
      exact prdF_snoc S row m l
theorem ofN_succ2 (ps : List Pr) (left : Int) (m : Nat) : ofN ps left (m + 1) = if (ps.getD m ⟨0, []⟩).l = left then ofN ps left m ++ [m] else ofN ps left m := by
  unfold ofN
  rw [List.range_succ, List.filter_append]
  by_cases h : (ps.getD m ⟨0, []⟩).l = left
  · rw [if_pos h]
    simp [h] at *
    simp [h]
  · rw [if_neg h]
    simp at h
    simp [h]
theorem want_one {g : Gm} (hg : GOk g) (hc : confM g = none) (left : Int) (row : List UInt8) : ∀ m, m ≤ g.ps.length →
    ((∀ j, j < m → cnd g left row j = false) ∧ wantM g left row m = (-1, 0) ∧ prdF (lookM g) row (ofN g.ps left m) = -1) ∨
    (∃ j, j < m ∧ cnd g left row j = true ∧ wantM g left row m = ((j : Int), 1) ∧ prdF (lookM g) row (ofN g.ps left m) = j)
  | 0, _ => .inl ⟨fun j h => by omega, rfl, rfl⟩
  | m + 1, hm => by
    have hmm : m < g.ps.length := hm
    rw [wantM_succ, ofN_succ2]
    unfold stepW
    rcases want_one hg hc left row m (by omega) with ⟨h1, h2, h3⟩ | ⟨j, h1, h2, h3, h4⟩
    · by_cases hcm : cnd g left row m = true
      · refine .inr ⟨m, by omega, hcm, by rw [if_pos hcm, h2]; rfl, ?_⟩
        simp only [cnd, Bool.and_eq_true, decide_eq_true_eq] at hcm
        rw [if_pos hcm.1, prdF_snoc, if_pos h3, if_pos hcm.2]
      · refine .inl ⟨fun j hj => ?_, by rw [if_neg hcm, h2], ?_⟩
        · by_cases he : j = m
          · subst he; simpa using hcm
          · exact h1 j (by omega)
        · by_cases hl : (g.ps.getD m ⟨0, []⟩).l = left
          · rw [if_pos hl, prdF_snoc, if_pos h3, if_neg]
            intro hh
            apply hcm
            unfold cnd
            rw [hh, decide_eq_true hl]; rfl
          · rw [if_neg hl]; exact h3
    · have hcm : ¬ cnd g left row m = true := fun hcm => by
        simp only [cnd, Bool.and_eq_true, decide_eq_true_eq] at hcm h2
        have hjl : j < g.ps.length := by omega
        have e1 : (g.ps.getD m ⟨0, []⟩) = g.ps[m] := by rw [List.getD_eq_getElem?_getD, List.getElem?_eq_getElem hmm]; rfl
        have e2 : (g.ps.getD j ⟨0, []⟩) = g.ps[j] := by rw [List.getD_eq_getElem?_getD, List.getElem?_eq_getElem hjl]; rfl
        rw [e1, look_get g hmm, hasV_iff] at hcm
        rw [e2, look_get g hjl, hasV_iff] at h2
        exact (conf_none hg).1 hc j m hjl hmm h1 (by rw [h2.1, hcm.1]) row h2.2 hcm.2
      refine .inr ⟨j, by omega, h2, by rw [if_neg hcm, h3], ?_⟩
      by_cases hl : (g.ps.getD m ⟨0, []⟩).l = left
      · rw [if_pos hl, prdF_snoc, if_neg (by rw [h4]; omega)]; exact h4
      · rw [if_neg hl]; exact h4
theorem prdM_look {g : Gm} (hc : chkE g = 0) (left : Int) (row : List UInt8) : prdM g (lookM g) left row = prdF (lookM g) row (ofN g.ps left g.ps.length) := by
  unfold prdM
  rw [if_neg (by rw [lookM_len]; simp), if_neg (by simp [hc])]
section
variable {g h : Gm} (hg : GOk g) (hh : GOk h) (ht : h.t = g.t) (hp : h.ps = g.ps) (hk : g.k ≤ h.k)
include hg hh ht hp hk
theorem of_cut {p : Pr} (hpp : p ∈ g.ps) {z : List UInt8} (hz : z ∈ ofM h (setsM h) p.r) : z.take g.k.toNat ∈ ofM g (setsM g) p.r ∧ NoEnd z := by
  have hkn : g.k.toNat ≤ h.k.toNat := by omega
  have hr : ∀ s ∈ p.r, 0 ≤ s := fun s hs => ((hg.p p hpp).s s hs).1
  have hne : NoEnd z := noend_of hh ((ofM_ok hh (sets_ok hh) hr).b z hz)
  refine ⟨?_, hne⟩
  have hcut := sets_cut hh hg ht.symm hp.symm hk
  obtain ⟨t, ht2, rfl⟩ := (of_pick hh (sets_ok hh) hr z).1 hz
  obtain ⟨u, hu, e⟩ := pick_cut (g := g) g.k.toNat _ _ _ ht2 (nxt g (setsM g)) fun s _ x hx => by
    unfold nxt at hx ⊢
    rw [ht] at hx
    split at hx
    · rename_i hs; rw [if_pos hs]; exact ⟨x, hx, rfl⟩
    · rename_i hs
      rw [if_neg hs, ← hcut]
      exact ⟨x.take g.k.toNat, mem_cut.2 ⟨x, hx, rfl⟩, by rw [List.take_take, Nat.min_self]⟩
  rw [List.take_take, Nat.min_eq_left hkn, ← e]
  exact (of_pick hg (sets_ok hg) hr _).2 ⟨u, hu, rfl⟩
theorem look_cut {p : Pr} (hpp : p ∈ g.ps) {x : List UInt8} (hx : x ∈ lookP h p) : x.take g.k.toNat ∈ lookP g p := by
  have hkn : g.k.toNat ≤ h.k.toNat := by omega
  obtain ⟨r, hr, s, hs, rfl⟩ := mem_cat.1 hx
  obtain ⟨h1, h2⟩ := of_cut hg hh ht hp hk hpp hr
  have hF := fol_cut hh hg ht.symm hp.symm hk p.l.toNat
  have hs2 : s.take g.k.toNat ∈ (folM g).getD p.l.toNat [] := by rw [← hF]; exact mem_cut.2 ⟨s, hs, rfl⟩
  refine mem_cat.2 ⟨_, h1, _, hs2, ?_⟩
  have hne : NoEnd (r.take g.k.toNat) := fun c hc => h2 c (List.mem_of_mem_take hc)
  rw [join_noend h2, join_noend hne, List.take_take, Nat.min_eq_left hkn, ← take_app]
theorem strong_more (hc : confM g = none) : confM h = none := by
  rw [conf_none hh]
  intro a b ha hb hab hl x hx hx2
  have ha2 : a < g.ps.length := by rw [← hp]; exact ha
  have hb2 : b < g.ps.length := by rw [← hp]; exact hb
  have ea : h.ps[a] = g.ps[a] := by simp [hp]
  have eb : h.ps[b] = g.ps[b] := by simp [hp]
  rw [ea] at hx hl
  rw [eb] at hx2 hl
  exact (conf_none hg).1 hc a b ha2 hb2 hab hl _ (look_cut hg hh ht hp hk (List.getElem_mem ha2) hx) (look_cut hg hh ht hp hk (List.getElem_mem hb2) hx2)
theorem prd_more (hc : confM g = none) (left : Int) (row : List UInt8) (hb : 0 ≤ prdF (lookM h) row (ofN h.ps left h.ps.length)) :
    prdF (lookM g) (row.take g.k.toNat) (ofN g.ps left g.ps.length) = prdF (lookM h) row (ofN h.ps left h.ps.length) := by
  rcases want_one hh (strong_more hg hh ht hp hk hc) left row _ (Nat.le_refl _) with ⟨_, _, h3⟩ | ⟨j, h1, h2, _, h4⟩
  · rw [h3] at hb; omega
  · rw [h4]
    have hj : j < g.ps.length := by rw [← hp]; exact h1
    simp only [cnd, Bool.and_eq_true, decide_eq_true_eq] at h2
    rw [look_get h h1, hasV_iff] at h2
    have e : h.ps[j] = g.ps[j] := by simp [hp]
    rw [e] at h2
    have hm := look_cut hg hh ht hp hk (List.getElem_mem hj) h2.2
    have hcj : cnd g left (row.take g.k.toNat) j = true := by
      unfold cnd
      rw [look_get g hj, hasV_iff.2 hm, Bool.and_true, decide_eq_true_eq, ← hp]
      exact h2.1
    rcases want_one hg hc left (row.take g.k.toNat) _ (Nat.le_refl _) with ⟨k1, _, _⟩ | ⟨i, k1, k2, _, k4⟩
    · rw [k1 j hj] at hcj; cases hcj
    · rw [k4]
      -- both are it
      simp only [cnd, Bool.and_eq_true, decide_eq_true_eq] at hcj k2
      have ei : (g.ps.getD i ⟨0, []⟩) = g.ps[i] := by rw [List.getD_eq_getElem?_getD, List.getElem?_eq_getElem k1]; rfl
      have ej : (g.ps.getD j ⟨0, []⟩) = g.ps[j] := by rw [List.getD_eq_getElem?_getD, List.getElem?_eq_getElem hj]; rfl
      rw [ei, look_get g k1, hasV_iff] at k2
      rw [ej, look_get g hj, hasV_iff] at hcj
      rcases Nat.lt_trichotomy i j with h5 | h5 | h5
      · exact absurd hcj.2 ((conf_none hg).1 hc i j k1 hj h5 (by rw [k2.1, hcj.1]) _ k2.2)
      · rw [h5]
      · exact absurd k2.2 ((conf_none hg).1 hc j i hj k1 h5 (by rw [k2.1, hcj.1]) _ hcj.2)
end
end Go.Proofs.Ytgbpioccaenjaaa

namespace Go.Proofs.Ytgbpioccaenjaaa
open Go Go.Hm

theorem chk_k {g : Gm} (hc : chkE g = 0) {k : Int} (h1 : 1 ≤ k) (h3 : k ≤ 3) : chkE ⟨g.t, g.n, k, g.ps⟩ = 0 := by
  have ok := gok_of hc
  unfold chkE at hc ⊢
  have e : badP ⟨g.t, g.n, k, g.ps⟩ = badP g := by funext p; rfl
  have := ok.t1; have := ok.t2; have := ok.n1; have := ok.n2; have := ok.k1; have := ok.k2; have := ok.l1; have := ok.l2
  rw [if_neg (by omega)] at hc
  rw [if_neg (show ¬(8 < g.t ∨ 16 < g.n ∨ 3 < k ∨ 64 < g.ps.length) by omega)]
  simp only at hc ⊢
  split at hc
  · omega
  · rename_i h5
    rw [if_neg h5]
    rw [if_neg (by omega)] at hc
    rw [if_neg (show ¬(g.t < 1 ∨ g.n < 1 ∨ k < 1 ∨ g.ps.length < 1) by omega), e]
    exact hc
theorem build_ok {g : Gm} (hc : chkE g = 0) : buildE g = 0 ↔ confM g = none := by
  unfold buildE
  rw [if_pos hc]
  cases confM g <;> simp
theorem build_bad {g : Gm} (hc : chkE g = 0) (h : ¬ buildE g = 0) : buildE g = 9 := by
  unfold buildE at h ⊢
  rw [if_pos hc] at h ⊢
  cases hm : confM g with
  | none => rw [hm] at h; simp at h
  | some c => rfl
def t4R : AC := (.seq (.regN [1, 2, 5] [
 ⟨some 46, none, .ldA (some 2) 4 (.tmp 2), 0, false⟩,⟨some 47, none, .call 13 [(.tmp 46)], 0, false⟩,⟨some 45, none, .mv (.tmp 47), 0, false⟩,⟨some 48, none, .ext (.tmp 45) 0, 0, false⟩,⟨some 49, none, .ext (.tmp 45) 1, 0, false⟩,⟨some 50, none, .ext (.tmp 45) 2, 0, false⟩,⟨some 6, none, .allocR [.e0], 0, false⟩,⟨some 7, none, .allocR [(.val (.int .i64 0)), (.val (.int .i64 0)), (.val (.int .i64 0)), (.val (.string ⟨#[]⟩))], 0, false⟩,⟨none, none, .st (some 6) 1 (.tmp 6) (.tmp 48), 0, false⟩,⟨none, none, .st (some 7) 4 (.tmp 7) (.tmp 49), 0, false⟩,⟨some 8, none, .mv (.tmp 50), 0, false⟩])
 (.seq (.regN [1, 2, 5, 6, 8] [
 ⟨some 52, none, .ldA (some 5) 4 (.tmp 5), 0, false⟩,⟨some 53, none, .call 13 [(.tmp 52)], 0, false⟩,⟨some 51, none, .mv (.tmp 53), 0, false⟩,⟨some 54, none, .ext (.tmp 51) 0, 0, false⟩,⟨some 55, none, .ext (.tmp 51) 1, 0, false⟩,⟨some 56, none, .ext (.tmp 51) 2, 0, false⟩,⟨some 9, none, .allocR [.e0], 0, false⟩,⟨some 10, none, .allocR [(.val (.int .i64 0)), (.val (.int .i64 0)), (.val (.int .i64 0)), (.val (.string ⟨#[]⟩))], 0, false⟩,⟨none, none, .st (some 9) 1 (.tmp 9) (.tmp 54), 0, false⟩,⟨none, none, .st (some 10) 4 (.tmp 10) (.tmp 55), 0, false⟩,⟨some 11, none, .mv (.tmp 56), 0, false⟩])
 (.seq (.seq (.regN [1, 2, 5, 6, 8, 9, 11] [
 ⟨some 57, none, .mv (.tmp 8), 0, false⟩,⟨some 58, none, .bini .neq (.tmp 57) (.con (.val (.int .i64 0))), 0, false⟩])
 (.cond (.tmp 58)
 (.seq (.regN [8] [
 ⟨some 59, none, .mv (.tmp 8), 0, false⟩,⟨some 60, none, .bini .eql (.tmp 59) (.con (.val (.int .i64 9))), 0, false⟩,⟨some 4, none, .mv (.tmp 60), 0, false⟩])
 .ret)
 .skip))
 (.seq (.seq (.regN [1, 2, 5, 6, 9, 11] [
 ⟨some 61, none, .mv (.tmp 11), 0, false⟩,⟨some 62, none, .bini .neq (.tmp 61) (.con (.val (.int .i64 0))), 0, false⟩])
 (.cond (.tmp 62)
 (.seq (.regN [] [
 ⟨some 4, none, .mv (.con (.val (.bool false))), 0, false⟩])
 .ret)
 .skip))
 (.seq (.seq (.regN [1, 2, 5, 6, 9] [
 ⟨some 12, none, .mv (.con (.val (.int .i64 0))), 0, false⟩])
 (.block 0
 (.loop [1, 2, 5, 6, 9, 12] t4L1)))
 (.seq (.regN [] [
 ⟨some 4, none, .mv (.con (.val (.bool true))), 0, false⟩])
 .ret))))))
set_option maxRecDepth 20000 in
theorem r46 {C : Orc} {Q : Ex → Kt} {E : Env} {g1 g2 g3 : AV} {m : Nat} {cs : List AV} {tv : AV} {row : List UInt8} {l1 a1 b1 : Nat} {x1 : List UInt8} {e1 : Int} {h : List AV} (htv : tv = .e0 ∨ ∃ m cs, tv = .sl m cs)
    (hE : restrict [1, 2, 5] E = [(1, Sg row), (2, .box [g1, g2, g3, .sl m cs]), (5, .box h)])
    (kb1 : C 0 0 13 [.agg [g1, g2, g3, .sl m cs]] [] = some (.tup [.agg [tv], .agg [I l1, I a1, I b1, Sg x1], I e1], []))
    (hQ : ∀ E', restrict [1, 2, 5, 6, 8] E' = [(1, Sg row), (2, .box [g1, g2, g3, .sl m cs]), (5, .box h), (6, .box [tv]), (8, I e1)] → Q .nrm E' []) :
    WB ⟨C, 0, 0, [2, 5, 6, 7, 9, 10]⟩ (.regN [1, 2, 5] [ ⟨some 46, none, .ldA (some 2) 4 (.tmp 2), 0, false⟩,⟨some 47, none, .call 13 [(.tmp 46)], 0, false⟩,⟨some 45, none, .mv (.tmp 47), 0, false⟩,⟨some 48, none, .ext (.tmp 45) 0, 0, false⟩,⟨some 49, none, .ext (.tmp 45) 1, 0, false⟩,⟨some 50, none, .ext (.tmp 45) 2, 0, false⟩,⟨some 6, none, .allocR [.e0], 0, false⟩,⟨some 7, none, .allocR [(.val (.int .i64 0)), (.val (.int .i64 0)), (.val (.int .i64 0)), (.val (.string ⟨#[]⟩))], 0, false⟩,⟨none, none, .st (some 6) 1 (.tmp 6) (.tmp 48), 0, false⟩,⟨none, none, .st (some 7) 4 (.tmp 7) (.tmp 49), 0, false⟩,⟨some 8, none, .mv (.tmp 50), 0, false⟩]) Q E [] := by
  rw [wb_regN, hE]
  rcases htv with rfl | ⟨m1, c1, rfl⟩
  all_goals
    simp [kb1, replaceAt]
    refine hQ _ ?_
    rfl
set_option maxRecDepth 20000 in
theorem r52 {C : Orc} {Q : Ex → Kt} {E : Env} {g1 g2 g3 : AV} {m : Nat} {cs : List AV} {uv : AV} {row : List UInt8} {l1 a1 b1 : Nat} {x1 : List UInt8} {e1 e2 : Int} {h : List AV} {tv : AV} (htv : uv = .e0 ∨ ∃ m cs, uv = .sl m cs)
    (hE : restrict [1, 2, 5, 6, 8] E = [(1, Sg row), (2, .box h), (5, .box [g1, g2, g3, .sl m cs]), (6, .box [tv]), (8, I e1)])
    (kb1 : C 0 0 13 [.agg [g1, g2, g3, .sl m cs]] [] = some (.tup [.agg [uv], .agg [I l1, I a1, I b1, Sg x1], I e2], []))
    (hQ : ∀ E', restrict [1, 2, 5, 6, 8, 9, 11] E' = [(1, Sg row), (2, .box h), (5, .box [g1, g2, g3, .sl m cs]), (6, .box [tv]), (8, I e1), (9, .box [uv]), (11, I e2)] → Q .nrm E' []) :
    WB ⟨C, 0, 0, [2, 5, 6, 7, 9, 10]⟩ (.regN [1, 2, 5, 6, 8] [ ⟨some 52, none, .ldA (some 5) 4 (.tmp 5), 0, false⟩,⟨some 53, none, .call 13 [(.tmp 52)], 0, false⟩,⟨some 51, none, .mv (.tmp 53), 0, false⟩,⟨some 54, none, .ext (.tmp 51) 0, 0, false⟩,⟨some 55, none, .ext (.tmp 51) 1, 0, false⟩,⟨some 56, none, .ext (.tmp 51) 2, 0, false⟩,⟨some 9, none, .allocR [.e0], 0, false⟩,⟨some 10, none, .allocR [(.val (.int .i64 0)), (.val (.int .i64 0)), (.val (.int .i64 0)), (.val (.string ⟨#[]⟩))], 0, false⟩,⟨none, none, .st (some 9) 1 (.tmp 9) (.tmp 54), 0, false⟩,⟨none, none, .st (some 10) 4 (.tmp 10) (.tmp 55), 0, false⟩,⟨some 11, none, .mv (.tmp 56), 0, false⟩]) Q E [] := by
  rw [wb_regN, hE]
  rcases htv with rfl | ⟨m1, c1, rfl⟩
  all_goals
    simp [kb1, replaceAt]
    refine hQ _ ?_
    rfl
set_option maxRecDepth 20000 in
theorem r69 {C : Orc} {Q : Ex → Kt} {E : Env} {t n k K : Int} {m : Nat} {cs : List AV} {tv uv : AV} {row : List UInt8} {left p1 p2 : Int} (hk : 0 ≤ k) (hk3 : k ≤ 3) (hrow : row.length ≤ 20) (htv : tv = .e0 ∨ ∃ m cs, tv = .sl m cs) (huv : uv = .e0 ∨ ∃ m cs, uv = .sl m cs)
    (hE : restrict [1, 2, 5, 6, 9, 12] E = [(1, Sg row), (2, .box [I t, I n, I k, .sl m cs]), (5, .box [I t, I n, I K, .sl m cs]), (6, .box [tv]), (9, .box [uv]), (12, I left)])
    (kp1 : C 0 0 17 [.agg [I t, I n, I k, .sl m cs], .agg [tv], I left, Sg (row.take k.toNat)] [] = some (I p1, []))
    (kp2 : C 0 0 17 [.agg [I t, I n, I K, .sl m cs], .agg [uv], I left, Sg row] [] = some (I p2, []))
    (hQ : ∀ E', restrict [1, 2, 5, 6, 9, 12, 13, 14] E' = [(1, Sg row), (2, .box [I t, I n, I k, .sl m cs]), (5, .box [I t, I n, I K, .sl m cs]), (6, .box [tv]), (9, .box [uv]), (12, I left), (13, I p1), (14, I p2)] → Q .nrm E' []) :
    WB ⟨C, 0, 0, [2, 5, 6, 7, 9, 10]⟩ (.regD [1, 2, 5, 6, 9, 12] 0 [ ⟨some 69, none, .ldA (some 2) 4 (.tmp 2), 0, false⟩,⟨some 70, none, .ldA (some 6) 1 (.tmp 6), 0, false⟩,⟨some 71, none, .mv (.tmp 12), 0, false⟩,⟨some 72, none, .mv (.tmp 1), 0, false⟩,⟨some 73, none, .fldA 2 (.tmp 2), 0, false⟩,⟨some 74, none, .ld1 (some 2) (.tmp 73), 0, false⟩,⟨some 75, none, .mv (.tmp 1), 0, false⟩,⟨some 76, none, .len true (.tmp 75), 0, false⟩,⟨some 77, none, .mm false [(.tmp 74), (.tmp 76)], 0, false⟩,⟨some 78, none, .slS (.tmp 72) none (some (.tmp 77)), 0, false⟩,⟨some 79, none, .call 17 [(.tmp 69), (.tmp 70), (.tmp 71), (.tmp 78)], 0, true⟩,⟨some 80, none, .ldA (some 5) 4 (.tmp 5), 0, false⟩,⟨some 81, none, .ldA (some 9) 1 (.tmp 9), 0, false⟩,⟨some 82, none, .mv (.tmp 12), 0, false⟩,⟨some 83, none, .mv (.tmp 1), 0, false⟩,⟨some 84, none, .call 17 [(.tmp 80), (.tmp 81), (.tmp 82), (.tmp 83)], 0, true⟩,⟨some 13, none, .mv (.tmp 79), 0, false⟩,⟨some 14, none, .mv (.tmp 84), 0, false⟩]) Q E [] := by
  obtain ⟨k, rfl⟩ := Int.eq_ofNat_of_zero_le hk
  simp only [Int.toNat_natCast] at kp1
  have hm : (if row.length < k then (row.length : Int) else (k : Int)) = ((min k row.length : Nat) : Int) := by split <;> omega
  have ht := take_min k row
  have hb : ((min k row.length : Nat) : Int) ≤ row.length := by omega
  generalize min k row.length = q at hm ht hb
  rw [← ht] at kp1
  rw [wb_regD rfl, hE]
  rcases htv with rfl | ⟨m1, c1, rfl⟩ <;> rcases huv with rfl | ⟨m2, c2, rfl⟩
  all_goals
    simp [kp1, kp2, mmFold, Sg_size, hm, bnd, hb, Sg_ext]
    refine hQ _ ?_
    rfl
set_option maxRecDepth 20000 in
theorem r4_code {C : Orc} {t k K : Int} {n : Nat} {m : Nat} {cs : List AV} {tv uv : AV} {row : List UInt8} {l1 a1 b1 l2 a2 b2 : Nat} {x1 x2 : List UInt8} {e1 e2 : Int} {P1 P2 : Int → List UInt8 → Int} (hk : 0 ≤ k) (hk3 : k ≤ 3) (hn : n ≤ 16)
    (htv : tv = .e0 ∨ ∃ m cs, tv = .sl m cs) (huv : uv = .e0 ∨ ∃ m cs, uv = .sl m cs)
    (kb1 : C 0 0 13 [.agg [I t, I n, I k, .sl m cs]] [] = some (.tup [.agg [tv], .agg [I l1, I a1, I b1, Sg x1], I e1], []))
    (kb2 : C 0 0 13 [.agg [I t, I n, I K, .sl m cs]] [] = some (.tup [.agg [uv], .agg [I l2, I a2, I b2, Sg x2], I e2], []))
    (he : e1 = 9 ∨ (e1 = 0 ∧ e2 = 0)) (kp1 : e1 = 0 → ∀ left r, C 0 0 17 [.agg [I t, I n, I k, .sl m cs], .agg [tv], I left, Sg r] [] = some (I (P1 left r), []))
    (kp2 : e1 = 0 → ∀ left r, C 0 0 17 [.agg [I t, I n, I K, .sl m cs], .agg [uv], I left, Sg r] [] = some (I (P2 left r), []))
    (hP : e1 = 0 → ∀ left, 0 ≤ P2 left row → P1 left (row.take k.toNat) = P2 left row) (hrow : row.length ≤ 20)
    {E : Env} (hE : restrict [1, 2, 5] E = [(1, Sg row), (2, .box [I t, I n, I k, .sl m cs]), (5, .box [I t, I n, I K, .sl m cs])]) :
    WB ⟨C, 0, 0, [2, 5, 6, 7, 9, 10]⟩ t4R (FinT [.tmp 4] true [] (Bo true, [])) E [] := by
  unfold t4R
  rw [wb_seq]
  refine r46 htv hE kb1 fun E1 h1 => ?_
  rw [fol_nrm, wb_seq]
  refine r52 huv h1 kb2 fun E2 h2 => ?_
  rw [fol_nrm, wb_seq, wb_seq, wb_regN, h2]
  rcases he with rfl | ⟨rfl, rfl⟩
  · simp [-wb_true, -wb_false]
    rw [wb_true rfl]
    simp
  have kp1 := kp1 rfl
  have kp2 := kp2 rfl
  have hP := hP rfl
  simp [-wb_true, -wb_false, -wb_regN]
  rw [wb_false rfl, wb_skip, fol_nrm, wb_seq, wb_seq, wb_regN]
  simp [-wb_true, -wb_false, -wb_regN]
  rw [wb_false rfl, wb_skip, fol_nrm, wb_seq, wb_seq, wb_regN]
  simp [-wb_true, -wb_false, -wb_regN]
  refine wb_loop (σ := Nat) (fun i => [(1, Sg row), (2, .box [I t, I n, I k, .sl m cs]), (5, .box [I t, I n, I K, .sl m cs]), (6, .box [tv]), (9, .box [uv]), (12, I i)]) (fun _ => []) (fun i => i ≤ n) (fun i => n - i) ?_ 0 (Nat.zero_le _) (by simp) rfl
  intro i hi
  unfold t4L1
  have w1 : IntKind.i64.wrap ((i : Int) + 1) = (i : Int) + 1 := wrap64 (by omega) (by omega)
  rw [wb_seq, wb_seq, wb_regN]
  by_cases hil : i < n
  case neg =>
    obtain rfl : i = n := by omega
    simp
  simp [-wb_true, -wb_false, -wb_regN, hil]
  rw [wb_true rfl, wb_skip, fol_nrm, wb_seq, wb_block, wb_seq]
  refine r69 (left := i) hk hk3 hrow htv huv (by simp) (kp1 _ _) (kp2 _ _) fun E3 h3 => ?_
  have hPi := hP i
  generalize P1 i (row.take k.toNat) = p1 at h3 hPi
  generalize P2 i row = p2 at h3 hPi
  rw [fol_nrm, wb_seq, wb_regN, h3]
  by_cases h0 : 0 ≤ p2
  · have e := hPi h0
    subst e
    simp [-wb_true, -wb_false, -wb_regN, h0]
    rw [wb_false rfl, wb_skip]
    simp [w1, rnd_nrm]
    exact ⟨i + 1, by omega, by omega, by simp⟩
  · simp [-wb_true, -wb_false, -wb_regN, h0]
    rw [wb_false rfl, wb_skip]
    simp [w1, rnd_nrm]
    exact ⟨i + 1, by omega, by omega, by simp⟩
set_option maxRecDepth 20000 in
set_option maxHeartbeats 1000000 in
theorem more_code (g : Gm) (row : List UInt8) : callW X A 0 0 4 [gV g, Sg row] [] = some (Bo true, []) := by
  have kl := fun (L : Nat) => lives_at (lk := 0) (lim := L) (H := [])
  have kg := fun (L : Nat) (h : Gm) => light_code (lk := 0) (lim := L) (H := []) h
  have kc := fun (hlt : light g = true) (L : Nat) => rcheck_code (lk := 0) (lim := L) (H := []) g (light_bd hlt).1 (light_bd hlt).2
  refine wb_callB [2, 5, 6, 7, 9, 10] rfl A4 rfl rfl ?_
  unfold t4B
  obtain ⟨K, hK⟩ : ∃ K, IntKind.i64.wrap (g.k + 1) = K := ⟨_, rfl⟩
  have k1 := fun L => kg L g
  have k2 := fun L => kg L ⟨g.t, g.n, K, g.ps⟩
  have main : light g = true → chkE g = 0 → ¬ 3 < K → row.length ≤ 20 → ∀ E, restrict [1, 2, 5] E = [(1, Sg row), (2, .box [I g.t, I g.n, I g.k, .sl g.ps.length (psC g.ps)]), (5, .box [I g.t, I g.n, I K, .sl g.ps.length (psC g.ps)])] →
      WB ⟨callW X A, 0, 0, [2, 5, 6, 7, 9, 10]⟩ t4R (FinT [.tmp 4] true [] (Bo true, [])) E [] := by
    intro h1 hc h3 hrow E hE
    have ok := gok_of hc
    have hKk : K = g.k + 1 := by rw [← hK]; have := ok.k1; have := ok.k2; exact wrap64 (by omega) (by omega)
    have hch : chkE ⟨g.t, g.n, K, g.ps⟩ = 0 := chk_k hc (by have := ok.k1; omega) (by omega)
    have okh := gok_of hch
    obtain ⟨hl, hr⟩ := light_bd h1
    obtain ⟨tv, kb1, hT1⟩ := build_code2 (lk := 0) (lim := 0) (H := []) (Nat.le_refl _) g hl hr
    obtain ⟨uv, kb2, hT2⟩ := build_code2 (lk := 0) (lim := 0) (H := []) (Nat.le_refl _) ⟨g.t, g.n, K, g.ps⟩ hl hr
    obtain ⟨l1, a1, b1, x1, hx1⟩ := cfV_get (buildC g)
    obtain ⟨l2, a2, b2, x2, hx2⟩ := cfV_get (buildC ⟨g.t, g.n, K, g.ps⟩)
    rw [hx1] at kb1
    rw [hx2] at kb2
    have hsz : ∀ (q : Gm), chkE q = 0 → ∀ l ∈ lookM q, l.length ≤ 1000000000 := fun q hq l h => Nat.le_trans (look_len (gok_of hq) h) (by decide)
    have hbg : buildE g = 0 → confM g = none := (build_ok hc).1
    have hbh : buildE g = 0 → buildE ⟨g.t, g.n, K, g.ps⟩ = 0 := fun h => (build_ok hch).2 (strong_more ok okh rfl rfl (by show g.k ≤ K; omega) (hbg h))
    have tsl : ∀ {v : AV} {S : Ss}, TV v S → v = .e0 ∨ ∃ m cs, v = .sl m cs := fun h => by
      rcases h with ⟨rfl, _⟩ | ⟨cs, rfl, _⟩
      · exact .inl rfl
      · exact .inr ⟨_, _, rfl⟩
    have hnn : ((g.n.toNat : Nat) : Int) = g.n := Int.toNat_of_nonneg (by have := ok.n1; omega)
    have hE' := hE
    refine r4_code (t := g.t) (k := g.k) (K := K) (m := g.ps.length) (cs := psC g.ps) (tv := tv) (uv := uv) (l1 := l1) (a1 := a1) (b1 := b1) (l2 := l2) (a2 := a2) (b2 := b2) (x1 := x1) (x2 := x2) (e1 := buildE g) (e2 := buildE ⟨g.t, g.n, K, g.ps⟩) (n := g.n.toNat) (P1 := fun left r => prdM g (lookM g) left r) (P2 := fun left r => prdM ⟨g.t, g.n, K, g.ps⟩ (lookM ⟨g.t, g.n, K, g.ps⟩) left r) (by have := ok.k1; omega) ok.k2 (by have := ok.n2; omega) (tsl hT1) (tsl hT2) (by rw [hnn]; exact kb1) (by rw [hnn]; exact kb2) ?_ ?_ ?_ ?_ hrow (by rw [hnn]; exact hE)
    · by_cases h0 : buildE g = 0
      · exact .inr ⟨h0, hbh h0⟩
      · exact .inl (build_bad hc h0)
    · intro h0 left r
      rw [hnn]
      unfold buildT at hT1
      rw [if_pos h0] at hT1
      exact predict_code (lk := 0) (lim := 0) (H := []) (Nat.le_refl _) g hl hr hT1 (hsz g hc) left r
    · intro h0 left r
      rw [hnn]
      unfold buildT at hT2
      rw [if_pos (hbh h0)] at hT2
      exact predict_code (lk := 0) (lim := 0) (H := []) (Nat.le_refl _) ⟨g.t, g.n, K, g.ps⟩ hl hr hT2 (hsz _ hch) left r
    · intro h0 left hp
      rw [prdM_look hch] at hp ⊢
      rw [prdM_look hc]
      exact prd_more ok okh rfl rfl (by show g.k ≤ K; omega) (hbg h0) left row hp
  generalize hl1 : light g = b1 at kc k1 main
  generalize hl2 : light ⟨g.t, g.n, K, g.ps⟩ = b2 at k2 main
  generalize chkE g = c at kc main
  obtain ⟨t, n, k, ps⟩ := g
  simp only [gV, Gm.cells] at k1 k2 kc hK
  generalize callW X A = C at kl k1 k2 kc main ⊢
  simp [-wb_regN, -wb_true, -wb_false, -wi_stL]
  rw [wb_regN]
  simp [-wb_regN, -wb_true, -wb_false, -wi_stL, Gm.cells]
  rw [wb_regN]
  simp [-wb_regN, -wb_true, -wb_false, -wi_stL, kl]
  rw [wb_false rfl, wb_skip, fol_nrm, wb_seq, wb_regN]
  simp [-wb_regN, -wb_true, -wb_false, -wi_stL]
  rw [wi_stL]
  simp [-wb_regN, -wb_true, -wb_false, -wi_stL, replaceAt]
  rw [wb_regN]
  simp [-wb_regN, -wb_true, -wb_false, -wi_stL, hK]
  rw [wi_stL]
  simp [-wb_regN, -wb_true, -wb_false, -wi_stL, replaceAt]
  rw [wb_regN]
  cases b1 with
  | false =>
    simp [-wb_regN, -wb_true, -wb_false, k1]
    rw [wb_true rfl]
    simp
  | true =>
    have kc := kc rfl
    by_cases hc : c = 0
    case neg =>
      have hc2 : (c != 0) = true := by simpa using hc
      simp [-wb_regN, -wb_true, -wb_false, k1, kc, hc, hc2]
      rw [wb_true rfl]
      simp
    subst hc
    cases b2 with
    | false =>
      simp [-wb_regN, -wb_true, -wb_false, k1, kc, k2]
      rw [wb_true rfl]
      simp
    | true =>
      by_cases hK3 : 3 < K
      · simp [-wb_regN, -wb_true, -wb_false, k1, kc, k2, hK3]
        rw [wb_true rfl]
        simp
      by_cases hrow : 20 < row.length
      · have hrow2 : (20 : Int) < row.length := by omega
        simp [-wb_regN, -wb_true, -wb_false, k1, kc, k2, hK3, Sg_size, hrow2]
        rw [wb_true rfl]
        simp
      · have hrow2 : ¬ (20 : Int) < row.length := by omega
        simp [-wb_regN, -wb_true, -wb_false, k1, kc, k2, hK3, Sg_size, hrow2]
        rw [wb_false rfl, wb_skip, fol_nrm]
        refine main rfl rfl hK3 (by omega) _ ?_
        simp
end Go.Proofs.Ytgbpioccaenjaaa
