import Derived.Test.YtpaocofhpdmjpaaGJ
set_option linter.unusedSimpArgs false
set_option linter.unusedVariables false
namespace Go.Proofs.Ytpaocofhpdmjpaa
open Go Go.Hm

def t9M : AC := seqA 4 t9B
set_option maxRecDepth 20000 in
set_option maxHeartbeats 2000000 in
theorem calls_code (g : Gm) (a b : List (List UInt8)) (S : Ss) (r : List Int) (t k : Int) (la : LR a) (lb : LR b) (lS : ∀ l ∈ S, LR l) (ht : -9223372036854775808 ≤ t ∧ t ≤ 9223372036854775807) :
    callW X A 0 0 9 [gV g, rowsV a, rowsV b, .sl S.length (setsC S), .sl r.length (ints r), I t, I k] [] = some (Bo true, []) := by
  have k10 := lives_ok
  have kl := fun (L : Nat) (l : List (List UInt8)) (m : Int) (hl : LR l) => lrows_code (lk := 0) (lim := L) (H := []) hl m
  have kg := light_code (lk := 0) (lim := 0) (H := []) g
  have ks := fun (va vb : AV) (a b : List (List UInt8)) (ha : RV va a) (hb : RV vb b) h => same_code (lk := 0) (lim := 0) (H := []) ha hb h
  refine wb_callB [7] rfl A9 rfl rfl ?_
  by_cases hli : light g = true
  case neg =>
    have hli : light g = false := by simpa using hli
    rw [hli] at kg
    obtain ⟨t', n', k', ps⟩ := g
    simp only [gV, Gm.cells] at kg
    unfold t9B
    generalize callW X A = C at *
    simp [Gm.cells, k10, kg]
  rw [hli] at kg
  have kla := fun L => kl L a 20 la
  have klb := fun L => kl L b 20 lb
  cases hla : lightR a 20 with
  | false =>
    rw [hla] at kla
    obtain ⟨t', n', k', ps⟩ := g
    simp only [gV, Gm.cells] at kg
    unfold t9B
    generalize callW X A = C at *
    simp [Gm.cells, k10, kg, kla]
  | true =>
  cases hlb : lightR b 20 with
  | false =>
    rw [hla] at kla
    rw [hlb] at klb
    obtain ⟨t', n', k', ps⟩ := g
    simp only [gV, Gm.cells] at kg
    unfold t9B
    generalize callW X A = C at *
    simp [Gm.cells, k10, kg, kla, klb]
  | true =>
  rw [hla] at kla
  rw [hlb] at klb
  by_cases hs20 : (20 : Int) < S.length
  · obtain ⟨t', n', k', ps⟩ := g
    simp only [gV, Gm.cells] at kg
    unfold t9B
    generalize callW X A = C at *
    simp [Gm.cells, k10, kg, kla, klb, hs20]
  by_cases hr5 : (5 : Int) < r.length
  · obtain ⟨t', n', k', ps⟩ := g
    simp only [gV, Gm.cells] at kg
    unfold t9B
    generalize callW X A = C at *
    simp [Gm.cells, k10, kg, kla, klb, hs20, hr5]
  by_cases h8 : (8 : Int) < t ∧ t < 20
  · obtain ⟨t', n', k', ps⟩ := g
    simp only [gV, Gm.cells] at kg
    unfold t9B
    generalize callW X A = C at *
    simp [Gm.cells, k10, kg, kla, klb, hs20, hr5, h8]
  by_cases hw3 : (20 : Int) < IntKind.i64.wrap (t * t) ∧ k = 3
  · obtain ⟨t', n', k', ps⟩ := g
    simp only [gV, Gm.cells] at kg
    unfold t9B
    generalize callW X A = C at *
    obtain ⟨hw, rfl⟩ := hw3
    by_cases h8a : (8 : Int) < t
    · have h8b : ¬ t < 20 := fun h => h8 ⟨h8a, h⟩
      simp [Gm.cells, k10, kg, kla, klb, hs20, hr5, h8a, h8b, hw]
    · simp [Gm.cells, k10, kg, kla, klb, hs20, hr5, h8a, hw]
  have h3 := guard_t ht hw3
  obtain ⟨hl, hr⟩ := light_bd hli
  have ba := lightR_bd hla
  have bb := lightR_bd hlb
  have a6 : ∀ x ∈ a, x.length ≤ 1000000 := fun x hx => Nat.le_trans (ba.2 x hx) (by decide)
  have b6 : ∀ x ∈ b, x.length ≤ 1000000 := fun x hx => Nat.le_trans (bb.2 x hx) (by decide)
  have ba1 := ba.1
  have bb1 := bb.1
  have k24 := rows_code (lk := 0) (lim := 0) (H := []) (Nat.le_refl _) t k (rowsOf_len h3)
  have k29 := rows29_code (t := t) (k := k) h3
  have k15 := union_code (lk := 0) (lim := 0) (H := []) (va := rowsV a) (vb := rowsV b) (.inl rfl) (.inl rfl) (a := a) (b := b) (by omega)
  have k12 := cat_code (lk := 0) (lim := 0) (H := []) (Nat.le_refl _) k (va := rowsV a) (vb := rowsV b) (.inl rfl) (.inl rfl) (a := a) (b := b) (by omega) (by omega) a6 b6
  have k30 := cat2_code (lk := 0) (lim := 0) (H := []) (Nat.le_refl _) k (va := rowsV a) (vb := rowsV b) (.inl rfl) (.inl rfl) (a := a) (b := b) (by omega) (by omega) a6 b6
  have k31 := union2_code (lk := 0) (lim := 0) (H := []) (Nat.le_refl _) (va := rowsV a) (vb := rowsV b) (.inl rfl) (.inl rfl) (a := a) (b := b) (by omega) (by omega)
  have hul : (uni a b).length ≤ 100 := Nat.le_trans (norm_le _) (by rw [List.length_append]; omega)
  have hcl : (cat k.toNat a b).length ≤ 1000 := by
    unfold cat
    split
    · simp
    · rename_i hb0
      refine Nat.le_trans (norm_le _) (Nat.le_trans (catL_len _ _ hb0 _) ?_)
      exact Nat.le_trans (Nat.mul_le_mul (by omega : a.length ≤ 20) (by omega : b.length ≤ 20)) (by decide)
  have s1 := ks _ _ _ _ (rV_rv (rowsOf t k)) (rV_rv (rowsOf t k)) (Nat.le_trans (rowsOf_len h3) (by decide))
  have s2 := ks _ _ _ _ (RV.cat k.toNat a b) (rV_rv (cat k.toNat a b)) (by omega)
  have s3 := ks (rowsV (uni a b)) _ _ _ (.inl rfl) (rV_rv (uni a b)) (by omega)
  have k14 := fun x => has_code (lk := 0) (lim := 0) (H := []) (v := rowsV (uni a b)) (.inl rfl) x (l := uni a b) (by omega)
  have k32 := fun x => has2_code (lk := 0) (lim := 0) (H := []) (v := rowsV (uni a b)) (.inl rfl) x (l := uni a b) (by omega)
  have hSC := setsC_SC S
  have hO : (∀ l ∈ S, lightR l 6 = true) → OfOk g S r → (∀ i, (ofM g S (r.take i)).length ≤ 2000000 ∧ ∀ x ∈ ofM g S (r.take i), x.length ≤ 1000000) ∧ ∀ s ∈ r, (nxt g S s).length ≤ 2000000 ∧ ∀ x ∈ nxt g S s, x.length ≤ 1000000 := fun h6 hok => by
    have ok := gok_of hok.1
    have hk := ok.k2
    have h6l : ∀ l ∈ S, l.length ≤ 6 := fun l hl => by have := (lightR_bd (h6 l hl)).1; omega
    refine ⟨fun i => ?_, fun s _ => ?_⟩
    · by_cases hi : i ≤ 5
      · obtain ⟨q1, q2⟩ := ofM_few (g := g) (S := S) (r := r) (by omega) h6l i hi
        exact ⟨Nat.le_trans q1 (Nat.le_trans (Nat.pow_le_pow_right (by decide) hi) (by decide)), q2⟩
      · obtain ⟨q1, q2⟩ := ofM_few (g := g) (S := S) (r := r) (by omega) h6l 5 (Nat.le_refl _)
        have e5 : r.take 5 = r := List.take_of_length_le (by omega)
        rw [e5] at q1 q2
        rw [List.take_of_length_le (by omega)]
        exact ⟨Nat.le_trans q1 (by decide), q2⟩
    · unfold nxt
      split
      · simp
      · rw [List.getD_eq_getElem?_getD]
        cases hq : S[(s - g.t).toNat]? with
        | none => simp
        | some l =>
          have hm := List.mem_of_getElem? hq
          have := (lightR_bd (h6 l hm)).2
          exact ⟨by have := h6l l hm; simp; omega, fun x hx => Nat.le_trans (this x hx) (by decide)⟩
  have k23 := fun h6 => of23_code (lk := 0) (lim := 0) (H := []) (Nat.le_refl _) g hl hr hSC r (by omega) (by omega) (hO h6)
  have k33 := fun h6 => of33_code (lk := 0) (lim := 0) (H := []) (Nat.le_refl _) g hl hr hSC r (by omega) (by omega) (hO h6)
  rw [setsC_len] at k23 k33
  have rv5 : RV (if OfOk g S r then ofV g S r else .e0) (if OfOk g S r then ofM g S r else []) := by
    split
    · exact ofV_rv g S r
    · exact .inr ⟨rfl, rfl⟩
  have rv6 : RV (if OfOk g S r then rV (ofM g S r) else .e0) (if OfOk g S r then ofM g S r else []) := by
    split
    · exact rV_rv _
    · exact .inr ⟨rfl, rfl⟩
  have s4 := fun h6 => ks _ _ _ _ rv5 rv6 (by
    split
    · rename_i hok
      have := ((hO h6 hok).1 r.length).1
      rw [List.take_length] at this
      omega
    · simp)
  obtain ⟨v, h', k19, hh, hv⟩ := sets_code (lk := 0) (lim := 0) (H := []) (Nat.le_refl _) g hl hr
  subst hh
  obtain ⟨w, h', k35, hh, hw⟩ := sets2_code (lk := 0) (lim := 0) (H := []) (Nat.le_refl _) g hl hr
  subst hh
  have k34 : callW X A 0 0 34 [v, w] [] = some (Bo true, []) ∧ FV v ∧ FV w := by
    by_cases hc : chkE g = 0
    · rw [if_pos hc] at hv hw
      obtain ⟨cs, rfl, hcs⟩ := hv
      obtain ⟨ds, rfl, hds⟩ := hw
      have ok := gok_of hc
      have hok := sets_ok ok
      have := srows_code (lk := 0) (lim := 0) (H := []) hcs hds (by rw [hok.len]; have := ok.n2; omega) rfl (fun l hl => by
        have := (hok.r l hl).size ok
        omega)
      rw [decide_eq_true rfl] at this
      exact ⟨this, .inr ⟨_, _, rfl⟩, .inr ⟨_, _, rfl⟩⟩
    · rw [if_neg hc] at hv hw
      subst hv; subst hw
      exact ⟨srows_e0, .inl rfl, .inl rfl⟩
  obtain ⟨k34, fv7, fv8⟩ := k34
  have fv1 := FV.of (rV_rv (rowsOf t k))
  have fv2 := FV.of (RV.cat k.toNat a b)
  have fv3 := FV.of (rV_rv (cat k.toNat a b))
  have fv4 := FV.of (rV_rv (uni a b))
  have fv5 := FV.of rv5
  have fv6 := FV.of rv6
  rw [decide_eq_true rfl] at s1 s2 s3
  simp only [decide_eq_true (rfl : (if OfOk g S r then ofM g S r else []) = (if OfOk g S r then ofM g S r else []))] at s4
  have hgp : ∃ n cs, AV.sl g.ps.length (psC g.ps) = AV.sl n cs := ⟨_, _, rfl⟩
  have tail : ∀ (Q : Ex → Kt) (env : Env) (x : List UInt8), (∀ l ∈ S, lightR l 6 = true) →
      restrict [1, 2, 3, 4, 5, 6, 7, 16, 17, 18, 19] env = [(1, rowsV a), (2, rowsV b), (3, .sl S.length (setsC S)), (4, .sl r.length (ints r)), (5, I t), (6, I k), (7, .box g.cells), (16, rV (rowsOf t k)), (17, Bo true), (18, rowsV (uni a b)), (19, Sg x)] →
      (∀ env', find env' 14 = Bo true → Q .ret env' []) → WB ⟨callW X A, 0, 0, [7]⟩ t9R Q env [] := by
    intro Q env x h6 hE hQ
    have k14 := k14 x
    have k32 := k32 x
    have k23 := k23 h6
    have k33 := k33 h6
    have s4 := s4 h6
    obtain ⟨t', n', k', ps⟩ := g
    simp only [gV, Gm.cells] at *
    generalize callW X A = C at *
    rw [t9R_eq, wb_seq, wb_regD rfl, hE]
    refine r9_1w (g1 := t') (g2 := n') (g3 := k') (g4 := .sl ps.length (psC ps)) (a := rowsV a) (b := rowsV b) (s := .sl S.length (setsC S)) (r := .sl r.length (ints r)) (u := rowsV (uni a b)) (x := x) k29 s1 fv1 ⟨rfl, rfl, rfl, rfl, rfl, rfl, rfl, rfl, rfl, rfl⟩ rfl fun e1 h1 f1 => ?_
    refine r9_2w k12 k30 s2 fv2 fv3 ⟨_, _, rfl⟩ ⟨_, _, rfl⟩ h1 f1 fun e2 h2 f2 => ?_
    refine r9_3w k31 s3 fv4 ⟨_, _, rfl⟩ ⟨_, _, rfl⟩ ⟨_, _, rfl⟩ h2 f2 fun e3 h3 f3 => ?_
    refine r9_4w k14 k32 ⟨_, _, rfl⟩ h3 f3 fun e4 h4 f4 => ?_
    refine r9_5w k23 k33 s4 fv5 fv6 ⟨_, _, rfl⟩ ⟨_, _, rfl⟩ ⟨_, _, rfl⟩ h4 f4 fun e5 h5 f5 => ?_
    refine r9_6w k19 k35 k34 fv7 fv8 ⟨_, _, rfl⟩ h5 f5 fun e6 f6 => ?_
    exact hQ e6 f6
  have main : ∀ (Q : Ex → Kt) (env : Env), restrict [1, 2, 3, 4, 5, 6, 7, 15] env = [(1, rowsV a), (2, rowsV b), (3, .sl S.length (setsC S)), (4, .sl r.length (ints r)), (5, I t), (6, I k), (7, .box g.cells), (15, I 0)] →
    (∀ env', find env' 14 = Bo true → Q .ret env' []) →
    (∀ env', (∀ l ∈ S, lightR l 6 = true) → restrict [1, 2, 3, 4, 5, 6, 7] env' = [(1, rowsV a), (2, rowsV b), (3, .sl S.length (setsC S)), (4, .sl r.length (ints r)), (5, I t), (6, I k), (7, .box g.cells)] → Q (.exit 0) env' []) →
    WB ⟨callW X A, 0, 0, [7]⟩ (.loop [1, 2, 3, 4, 5, 6, 7, 15] t9L1) Q env [] := fun Q env hE hR hQ => c9L1 (fun L l m h => kl L l m h) lS (by omega) hE hR hQ
  have mid : ∀ (Q : Ex → Kt) (env : Env), (∀ l ∈ S, lightR l 6 = true) → restrict [1, 2, 3, 4, 5, 6, 7] env = [(1, rowsV a), (2, rowsV b), (3, .sl S.length (setsC S)), (4, .sl r.length (ints r)), (5, I t), (6, I k), (7, .box g.cells)] →
      (∀ env', find env' 14 = Bo true → Q .ret env' []) → WB ⟨callW X A, 0, 0, [7]⟩ t9M Q env [] := by
    intro Q env h6 hE hQ
    have tail := fun (Q : Ex → Kt) (env : Env) (x : List UInt8) => tail Q env x h6
    rw [show t9M = putTail 4 t9M t9R from rfl]
    simp only [t9M, seqA, t9B, putTail]
    clear k12 k30 k31 k14 k32 k23 k33 k19 k35 k34 s1 s2 s3 s4 k29 hO rv5 rv6 fv5 fv6 fv2 fv3 fv4 fv7 fv8 hv hw ks kl main kla klb
    have rvx := rv_noRp (rV_rv (rowsOf t k))
    generalize rV (rowsOf t k) = x1 at *
    generalize uni a b = u at *
    obtain ⟨t', n', k', ps⟩ := g
    simp only [gV, Gm.cells] at *
    generalize callW X A = C at *
    generalize t9R = R at *
    generalize setsC S = cs at *
    rw [wb_seq, wb_regN, hE]
    cases b with
    | nil =>
      rcases rvx with rfl | rfl
      all_goals
        simp [k24, k15]
        exact tail _ _ [] (by simp) hQ
    | cons y b =>
      have hlb' : ((b.length + 1 : Nat) : Int) = (b.length : Int) + 1 := by omega
      rcases rvx with rfl | rfl
      all_goals
        simp [k24, k15, rowsB]
        exact tail _ _ y (by simp) hQ
  rw [show t9B = putTail 4 t9B t9M from rfl]
  simp only [t9B, putTail]
  clear k12 k30 k31 k14 k32 k23 k33 k19 k35 k34 s1 s2 s3 s4 k29 hO rv5 rv6 fv5 fv6 fv2 fv3 fv4 fv7 fv8 hv hw ks kl tail k24 k15
  obtain ⟨t', n', k', ps⟩ := g
  simp only [gV, Gm.cells] at *
  generalize callW X A = C at *
  generalize t9L1 = lp at *
  generalize t9M = M at *
  generalize setsC S = cs at *
  have key : ∀ env : Env, restrict [1, 2, 3, 4, 5, 6, 7, 15] env = [(1, rowsV a), (2, rowsV b), (3, .sl S.length cs), (4, .sl r.length (ints r)), (5, I t), (6, I k), (7, .box [I t', I n', I k', .sl ps.length (psC ps)]), (15, I 0)] →
      WB ⟨C, 0, 0, [7]⟩ (.loop [1, 2, 3, 4, 5, 6, 7, 15] lp) (BlkE 0 (Fol ⟨C, 0, 0, [7]⟩ M (FinT [.tmp 14] true [] (Bo true, [])))) env [] := fun env hE => by
    refine main _ _ hE (fun env' he => ?_) fun env' h6 he => ?_
    · rw [blk_ret, fol_ret]
      simp [he]
    · rw [blk_exit, if_pos rfl, fol_nrm]
      refine mid _ _ h6 he fun env' he => ?_
      simp [he]
  clear main mid
  have hg : (8 : Int) < t → ¬ t < 20 := fun h1 h2 => h8 ⟨h1, h2⟩
  by_cases h8a : (8 : Int) < t
  · have h8b := hg h8a
    by_cases hw : (20 : Int) < IntKind.i64.wrap (t * t)
    · have hk3 : ¬ k = 3 := fun h => hw3 ⟨hw, h⟩
      simp [k10, kg, kla, klb, hs20, hr5, h8a, h8b, hw, hk3]
      exact key _ (by simp)
    · simp [k10, kg, kla, klb, hs20, hr5, h8a, h8b, hw]
      exact key _ (by simp)
  · by_cases hw : (20 : Int) < IntKind.i64.wrap (t * t)
    · have hk3 : ¬ k = 3 := fun h => hw3 ⟨hw, h⟩
      simp [k10, kg, kla, klb, hs20, hr5, h8a, hw, hk3]
      exact key _ (by simp)
    · simp [k10, kg, kla, klb, hs20, hr5, h8a, hw]
      exact key _ (by simp)
end Go.Proofs.Ytpaocofhpdmjpaa
