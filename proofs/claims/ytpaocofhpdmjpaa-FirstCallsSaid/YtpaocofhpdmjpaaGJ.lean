import Derived.Test.YtpaocofhpdmjpaaNb
set_option linter.unusedSimpArgs false
set_option linter.unusedVariables false
namespace Go.Proofs.Ytpaocofhpdmjpaa
open Go Go.Hm

/-! ### The last region of the law of calls, in pieces -/
def seqA : Nat → AC → AC
  | n + 1, .seq _ b => seqA n b
  | _, a => a
def putTail : Nat → AC → AC → AC
  | 0, _, R => R
  | n + 1, .seq a b, R => .seq a (putTail n b R)
  | _, a, _ => a
def r9_1 (R : List AI) : List AI := ⟨some 90, none, .mv (.tmp 17), 0, false⟩ :: ⟨some 91, none, .mv (.tmp 90), 0, false⟩ :: ⟨some 92, some (91, true), .mv (.tmp 16), 0, false⟩ :: ⟨some 93, some (91, true), .mv (.tmp 5), 0, false⟩ :: ⟨some 94, some (91, true), .mv (.tmp 6), 0, false⟩ :: ⟨some 95, some (91, true), .call 29 [(.tmp 93), (.tmp 94)], 0, true⟩ :: ⟨some 96, some (91, true), .call 13 [(.tmp 92), (.tmp 95)], 0, true⟩ :: ⟨some 97, none, .pick (.tmp 91) (.tmp 96) (.con (.val (.bool false))), 0, false⟩ :: R
def r9_2 (R : List AI) : List AI := ⟨some 98, none, .mv (.tmp 97), 0, false⟩ :: ⟨some 99, some (98, true), .mv (.tmp 6), 0, false⟩ :: ⟨some 100, some (98, true), .mv (.tmp 1), 0, false⟩ :: ⟨some 101, some (98, true), .mv (.tmp 2), 0, false⟩ :: ⟨some 102, some (98, true), .call 12 [(.tmp 99), (.tmp 100), (.tmp 101)], 0, true⟩ :: ⟨some 103, some (98, true), .mv (.tmp 6), 0, false⟩ :: ⟨some 104, some (98, true), .mv (.tmp 1), 0, false⟩ :: ⟨some 105, some (98, true), .mv (.tmp 2), 0, false⟩ :: ⟨some 106, some (98, true), .call 30 [(.tmp 103), (.tmp 104), (.tmp 105)], 0, true⟩ :: ⟨some 107, some (98, true), .call 13 [(.tmp 102), (.tmp 106)], 0, true⟩ :: ⟨some 108, none, .pick (.tmp 98) (.tmp 107) (.con (.val (.bool false))), 0, false⟩ :: R
def r9_3 (R : List AI) : List AI := ⟨some 109, none, .mv (.tmp 108), 0, false⟩ :: ⟨some 110, some (109, true), .mv (.tmp 18), 0, false⟩ :: ⟨some 111, some (109, true), .mv (.tmp 1), 0, false⟩ :: ⟨some 112, some (109, true), .mv (.tmp 2), 0, false⟩ :: ⟨some 113, some (109, true), .call 31 [(.tmp 111), (.tmp 112)], 0, true⟩ :: ⟨some 114, some (109, true), .call 13 [(.tmp 110), (.tmp 113)], 0, true⟩ :: ⟨some 115, none, .pick (.tmp 109) (.tmp 114) (.con (.val (.bool false))), 0, false⟩ :: R
def r9_4 (R : List AI) : List AI := ⟨some 116, none, .mv (.tmp 115), 0, false⟩ :: ⟨some 117, some (116, true), .mv (.tmp 18), 0, false⟩ :: ⟨some 118, some (116, true), .mv (.tmp 19), 0, false⟩ :: ⟨some 119, some (116, true), .call 14 [(.tmp 117), (.tmp 118)], 0, true⟩ :: ⟨some 120, some (116, true), .mv (.tmp 18), 0, false⟩ :: ⟨some 121, some (116, true), .mv (.tmp 19), 0, false⟩ :: ⟨some 122, some (116, true), .call 32 [(.tmp 120), (.tmp 121)], 0, true⟩ :: ⟨some 123, some (116, true), .eqb false (.tmp 119) (.tmp 122), 0, false⟩ :: ⟨some 124, none, .pick (.tmp 116) (.tmp 123) (.con (.val (.bool false))), 0, false⟩ :: R
def r9_5 (R : List AI) : List AI := ⟨some 125, none, .mv (.tmp 124), 0, false⟩ :: ⟨some 126, some (125, true), .ldA (some 7) 4 (.tmp 7), 0, false⟩ :: ⟨some 127, some (125, true), .mv (.tmp 3), 0, false⟩ :: ⟨some 128, some (125, true), .mv (.tmp 4), 0, false⟩ :: ⟨some 129, some (125, true), .call 23 [(.tmp 126), (.tmp 127), (.tmp 128)], 0, true⟩ :: ⟨some 130, some (125, true), .ldA (some 7) 4 (.tmp 7), 0, false⟩ :: ⟨some 131, some (125, true), .mv (.tmp 3), 0, false⟩ :: ⟨some 132, some (125, true), .mv (.tmp 4), 0, false⟩ :: ⟨some 133, some (125, true), .call 33 [(.tmp 130), (.tmp 131), (.tmp 132)], 0, true⟩ :: ⟨some 134, some (125, true), .call 13 [(.tmp 129), (.tmp 133)], 0, true⟩ :: ⟨some 135, none, .pick (.tmp 125) (.tmp 134) (.con (.val (.bool false))), 0, false⟩ :: R
def r9_6 (R : List AI) : List AI := ⟨some 136, none, .mv (.tmp 135), 0, false⟩ :: ⟨some 137, some (136, true), .ldA (some 7) 4 (.tmp 7), 0, false⟩ :: ⟨some 138, some (136, true), .call 19 [(.tmp 137)], 0, true⟩ :: ⟨some 139, some (136, true), .ldA (some 7) 4 (.tmp 7), 0, false⟩ :: ⟨some 140, some (136, true), .call 35 [(.tmp 139)], 0, true⟩ :: ⟨some 141, some (136, true), .call 34 [(.tmp 138), (.tmp 140)], 0, true⟩ :: ⟨some 142, none, .pick (.tmp 136) (.tmp 141) (.con (.val (.bool false))), 0, false⟩ :: ⟨some 14, none, .mv (.tmp 142), 0, false⟩ :: R
def t9R : AC := seqA 8 t9B
theorem t9R_eq : t9R = .seq (.regD [1, 2, 3, 4, 5, 6, 7, 16, 17, 18, 19] 0 (r9_1 (r9_2 (r9_3 (r9_4 (r9_5 (r9_6 []))))))) .ret := rfl
/-- A frozen row of something. -/
def FV (v : AV) : Prop := v = .e0 ∨ ∃ n cs, v = .sl n cs
theorem FV.of {v : AV} {l : List (List UInt8)} (h : RV v l) : FV v := by
  rcases h with rfl | ⟨rfl, _⟩
  · exact .inr ⟨_, _, rfl⟩
  · exact .inl rfl
/-- What the region finds. -/
structure B9 (env : Env) (gc a b s r v1 u : AV) (t k : Int) (x : List UInt8) (cells : List AV) : Prop where
  e1 : find env 1 = a
  e2 : find env 2 = b
  e3 : find env 3 = s
  e4 : find env 4 = r
  e5 : find env 5 = I t
  e6 : find env 6 = I k
  e7 : find env 7 = .box cells
  e16 : find env 16 = v1
  e18 : find env 18 = u
  e19 : find env 19 = Sg x
section
variable {C : Orc} {Q : Kt} {g1 g2 g3 : Int} {g4 a b s r v1 u : AV} {t k : Int} {x : List UInt8} {env : Env}
set_option maxRecDepth 20000
set_option maxHeartbeats 2000000
theorem r9_6w {v w : AV} (k19 : C 0 0 19 [.agg [I g1, I g2, I g3, g4]] [] = some (v, [])) (k35 : C 0 0 35 [.agg [I g1, I g2, I g3, g4]] [] = some (w, [])) (k34 : C 0 0 34 [v, w] [] = some (Bo true, [])) (hv : FV v) (hw : FV w) (hg : ∃ n cs, g4 = .sl n cs)
    (h : B9 env (.agg [I g1, I g2, I g3, g4]) a b s r v1 u t k x [I g1, I g2, I g3, g4]) (hf : find env 135 = Bo true) (hQ : ∀ env', find env' 14 = Bo true → Q env' []) : WRD ⟨C, 0, 0, [7]⟩ (r9_6 []) Q env [] := by
  obtain ⟨e1, e2, e3, e4, e5, e6, e7, e16, e18, e19⟩ := h
  unfold r9_6
  obtain ⟨o, es, rfl⟩ := hg
  rcases hv with rfl | ⟨n, cs, rfl⟩ <;> rcases hw with rfl | ⟨m, ds, rfl⟩
  all_goals
    simp [e7, hf, k19, k35, k34]
    exact hQ _ (by simp)
theorem r9_5w {v w : AV} {R : List AI} (k23 : C 0 0 23 [.agg [I g1, I g2, I g3, g4], s, r] [] = some (v, [])) (k33 : C 0 0 33 [.agg [I g1, I g2, I g3, g4], s, r] [] = some (w, [])) (k13 : C 0 0 13 [v, w] [] = some (Bo true, [])) (hv : FV v) (hw : FV w) (hg : ∃ n cs, g4 = .sl n cs) (hs : ∃ n cs, s = .sl n cs) (hr : ∃ n cs, r = .sl n cs)
    (h : B9 env (.agg [I g1, I g2, I g3, g4]) a b s r v1 u t k x [I g1, I g2, I g3, g4]) (hf : find env 124 = Bo true)
    (hR : ∀ env', B9 env' (.agg [I g1, I g2, I g3, g4]) a b s r v1 u t k x [I g1, I g2, I g3, g4] → find env' 135 = Bo true → WRD ⟨C, 0, 0, [7]⟩ R Q env' []) : WRD ⟨C, 0, 0, [7]⟩ (r9_5 R) Q env [] := by
  obtain ⟨e1, e2, e3, e4, e5, e6, e7, e16, e18, e19⟩ := h
  unfold r9_5
  obtain ⟨o, es, rfl⟩ := hg
  obtain ⟨o2, es2, rfl⟩ := hs
  obtain ⟨o3, es3, rfl⟩ := hr
  rcases hv with rfl | ⟨n, cs, rfl⟩ <;> rcases hw with rfl | ⟨m, ds, rfl⟩
  all_goals
    simp [e3, e4, e7, hf, k23, k33, k13]
    exact hR _ ⟨by simpa using e1, by simpa using e2, by simpa using e3, by simpa using e4, by simpa using e5, by simpa using e6, by simpa using e7, by simpa using e16, by simpa using e18, by simpa using e19⟩ (by simp)
theorem r9_4w {hb : Bool} {R : List AI} (k14 : C 0 0 14 [u, Sg x] [] = some (Bo hb, [])) (k32 : C 0 0 32 [u, Sg x] [] = some (Bo hb, [])) (hu : ∃ n cs, u = .sl n cs)
    (h : B9 env (.agg [I g1, I g2, I g3, g4]) a b s r v1 u t k x [I g1, I g2, I g3, g4]) (hf : find env 115 = Bo true)
    (hR : ∀ env', B9 env' (.agg [I g1, I g2, I g3, g4]) a b s r v1 u t k x [I g1, I g2, I g3, g4] → find env' 124 = Bo true → WRD ⟨C, 0, 0, [7]⟩ R Q env' []) : WRD ⟨C, 0, 0, [7]⟩ (r9_4 R) Q env [] := by
  obtain ⟨e1, e2, e3, e4, e5, e6, e7, e16, e18, e19⟩ := h
  unfold r9_4
  obtain ⟨o, es, rfl⟩ := hu
  cases hb
  all_goals
    simp [e18, e19, hf, k14, k32]
    exact hR _ ⟨by simpa using e1, by simpa using e2, by simpa using e3, by simpa using e4, by simpa using e5, by simpa using e6, by simpa using e7, by simpa using e16, by simpa using e18, by simpa using e19⟩ (by simp)
theorem r9_3w {v : AV} {R : List AI} (k31 : C 0 0 31 [a, b] [] = some (v, [])) (k13 : C 0 0 13 [u, v] [] = some (Bo true, [])) (hv : FV v) (hu : ∃ n cs, u = .sl n cs) (ha : ∃ n cs, a = .sl n cs) (hb : ∃ n cs, b = .sl n cs)
    (h : B9 env (.agg [I g1, I g2, I g3, g4]) a b s r v1 u t k x [I g1, I g2, I g3, g4]) (hf : find env 108 = Bo true)
    (hR : ∀ env', B9 env' (.agg [I g1, I g2, I g3, g4]) a b s r v1 u t k x [I g1, I g2, I g3, g4] → find env' 115 = Bo true → WRD ⟨C, 0, 0, [7]⟩ R Q env' []) : WRD ⟨C, 0, 0, [7]⟩ (r9_3 R) Q env [] := by
  obtain ⟨e1, e2, e3, e4, e5, e6, e7, e16, e18, e19⟩ := h
  unfold r9_3
  obtain ⟨o, es, rfl⟩ := hu
  obtain ⟨o2, es2, rfl⟩ := ha
  obtain ⟨o3, es3, rfl⟩ := hb
  rcases hv with rfl | ⟨n, cs, rfl⟩
  all_goals
    simp [e1, e2, e18, hf, k31, k13]
    exact hR _ ⟨by simpa using e1, by simpa using e2, by simpa using e3, by simpa using e4, by simpa using e5, by simpa using e6, by simpa using e7, by simpa using e16, by simpa using e18, by simpa using e19⟩ (by simp)
theorem r9_2w {v w : AV} {R : List AI} (k12 : C 0 0 12 [I k, a, b] [] = some (v, [])) (k30 : C 0 0 30 [I k, a, b] [] = some (w, [])) (k13 : C 0 0 13 [v, w] [] = some (Bo true, [])) (hv : FV v) (hw : FV w) (ha : ∃ n cs, a = .sl n cs) (hb : ∃ n cs, b = .sl n cs)
    (h : B9 env (.agg [I g1, I g2, I g3, g4]) a b s r v1 u t k x [I g1, I g2, I g3, g4]) (hf : find env 97 = Bo true)
    (hR : ∀ env', B9 env' (.agg [I g1, I g2, I g3, g4]) a b s r v1 u t k x [I g1, I g2, I g3, g4] → find env' 108 = Bo true → WRD ⟨C, 0, 0, [7]⟩ R Q env' []) : WRD ⟨C, 0, 0, [7]⟩ (r9_2 R) Q env [] := by
  obtain ⟨e1, e2, e3, e4, e5, e6, e7, e16, e18, e19⟩ := h
  unfold r9_2
  obtain ⟨o2, es2, rfl⟩ := ha
  obtain ⟨o3, es3, rfl⟩ := hb
  rcases hv with rfl | ⟨n, cs, rfl⟩ <;> rcases hw with rfl | ⟨m, ds, rfl⟩
  all_goals
    simp [e1, e2, e6, hf, k12, k30, k13]
    exact hR _ ⟨by simpa using e1, by simpa using e2, by simpa using e3, by simpa using e4, by simpa using e5, by simpa using e6, by simpa using e7, by simpa using e16, by simpa using e18, by simpa using e19⟩ (by simp)
theorem r9_1w {R : List AI} (k29 : C 0 0 29 [I t, I k] [] = some (v1, [])) (k13 : C 0 0 13 [v1, v1] [] = some (Bo true, [])) (hv : FV v1)
    (h : B9 env (.agg [I g1, I g2, I g3, g4]) a b s r v1 u t k x [I g1, I g2, I g3, g4]) (hf : find env 17 = Bo true)
    (hR : ∀ env', B9 env' (.agg [I g1, I g2, I g3, g4]) a b s r v1 u t k x [I g1, I g2, I g3, g4] → find env' 97 = Bo true → WRD ⟨C, 0, 0, [7]⟩ R Q env' []) : WRD ⟨C, 0, 0, [7]⟩ (r9_1 R) Q env [] := by
  obtain ⟨e1, e2, e3, e4, e5, e6, e7, e16, e18, e19⟩ := h
  unfold r9_1
  rcases hv with rfl | ⟨n, cs, rfl⟩
  all_goals
    simp [e5, e6, e16, hf, k29, k13]
    exact hR _ ⟨by simpa using e1, by simpa using e2, by simpa using e3, by simpa using e4, by simpa using e5, by simpa using e6, by simpa using e7, by simpa using e16, by simpa using e18, by simpa using e19⟩ (by simp)
end
end Go.Proofs.Ytpaocofhpdmjpaa

namespace Go.Proofs.Ytpaocofhpdmjpaa
open Go Go.Hm

theorem lightR_bd {l : List (List UInt8)} {m : Int} (h : lightR l m = true) : (l.length : Int) ≤ m ∧ ∀ x ∈ l, x.length ≤ 20 := by
  unfold lightR at h
  rw [Bool.and_eq_true, List.all_eq_true] at h
  exact ⟨by simpa using h.2, fun x hx => by simpa using h.1 x hx⟩
/-- Sets, as arguments are. -/
def setsC (S : Ss) : List AV := S.map rowsV
theorem setsC_get {S : Ss} {i : Nat} (hi : i < S.length) : (setsC S)[i]? = some (rowsV S[i]) := by simp [setsC, hi]
theorem setsC_len (S : Ss) : (setsC S).length = S.length := by simp [setsC]
theorem setsC_SC (S : Ss) : SC (setsC S) S := ⟨setsC_len S, fun j v hv => by
  have hj : j < S.length := by have := (List.getElem?_eq_some_iff.1 hv).1; rwa [setsC_len] at this
  rw [setsC_get hj] at hv
  cases hv
  rw [List.getD_eq_getElem?_getD, List.getElem?_eq_getElem hj]
  exact .inl rfl⟩
/-- What is joined of few rows is few. -/
theorem ofM_few {g : Gm} {S : Ss} {r : List Int} (hk : g.k.toNat ≤ 1000000) (hS : ∀ l ∈ S, l.length ≤ 6) : ∀ i, i ≤ 5 → (ofM g S (r.take i)).length ≤ 6 ^ i ∧ ∀ x ∈ ofM g S (r.take i), x.length ≤ 1000000
  | 0, _ => by simp [ofM]
  | i + 1, hi => by
    obtain ⟨h1, h2⟩ := ofM_few (r := r) hk hS i (by omega)
    by_cases hl : i < r.length
    · rw [List.take_succ_eq_append_getElem hl, ofM_snoc]
      refine ⟨?_, fun x hx => Nat.le_trans (cat_len x hx) hk⟩
      have hn : (nxt g S r[i]).length ≤ 6 := by
        unfold nxt
        split
        · simp
        · rw [List.getD_eq_getElem?_getD]
          cases hq : S[(r[i] - g.t).toNat]? with
          | none => simp
          | some l => exact hS l (List.mem_of_getElem? hq)
      unfold cat
      split
      · simp
      · rename_i hb
        refine Nat.le_trans (norm_le _) (Nat.le_trans (catL_len _ _ hb _) ?_)
        rw [Nat.pow_succ]
        exact Nat.mul_le_mul h1 hn
    · rw [List.take_of_length_le (by omega)]
      rw [List.take_of_length_le (by omega)] at h1 h2
      exact ⟨Nat.le_trans h1 (Nat.pow_le_pow_right (by decide) (by omega)), h2⟩
theorem guard_t {t k : Int} (hb : -9223372036854775808 ≤ t ∧ t ≤ 9223372036854775807) (h : ¬ (20 < IntKind.i64.wrap (t * t) ∧ k = 3)) : k = 3 → 0 ≤ t → t ≤ 8 → t ≤ 4 := fun hk h0 h8 => by
  have h64 : t * t ≤ 8 * 8 := Int.mul_le_mul h8 h8 h0 (by decide)
  have h00 : 0 ≤ t * t := Int.mul_nonneg h0 h0
  have hw : IntKind.i64.wrap (t * t) = t * t := wrap64 (by omega) (by omega)
  rw [hw] at h
  have h20 : t * t ≤ 20 := by
    rcases Int.lt_or_le 20 (t * t) with h1 | h1
    · exact absurd ⟨h1, hk⟩ h
    · exact h1
  rcases Int.lt_or_le 4 t with h5 | h5
  · have : 5 * 5 ≤ t * t := Int.mul_le_mul (by omega) (by omega) (by decide) h0
    omega
  · exact h5
set_option maxRecDepth 20000 in
/-- All sets are light. -/
theorem c9L1 {C : Orc} {Q : Ex → Kt} {env : Env} {a b r : List AV} {na nb nr : Nat} {S : Ss} {t k : Int} {gc : List AV} (kl : ∀ (L : Nat) (l : List (List UInt8)) (m : Int), LR l → C 0 L 28 [rowsV l, I m] [] = some (Bo (lightR l m), [])) (hS : ∀ l ∈ S, LR l) (hl : S.length ≤ 20)
    (hE : restrict [1, 2, 3, 4, 5, 6, 7, 15] env = [(1, .sl na a), (2, .sl nb b), (3, .sl S.length (setsC S)), (4, .sl nr r), (5, I t), (6, I k), (7, .box gc), (15, I 0)])
    (hR : ∀ env', find env' 14 = Bo true → Q .ret env' [])
    (hQ : ∀ env', (∀ l ∈ S, lightR l 6 = true) → restrict [1, 2, 3, 4, 5, 6, 7] env' = [(1, .sl na a), (2, .sl nb b), (3, .sl S.length (setsC S)), (4, .sl nr r), (5, I t), (6, I k), (7, .box gc)] → Q (.exit 0) env' []) :
    WB ⟨C, 0, 0, [7]⟩ (.loop [1, 2, 3, 4, 5, 6, 7, 15] t9L1) Q env [] := by
  refine wb_loop (σ := Nat) (fun i => [(1, .sl na a), (2, .sl nb b), (3, .sl S.length (setsC S)), (4, .sl nr r), (5, I t), (6, I k), (7, .box gc), (15, I i)]) (fun _ => [])
    (fun i => i ≤ S.length ∧ ∀ (j : Nat) (h : j < S.length), j < i → lightR S[j] 6 = true) (fun i => S.length - i) ?_ 0 ⟨Nat.zero_le _, fun j _ h => by omega⟩ hE rfl
  rintro i ⟨hi, hinv⟩
  unfold t9L1
  by_cases hil : i < S.length
  · have hil' : (i : Int) < S.length := by omega
    have w1 : IntKind.i64.wrap ((i : Int) + 1) = (i : Int) + 1 := wrap64 (by omega) (by omega)
    have hg := setsC_get hil
    have hlc : (setsC S).length = S.length := setsC_len S
    have hic : i < (setsC S).length := by omega
    have hgE : (setsC S)[i] = rowsV S[i] := by rw [List.getElem?_eq_getElem hic] at hg; simpa using hg
    have kl1 := fun L => kl L S[i] 6 (hS _ (List.getElem_mem hil))
    cases hli : lightR S[i] 6 with
    | false =>
      rw [hli] at kl1
      generalize S[i] = l at *
      generalize setsC S = cs at *
      simp [hil, hil', hic, hg, hgE, hlc, kl1]
      exact hR _ (by simp)
    | true =>
      rw [hli] at kl1
      have hnext : ∀ (j : Nat) (h : j < S.length), j < i + 1 → lightR S[j] 6 = true := fun j h hj => by
        by_cases e : j = i
        · subst e; exact hli
        · exact hinv j h (by omega)
      generalize S[i] = l at *
      generalize setsC S = cs at *
      simp [hil, hil', hic, hg, hgE, hlc, kl1, w1, rnd_nrm]
      exact ⟨i + 1, ⟨by omega, hnext⟩, by omega, by omega⟩
  · obtain rfl : i = S.length := by omega
    have hall : ∀ l ∈ S, lightR l 6 = true := fun l hl => by
      obtain ⟨j, hj, rfl⟩ := List.mem_iff_getElem.1 hl
      exact hinv j hj hj
    generalize setsC S = cs at *
    simp
    exact hQ _ hall (by simp)
end Go.Proofs.Ytpaocofhpdmjpaa
