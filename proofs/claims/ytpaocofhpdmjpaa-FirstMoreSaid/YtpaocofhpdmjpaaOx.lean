import Derived.Test.YtpaocofhpdmjpaaOw
set_option linter.unusedSimpArgs false
set_option linter.unusedVariables false
namespace Go.Proofs.Ytpaocofhpdmjpaa
open Go Go.Hm

set_option maxRecDepth 20000 in
theorem m5L1 {C : Orc} {lk : Nat} {Q : Ex → Kt} {env : Env} {G : Heap} {gc ca cb co : List AV} {w v : AV} {l m : List (List UInt8)} {i : Nat} (hw : ca[i]? = some w) (hv : cb[i]? = some v) (hwl : RV w l) (hvm : RV v m)
    (k14 : ∀ L x, C lk L 14 [v, Sg x] G = some (Bo (hasV m x), G)) (hsub : ∀ x ∈ l, x ∈ m) (hl : l.length ≤ 1000000)
    (hE : restrict [2, 6, 7, 9, 10, 11] env = [(2, .box gc), (6, .sl ca.length ca), (7, .sl cb.length cb), (9, .sl co.length co), (10, I i), (11, I 0)])
    (hQ : ∀ env', restrict [2, 6, 7, 9, 10] env' = [(2, .box gc), (6, .sl ca.length ca), (7, .sl cb.length cb), (9, .sl co.length co), (10, I i)] → Q (.exit 2) env' G) :
    WB ⟨C, lk, 0, [2, 3, 5, 8]⟩ (.loop [2, 6, 7, 9, 10, 11] t5L1) Q env G := by
  have hia : i < ca.length := (List.getElem?_eq_some_iff.1 hw).1
  have hib : i < cb.length := (List.getElem?_eq_some_iff.1 hv).1
  have hwE : ca[i] = w := by rw [List.getElem?_eq_getElem hia] at hw; simpa using hw
  have hvE : cb[i] = v := by rw [List.getElem?_eq_getElem hib] at hv; simpa using hv
  have hia' : (i : Int) < ca.length := by omega
  have hib' : (i : Int) < cb.length := by omega
  refine wb_loop (σ := Nat) (fun j => [(2, .box gc), (6, .sl ca.length ca), (7, .sl cb.length cb), (9, .sl co.length co), (10, I i), (11, I j)]) (fun _ => G) (fun j => j ≤ l.length) (fun j => l.length - j) ?_ 0 (by omega) hE rfl
  intro j hj
  unfold t5L1
  by_cases hjl : j < l.length
  · have hjl' : (j : Int) < l.length := by omega
    have w1 : IntKind.i64.wrap ((j : Int) + 1) = (j : Int) + 1 := wrap64 (by omega) (by omega)
    have hx : l[j] ∈ m := hsub _ (List.getElem_mem hjl)
    have k14 := fun L => k14 L l[j]
    rw [show hasV m l[j] = true from hasV_iff.2 hx] at k14
    have ga := rowsB_getE hjl
    have hwr : w = rowsV l := by
      rcases hwl with e | ⟨_, e⟩
      · exact e
      · subst e; simp at hjl
    have hvr : v = rowsV m := by
      rcases hvm with e | ⟨_, e⟩
      · exact e
      · subst e; simp at hx
    subst hwr; subst hvr
    generalize l[j] = x at *
    simp [hia, hia', hib, hib', hw, hwE, hv, hvE, hjl, hjl', rowsB_len, ga, k14, w1, rnd_nrm]
    exact ⟨j + 1, by omega, by omega, by omega⟩
  · obtain rfl : j = l.length := by omega
    rcases hwl with rfl | ⟨rfl, rfl⟩
    all_goals
      simp [hia, hia', hib, hib', hw, hwE]
      exact hQ _ (by simp)
set_option maxRecDepth 20000 in
theorem m5L2 {C : Orc} {lk : Nat} {Q : Ex → Kt} {env : Env} {G : Heap} {t n : Nat} {k : Int} {v4 : AV} {ca cb co : List AV} {SA SB SO : Ss} (hlk : lk ≤ G.length) (hA : SC ca SA) (hB : SC cb SB) (hO : SC co SO) (la : SA.length = n) (lb : SB.length = n) (lo : SO.length = n) (hn : n ≤ 1000000)
    (k14 : ∀ (L : Nat) (v : AV) (m : List (List UInt8)) (x : List UInt8), RV v m → m.length ≤ 1000000000 → C lk L 14 [v, Sg x] G = some (Bo (hasV m x), G))
    (k12 : ∀ (K : Nat) (_ : K ≤ G.length) (L : Nat) (v : AV) (l : List (List UInt8)), RV v l → l.length ≤ 2000000 → (∀ x ∈ l, x.length ≤ 1000000) → C K L 12 [I 1, v, rowsV [[]]] G = some (catV 1 l [[]], G))
    (k13 : ∀ (L : Nat) (v w : AV) (l m : List (List UInt8)), RV v l → RV w m → l.length ≤ 1000000000 → C lk L 13 [v, w] G = some (Bo (decide (l = m)), G))
    (hsz : ∀ i, ((SA.getD i []).length ≤ 1000000 ∧ (SB.getD i []).length ≤ 1000000) ∧ ∀ x ∈ SA.getD i [], x.length ≤ 1000000)
    (hsub : ∀ i, ∀ x ∈ SA.getD i [], x ∈ SB.getD i []) (hcut : ∀ i, cat 1 (SA.getD i []) [[]] = SO.getD i [])
    (hE : restrict [2, 6, 7, 9, 10] env = [(2, .box [I t, I n, I k, v4]), (6, .sl ca.length ca), (7, .sl cb.length cb), (9, .sl co.length co), (10, I 0)])
    (hQ : ∀ env', Q (.exit 0) env' G) :
    WB ⟨C, lk, 0, [2, 3, 5, 8]⟩ (.loop [2, 6, 7, 9, 10] t5L2) Q env G := by
  refine wb_loop (σ := Nat) (fun i => [(2, .box [I t, I n, I k, v4]), (6, .sl ca.length ca), (7, .sl cb.length cb), (9, .sl co.length co), (10, I i)]) (fun _ => G) (fun i => i ≤ n) (fun i => n - i) ?_ 0 (by omega) hE rfl
  intro i hi
  unfold t5L2
  by_cases hil : i < n
  case neg =>
    obtain rfl : i = n := by omega
    simp
    exact hQ _
  have w1 : IntKind.i64.wrap ((i : Int) + 1) = (i : Int) + 1 := wrap64 (by omega) (by omega)
  obtain ⟨w, hw, hrw⟩ := hA.get (j := i) (by omega)
  obtain ⟨v, hv, hrv⟩ := hB.get (j := i) (by omega)
  obtain ⟨u, hu, hru⟩ := hO.get (j := i) (by omega)
  have sz := hsz i
  have hsub := hsub i
  have hc := hcut i
  generalize SA.getD i [] = l at *
  generalize SB.getD i [] = m at *
  generalize SO.getD i [] = o at *
  have main := fun Q env hE hQ => m5L1 (C := C) (lk := lk) (Q := Q) (env := env) (gc := [I t, I n, I k, v4]) (co := co) hw hv hrw hrv (fun L x => k14 L v _ x hrv (by omega)) hsub sz.1.1 hE hQ
  have k12 := fun K hK L => k12 K hK L w _ hrw (by omega) sz.2
  have hcs : (cat 1 l [[]]).length ≤ 1000000000 := by
    unfold cat
    rw [if_neg (by simp)]
    exact Nat.le_trans (norm_le _) (Nat.le_trans (catL_len _ _ (by simp) _) (by simp; omega))
  have k13 := fun L => k13 L _ u _ _ (RV.cat 1 l [[]]) hru hcs
  rw [decide_eq_true hc] at k13
  have hia : i < ca.length := (List.getElem?_eq_some_iff.1 hw).1
  have hio : i < co.length := (List.getElem?_eq_some_iff.1 hu).1
  have hwE : ca[i] = w := by rw [List.getElem?_eq_getElem hia] at hw; simpa using hw
  have huE : co[i] = u := by rw [List.getElem?_eq_getElem hio] at hu; simpa using hu
  have hia' : (i : Int) < ca.length := by omega
  have hio' : (i : Int) < co.length := by omega
  have hn0 := Nat.le_refl G.length
  have rvc := rv_noRp (RV.cat 1 l [[]])
  have hrv1 : rowsV [[]] = .sl 1 [Sg []] := rfl
  have hrw := rv_noRp hrw
  have hru := rv_noRp hru
  rw [hrv1] at k12
  generalize catV 1 l [[]] = cv at *
  generalize t5L1 = lp at *
  simp [hil]
  refine main _ _ (by simp) fun env' he => ?_
  rw [blk_exit, if_pos rfl, fol_nrm, wb_seq, wb_regD rfl, he]
  rcases hrw with rfl | rfl <;> rcases hru with rfl | rfl <;> rcases rvc with rfl | rfl
  all_goals
    have k12' : ∀ K, K ≤ G.length → ∀ L, C K L 12 [I 1, _, .sl 1 [.val (.string ⟨#[]⟩)]] G = _ := k12
    simp [hia, hia', hio, hio', hw, hwE, hu, huE, k12', k13, hlk, hn0, w1, rnd_nrm]
    exact ⟨i + 1, by omega, by omega, by omega⟩
end Go.Proofs.Ytpaocofhpdmjpaa
