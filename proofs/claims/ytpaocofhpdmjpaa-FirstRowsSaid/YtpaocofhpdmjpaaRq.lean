import Derived.Test.YtpaocofhpdmjpaaRp
set_option linter.unusedSimpArgs false
set_option linter.unusedVariables false
namespace Go.Proofs.Ytpaocofhpdmjpaa
open Go Go.Hm

def powN (t i : Nat) : Nat := t ^ i
set_option maxRecDepth 20000 in
/-- How many there are. -/
theorem c7L1 {C : Orc} {Q : Ex → Kt} {env : Env} {H : Heap} {t k : Nat} (ht : t < 5) (hk : k < 4)
    (hE : restrict [0, 1, 5, 6, 7, 8, 9, 10, 11] env = [(0, I t), (1, I k), (5, .hp 0 1 0), (6, .hp 1 1 0), (7, .hp 2 1 0), (8, Bo true), (9, I 0), (10, I 1), (11, I 0)])
    (hQ : ∀ env', restrict [0, 1, 5, 6, 7, 8, 9, 10] env' = [(0, I t), (1, I k), (5, .hp 0 1 0), (6, .hp 1 1 0), (7, .hp 2 1 0), (8, Bo true), (9, I (sumP t k)), (10, I (powN t k))] → Q (.exit 0) env' H) :
    WB ⟨C, 0, 0, []⟩ (.loop [0, 1, 5, 6, 7, 8, 9, 10, 11] t7L1) Q env H := by
  refine wb_loop (σ := Nat) (fun i => [(0, I t), (1, I k), (5, .hp 0 1 0), (6, .hp 1 1 0), (7, .hp 2 1 0), (8, Bo true), (9, I (sumP t i)), (10, I (powN t i)), (11, I i)]) (fun _ => H) (fun i => i ≤ k) (fun i => k - i) ?_ 0 (by omega) hE rfl
  intro i hi
  unfold t7L1
  by_cases hik : i < k
  case neg =>
    obtain rfl : i = k := by omega
    generalize hp : powN t i = p at hQ ⊢
    simp
    refine hQ _ ?_
    simp
  have h1 := sumP_le ht (show i < 4 by omega)
  have h2 := sumP_le ht (show i + 1 < 4 by omega)
  have w1 : IntKind.i64.wrap ((i : Int) + 1) = (i : Int) + 1 := wrap64 (by omega) (by omega)
  have hs : sumP t (i + 1) = sumP t i + powN t i := rfl
  have hm : powN t (i + 1) = powN t i * t := rfl
  have h1 : sumP t i ≤ 21 ∧ powN t i ≤ 64 := h1
  have h2 : sumP t (i + 1) ≤ 21 ∧ powN t i * t ≤ 64 := h2
  have hfin : ∀ s' : Nat, s' = i + 1 → sumP t s' = sumP t i + powN t i ∧ powN t s' = powN t i * t := fun s' e => by subst e; exact ⟨hs, hm⟩
  have hf := hfin (i + 1) rfl
  generalize powN t i = p at *
  generalize sumP t i = s at *
  have w2 : IntKind.i64.wrap ((s : Int) + (p : Int)) = (s : Int) + p := wrap64 (by omega) (by omega)
  have hpt : p * t ≤ 64 := h2.2
  have hpt' : (p : Int) * (t : Int) = ((p * t : Nat) : Int) := by rw [Int.natCast_mul]
  have w3 : IntKind.i64.wrap ((p : Int) * (t : Int)) = ((p * t : Nat) : Int) := by rw [hpt']; exact wrap64 (by omega) (by omega)
  simp [hik, w1, w2, w3]
  rw [rnd_nrm]
  refine ⟨i + 1, by omega, by omega, ?_, rfl⟩
  rw [hf.1, hf.2]
  simp
def hsR (e : Int) (l : List (List UInt8)) : Heap := [.cells [I e], .cells [Bo false], .cells [rowsV l]]
set_option maxRecDepth 20000 in
/-- A row's bytes. -/
theorem c7L2 {C : Orc} {Q : Ex → Kt} {env : Env} {H : Heap} {t k i : Nat} {x : List UInt8} (ht : t < 5) (hxl : x.length ≤ 3) (hb : ∀ (n : Nat) (h : n < x.length), x[n].toNat < t ∨ (x[n] = 255 ∧ n + 1 = x.length))
    (hE : restrict [0, 1, 5, 6, 7, 12, 13, 14] env = [(0, I t), (1, I k), (5, .hp 0 1 0), (6, .hp 1 1 0), (7, .hp 2 1 0), (12, I i), (13, Sg x), (14, I 0)])
    (hQ : ∀ env', restrict [0, 1, 5, 6, 7, 12] env' = [(0, I t), (1, I k), (5, .hp 0 1 0), (6, .hp 1 1 0), (7, .hp 2 1 0), (12, I i)] → Q (.exit 4) env' H) :
    WB ⟨C, 0, 0, []⟩ (.loop [0, 1, 5, 6, 7, 12, 13, 14] t7L2) Q env H := by
  refine wb_loop (σ := Nat) (fun n => [(0, I t), (1, I k), (5, .hp 0 1 0), (6, .hp 1 1 0), (7, .hp 2 1 0), (12, I i), (13, Sg x), (14, I n)]) (fun _ => H) (fun n => n ≤ x.length) (fun n => x.length - n) ?_ 0 (by omega) hE rfl
  intro n hn
  unfold t7L2
  by_cases hnl : n < x.length
  case neg =>
    obtain rfl : n = x.length := by omega
    simp [Sg_size]
    refine hQ _ ?_
    simp
  have w1 : IntKind.i64.wrap ((n : Int) + 1) = (n : Int) + 1 := wrap64 (by omega) (by omega)
  have hbn := hb n hnl
  have hg : (⟨⟨x⟩⟩ : ByteArray)[n]'hnl = x[n] := rfl
  generalize x[n] = c at hbn hg
  have hc := UInt8.toNat_lt c
  have w2 : IntKind.i64.wrap (c.toNat : Int) = (c.toNat : Int) := wrap64 (by omega) (by omega)
  have hbe := byte_eq c
  have w3 : IntKind.i64.wrap ((x.length : Int) - 1) = (x.length : Int) - 1 := wrap64 (by omega) (by omega)
  by_cases hct : c.toNat < t
  · have hct' : ¬ (t : Int) ≤ (c.toNat : Int) := by omega
    have hct2 : ¬ t ≤ c.toNat := by omega
    simp [Sg_size, Sg_get, hnl, hg, w1, w2, hct2]
    rw [rnd_nrm]
    exact ⟨n + 1, by omega, by omega, by simp, rfl⟩
  · obtain ⟨rfl, hlast⟩ := hbn.resolve_left hct
    have hct2 : t ≤ (255 : UInt8).toNat := by omega
    have hne : ((255 : UInt8) == 255) = true := rfl
    rw [hne] at hbe
    have hls : ¬ (n : Int) < (x.length : Int) - 1 := by omega
    have w255 : IntKind.i64.wrap 255 = 255 := by decide
    have ht255 : (t : Int) ≤ 255 := by omega
    simp [Sg_size, Sg_get, hnl, hg, w1, w2, hct2, hbe, w3, hls, w255, ht255]
    rw [rnd_nrm]
    exact ⟨n + 1, by omega, by omega, by simp, rfl⟩
set_option maxRecDepth 20000 in
/-- All rows. -/
theorem c7L3 {C : Orc} {Q : Ex → Kt} {env : Env} {e : Int} {t k : Nat} {l : List (List UInt8)} (ht : t < 5) (hk : k < 4) (gd : Good t k l) (hl : l.length ≤ 85)
    (hE : restrict [0, 1, 5, 6, 7, 12] env = [(0, I t), (1, I k), (5, .hp 0 1 0), (6, .hp 1 1 0), (7, .hp 2 1 0), (12, I 0)])
    (hQ : ∀ env', restrict [0, 1, 5, 6, 7] env' = [(0, I t), (1, I k), (5, .hp 0 1 0), (6, .hp 1 1 0), (7, .hp 2 1 0)] → Q (.exit 2) env' (hsR e l)) :
    WB ⟨C, 0, 0, []⟩ (.loop [0, 1, 5, 6, 7, 12] t7L3) Q env (hsR e l) := by
  refine wb_loop (σ := Nat) (fun i => [(0, I t), (1, I k), (5, .hp 0 1 0), (6, .hp 1 1 0), (7, .hp 2 1 0), (12, I i)]) (fun _ => hsR e l) (fun i => i ≤ l.length) (fun i => l.length - i) ?_ 0 (by omega) hE rfl
  intro i hi
  unfold t7L3
  by_cases hil : i < l.length
  case neg =>
    obtain rfl : i = l.length := by omega
    simp [hsR]
    refine hQ _ ?_
    simp
  have w1 : IntKind.i64.wrap ((i : Int) + 1) = (i : Int) + 1 := wrap64 (by omega) (by omega)
  have hm := List.getElem_mem hil
  have gl := gd.len _ hm
  have gn := gd.ne _ hm
  have ga := gd.last _ hm
  have gb := gd.b _ hm
  have gx := rowsB_getE hil
  have fin : ∀ {env : Env}, restrict [0, 1, 5, 6, 7, 12, 13, 14] env = [(0, I t), (1, I k), (5, .hp 0 1 0), (6, .hp 1 1 0), (7, .hp 2 1 0), (12, I i), (13, Sg l[i]), (14, I 0)] → ∀ Q : Ex → Kt, (∀ env', restrict [0, 1, 5, 6, 7, 12] env' = [(0, I t), (1, I k), (5, .hp 0 1 0), (6, .hp 1 1 0), (7, .hp 2 1 0), (12, I i)] → Q (.exit 4) env' (hsR e l)) → WB ⟨C, 0, 0, []⟩ (.loop [0, 1, 5, 6, 7, 12, 13, 14] t7L2) Q env (hsR e l) :=
    fun he Q hQ => c7L2 ht (by omega) gb he hQ
  have hup : ∀ j, (hj : j + 1 = i) → Op.bytesLess (l[j]'(by omega)) l[i] = true := fun j hj => by
    subst hj; exact gd.up j hil
  generalize l[i] = x at *
  have hx0 : ¬ (k : Int) < x.length := by omega
  have hne : (x == []) = false := by
    cases x with
    | nil => simp at gn
    | cons => rfl
  have heq := sg_eqlN x
  rw [hne] at heq
  have w3 : IntKind.i64.wrap ((x.length : Int) - 1) = ((x.length - 1 : Nat) : Int) := by rw [wrap64 (by omega) (by omega)]; omega
  have hx1 : x.length - 1 < x.length := by omega
  have hg : (⟨⟨x⟩⟩ : ByteArray)[x.length - 1]'hx1 = x[x.length - 1] := rfl
  have h255 : x.length < k → (((⟨⟨x⟩⟩ : ByteArray)[x.length - 1]'hx1).toNat : Int) = 255 := fun h => by
    rcases ga with h' | h'
    · omega
    · rw [hg, h' hx1]; rfl
  have hk3 : ¬ k < x.length := by omega
  have main : ∀ {env : Env} {Q : Ex → Kt}, restrict [0, 1, 5, 6, 7, 12, 13] env = [(0, I t), (1, I k), (5, .hp 0 1 0), (6, .hp 1 1 0), (7, .hp 2 1 0), (12, I i), (13, Sg x)] → (∀ env', restrict [0, 1, 5, 6, 7, 12] env' = [(0, I t), (1, I k), (5, .hp 0 1 0), (6, .hp 1 1 0), (7, .hp 2 1 0), (12, I i)] → Q .nrm env' (hsR e l)) →
      WB ⟨C, 0, 0, []⟩ (.seq (.regN [0, 1, 5, 6, 7, 12, 13] [⟨some 14, none, .mv (.con (.val (.int .i64 0))), 0, false⟩]) (.block 4 (.loop [0, 1, 5, 6, 7, 12, 13, 14] t7L2))) Q env (hsR e l) := fun he hQ => by
    rw [wb_seq, wb_regN, he]
    simp
    refine fin (by simp) _ fun env' he' => ?_
    rw [blk_exit, if_pos rfl]
    exact hQ _ he'
  have done : ∀ env' : Env, restrict [0, 1, 5, 6, 7, 12] env' = [(0, I t), (1, I k), (5, .hp 0 1 0), (6, .hp 1 1 0), (7, .hp 2 1 0), (12, I i)] → WB ⟨C, 0, 0, []⟩ (.regN [0, 1, 5, 6, 7, 12] [⟨some 65, none, .mv (.tmp 12), 0, false⟩, ⟨some 66, none, .bini .add (.tmp 65) (.con (.val (.int .i64 1))), 0, false⟩, ⟨some 12, none, .mv (.tmp 66), 0, false⟩])
      (Rnd [0, 1, 5, 6, 7, 12] (fun i : Nat => [(0, I t), (1, I k), (5, .hp 0 1 0), (6, .hp 1 1 0), (7, .hp 2 1 0), (12, I i)]) (fun _ => hsR e l) (fun i : Nat => i ≤ l.length) (fun i : Nat => l.length - i) i Q) env' (hsR e l) := fun env' he => by
    rw [wb_regN, he]
    simp [w1]
    rw [rnd_nrm]
    exact ⟨i + 1, by omega, by omega, by simp, rfl⟩
  generalize hH : hsR e l = HH at *
  have hget : HH[2]? = some (.cells [rowsV l]) := by rw [← hH]; rfl
  by_cases h0 : i = 0
  · subst h0
    by_cases hlk : x.length < k
    · have h5 := h255 hlk
      simp [-wb_false, hget, hil, gx, Sg_size, hk3, heq, hlk, hx1, Sg_get, w3, h5]
      rw [wb_false rfl, wb_skip, fol_nrm]
      refine main (by simp) fun env' he' => ?_
      rw [blk_nrm, fol_nrm]
      exact done _ he'
    · simp [-wb_false, hget, hil, gx, Sg_size, hk3, heq, hlk]
      rw [wb_false rfl, wb_skip, fol_nrm]
      refine main (by simp) fun env' he' => ?_
      rw [blk_nrm, fol_nrm]
      exact done _ he'
  · obtain ⟨j, hj⟩ : ∃ j, j + 1 = i := ⟨i - 1, by omega⟩
    have hjl : j < l.length := by omega
    have gj := rowsB_getE hjl
    have hlt := hup j hj
    generalize l[j] = y at gj hlt
    have hge := sg_geq y x
    rw [hlt] at hge
    have w2 : IntKind.i64.wrap ((i : Int) - 1) = (j : Int) := by rw [wrap64 (by omega) (by omega)]; omega
    have hp : 0 < i := by omega
    by_cases hlk : x.length < k
    · have h5 := h255 hlk
      simp [-wb_false, hget, hil, hjl, gx, gj, hge, w2, hp, Sg_size, hk3, heq, hlk, hx1, Sg_get, w3, h5]
      rw [wb_false rfl, wb_skip, fol_nrm]
      refine main (by simp) fun env' he' => ?_
      rw [blk_nrm, fol_nrm]
      exact done _ he'
    · simp [-wb_false, hget, hil, hjl, gx, gj, hge, w2, hp, Sg_size, hk3, heq, hlk]
      rw [wb_false rfl, wb_skip, fol_nrm]
      refine main (by simp) fun env' he' => ?_
      rw [blk_nrm, fol_nrm]
      exact done _ he'
end Go.Proofs.Ytpaocofhpdmjpaa
