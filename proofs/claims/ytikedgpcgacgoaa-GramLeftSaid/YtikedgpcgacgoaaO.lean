import Derived.Test.YtikedgpcgacgoaaN
import Derived.Test.YtikedgpcgacgoaaHmG10
set_option linter.unusedSimpArgs false
set_option linter.unusedVariables false
namespace Go.Proofs.Ytikedgpcgacgoaa
open Go Go.Hm

/-! ### So many rounds -/
theorem light_bd {g : Gm} (h : light g = true) : g.ps.length ≤ 1000000 ∧ ∀ p ∈ g.ps, p.r.length ≤ 1000000 := by
  unfold light at h
  split at h
  · cases h
  · split at h
    · cases h
    · rename_i h1 h2
      simp only [Bool.not_eq_true, List.any_eq_false, Bool.or_eq_true, decide_eq_true_eq, not_or] at h2
      exact ⟨by omega, fun p hp => by have := (h2 p hp).2; omega⟩
def itF (f : List Bool → List Bool) : Nat → List Bool → List Bool
  | 0, o => o
  | m + 1, o => itF f m (f o)
theorem itF_succ (f : List Bool → List Bool) : ∀ (m : Nat) (o : List Bool), itF f (m + 1) o = f (itF f m o)
  | 0, _ => rfl
  | m + 1, o => itF_succ f m (f o)
theorem itF_fix {f : List Bool → List Bool} {o : List Bool} (h : f o = o) : ∀ m, itF f m o = o
  | 0 => rfl
  | m + 1 => by simp only [itF, h]; exact itF_fix h m
theorem itF_fin {f : List Bool → List Bool} (hf : Grows f) : ∀ (m : Nat) (o : List Bool), cntF o ≤ m → itF f m o = fin f o
  | m, o, h => by
    rw [fin_step hf]
    by_cases he : f o = o
    · rw [if_pos he]; exact itF_fix he m
    · rw [if_neg he]
      rcases hf o with h1 | h1
      · exact absurd h1 he
      · cases m with
        | zero => omega
        | succ m => exact itF_fin hf m (f o) (by omega)
theorem cntF_le : ∀ o : List Bool, cntF o ≤ o.length
  | [] => Nat.le_refl _
  | b :: o => by
    have := cntF_le o
    simp only [cntF, List.length_cons]
    split <;> omega
theorem set_self2 (o : List Bool) (i : Nat) (h : i < o.length) : o.set i o[i] = o := by
  simp
theorem derP_set (g : Gm) (tok : Bool) (o : List Bool) (p : Pr) (h : p.l.toNat < o.length) : derP g tok o p = o.set p.l.toNat (o[p.l.toNat] || p.r.all (okS g tok o)) := by
  unfold derP
  rw [getD_of h]
  cases hv : o[p.l.toNat] with
  | true => rw [if_pos rfl, Bool.true_or, ← hv, set_self2]
  | false =>
    rw [if_neg (by simp), Bool.false_or]
    cases ha : p.r.all (okS g tok o) with
    | true => rw [if_pos rfl]
    | false => rw [if_neg (by simp), ← hv, set_self2]
theorem rchS_set (g : Gm) (o : List Bool) (s : Int) (h : (s - g.t).toNat < o.length) : rchS g o s = if s < g.t then o else o.set (s - g.t).toNat true := by
  unfold rchS
  split
  · rfl
  · rw [getD_of h]
    split
    · rename_i h2
      rw [← h2, set_self2]
    · rfl
theorem rnd_len {α : Type} {st : List Bool → α → List Bool} (h : ∀ o p, (st o p).length = o.length) : ∀ (l : List α) (o : List Bool), (rnd st l o).length = o.length
  | [], _ => rfl
  | p :: l, o => by
    have := rnd_len h l (st o p)
    simp only [rnd, List.foldl_cons] at this ⊢
    rw [this, h]
theorem itF_len {f : List Bool → List Bool} (h : ∀ o, (f o).length = o.length) : ∀ (m : Nat) (o : List Bool), (itF f m o).length = o.length
  | 0, _ => rfl
  | m + 1, o => by rw [itF, itF_len h m, h]
theorem cells3 (n : Nat) : (repl n [Bo false]) = bools (List.replicate n false) := bools_rep n

set_option maxRecDepth 20000 in
theorem t4r0 {C : Orc} {Q : Ex → Kt} {env : Env} {t k : Int} {n pl i j : Nat} {ps : List Pr} {pr : List Int} {a0 a1 a2 : List Bool} (hpl : pl < n) (p0 : pl < a0.length) (e0 : a0.length = n)
    (kh : ∀ L, C 0 L 14 [.agg [I t, I n, I k, .sl ps.length (psC ps)], .sl pr.length (ints pr), Bo false, .hs 0 n 0 n 1] [.cells (bools a0), .cells (bools a1), .cells (bools a2)] = some (Bo (pr.all (okS ⟨t, n, k, ps⟩ false a0)), [.cells (bools a0), .cells (bools a1), .cells (bools a2)]))
    (hE : restrict [1, 3, 4, 5, 6, 7, 8] env = [(1, .box [I t, I n, I k, .sl ps.length (psC ps)]), (3, .hs 0 n 0 n 1), (4, .hs 1 n 0 n 1), (5, .hs 2 n 0 n 1), (6, I i), (7, I j), (8, .box [I pl, .sl pr.length (ints pr)])])
    (hQ : ∀ env', restrict [1, 3, 4, 5, 6, 7, 8] env' = [(1, .box [I t, I n, I k, .sl ps.length (psC ps)]), (3, .hs 0 n 0 n 1), (4, .hs 1 n 0 n 1), (5, .hs 2 n 0 n 1), (6, I i), (7, I j), (8, .box [I pl, .sl pr.length (ints pr)])] → Q .nrm env' [.cells (bools (a0.set pl (a0[pl] || pr.all (okS ⟨t, n, k, ps⟩ false a0)))), .cells (bools a1), .cells (bools a2)]) :
    WB ⟨C, 0, 0, [1, 8]⟩ (.regD [1, 3, 4, 5, 6, 7, 8] 0 [
                ⟨(some 49), none, .mv (.tmp 3), 0, false⟩,
                ⟨(some 50), none, .fldA 0 (.tmp 8), 0, false⟩,
                ⟨(some 51), none, .ld1 (some 8) (.tmp 50), 0, false⟩,
                ⟨(some 52), none, .mv (.tmp 3), 0, false⟩,
                ⟨(some 53), none, .fldA 0 (.tmp 8), 0, false⟩,
                ⟨(some 54), none, .ld1 (some 8) (.tmp 53), 0, false⟩,
                ⟨(some 55), none, .ixA 1 (.tmp 52) (.tmp 54), 0, false⟩,
                ⟨(some 56), none, .ld1 none (.tmp 55), 0, false⟩,
                ⟨(some 57), none, .mv (.tmp 56), 0, false⟩,
                ⟨(some 58), (some (57, false)), .ldA (some 1) 4 (.tmp 1), 0, false⟩,
                ⟨(some 59), (some (57, false)), .fldA 1 (.tmp 8), 0, false⟩,
                ⟨(some 60), (some (57, false)), .ld1 (some 8) (.tmp 59), 0, false⟩,
                ⟨(some 61), (some (57, false)), .mv (.tmp 3), 0, false⟩,
                ⟨(some 62), (some (57, false)), .call 14 [(.tmp 58), (.tmp 60), (.con (.val (.bool false))), (.tmp 61)], 0, true⟩,
                ⟨(some 63), none, .pick (.tmp 57) (.con (.val (.bool true))) (.tmp 62), 0, false⟩,
                ⟨(some 64), none, .ixA 1 (.tmp 49) (.tmp 51), 0, false⟩,
                ⟨none, none, .st none 1 (.tmp 64) (.tmp 63), 0, false⟩]) Q env [.cells (bools a0), .cells (bools a1), .cells (bools a2)] := by
  have p0' : pl < (bools a0).length := by simpa using p0
  have pn : pl + 1 ≤ n := hpl
  cases hv : a0[pl] with
  | true =>
    rw [hv] at hQ
    simp only [Bool.true_or] at hQ
    rw [wb_regD rfl, hE]
    simp [hpl, e0, p0, bools_get, hv, setH, pn, replaceAt_one _ p0', bools_set]
    refine hQ _ ?_
    simp
  | false =>
    rw [hv] at hQ
    simp only [Bool.false_or] at hQ
    generalize hw : pr.all (okS ⟨t, n, k, ps⟩ false a0) = w at hQ kh
    clear hw
    rw [wb_regD rfl, hE]
    simp [hpl, e0, p0, bools_get, hv, setH, pn, replaceAt_one _ p0', bools_set, kh]
    refine hQ _ ?_
    simp
set_option maxRecDepth 20000 in
theorem t4r1 {C : Orc} {Q : Ex → Kt} {env : Env} {t k : Int} {n pl i j : Nat} {ps : List Pr} {pr : List Int} {a0 a1 a2 : List Bool} (hpl : pl < n) (p0 : pl < a1.length) (e0 : a1.length = n)
    (kh : ∀ L, C 0 L 14 [.agg [I t, I n, I k, .sl ps.length (psC ps)], .sl pr.length (ints pr), Bo true, .hs 1 n 0 n 1] [.cells (bools a0), .cells (bools a1), .cells (bools a2)] = some (Bo (pr.all (okS ⟨t, n, k, ps⟩ true a1)), [.cells (bools a0), .cells (bools a1), .cells (bools a2)]))
    (hE : restrict [1, 3, 4, 5, 6, 7, 8] env = [(1, .box [I t, I n, I k, .sl ps.length (psC ps)]), (3, .hs 0 n 0 n 1), (4, .hs 1 n 0 n 1), (5, .hs 2 n 0 n 1), (6, I i), (7, I j), (8, .box [I pl, .sl pr.length (ints pr)])])
    (hQ : ∀ env', restrict [1, 3, 4, 5, 6, 7, 8] env' = [(1, .box [I t, I n, I k, .sl ps.length (psC ps)]), (3, .hs 0 n 0 n 1), (4, .hs 1 n 0 n 1), (5, .hs 2 n 0 n 1), (6, I i), (7, I j), (8, .box [I pl, .sl pr.length (ints pr)])] → Q .nrm env' [.cells (bools a0), .cells (bools (a1.set pl (a1[pl] || pr.all (okS ⟨t, n, k, ps⟩ true a1)))), .cells (bools a2)]) :
    WB ⟨C, 0, 0, [1, 8]⟩ (.regD [1, 3, 4, 5, 6, 7, 8] 0 [
                ⟨(some 65), none, .mv (.tmp 4), 0, false⟩,
                ⟨(some 66), none, .fldA 0 (.tmp 8), 0, false⟩,
                ⟨(some 67), none, .ld1 (some 8) (.tmp 66), 0, false⟩,
                ⟨(some 68), none, .mv (.tmp 4), 0, false⟩,
                ⟨(some 69), none, .fldA 0 (.tmp 8), 0, false⟩,
                ⟨(some 70), none, .ld1 (some 8) (.tmp 69), 0, false⟩,
                ⟨(some 71), none, .ixA 1 (.tmp 68) (.tmp 70), 0, false⟩,
                ⟨(some 72), none, .ld1 none (.tmp 71), 0, false⟩,
                ⟨(some 73), none, .mv (.tmp 72), 0, false⟩,
                ⟨(some 74), (some (73, false)), .ldA (some 1) 4 (.tmp 1), 0, false⟩,
                ⟨(some 75), (some (73, false)), .fldA 1 (.tmp 8), 0, false⟩,
                ⟨(some 76), (some (73, false)), .ld1 (some 8) (.tmp 75), 0, false⟩,
                ⟨(some 77), (some (73, false)), .mv (.tmp 4), 0, false⟩,
                ⟨(some 78), (some (73, false)), .call 14 [(.tmp 74), (.tmp 76), (.con (.val (.bool true))), (.tmp 77)], 0, true⟩,
                ⟨(some 79), none, .pick (.tmp 73) (.con (.val (.bool true))) (.tmp 78), 0, false⟩,
                ⟨(some 80), none, .ixA 1 (.tmp 65) (.tmp 67), 0, false⟩,
                ⟨none, none, .st none 1 (.tmp 80) (.tmp 79), 0, false⟩]) Q env [.cells (bools a0), .cells (bools a1), .cells (bools a2)] := by
  have p0' : pl < (bools a1).length := by simpa using p0
  have pn : pl + 1 ≤ n := hpl
  cases hv : a1[pl] with
  | true =>
    rw [hv] at hQ
    simp only [Bool.true_or] at hQ
    rw [wb_regD rfl, hE]
    simp [hpl, e0, p0, bools_get, hv, setH, pn, replaceAt_one _ p0', bools_set]
    refine hQ _ ?_
    simp
  | false =>
    rw [hv] at hQ
    simp only [Bool.false_or] at hQ
    generalize hw : pr.all (okS ⟨t, n, k, ps⟩ true a1) = w at hQ kh
    clear hw
    rw [wb_regD rfl, hE]
    simp [hpl, e0, p0, bools_get, hv, setH, pn, replaceAt_one _ p0', bools_set, kh]
    refine hQ _ ?_
    simp
set_option maxRecDepth 20000 in
theorem grounded_code (g : Gm) : callW X A 0 0 4 [gV g] [] = some (Bo true, []) := by
  have kl := fun (L : Nat) => lives_code L
  have kk := fun (L : Nat) (H : Heap) => light_code (lk := 0) (lim := L) (H := H) g
  refine wb_callB [1, 8] rfl A4 rfl rfl ?_
  unfold t4B
  by_cases hli : light g = true
  case neg =>
    have hli : light g = false := by simpa using hli
    rw [hli] at kk
    obtain ⟨t, n, k, ps⟩ := g
    simp only [gV, Gm.cells] at kk
    generalize callW X A = C at kl kk ⊢
    simp [Gm.cells, kl, kk]
  rw [hli] at kk
  obtain ⟨hl, hr⟩ := light_bd hli
  have kc := fun (L : Nat) (H : Heap) => check_code (lk := 0) (lim := L) (H := H) g hl hr
  by_cases hc : chkE g = 0
  case neg =>
    obtain ⟨t, n, k, ps⟩ := g
    simp only [gV, Gm.cells] at kk kc
    generalize callW X A = C at kl kk kc ⊢
    simp [Gm.cells, kl, kk, kc, hc]
  have ok := gok_of hc
  rw [hc] at kc
  have kn := fun (L : Nat) (H : Heap) => null_code (lk := 0) (lim := L) (H := H) g hl hr (Nat.zero_le _)
  have kp := fun (L : Nat) (H : Heap) => prod_code (lk := 0) (lim := L) (H := H) g hl hr (Nat.zero_le _)
  have kr := fun (L : Nat) (H : Heap) => rch_code (lk := 0) (lim := L) (H := H) g hl hr (Nat.zero_le _)
  have kh := fun (L : Nat) (H : Heap) => holds_code (lk := 0) (lim := L) (H := H) g ok
  obtain ⟨t, n, k, ps⟩ := g
  have ok2 := ok
  obtain ⟨t1, t2, n1, n2, k1, k2, l1, l2, okp⟩ := ok2
  simp only at t1 t2 n1 n2 k1 k2 l1 l2 okp
  obtain ⟨n, rfl⟩ := Int.eq_ofNat_of_zero_le (by omega : 0 ≤ n)
  simp only [gV, Gm.cells] at kk kc kn kp kr kh
  simp only [Int.toNat_natCast] at kh
  have hro : (n : Int) ≤ (room : Int) := by unfold room; omega
  have z1 : 0 < n := by omega
  have z2 : 1 ≤ n := by omega
  have z3 : (bools (List.replicate n false)).length = n := by rw [bools_len]; simp
  have z4 : replaceAt (bools (List.replicate n false)) 0 [Bo true] = bools ((List.replicate n false).set 0 true) := by
    rw [replaceAt_one _ (by rw [z3]; omega), bools_set]
  have ks : ∀ (L : Nat) (H : Heap) (v w : AV) (a : List Bool), a.length = n → BS H n a v → BS H n a w → callW X A 0 L 15 [v, w] H = some (Bo true, H) := fun L H v w a ha hv hw => by
    have := sameB_code (lk := 0) (lim := L) (H := H) n n a a ha ha (by omega) (by omega) v w hv hw
    simpa using this
  let z : List Bool := List.replicate n false
  let z1L : List Bool := z.set 0 true
  let gg : Gm := ⟨t, n, k, ps⟩
  let f0 := rnd (derP gg false) ps
  let f1 := rnd (derP gg true) ps
  let f2 := rnd (rchP gg) ps
  have lz : z.length = n := by simp [z]
  have lz1 : z1L.length = n := by simp [z1L, z]
  have lf0 : ∀ o, (f0 o).length = o.length := fun o => rnd_len (fun o p => derP_len _ _ o p) ps o
  have lf1 : ∀ o, (f1 o).length = o.length := fun o => rnd_len (fun o p => derP_len _ _ o p) ps o
  have lf2 : ∀ o, (f2 o).length = o.length := fun o => rnd_len (fun o p => rchP_len _ o p) ps o
  have kn2 : ∀ (L : Nat) (H : Heap), callW X A 0 L 12 [.agg [I t, I n, I k, .sl ps.length (psC ps)]] H = some (.sl n (bools (itF f0 (n + 1) z)), H) := fun L H => by
    rw [kn L H]
    unfold derV
    rw [if_pos hc, itF_fin (rnd_grows (fun p => derP_grows gg false p) ps) _ _ (by have := cntF_le z; omega)]
    rfl
  have kp2 : ∀ (L : Nat) (H : Heap), callW X A 0 L 16 [.agg [I t, I n, I k, .sl ps.length (psC ps)]] H = some (.sl n (bools (itF f1 (n + 1) z)), H) := fun L H => by
    rw [kp L H]
    unfold derV
    rw [if_pos hc, itF_fin (rnd_grows (fun p => derP_grows gg true p) ps) _ _ (by have := cntF_le z; omega)]
    rfl
  have kr2 : ∀ (L : Nat) (H : Heap), callW X A 0 L 17 [.agg [I t, I n, I k, .sl ps.length (psC ps)]] H = some (.sl n (bools (itF f2 (n + 1) z1L)), H) := fun L H => by
    rw [kr L H]
    unfold rchV
    rw [if_pos hc, itF_fin (rnd_grows (fun p => rchP_grows gg p) ps) _ _ (by have := cntF_le z1L; omega)]
    rfl
  clear kn kp kr
  generalize hC : callW X A = C at kl kk kc kn2 kp2 kr2 kh ks ⊢
  simp [Gm.cells, kl, kk, kc]
  refine wb_regM rfl (by decide) (inv_cons2 rfl (inv_nil _)) ?_
  simp [hro, bools_rep, cls, rpOp, isRp, z1, z2, setH, replaceAt_one _ (show 0 < (bools (List.replicate n false)).length by simpa using z1), bools_set]
  let bx : AV := .box [I t, I n, I k, .sl ps.length (psC ps)]
  refine wb_loop (σ := Nat) (fun i => [(1, bx), (3, .hs 0 n 0 n 1), (4, .hs 1 n 0 n 1), (5, .hs 2 n 0 n 1), (6, I i)]) (fun i => [.cells (bools (itF f0 i z)), .cells (bools (itF f1 i z)), .cells (bools (itF f2 i z1L))])
    (fun i => i ≤ n + 1) (fun i => n + 1 - i) ?_ 0 (by simp) (by simp [bx]) (by simp [itF, z, z1L])
  intro i hi
  unfold t4L3
  have w1 : IntKind.i64.wrap ((i : Int) + 1) = (i : Int) + 1 := wrap64 (by omega) (by omega)
  by_cases hin : i ≤ n
  case neg =>
    obtain rfl : i = n + 1 := by omega
    have e1 : (itF f0 (n + 1) z).length = n := by rw [itF_len lf0, lz]
    have e2 : (itF f1 (n + 1) z).length = n := by rw [itF_len lf1, lz]
    have e3 : (itF f2 (n + 1) z1L).length = n := by rw [itF_len lf2, lz1]
    generalize itF f0 (n + 1) z = q0 at e1 kn2 ⊢
    generalize itF f1 (n + 1) z = q1 at e2 kp2 ⊢
    generalize itF f2 (n + 1) z1L = q2 at e3 kr2 ⊢
    have s1 := fun L => ks L [.cells (bools q0), .cells (bools q1), .cells (bools q2)] (.sl n (bools q0)) (.hs 0 n 0 n 1) q0 e1 (.inl rfl) (.inr ⟨0, rfl, rfl⟩)
    have s2 := fun L => ks L [.cells (bools q0), .cells (bools q1), .cells (bools q2)] (.sl n (bools q1)) (.hs 1 n 0 n 1) q1 e2 (.inl rfl) (.inr ⟨1, rfl, rfl⟩)
    have s3 := fun L => ks L [.cells (bools q0), .cells (bools q1), .cells (bools q2)] (.sl n (bools q2)) (.hs 2 n 0 n 1) q2 e3 (.inl rfl) (.inr ⟨2, rfl, rfl⟩)
    have hni : ¬ ((n : Int) + 1 ≤ n) := by omega
    simp [bx, hni, kn2, kp2, kr2, s1, s2, s3]
  have hin2 : (i : Int) ≤ n := by omega
  have m1 : (itF f0 i z).length = n := by rw [itF_len lf0, lz]
  have m2 : (itF f1 i z).length = n := by rw [itF_len lf1, lz]
  have m3 : (itF f2 i z1L).length = n := by rw [itF_len lf2, lz1]
  have u0 := itF_succ f0 i z
  have u1 := itF_succ f1 i z
  have u2 := itF_succ f2 i z1L
  have done3 : ∀ E H, E = [(1, bx), (3, .hs 0 n 0 n 1), (4, .hs 1 n 0 n 1), (5, .hs 2 n 0 n 1), (6, I ((i : Int) + 1))] → H = [HB.cells (bools (f0 (itF f0 i z))), .cells (bools (f1 (itF f1 i z))), .cells (bools (f2 (itF f2 i z1L)))] →
      ∃ i' : Nat, i' ≤ n + 1 ∧ n + 1 - i' < n + 1 - i ∧ E = [(1, bx), (3, .hs 0 n 0 n 1), (4, .hs 1 n 0 n 1), (5, .hs 2 n 0 n 1), (6, I i')] ∧ H = [HB.cells (bools (itF f0 i' z)), .cells (bools (itF f1 i' z)), .cells (bools (itF f2 i' z1L))] := fun E H hE hH =>
    ⟨i + 1, by omega, by omega, by rw [hE]; simp, by rw [hH, u0, u1, u2]⟩
  generalize itF f0 i z = o0 at m1 done3 ⊢
  generalize itF f1 i z = o1 at m2 done3 ⊢
  generalize itF f2 i z1L = o2 at m3 done3 ⊢
  simp [bx, hin2]
  let st0 := derP gg false
  let st1 := derP gg true
  let st2 := rchP gg
  refine wb_loop (σ := Nat) (fun j => [(1, bx), (3, .hs 0 n 0 n 1), (4, .hs 1 n 0 n 1), (5, .hs 2 n 0 n 1), (6, I i), (7, I j)]) (fun j => [.cells (bools (rnd st0 (ps.take j) o0)), .cells (bools (rnd st1 (ps.take j) o1)), .cells (bools (rnd st2 (ps.take j) o2))])
    (fun j => j ≤ ps.length) (fun j => ps.length - j) ?_ 0 (by simp) (by simp [bx]) (by simp [rnd])
  intro j hj
  unfold t4L2
  have w2 : IntKind.i64.wrap ((j : Int) + 1) = (j : Int) + 1 := wrap64 (by omega) (by omega)
  by_cases hjl : j < ps.length
  case neg =>
    obtain rfl : j = ps.length := by omega
    simp [bx, w1]
    rw [rnd_nrm]
    exact done3 _ _ (by simp [bx]) (by simp [f0, f1, f2, st0, st1, st2])
  have e0 : (rnd st0 (ps.take j) o0).length = n := by rw [rnd_len (fun o p => derP_len _ _ o p), m1]
  have e1 : (rnd st1 (ps.take j) o1).length = n := by rw [rnd_len (fun o p => derP_len _ _ o p), m2]
  have e2 : (rnd st2 (ps.take j) o2).length = n := by rw [rnd_len (fun o p => rchP_len _ o p), m3]
  have u0 := rnd_take st0 ps o0 j hjl
  have u1 := rnd_take st1 ps o1 j hjl
  have u2 := rnd_take st2 ps o2 j hjl
  have pok := okp ps[j] (List.getElem_mem hjl)
  have hs := psC_sub hjl
  have hll := psC_len ps
  have h2 : j * 2 + 2 ≤ 2 * ps.length := by omega
  generalize ps[j] = p at u0 u1 u2 hs pok
  have done2 : ∀ E H, E = [(1, bx), (3, .hs 0 n 0 n 1), (4, .hs 1 n 0 n 1), (5, .hs 2 n 0 n 1), (6, I i), (7, I ((j : Int) + 1))] → H = [HB.cells (bools (st0 (rnd st0 (ps.take j) o0) p)), .cells (bools (st1 (rnd st1 (ps.take j) o1) p)), .cells (bools (st2 (rnd st2 (ps.take j) o2) p))] →
      ∃ j' : Nat, j' ≤ ps.length ∧ ps.length - j' < ps.length - j ∧ E = [(1, bx), (3, .hs 0 n 0 n 1), (4, .hs 1 n 0 n 1), (5, .hs 2 n 0 n 1), (6, I i), (7, I j')] ∧ H = [HB.cells (bools (rnd st0 (ps.take j') o0)), .cells (bools (rnd st1 (ps.take j') o1)), .cells (bools (rnd st2 (ps.take j') o2))] := fun E H hE hH =>
    ⟨j + 1, by omega, by omega, by rw [hE]; simp, by rw [hH, u0, u1, u2]⟩
  generalize rnd st0 (ps.take j) o0 = a0 at e0 done2 ⊢
  generalize rnd st1 (ps.take j) o1 = a1 at e1 done2 ⊢
  generalize rnd st2 (ps.take j) o2 = a2 at e2 done2 ⊢
  obtain ⟨pl, pr⟩ := p
  obtain ⟨q1, q2, q3, q4⟩ := pok
  simp only at q1 q2 q3 q4
  simp only [Pr.cells] at hs
  obtain ⟨pl, rfl⟩ := Int.eq_ofNat_of_zero_le q2
  have hpl : pl < n := by omega
  have d0 := derP_set gg false a0 ⟨pl, pr⟩ (by simp only [Int.toNat_natCast]; omega)
  have d1 := derP_set gg true a1 ⟨pl, pr⟩ (by simp only [Int.toNat_natCast]; omega)
  simp only [Int.toNat_natCast] at d0 d1
  have k0 := fun L => kh L [.cells (bools a0), .cells (bools a1), .cells (bools a2)] pr q1 q4 false a0 e0 (.hs 0 n 0 n 1) (.inr ⟨0, rfl, rfl⟩)
  have k1 := fun L (a0' : List Bool) => kh L [.cells (bools a0'), .cells (bools a1), .cells (bools a2)] pr q1 q4 true a1 e1 (.hs 1 n 0 n 1) (.inr ⟨1, rfl, rfl⟩)
  have p0 : pl < a0.length := by omega
  have p1 : pl < a1.length := by omega
  have p2 : pl < a2.length := by omega
  have p0' : pl < (bools a0).length := by simpa using p0
  have p1' : pl < (bools a1).length := by simpa using p1
  have pn : pl + 1 ≤ n := hpl
  simp [-wi_stL, bx, hjl, hs, hll, h2]
  rw [wi_stL]
  simp [-wb_regD, replaceAt]
  refine t4r0 (i := i) (j := j) hpl p0 e0 k0 (by simp) (fun env1 hE1 => ?_)
  rw [← d0]
  rw [fol_nrm, wb_seq]
  refine t4r1 (i := i) (j := j) hpl p1 e1 (fun L => k1 L _) hE1 (fun env2 hE2 => ?_)
  rw [← d1]
  rw [fol_nrm, wb_seq, wb_regN, hE2]
  simp
  change ∀ (E : Env) (H : Heap), _ → H = [HB.cells (bools (derP gg false a0 ⟨pl, pr⟩)), .cells (bools (derP gg true a1 ⟨pl, pr⟩)), .cells (bools (st2 a2 ⟨pl, pr⟩))] → _ at done2
  generalize derP gg false a0 ⟨pl, pr⟩ = b0 at done2 ⊢
  generalize derP gg true a1 ⟨pl, pr⟩ = b1 at done2 ⊢
  let hbx : AV := .box [I pl, .sl pr.length (ints pr)]
  refine wb_loop (σ := Nat) (fun m => [(1, bx), (3, .hs 0 n 0 n 1), (4, .hs 1 n 0 n 1), (5, .hs 2 n 0 n 1), (6, I i), (7, I j), (8, hbx), (9, I m)]) (fun m => [.cells (bools b0), .cells (bools b1), .cells (bools ((pr.take m).foldl (rchS gg) a2))])
    (fun m => m ≤ pr.length ∧ (m = 0 ∨ a2.getD pl false = true)) (fun m => pr.length - m) ?_ 0 (by simp) (by simp [bx, hbx]) (by simp)
  rintro m ⟨hm, hgo⟩
  unfold t4L1
  have w3 : IntKind.i64.wrap ((m : Int) + 1) = (m : Int) + 1 := wrap64 (by omega) (by omega)
  by_cases hml : m < pr.length
  case neg =>
    obtain rfl : m = pr.length := by omega
    simp [bx, hbx, w2]
    rw [rnd_nrm]
    refine done2 _ _ ?_ ?_
    · simp [bx]
    have : st2 a2 ⟨pl, pr⟩ = pr.foldl (rchS gg) a2 := by
      show rchP gg a2 ⟨pl, pr⟩ = _
      unfold rchP
      simp only [Int.toNat_natCast]
      rcases hgo with h | h
      · have hpr : pr = [] := List.length_eq_zero_iff.1 h
        subst hpr
        split <;> rfl
      · rw [if_pos h]
    rw [this]
  have hnx := fold_take (rchS gg) pr a2 m hml
  have hkeep := rchF_keep gg (pr.take m) a2 pl
  have hlen := rchF_len gg (pr.take m) a2
  have hdone : a2.getD pl false = false → m = 0 := fun h => by
    rcases hgo with h2 | h2
    · exact h2
    · rw [h] at h2; cases h2
  have hst : a2.getD pl false = false → st2 a2 ⟨pl, pr⟩ = a2 := fun h => by
    show rchP gg a2 ⟨pl, pr⟩ = _
    unfold rchP
    simp only [Int.toNat_natCast, h]
    rfl
  obtain ⟨a3, ha3⟩ : ∃ a3, (pr.take m).foldl (rchS gg) a2 = a3 := ⟨_, rfl⟩
  rw [ha3] at hnx hkeep hlen
  have q3' : pl < a3.length := by omega
  have e3 : a3.length = n := by omega
  simp only [ha3]
  cases hv : a3[pl] with
  | false =>
    have hg2 : a2.getD pl false = false := by
      cases hq : a2.getD pl false with
      | false => rfl
      | true =>
        have := hkeep hq
        rw [getD_of q3', hv] at this
        cases this
    have hm0 := hdone hg2
    subst hm0
    have ha3 : a2 = a3 := ha3
    subst ha3
    rw [hst hg2] at done2
    simp [bx, hbx, hml, hpl, e3, bools_get, q3', hv, w2]
    rw [rnd_nrm]
    refine done2 _ _ ?_ ?_
    · simp [bx]
    · rfl
  | true =>
    have hg2 : a2.getD pl false = true := by
      rcases hgo with h | h
      · subst h
        have ha3 : a2 = a3 := ha3
        subst ha3
        rw [getD_of q3', hv]
      · exact h
    have done1 : ∀ E H, E = [(1, bx), (3, .hs 0 n 0 n 1), (4, .hs 1 n 0 n 1), (5, .hs 2 n 0 n 1), (6, I i), (7, I j), (8, hbx), (9, I ((m : Int) + 1))] → H = [HB.cells (bools b0), .cells (bools b1), .cells (bools (rchS gg a3 pr[m]))] →
        ∃ m' : Nat, (m' ≤ pr.length ∧ (m' = 0 ∨ a2.getD pl false = true)) ∧ pr.length - m' < pr.length - m ∧ E = [(1, bx), (3, .hs 0 n 0 n 1), (4, .hs 1 n 0 n 1), (5, .hs 2 n 0 n 1), (6, I i), (7, I j), (8, hbx), (9, I m')] ∧ H = [HB.cells (bools b0), .cells (bools b1), .cells (bools ((pr.take m').foldl (rchS gg) a2))] := fun E H hE hH =>
      ⟨m + 1, ⟨by omega, .inr hg2⟩, by omega, by rw [hE]; simp, by rw [hH, hnx]⟩
    obtain ⟨x1, x2⟩ := q4 pr[m] (List.getElem_mem hml)
    obtain ⟨x, hx⟩ : ∃ x, pr[m] = x := ⟨_, rfl⟩
    rw [hx] at x1 x2 done1
    by_cases hxt : x < t
    · have hr : rchS gg a3 x = a3 := by unfold rchS; rw [if_pos hxt]
      rw [hr] at done1
      have y0 : ¬ t ≤ x := by omega
      simp [bx, hbx, hml, hpl, e3, bools_get, q3', hv, hx, w3, y0]
      rw [rnd_nrm]
      refine done1 _ _ ?_ ?_
      · simp [bx, hbx]
      · rfl
    · have y0 : t ≤ x := by omega
      have hxn : (x - t).toNat < a3.length := by omega
      have hr : rchS gg a3 x = a3.set (x - t).toNat true := by rw [rchS_set gg a3 x (by simp only [gg]; omega), if_neg hxt]
      rw [hr] at done1
      have w4 : IntKind.i64.wrap (x - t) = x - t := wrap64 (by omega) (by omega)
      have y1 : 0 ≤ x - t := by omega
      have y2 : x - t < n := by omega
      have y3 : (x - t).toNat + 1 ≤ n := by omega
      have y4 : (x - t).toNat < (bools a3).length := by simpa using hxn
      simp [bx, hbx, hml, hpl, e3, bools_get, q3', hv, hx, w3, w4, y0, y1, y2, y3, setH, replaceAt_one _ y4, bools_set]
      rw [rnd_nrm]
      refine done1 _ _ ?_ ?_
      · simp [bx, hbx]
      · rfl
end Go.Proofs.Ytikedgpcgacgoaa
