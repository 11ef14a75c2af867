/- Calls are sound. -/
import Derived.Test.YtikedgpcgacgoaaHmExec2
namespace Go.Hm
open Go Go.RowKit

section
variable {P : Program} {φ : Nat → Nat} {F : Nat → Nat → Prop} {H : Heap} {w : World} {β : Nat → Nat} {env : Env} {act : Act} {T : Nat}

def resSem (tmps : Array Value) : ResultVar → Sem Value
  | .tmp t => pure (tmps.getD t undef)
  | .cell a t => do loadVar t (← asAddr (tmps.getD a undef))

theorem row_read {k o : Nat} {cs : List AV} (h : RowAt φ F H w k o cs) {t : TypeId} {n : Nat} (hn : szOf P t = some n) {d : TypeDesc} (hu : P.underlying t = some d) {off : Nat} {v : AV}
    (hv : (if aggT P t = true then (if off + n ≤ cs.length then some (.agg ((cs.drop off).take n)) else none) else cs[off]?) = some v) : ∃ cv, (loadVar t ⟨k, o + off, none⟩).run P w = .ok cv w ∧ VRel φ F H w v cv := by
  have hre := aggT_eq (P := P) hu
  unfold loadVar
  rw [Sem.run_bind, isAgg_run hu]
  simp only [Result.andThen_ok]
  cases hr : d.isRow with
  | true =>
    rw [hre, hr, if_pos rfl] at hv
    split at hv
    case isFalse => simp at hv
    rename_i hl
    simp only [Option.some.injEq] at hv; subst hv
    obtain ⟨vs, h1, h2, h3⟩ := h.range hl
    refine ⟨.agg vs.toArray, ?_, .agg _ _ h1⟩
    have := run_loadCells_list (P := P) w ⟨k, o + off, none⟩ vs (fun j v hv => by rw [add_none]; exact h2 j v hv)
    rw [if_pos rfl]
    simp only [Sem.run_bind, szOf_run hn, Result.andThen_ok, ← h3, this, Sem.run_pure]
  | false =>
    rw [hre, hr] at hv
    simp only [Bool.false_eq_true, if_false] at hv
    obtain ⟨cv, hcv, hrel⟩ := h off v hv
    refine ⟨cv, ?_, .one hrel⟩
    rw [if_neg (by simp)]
    rw [run_load, hcv]

theorem res_one (s : St φ F H w β env act T) {r : ResultVar} (hc : resChk P r = true) {v : AV} (h : resOne env H (compR P r) = some v) : ∃ cv, (resSem act.tmps r).run P w = .ok cv w ∧ VRel φ F H w v cv := by
  cases r with
  | tmp t =>
    simp only [compR, resOne] at h
    split at h
    case isFalse => simp at h
    rename_i ha
    simp only [Option.some.injEq] at h
    have hs := s.slot t
    rw [h] at hs ha
    refine ⟨_, rfl, ?_⟩
    have : ORel φ F H w β v (act.tmps.getD t undef) := by
      cases v <;> first | exact hs | (simp [argOk, one] at ha; done)
    exact this.arg ha
  | cell a t =>
    simp only [resChk, Bool.and_eq_true] at hc
    obtain ⟨n, hn⟩ := Option.isSome_iff_exists.1 hc.1
    obtain ⟨d, hu⟩ := Option.isSome_iff_exists.1 hc.2
    simp only [compR, resOne, hn, Option.getD_some] at h
    split at h
    case h_2 => simp at h
    rename_i cs off hp
    have hrow : ∃ k o, act.tmps.getD a undef = .pointer (some ⟨k, o + off, none⟩) ∧ RowAt φ F H w k o cs := by
      have hs := s.slot a
      split at hp
      · rename_i cs' hf
        rw [hf] at hs
        simp only [Option.some.injEq, Prod.mk.injEq] at hp
        obtain ⟨rfl, rfl⟩ := hp
        exact ⟨β a, 0, hs.1, hs.2.row⟩
      · rename_i hnb
        have ho : ORel φ F H w β (find env a) (act.tmps.getD a undef) := by
          generalize hfa : find env a = fa at hs hnb
          cases fa <;> first | exact hs | exact absurd rfl (hnb _)
        exact ptr_rel s ho hp
    obtain ⟨k, o, hv, hrow⟩ := hrow
    obtain ⟨cv, h1, h2⟩ := row_read hrow hn hu h
    refine ⟨cv, ?_, h2⟩
    simp only [resSem, hv, asAddr, Sem.run_bind, Sem.run_pure, Result.andThen_ok]
    exact h1

theorem res_list (s : St φ F H w β env act T) : ∀ {rs : List ResultVar} {vs : List AV}, rs.all (resChk P) = true → resList env H (rs.map (compR P)) = some vs → ∃ cvs, (rs.mapM (resSem act.tmps)).run P w = .ok cvs w ∧ ARel φ F H w vs cvs
  | [], vs, _, h => by
    simp only [List.map_nil, resList, Option.some.injEq] at h
    subst h
    exact ⟨[], rfl, rfl, fun i a v ha => by simp at ha⟩
  | r :: rs, vs, hc, h => by
    simp only [List.all_cons, Bool.and_eq_true] at hc
    simp only [List.map_cons, resList] at h
    split at h
    case h_2 => simp at h
    rename_i v hv
    split at h
    case h_2 => simp at h
    rename_i vs' hvs
    simp only [Option.some.injEq] at h
    subst h
    obtain ⟨cv, h1, h2⟩ := res_one s hc.1 hv
    obtain ⟨cvs, h3, h4⟩ := res_list s hc.2 hvs
    refine ⟨cv :: cvs, ?_, by simp [h4.1], fun i a v ha hv => ?_⟩
    · simp only [List.mapM_cons, Sem.run_bind, h1, Result.andThen_ok, h3, Sem.run_pure]
    · cases i with
      | zero => simp at ha hv; subst ha; subst hv; exact h2
      | succ i => simp at ha hv; exact h4.2 i a v ha hv

theorem results_run (s : St φ F H w β env act T) {fn : Func} {v : AV} (hc : fn.results.toList.all (resChk P) = true) (h : resOf env H (fn.results.toList.map (compR P)) = some v) : ∃ cv, (results fn act.tmps).run P w = .ok cv w ∧ VRel φ F H w v cv := by
  unfold resOf at h
  have main : ∀ vs, resList env H (fn.results.toList.map (compR P)) = some vs → ∃ cvs : List Value, (fn.results.mapM (resSem act.tmps)).run P w = .ok cvs.toArray w ∧ ARel φ F H w vs cvs := by
    intro vs hvs
    obtain ⟨cvs, h1, h2⟩ := res_list s hc hvs
    refine ⟨cvs, ?_, h2⟩
    generalize fn.results = rs at h1 ⊢
    obtain ⟨rl⟩ := rs
    simp only [List.mapM_toArray, Sem.run_map, h1, Result.andThen_ok]
  have hdef : results fn act.tmps = (do
      let vs ← fn.results.mapM (resSem act.tmps)
      pure (if h : vs.size = 1 then vs[0] else .tuple vs)) := by
    unfold results
    congr 1
  split at h
  · rename_i v' hvs
    simp only [Option.some.injEq] at h
    subst h
    obtain ⟨cvs, h1, h2⟩ := main _ hvs
    obtain ⟨cv, rfl⟩ : ∃ cv, cvs = [cv] := by
      have := h2.1
      match cvs, this with
      | [cv], _ => exact ⟨cv, rfl⟩
    refine ⟨cv, ?_, h2.2 0 _ _ rfl rfl⟩
    rw [hdef, Sem.run_bind, h1]
    rfl
  · rename_i vs hne hvs
    simp only [Option.some.injEq] at h
    subst h
    obtain ⟨cvs, h1, h2⟩ := main _ hvs
    refine ⟨.tuple cvs.toArray, ?_, .tup _ _ h2.1 h2.2⟩
    rw [hdef, Sem.run_bind, h1]
    have hl : cvs.toArray.size ≠ 1 := by
      intro hs
      rw [List.size_toArray, h2.1] at hs
      match vs, hs, hne with
      | [x], _, hne => exact hne x rfl
    simp only [Result.andThen_ok, dif_neg hl]
    rfl
  · simp at h
end
end Go.Hm
