/- The machine without a limit of steps: the limit of all its runs, with equations. -/
import Derived.Test.YtikedgpcgacgoaaHmExec5
namespace Go.Hm
open Go

/-- C' says at least what C says. -/
def OLe (C C' : Orc) : Prop := ∀ lk lim f as H r, C lk lim f as H = some r → C' lk lim f as H = some r

theorem OLe.refl (C : Orc) : OLe C C := fun _ _ _ _ _ _ h => h
theorem OLe.trans {A B C : Orc} (h : OLe A B) (k : OLe B C) : OLe A C := fun _ _ _ _ _ _ e => k _ _ _ _ _ _ (h _ _ _ _ _ _ e)

section
variable {C C' : Orc}

theorem actOp_mono (hC : OLe C C') {lk lim : Nat} {dst : Option Nat} {op : AOp} {env : Env} {H : Heap} {r : Env × Heap} (h : actOp C lk lim dst op env H = some r) : actOp C' lk lim dst op env H = some r := by
  unfold actOp at h ⊢
  split at h
  · exact h
  · exact h
  · exact h
  · split at h
    case h_2 => simp at h
    rename_i g as hg
    split at h
    case isFalse => simp at h
    rename_i ha
    split at h
    case h_2 => simp at h
    rename_i v H' hc
    simp only [ha, if_true, hC _ _ _ _ _ _ hc]
    exact h
  · exact h

theorem actD_mono (hC : OLe C C') {lk lim base cb : Nat} {dst : Option Nat} {op : AOp} {k : Nat} {env : Env} {H : Heap} {r : Env × Heap} (h : actD C lk lim base cb dst op k env H = some r) : actD C' lk lim base cb dst op k env H = some r := by
  unfold actD at h ⊢
  split at h
  · exact h
  · exact h
  · exact h
  · split at h
    case h_2 => simp at h
    rename_i g as hg
    split at h
    case isFalse => simp at h
    rename_i ha
    split at h
    case h_2 => simp at h
    rename_i v H' hc
    rw [if_pos ha]
    simp only [hC _ _ _ _ _ _ hc]
    exact h
  · exact h

theorem stepI_mono (hC : OLe C C') {lk lim : Nat} {i : AI} {env : Env} {H : Heap} {r : Env × Heap} (h : stepI C lk lim i env H = some r) : stepI C' lk lim i env H = some r := by
  unfold stepI at h ⊢
  split at h
  · exact actOp_mono hC h
  · exact h
  · exact h

theorem stepD_mono (hC : OLe C C') {lk lim base cb : Nat} {i : AI} {env : Env} {H : Heap} {r : Env × Heap} (h : stepD C lk lim base cb i env H = some r) : stepD C' lk lim base cb i env H = some r := by
  unfold stepD at h ⊢
  split at h
  · exact actD_mono hC h
  · exact h
  · exact h

theorem runOps_mono (hC : OLe C C') {lk lim : Nat} : ∀ {l : List AI} {env : Env} {H : Heap} {r : Env × Heap}, runOps C lk lim l env H = some r → runOps C' lk lim l env H = some r
  | [], _, _, _, h => h
  | i :: l, env, H, r, h => by
    simp only [runOps] at h ⊢
    split at h
    · rename_i e1 h1 hs
      rw [stepI_mono hC hs]
      exact runOps_mono hC h
    · simp at h

theorem runD_mono (hC : OLe C C') {lk lim base : Nat} : ∀ {l : List AI} {env : Env} {H : Heap} {r : Env × Heap}, runD C lk lim base l env H = some r → runD C' lk lim base l env H = some r
  | [], _, _, _, h => h
  | i :: l, env, H, r, h => by
    simp only [runD] at h ⊢
    split at h
    · rename_i e1 h1 hs
      rw [stepD_mono hC hs]
      exact runD_mono hC h
    · simp at h

theorem iter_mono {f g : Env → Heap → Out} (hfg : ∀ env H r, f env H = some r → g env H = some r) : ∀ {n m : Nat} (_ : n ≤ m) {env : Env} {H : Heap} {r : Ex × Env × Heap}, iter f n env H = some r → iter g m env H = some r
  | 0, _, _, _, _, _, h => by simp [iter] at h
  | n + 1, m, hm, env, H, r, h => by
    obtain ⟨m, rfl⟩ : ∃ k, m = k + 1 := ⟨m - 1, by omega⟩
    simp only [iter] at h ⊢
    split at h
    · rename_i e1 h1 hs
      rw [hfg _ _ _ hs]
      exact iter_mono hfg (by omega) h
    · rename_i hx
      rw [hfg _ _ _ h]
      split
      · rename_i e1 h1 hs
        simp only [Option.some.injEq] at hs
        subst hs
        exact (hx _ _ h).elim
      · rfl

theorem exec_mono (hC : OLe C C') {n m : Nat} (hn : n ≤ m) {lk lim : Nat} : ∀ {c : AC} {env : Env} {H : Heap} {r : Ex × Env × Heap}, exec C n lk lim c env H = some r → exec C' m lk lim c env H = some r
  | .skip, _, _, _, h => h
  | .regN keep ops, env, H, r, h => by
    simp only [exec] at h ⊢
    split at h
    · rename_i hs
      rw [runOps_mono hC hs]; exact h
    · simp at h
  | .regD keep k ops, env, H, r, h => by
    simp only [exec] at h ⊢
    split at h
    · rename_i hs
      rw [runD_mono hC hs]; exact h
    · simp at h
  | .seq a b, env, H, r, h => by
    simp only [exec] at h ⊢
    split at h
    · rename_i hs
      rw [exec_mono hC hn hs]
      exact exec_mono hC hn h
    · rename_i hx
      rw [exec_mono hC hn h]
      split
      · rename_i hs
        simp only [Option.some.injEq] at hs
        subst hs
        exact (hx _ _ h).elim
      · rfl
  | .cond c a b, env, H, r, h => by
    simp only [exec] at h ⊢
    split at h
    · split at h
      · rename_i ht
        rw [if_pos ht]
        exact exec_mono hC hn h
      · rename_i ht
        rw [if_neg ht]
        exact exec_mono hC hn h
    · simp at h
  | .block id b, env, H, r, h => by
    simp only [exec] at h ⊢
    split at h
    · rename_i hs
      rw [exec_mono hC hn hs]
      exact h
    · rename_i hx
      rw [exec_mono hC hn h]
      split
      · rename_i hs
        simp only [Option.some.injEq] at hs
        subst hs
        exact (hx _ _ _ h).elim
      · rfl
  | .loop keep b, env, H, r, h => by
    simp only [exec] at h ⊢
    exact iter_mono (fun _ _ _ hr => exec_mono hC hn hr) hn h
  | .exit _, _, _, _, h => h
  | .ret, _, _, _, h => h
  | .bad, _, _, _, h => by simp [exec] at h
end

theorem callN_mono (X : Orc) (A : FuncId → Option AFn) : ∀ {n m : Nat}, n ≤ m → OLe (callN X A n) (callN X A m)
  | 0, _, _ => fun _ _ _ _ _ _ h => by simp [callN] at h
  | n + 1, m, hm => fun lk lim f as H r h => by
    obtain ⟨m, rfl⟩ : ∃ k, m = k + 1 := ⟨m - 1, by omega⟩
    have ih := callN_mono X A (n := n) (m := m) (by omega)
    simp only [callN] at h ⊢
    split at h
    · exact h
    · split at h
      · simp at h
      · split at h
        · unfold finish at h
          split at h
          · simp at h
          · rename_i hx hs
            rw [if_pos ‹_›, exec_mono ih (by omega) hs]
            unfold finish
            split
            · rename_i heq
              simp only [Option.some.injEq, Prod.mk.injEq] at heq
              exact (hx _ heq.1).elim
            · rename_i heq
              simp only [Option.some.injEq, Prod.mk.injEq] at heq
              obtain ⟨_, rfl, rfl⟩ := heq
              exact h
            · rename_i heq; simp at heq
          · simp at h
        · simp at h

open Classical in
/-- A loop's end, however late. -/
noncomputable def iterW (f : Env → Heap → Out) (env : Env) (H : Heap) : Out := if h : ∃ r n, iter f n env H = some r then some (Classical.choose h) else none

theorem iterW_of {f : Env → Heap → Out} {n : Nat} {env : Env} {H : Heap} {r : Ex × Env × Heap} (h : iter f n env H = some r) : iterW f env H = some r := by
  have hx : ∃ r n, iter f n env H = some r := ⟨r, n, h⟩
  unfold iterW
  rw [dif_pos hx]
  obtain ⟨m, hm⟩ := Classical.choose_spec hx
  have h1 := iter_mono (g := f) (fun _ _ _ h => h) (Nat.le_max_left n m) h
  have h2 := iter_mono (g := f) (fun _ _ _ h => h) (Nat.le_max_right n m) hm
  rw [h1] at h2
  exact h2.symm
theorem iterW_some {f : Env → Heap → Out} {env : Env} {H : Heap} {r : Ex × Env × Heap} (h : iterW f env H = some r) : ∃ n, iter f n env H = some r := by
  unfold iterW at h
  split at h
  · rename_i hx
    simp only [Option.some.injEq] at h
    obtain ⟨n, hn⟩ := Classical.choose_spec hx
    exact ⟨n, by rw [hn, h]⟩
  · simp at h

theorem iterW_eq (f : Env → Heap → Out) (env : Env) (H : Heap) : iterW f env H = match f env H with
    | some (.nrm, env', H') => iterW f env' H'
    | r => r := by
  have one : ∀ r, (match f env H with
    | some (.nrm, env', H') => iterW f env' H'
    | r => r) = some r → iterW f env H = some r := fun r h => by
    split at h
    · rename_i hs
      obtain ⟨n, hn⟩ := iterW_some h
      exact iterW_of (n := n + 1) (by simp only [iter, hs]; exact hn)
    · rename_i hx
      refine iterW_of (n := 1) ?_
      simp only [iter, h]
      cases r with
      | mk x r =>
        cases x with
        | nrm => exact (hx _ _ h).elim
        | exit id => rfl
        | ret => rfl
  have two : ∀ r, iterW f env H = some r → (match f env H with
    | some (.nrm, env', H') => iterW f env' H'
    | r => r) = some r := fun r h => by
    obtain ⟨n, hn⟩ := iterW_some h
    cases n with
    | zero => simp [iter] at hn
    | succ n =>
      simp only [iter] at hn
      split at hn
      · rename_i hs
        rw [hs]
        exact iterW_of hn
      · rename_i hx
        rw [hn]
        cases r with
        | mk x r =>
          cases x with
          | nrm => exact (hx _ _ hn).elim
          | exit id => rfl
          | ret => rfl
  cases h : iterW f env H with
  | some r => rw [two r h]
  | none =>
    symm
    cases h2 : (match f env H with
      | some (.nrm, env', H') => iterW f env' H'
      | r => r) with
    | none => rfl
    | some r => rw [one r h2] at h; simp at h

/-- The machine's code, without a limit. -/
noncomputable def execW (C : Orc) (lk lim : Nat) : AC → Env → Heap → Out
  | .skip, env, H => some (.nrm, env, H)
  | .regN keep ops, env, H => match runOps C lk lim ops (restrict keep env) H with
    | some (env', H') => some (.nrm, env', H')
    | none => none
  | .regD keep m ops, env, H => match runD C lk lim H.length ops (restrict keep env) (H ++ List.replicate m .hole) with
    | some (env', H') => some (.nrm, env', H')
    | none => none
  | .seq a b, env, H => match execW C lk lim a env H with
    | some (.nrm, env', H') => execW C lk lim b env' H'
    | r => r
  | .cond c a b, env, H => match ev env c with
    | .val (.bool t) => if t = true then execW C lk lim a env H else execW C lk lim b env H
    | _ => none
  | .block id b, env, H => match execW C lk lim b env H with
    | some (.exit id', env', H') => if id' = id then some (.nrm, env', H') else some (.exit id', env', H')
    | r => r
  | .loop keep b, env, H => iterW (fun env H => execW C lk lim b (restrict keep env) H) env H
  | .exit id, env, H => some (.exit id, env, H)
  | .ret, env, H => some (.ret, env, H)
  | .bad, _, _ => none

theorem exec_le {C C' : Orc} (hC : OLe C C') {n : Nat} {lk lim : Nat} : ∀ {c : AC} {env : Env} {H : Heap} {r : Ex × Env × Heap}, exec C n lk lim c env H = some r → execW C' lk lim c env H = some r
  | .skip, _, _, _, h => h
  | .regN keep ops, env, H, r, h => by
    simp only [exec, execW] at h ⊢
    split at h
    · rename_i hs
      rw [runOps_mono hC hs]; exact h
    · simp at h
  | .regD keep k ops, env, H, r, h => by
    simp only [exec, execW] at h ⊢
    split at h
    · rename_i hs
      rw [runD_mono hC hs]; exact h
    · simp at h
  | .seq a b, env, H, r, h => by
    simp only [exec, execW] at h ⊢
    split at h
    · rename_i hs
      rw [exec_le hC hs]
      exact exec_le hC h
    · rename_i hx
      rw [exec_le hC h]
      split
      · rename_i hs
        simp only [Option.some.injEq] at hs
        subst hs
        exact (hx _ _ h).elim
      · rfl
  | .cond c a b, env, H, r, h => by
    simp only [exec, execW] at h ⊢
    split at h
    · rename_i hc
      rw [hc]
      dsimp only
      split at h
      · rename_i ht
        rw [if_pos ht]
        exact exec_le hC h
      · rename_i ht
        rw [if_neg ht]
        exact exec_le hC h
    · simp at h
  | .block id b, env, H, r, h => by
    simp only [exec, execW] at h ⊢
    split at h
    · rename_i hs
      rw [exec_le hC hs]
      exact h
    · rename_i hx
      rw [exec_le hC h]
      split
      · rename_i hs
        simp only [Option.some.injEq] at hs
        subst hs
        exact (hx _ _ _ h).elim
      · rfl
  | .loop keep b, env, H, r, h => by
    simp only [exec, execW] at h ⊢
    exact iterW_of (iter_mono (fun _ _ _ hr => exec_le hC hr) (Nat.le_refl n) h)
  | .exit _, _, _, _, h => h
  | .ret, _, _, _, h => h
  | .bad, _, _, _, h => by simp [exec] at h

section
variable (X : Orc) (A : FuncId → Option AFn)

open Classical in
/-- A call, however long. -/
noncomputable def callW : Orc := fun lk lim f as H => if h : ∃ r n, callN X A n lk lim f as H = some r then some (Classical.choose h) else none

variable {X A}
theorem callW_of {n : Nat} {lk lim : Nat} {f : FuncId} {as : List AV} {H : Heap} {r : AV × Heap} (h : callN X A n lk lim f as H = some r) : callW X A lk lim f as H = some r := by
  have hx : ∃ r n, callN X A n lk lim f as H = some r := ⟨r, n, h⟩
  unfold callW
  rw [dif_pos hx]
  obtain ⟨m, hm⟩ := Classical.choose_spec hx
  have h1 := callN_mono X A (Nat.le_max_left n m) _ _ _ _ _ _ h
  have h2 := callN_mono X A (Nat.le_max_right n m) _ _ _ _ _ _ hm
  rw [h1] at h2
  exact h2.symm
theorem callW_some {lk lim : Nat} {f : FuncId} {as : List AV} {H : Heap} {r : AV × Heap} (h : callW X A lk lim f as H = some r) : ∃ n, callN X A n lk lim f as H = some r := by
  unfold callW at h
  split at h
  · rename_i hx
    simp only [Option.some.injEq] at h
    obtain ⟨n, hn⟩ := Classical.choose_spec hx
    exact ⟨n, by rw [hn, h]⟩
  · simp at h
theorem callN_le (n : Nat) : OLe (callN X A n) (callW X A) := fun _ _ _ _ _ _ h => callW_of h

/-! What runs with the calls of the limit is a run with some limit. -/

theorem actOp_fin {lk lim : Nat} {dst : Option Nat} {op : AOp} {env : Env} {H : Heap} {r : Env × Heap} (h : actOp (callW X A) lk lim dst op env H = some r) : ∃ n, actOp (callN X A n) lk lim dst op env H = some r := by
  unfold actOp at h ⊢
  split at h
  · exact ⟨0, h⟩
  · exact ⟨0, h⟩
  · exact ⟨0, h⟩
  · split at h
    case h_2 => simp at h
    rename_i g as hg
    split at h
    case isFalse => simp at h
    rename_i ha
    split at h
    case h_2 => simp at h
    rename_i v H' hc
    obtain ⟨n, hn⟩ := callW_some hc
    refine ⟨n, ?_⟩
    simp only [ha, if_true, hn]
    exact h
  · exact ⟨0, h⟩

theorem actD_fin {lk lim base cb : Nat} {dst : Option Nat} {op : AOp} {k : Nat} {env : Env} {H : Heap} {r : Env × Heap} (h : actD (callW X A) lk lim base cb dst op k env H = some r) : ∃ n, actD (callN X A n) lk lim base cb dst op k env H = some r := by
  unfold actD at h ⊢
  split at h
  · exact ⟨0, h⟩
  · exact ⟨0, h⟩
  · exact ⟨0, h⟩
  · split at h
    case h_2 => simp at h
    rename_i g as hg
    split at h
    case isFalse => simp at h
    rename_i ha
    split at h
    case h_2 => simp at h
    rename_i v H' hc
    obtain ⟨n, hn⟩ := callW_some hc
    refine ⟨n, ?_⟩
    rw [if_pos ha]
    simp only [hn]
    exact h
  · exact ⟨0, h⟩

theorem stepI_fin {lk lim : Nat} {i : AI} {env : Env} {H : Heap} {r : Env × Heap} (h : stepI (callW X A) lk lim i env H = some r) : ∃ n, stepI (callN X A n) lk lim i env H = some r := by
  unfold stepI at h ⊢
  split at h
  · exact actOp_fin h
  · exact ⟨0, h⟩
  · exact ⟨0, h⟩
theorem stepD_fin {lk lim base cb : Nat} {i : AI} {env : Env} {H : Heap} {r : Env × Heap} (h : stepD (callW X A) lk lim base cb i env H = some r) : ∃ n, stepD (callN X A n) lk lim base cb i env H = some r := by
  unfold stepD at h ⊢
  split at h
  · exact actD_fin h
  · exact ⟨0, h⟩
  · exact ⟨0, h⟩

theorem runOps_fin {lk lim : Nat} : ∀ {l : List AI} {env : Env} {H : Heap} {r : Env × Heap}, runOps (callW X A) lk lim l env H = some r → ∃ n, runOps (callN X A n) lk lim l env H = some r
  | [], _, _, _, h => ⟨0, h⟩
  | i :: l, env, H, r, h => by
    simp only [runOps] at h ⊢
    split at h
    · rename_i e1 h1 hs
      obtain ⟨n, hn⟩ := stepI_fin hs
      obtain ⟨m, hm⟩ := runOps_fin h
      refine ⟨max n m, ?_⟩
      rw [stepI_mono (callN_mono X A (Nat.le_max_left n m)) hn]
      exact runOps_mono (callN_mono X A (Nat.le_max_right n m)) hm
    · simp at h
theorem runD_fin {lk lim base : Nat} : ∀ {l : List AI} {env : Env} {H : Heap} {r : Env × Heap}, runD (callW X A) lk lim base l env H = some r → ∃ n, runD (callN X A n) lk lim base l env H = some r
  | [], _, _, _, h => ⟨0, h⟩
  | i :: l, env, H, r, h => by
    simp only [runD] at h ⊢
    split at h
    · rename_i e1 h1 hs
      obtain ⟨n, hn⟩ := stepD_fin hs
      obtain ⟨m, hm⟩ := runD_fin h
      refine ⟨max n m, ?_⟩
      rw [stepD_mono (callN_mono X A (Nat.le_max_left n m)) hn]
      exact runD_mono (callN_mono X A (Nat.le_max_right n m)) hm
    · simp at h

theorem exec_up {n m : Nat} (h : n ≤ m) {lk lim : Nat} {c : AC} {env : Env} {H : Heap} {r : Ex × Env × Heap} (he : exec (callN X A n) n lk lim c env H = some r) : exec (callN X A m) m lk lim c env H = some r :=
  exec_mono (callN_mono X A h) h he

theorem execW_fin {lk lim : Nat} : ∀ {c : AC} {env : Env} {H : Heap} {r : Ex × Env × Heap}, execW (callW X A) lk lim c env H = some r → ∃ n, exec (callN X A n) n lk lim c env H = some r
  | .skip, _, _, _, h => ⟨0, h⟩
  | .regN keep ops, env, H, r, h => by
    simp only [exec, execW] at h ⊢
    split at h
    · rename_i hs
      obtain ⟨n, hn⟩ := runOps_fin hs
      exact ⟨n, by rw [hn]; exact h⟩
    · simp at h
  | .regD keep k ops, env, H, r, h => by
    simp only [exec, execW] at h ⊢
    split at h
    · rename_i hs
      obtain ⟨n, hn⟩ := runD_fin hs
      exact ⟨n, by rw [hn]; exact h⟩
    · simp at h
  | .seq a b, env, H, r, h => by
    simp only [exec, execW] at h ⊢
    split at h
    · rename_i hs
      obtain ⟨n, hn⟩ := execW_fin hs
      obtain ⟨m, hm⟩ := execW_fin h
      refine ⟨max n m, ?_⟩
      rw [exec_up (Nat.le_max_left n m) hn]
      exact exec_up (Nat.le_max_right n m) hm
    · rename_i hx
      obtain ⟨n, hn⟩ := execW_fin h
      refine ⟨n, ?_⟩
      rw [hn]
      split
      · rename_i hs
        simp only [Option.some.injEq] at hs
        subst hs
        exact (hx _ _ h).elim
      · rfl
  | .cond c a b, env, H, r, h => by
    simp only [exec, execW] at h ⊢
    split at h
    · rename_i hc
      rw [hc]
      dsimp only
      split at h
      · rename_i ht
        obtain ⟨n, hn⟩ := execW_fin h
        exact ⟨n, by rw [if_pos ht]; exact hn⟩
      · rename_i ht
        obtain ⟨n, hn⟩ := execW_fin h
        exact ⟨n, by rw [if_neg ht]; exact hn⟩
    · simp at h
  | .block id b, env, H, r, h => by
    simp only [exec, execW] at h ⊢
    split at h
    · rename_i hs
      obtain ⟨n, hn⟩ := execW_fin hs
      exact ⟨n, by rw [hn]; exact h⟩
    · rename_i hx
      obtain ⟨n, hn⟩ := execW_fin h
      refine ⟨n, ?_⟩
      rw [hn]
      split
      · rename_i hs
        simp only [Option.some.injEq] at hs
        subst hs
        exact (hx _ _ _ h).elim
      · rfl
  | .loop keep b, env, H, r, h => by
    simp only [exec, execW] at h ⊢
    obtain ⟨k, hk⟩ := iterW_some h
    have key : ∀ (k : Nat) (env : Env) (H : Heap), iter (fun env H => execW (callW X A) lk lim b (restrict keep env) H) k env H = some r → ∃ n, iter (fun env H => exec (callN X A n) n lk lim b (restrict keep env) H) n env H = some r := by
      intro k
      induction k with
      | zero => intro env H h; simp [iter] at h
      | succ k ih =>
        intro env H h
        simp only [iter] at h
        split at h
        · rename_i e1 h1 hs
          obtain ⟨n, hn⟩ := execW_fin hs
          obtain ⟨m, hm⟩ := ih _ _ h
          refine ⟨max n m + 1, ?_⟩
          simp only [iter]
          rw [exec_up (Nat.le_trans (Nat.le_max_left n m) (Nat.le_succ _)) hn]
          exact iter_mono (fun _ _ _ hr => exec_up (Nat.le_trans (Nat.le_max_right n m) (Nat.le_succ _)) hr) (Nat.le_max_right n m) hm
        · rename_i hx
          obtain ⟨n, hn⟩ := execW_fin h
          refine ⟨n + 1, ?_⟩
          simp only [iter]
          rw [exec_up (Nat.le_succ _) hn]
          split
          · rename_i hs
            simp only [Option.some.injEq] at hs
            subst hs
            exact (hx _ _ h).elim
          · rfl
    exact key k env H hk
  | .exit _, _, _, _, h => ⟨0, h⟩
  | .ret, _, _, _, h => ⟨0, h⟩
  | .bad, _, _, _, h => by simp [execW] at h

theorem finish_some {fd : AFn} {H : Heap} {o : Out} {r : AV × Heap} (h : finish fd H o = some r) : ∃ q, o = some q := by
  cases o with
  | none => simp [finish] at h
  | some q => exact ⟨q, rfl⟩

/-- A CALL, WHOLE. -/
theorem callW_eq {lk lim : Nat} {f : FuncId} {as : List AV} {H : Heap} {fd : AFn} (hX : X lk lim f as H = none) (hA : A f = some fd) (hl : as.length = fd.np) :
    callW X A lk lim f as H = finish fd H (execW (callW X A) lk (if fd.trunc then H.length else lim) fd.body (enterFrom 0 as) H) := by
  cases h : finish fd H (execW (callW X A) lk (if fd.trunc then H.length else lim) fd.body (enterFrom 0 as) H) with
  | some r =>
    obtain ⟨q, hq⟩ := finish_some h
    obtain ⟨n, hn⟩ := execW_fin hq
    refine callW_of (n := n + 1) ?_
    simp only [callN, hX, hA, if_pos hl]
    rw [hn, ← hq]; exact h
  | none =>
    cases h2 : callW X A lk lim f as H with
    | none => rfl
    | some r =>
      obtain ⟨n, hn⟩ := callW_some h2
      cases n with
      | zero => simp [callN] at hn
      | succ n =>
        simp only [callN, hX, hA, if_pos hl] at hn
        obtain ⟨q, hq⟩ := finish_some hn
        rw [exec_le (callN_le n) hq, ← hq, hn] at h
        simp at h

/-- What is a primitive. -/
theorem callW_prim {lk lim : Nat} {f : FuncId} {as : List AV} {H : Heap} {r : AV × Heap} (hX : X lk lim f as H = some r) : callW X A lk lim f as H = some r :=
  callW_of (n := 1) (by simp only [callN, hX])

theorem callW_ok {P : Program} (hm : P.follows .mixedOrders = true) (hX : OrcOk P X) (hXF : OrcFr X) (hA : FnsOk P A) : OrcOk P (callW X A) := fun lk lim f as H r H' h => by
  obtain ⟨n, hn⟩ := callW_some h
  exact callN_ok hm hX hXF hA n _ _ _ _ _ _ _ hn
end

/-- Tables of functions. -/
def assoc : List (Nat × AFn) → FuncId → Option AFn
  | [], _ => none
  | (k, fd) :: r, f => if k = f then some fd else assoc r f

def Comp1 (P : Program) (p : Nat × AFn) : Prop := ∃ pm ks, compF P (p.1 % 1000) pm ks p.2.trunc = some p.2
theorem mem_nil_ok {P : Program} : ∀ p ∈ ([] : List (Nat × AFn)), Comp1 P p := by simp
theorem mem_cons_ok {P : Program} {p : Nat × AFn} {l : List (Nat × AFn)} (h : Comp1 P p) (k : ∀ q ∈ l, Comp1 P q) : ∀ q ∈ p :: l, Comp1 P q := by
  intro q hq
  rcases List.mem_cons.1 hq with h1 | h1
  · subst h1; exact h
  · exact k q h1
theorem assoc_mem : ∀ {l : List (Nat × AFn)} {f : FuncId} {fd : AFn}, assoc l f = some fd → (f, fd) ∈ l
  | [], _, _, h => by simp [assoc] at h
  | (k, fd') :: r, f, fd, h => by
    simp only [assoc] at h
    split at h
    · rename_i e
      simp only [Option.some.injEq] at h
      subst h; subst e
      exact List.mem_cons_self ..
    · exact List.mem_cons_of_mem _ (assoc_mem h)
theorem assoc_ok {P : Program} {l : List (Nat × AFn)} (h : ∀ p ∈ l, Comp1 P p) : FnsOk P (assoc l) := fun f fd hf => h _ (assoc_mem hf)
end Go.Hm
