/- A region in the text's order. -/
import Derived.Test.YtikedgpcgacgoaaHmStep7
import Derived.Orders
namespace Go.Hm
open Go Go.RowKit

theorem find_restrict (keep : List Nat) (env : Env) (t : Nat) : find (restrict keep env) t = find env t ∨ find (restrict keep env) t = .dead := by
  induction keep with
  | nil => exact .inr rfl
  | cons k r ih =>
    simp only [restrict, List.map_cons, find]
    by_cases h : k = t
    · subst h; exact .inl (if_pos rfl)
    · rw [if_neg h]; exact ih

section
variable {P : Program} {φ0 : Nat → Nat} {F0 : Nat → Nat → Prop} {H0 : Heap} {w0 : World} {φ : Nat → Nat} {F : Nat → Nat → Prop} {H : Heap} {w : World} {β : Nat → Nat} {env : Env} {act : Act} {T : Nat} {C : Orc} {lk lim : Nat} {pm : Pm} {ops : Array Oper} {Q : Exit → Act → World → Prop}

theorem Full.sub (f : Full φ0 F0 H0 w0 φ F H w β env act T) {env' : Env} (h : ∀ t, find env' t = find env t ∨ find env' t = .dead) : Full φ0 F0 H0 w0 φ F H w β env' act T := by
  have bx : ∀ {t cs}, find env' t = .box cs → find env t = .box cs := fun {t cs} ht => by
    rcases h t with h | h
    · rw [← h]; exact ht
    · rw [h] at ht; cases ht
  refine ⟨⟨f.st.sr, f.st.size, fun t => ?_, fun t cs b ht => f.st.bphi t cs b (bx ht), fun t t' cs cs' h1 h2 => f.st.binj t t' cs cs' (bx h1) (bx h2), fun t cs o ht => f.st.bF t cs o (bx ht)⟩, f.ext, f.chg, f.phi, fun t cs ht => f.beta t cs (bx ht), f.dfr, f.frn⟩
  rcases h t with h | h
  · rw [h]; exact f.st.slot t
  · rw [h]; trivial

theorem compI_ok (o : Oper) : compI P pm ops o = badI ∨ ((compI P pm ops o).dst = o.dst ∧ (compI P pm ops o).op = compOp P pm o ∧ (∀ d, o.dst = some d → d < pm.T) ∧ grdOf ops o.guard = some (compI P pm ops o).grd) := by
  unfold compI
  split
  · exact .inl rfl
  · rename_i h
    have hd : ∀ d, o.dst = some d → d < pm.T := fun d hd => by
      rw [hd] at h
      simp only [bigDst, decide_eq_true_eq] at h
      exact Nat.lt_of_not_le h
    split
    · rename_i g hg; exact .inr ⟨rfl, rfl, hd, hg⟩
    · exact .inl rfl

theorem guard_ok (s : St φ F H w β env act T) {o : Oper} {i : AI} {b : Bool} (hg : grdOf ops o.guard = some i.grd) (hb : guardI i env = some b) : Region.wanted o (yielded ops act.tmps) = b := by
  unfold Region.wanted
  unfold guardI at hb
  cases ho : o.guard with
  | none =>
    rw [ho] at hg
    simp only [grdOf, Option.some.injEq] at hg
    rw [← hg] at hb
    simpa using hb
  | some p =>
    obtain ⟨j, want⟩ := p
    rw [ho] at hg
    simp only [grdOf] at hg
    split at hg
    case h_2 => simp at hg
    rename_i t ht
    simp only [Option.some.injEq] at hg
    rw [← hg] at hb
    have hy : yielded ops act.tmps j = match act.tmps[t]? with
      | some (.bool b) => some b
      | _ => none := by
      unfold yielded
      rw [ht]; rfl
    have hs := s.slot t
    dsimp only at hb ⊢
    rw [hy]
    split at hb
    · rename_i b' hf
      rw [hf] at hs
      have hv := (VRel.inv_val (show VRel φ F H w _ _ from hs)).1
      simp only [Option.some.injEq] at hb
      have : act.tmps[t]? = some (.bool b') := by
        rw [Array.getD_eq_getD_getElem?] at hv
        cases h1 : act.tmps[t]? with
        | none => rw [h1] at hv; simp [undef] at hv
        | some x => rw [h1] at hv; simpa using hv
      rw [this]
      simp [← hb]
    · rename_i hf
      rw [hf] at hs
      have hv : act.tmps.getD t undef = undef := hs
      simp only [Option.some.injEq] at hb
      rw [Array.getD_eq_getD_getElem?] at hv
      cases h1 : act.tmps[t]? with
      | none => simp [← hb]
      | some x =>
        rw [h1] at hv
        simp only [Option.getD_some] at hv
        subst hv
        simp [undef, ← hb]
    · simp at hb

/-- One place of a region. -/
theorem wpOp_of (f : Full φ0 F0 H0 w0 φ F H w β env act T) {o : Oper} {idx : Nat} {i : AI} {b : Bool} {env' : Env} {H' : Heap} {K : Act → World → Prop} (ho : ops[idx]? = some o) (hd : ∀ d, o.dst = some d → d < T) (hg : grdOf ops o.guard = some i.grd) (hb : guardI i env = some b)
    (h1 : b = true → Sound P φ0 F0 H0 w0 T act w o.dst o.op H' env') (h2 : b = false → put o.dst .und env = some env' ∧ H' = H) (hK : ∀ act' w', Post φ0 F0 H0 w0 H' env' T act' w' → K act' w') : wpOp P ops Q idx K act w := by
  have hw := guard_ok f.st hg hb
  unfold wpOp
  rw [ho]
  dsimp only
  rw [hw]
  cases b with
  | true =>
    rw [if_pos rfl]
    exact .inl (h1 rfl o.type o.pos o.after o.guard K Q hK)
  | false =>
    rw [if_neg (by simp)]
    obtain ⟨hp, rfl⟩ := h2 rfl
    exact hK _ _ (f_pure f hd hp rfl)

/-- What acts, in the text's order. -/
theorem act_sound (hC : OrcOk P C) (f : Full φ0 F0 H0 w0 φ F H w β env act T) {o : Oper} {env' : Env} {H' : Heap} (hd : ∀ d, o.dst = some d → d < T) (h : actOp C lk lim o.dst (compOp P pm o) env H = some (env', H')) :
    Sound P φ0 F0 H0 w0 T act w o.dst o.op H' env' := by
  rcases compOp_rel (P := P) pm o with hbad | hrel
  · rw [hbad] at h
    simp [actOp, cls, rdOp] at h
  · unfold actOp at h
    split at h
    · exact s_ex f hrel hd h
    · exact s_ex f hrel hd h
    · split at h
      case h_2 => simp at h
      rename_i v cs hm
      split at h
      case h_2 => simp at h
      rename_i env2 hp
      simp only [Option.some.injEq, Prod.mk.injEq] at h
      obtain ⟨rfl, rfl⟩ := h
      obtain ⟨m, hop, hmk⟩ := s_mk f hrel hm
      refine s_make f hd hp (hop _) hmk (fun cs => by simp) (by simp) (fun b' hb' => ?_)
      by_cases hlt : b' < H.length
      · rw [List.getElem?_append_left hlt]
      · rw [List.getElem?_eq_none (by simp; omega), List.getElem?_eq_none (by omega)]
    · split at h
      case h_2 => simp at h
      rename_i g as hca
      split at h
      case isFalse => simp at h
      rename_i hok
      split at h
      case h_2 => simp at h
      rename_i v H2 hcc
      split at h
      case h_2 => simp at h
      rename_i env2 hp
      simp only [Option.some.injEq, Prod.mk.injEq] at h
      obtain ⟨rfl, rfl⟩ := h
      obtain ⟨hE, hcon⟩ := hC _ _ _ _ _ _ _ hcc
      obtain ⟨vs, harel, hrun⟩ := s_args f hrel hca hok hE
      exact s_call hrun (Calls.mono (hcon φ F w vs f.st.sr harel) (fun e w' ⟨v, he, hr⟩ => ⟨v, he, f_call f hd hp hr⟩))
    · split at h
      case h_2 => simp at h
      rename_i v hr
      split at h
      case h_2 => simp at h
      rename_i env2 hp
      simp only [Option.some.injEq, Prod.mk.injEq] at h
      obtain ⟨rfl, rfl⟩ := h
      exact s_rd f hrel hd hr hp

theorem stepI_sound (hC : OrcOk P C) (f : Full φ0 F0 H0 w0 φ F H w β env act T) {o : Oper} {idx : Nat} {env' : Env} {H' : Heap} {K : Act → World → Prop} (ho : ops[idx]? = some o) (hT : pm.T = T) (h : stepI C lk lim (compI P pm ops o) env H = some (env', H'))
    (hK : ∀ act' w', Post φ0 F0 H0 w0 H' env' T act' w' → K act' w') : wpOp P ops Q idx K act w := by
  rcases compI_ok (P := P) (pm := pm) (ops := ops) o with hbad | ⟨h1, h2, hd, hg⟩
  · rw [hbad] at h
    simp [stepI, badI, guardI, actOp, cls, rdOp] at h
  unfold stepI at h
  rw [h1, h2] at h
  split at h
  · rename_i hb
    exact wpOp_of f ho (fun d hh => hT ▸ hd d hh) hg hb (fun _ => act_sound hC f (fun d hh => hT ▸ hd d hh) h) (fun e => by cases e) hK
  · rename_i hb
    split at h
    case h_2 => simp at h
    rename_i env2 hp
    simp only [Option.some.injEq, Prod.mk.injEq] at h
    obtain ⟨rfl, rfl⟩ := h
    exact wpOp_of f ho (fun d hh => hT ▸ hd d hh) hg hb (fun e => by cases e) (fun _ => ⟨hp, rfl⟩) hK
  · simp at h

theorem runOps_sound (hC : OrcOk P C) (hT : pm.T = T) : ∀ (l : List Oper) (k : Nat), ops.toList.drop k = l → ∀ {φ : Nat → Nat} {F : Nat → Nat → Prop} {H : Heap} {w : World} {β : Nat → Nat} {env : Env} {act : Act} {env' : Env} {H' : Heap},
    Full φ0 F0 H0 w0 φ F H w β env act T → runOps C lk lim (l.map (compI P pm ops)) env H = some (env', H') →
    (∀ act' w', Post φ0 F0 H0 w0 H' env' T act' w' → Q .normal act' w') → wpOps P ops Q (List.range' k (ops.size - k)) act w
  | [], k, hk, φ, F, H, w, β, env, act, env', H', f, h, hQ => by
    have hlen : ops.size ≤ k := by
      have := congrArg List.length hk
      simp at this
      omega
    rw [show ops.size - k = 0 from by omega]
    simp only [List.map_nil, runOps, Option.some.injEq, Prod.mk.injEq] at h
    obtain ⟨rfl, rfl⟩ := h
    exact hQ _ _ ⟨_, _, _, f⟩
  | o :: r, k, hk, φ, F, H, w, β, env, act, env', H', f, h, hQ => by
    have hlt : k < ops.size := by
      have := congrArg List.length hk
      simp at this
      omega
    have ho : ops[k]? = some o := by
      have := congrArg (·[0]?) hk
      simpa [List.getElem?_drop] using this
    have hr : ops.toList.drop (k + 1) = r := by
      rw [← List.drop_drop, hk]; rfl
    rw [show ops.size - k = (ops.size - (k + 1)) + 1 from by omega, List.range'_succ, wpOps_cons]
    simp only [List.map_cons, runOps] at h
    split at h
    case h_2 => simp at h
    rename_i env1 H1 hs
    exact stepI_sound hC f ho hT hs (fun act' w' ⟨φ1, F1, β1, f1⟩ => runOps_sound hC hT r (k + 1) hr f1 h hQ)
end
end Go.Hm
