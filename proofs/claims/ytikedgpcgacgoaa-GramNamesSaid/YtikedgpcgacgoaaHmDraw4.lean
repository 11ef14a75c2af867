/- A region in a drawn order: the change of places, for lists. -/
import Derived.Test.YtikedgpcgacgoaaHmDraw3
namespace Go.Hm
open Go

section
variable {C : Orc} {lk lim base cb cb' : Nat} {env env' : Env} {H H' : Heap}

theorem rd_env {op : AOp} (h : cls op = .env ∨ ∃ t, cls op = .memL t) : rdOp op env H = rdOp op env H' := by
  cases op <;> try rfl
  case ld1 l a =>
    cases l with
    | none => rcases h with h | ⟨t, h⟩ <;> simp [cls] at h
    | some t => rfl
  case ldA l n a =>
    cases l with
    | none => rcases h with h | ⟨t, h⟩ <;> simp [cls] at h
    | some t => rfl
  case b2s x => rcases h with h | ⟨t, h⟩ <;> simp [cls] at h
  case len b x => cases b <;> rfl

theorem exE_actL_heap {dst : Option Nat} {op : AOp} {t : Nat} (hc : cls op = .actL t) : (exE lk lim cb dst op env H).map (·.1) = (exE lk lim cb' dst op env H').map (·.1) := by
  cases op
  case st l n a x =>
    cases l with
    | none => simp [cls] at hc
    | some t' =>
      simp only [exE]
      generalize cellsV (ev env x) = c
      cases c with
      | none => rfl
      | some new =>
        dsimp only
        split
        · generalize ev env a = va
          cases va <;> try rfl
          dsimp only
          split
          · generalize find env t' = fv
            cases fv <;> try rfl
            dsimp only
            split <;> rfl
          · rfl
        · rfl
  case app => simp [cls] at hc
  all_goals rfl

/-- What effects depend on, of the heap. -/
theorem eff_heap_congr {i : AI} (h : (cls i.op ≠ .actH ∧ H.take base = H'.take base) ∨ (cls i.op = .actH ∧ H = H' ∧ cb = cb') ∨ ((cls i.op = .env ∨ ∃ t, cls i.op = .memL t) ∨ ∃ t, cls i.op = .actL t)) :
    eff C lk lim base cb i env H = eff C lk lim base cb' i env H' := by
  unfold eff
  split
  · unfold effA
    cases hc : cls i.op with
    | actL t =>
      dsimp only
      have := exE_actL_heap (lk := lk) (lim := lim) (cb := cb) (cb' := cb') (env := env) (H := H) (H' := H') (dst := i.dst) hc
      cases h1 : exE lk lim cb i.dst i.op env H with
      | none => rw [h1] at this; cases h2 : exE lk lim cb' i.dst i.op env H' with
        | none => rfl
        | some p => rw [h2] at this; simp at this
      | some p => rw [h1] at this; cases h2 : exE lk lim cb' i.dst i.op env H' with
        | none => rw [h2] at this; simp at this
        | some q => rw [h2] at this; simp at this; obtain ⟨_, _⟩ := p; obtain ⟨_, _⟩ := q; dsimp only at this ⊢; rw [this]
    | actH =>
      rw [hc] at h
      rcases h with h | h | h
      · exact absurd rfl h.1
      · obtain ⟨_, h1, h2⟩ := h; subst h1; subst h2; rfl
      · rcases h with (h | ⟨t, h⟩) | ⟨t, h⟩ <;> cases h
    | make => rfl
    | call =>
      rw [hc] at h
      have ht : H.take base = H'.take base := by
        rcases h with h | h | h
        · exact h.2
        · cases h.1
        · rcases h with (h | ⟨t, h⟩) | ⟨t, h⟩ <;> cases h
      rw [ht]
    | env => rw [rd_env (H := H.take base) (H' := H'.take base) (.inl hc)]
    | memL t => rw [rd_env (H := H.take base) (H' := H'.take base) (.inr ⟨t, hc⟩)]
    | memH =>
      rw [hc] at h
      have ht : H.take base = H'.take base := by
        rcases h with h | h | h
        · exact h.2
        · cases h.1
        · rcases h with (h | ⟨t, h⟩) | ⟨t, h⟩ <;> cases h
      rw [ht]
  · rfl
  · rfl

structure Indep (i j : AI) : Prop where
  ij : ∀ d, i.dst = some d → d ∉ rds j
  ji : ∀ d, j.dst = some d → d ∉ rds i
  dd : ∀ d, i.dst = some d → j.dst ≠ some d
  ok : okPair (cls i.op) (cls j.op) = true
  at_ : cls i.op = .make → cls j.op = .make → i.at_ ≠ j.at_
  ci : ∀ x ∈ opnds i.op, conOk x = true
  cj : ∀ x ∈ opnds j.op, conOk x = true

theorem okPair_symm (a b : Cls) : okPair a b = okPair b a := by
  cases a <;> cases b <;> simp [okPair, bne_comm]

theorem Indep.of {i j : AI} (h : indep i j = true) : Indep i j := by
  unfold indep at h
  simp only [Bool.and_eq_true] at h
  obtain ⟨⟨⟨⟨⟨h1, h2⟩, h3⟩, h4⟩, h5⟩, h6⟩ := h
  refine ⟨fun d hd => ?_, fun d hd => ?_, fun d hd => ?_, h3, fun a b => ?_, fun x hx => ?_, fun x hx => ?_⟩
  · rw [hd] at h1; simp at h1; exact h1.1
  · rw [hd] at h2; simpa using h2
  · rw [hd] at h1; simp at h1; exact h1.2
  · rw [a, b] at h4; simpa using h4
  · rw [List.all_eq_true] at h5; exact h5 x hx
  · rw [List.all_eq_true] at h6; exact h6 x hx
theorem Indep.symm {i j : AI} (h : Indep i j) : Indep j i :=
  ⟨h.ji, h.ij, fun d hd he => h.dd d he hd, by rw [okPair_symm]; exact h.ok, fun a b e => h.at_ b a e.symm, h.cj, h.ci⟩

theorem locOf_actL {op : AOp} {t : Nat} (h : cls op = .actL t) : locOf op = some t := by
  cases op <;> simp only [cls] at h <;> try (cases h; done)
  case st l n a x => cases l with
    | none => cases h
    | some t' => cases h; rfl
  case ld1 l a => cases l <;> cases h
  case ldA l n a => cases l <;> cases h
theorem cls_loc {op : AOp} {t : Nat} (h : locOf op = some t) : cls op = .actL t ∨ cls op = .memL t := by
  cases op <;> simp only [locOf] at h <;> try (cases h; done)
  all_goals subst h
  case st => exact .inl rfl
  case ld1 => exact .inr rfl
  case ldA => exact .inr rfl

/-- After i's edit, j sees the same. -/
theorem agree_eff {i j : AI} (hi : Indep i j) {e : Ed} {d : Hd} {env1 : Env} (h : eff C lk lim base cb i env H = some (e, d)) (hr : e.run env = some env1) : Agree j env env1 := by
  rcases eff_form h with ⟨v, rfl, _⟩ | ⟨t, cs, cs0, rfl, hc, hb, _⟩
  · exact agree_put hr hi.ij
  · simp only [Ed.run, Option.some.injEq] at hr
    subst hr
    refine agree_box hb (fun hl => ?_)
    have hok := hi.ok
    rw [hc] at hok
    rcases cls_loc hl with h | h <;> rw [h] at hok <;> simp [okPair] at hok

theorem find_put_ne {dst : Option Nat} {v : AV} {env1 : Env} (hp : put dst v env = some env1) {t : Nat} (hn : dst ≠ some t) : find env1 t = find env t := by
  cases dst with
  | none => simp [put] at hp; subst hp; rfl
  | some d =>
    simp only [put] at hp
    split at hp
    · simp only [Option.some.injEq] at hp; subst hp
      simp only [find]
      rw [if_neg (fun e => hn (by rw [e]))]
    · simp at hp

/-- The two edits, in the other order. -/
theorem edits_swap {i j : AI} (hi : Indep i j) {e1 e2 : Ed} {d1 d2 : Hd} {env1 env2 : Env} {Ha Hb : Heap} {ca cc : Nat} (h1 : eff C lk lim base ca i env Ha = some (e1, d1)) (r1 : e1.run env = some env1) (h2 : eff C lk lim base cc j env Hb = some (e2, d2)) (r2 : e2.run env1 = some env2) :
    ∃ env1' env2', e2.run env = some env1' ∧ e1.run env1' = some env2' ∧ EqE env2 env2' := by
  rcases eff_form h1 with ⟨v, rfl, hv⟩ | ⟨t, cs, cs0, rfl, hc, hb, hdn⟩ <;> rcases eff_form h2 with ⟨u, rfl, hu⟩ | ⟨t', cs', cs0', rfl, hc', hb', hdn'⟩
  · cases hdi : i.dst with
    | none =>
      rw [hdi] at r1
      simp only [Ed.run, put, Option.some.injEq] at r1 ⊢
      subst r1
      exact ⟨env2, env2, r2, rfl, EqE.refl _⟩
    | some d =>
      cases hdj : j.dst with
      | none =>
        rw [hdj] at r2
        rw [hdi] at r1
        simp only [Ed.run, put, Option.some.injEq] at r1 r2 ⊢
        subst r2
        exact ⟨env, env1, rfl, r1, EqE.refl _⟩
      | some d' =>
        rw [hdi] at r1
        rw [hdj] at r2
        have hne : d ≠ d' := fun e => hi.dd d hdi (by rw [hdj, e])
        simp only [Ed.run, put] at r1 r2 ⊢
        split at r1
        case isFalse => simp at r1
        rename_i hn1
        simp only [Option.some.injEq] at r1; subst r1
        split at r2
        case isFalse => simp at r2
        rename_i hn2
        simp only [Option.some.injEq] at r2; subst r2
        rw [noRp_cons, Bool.and_eq_true] at hn2
        rw [if_pos hn2.2]
        have hu1 : rpTo d u = false := by
          cases hru : rpTo d u with
          | false => rfl
          | true =>
            exfalso
            cases u <;> simp [rpTo] at hru
            rename_i tt oo
            subst hru
            obtain ⟨x, hx, o', hev⟩ := hu tt oo rfl
            cases x with
            | con w =>
              have := hi.cj _ hx
              simp only [ev] at hev
              rw [hev] at this
              simp [conOk] at this
            | tmp k =>
              simp only [ev] at hev
              have hk : k ∈ rds j := by
                unfold rds
                simp only [List.mem_append, List.mem_flatMap]
                exact .inl (.inl ⟨_, hx, by simp [oT]⟩)
              generalize hfk : find env k = fk at hev
              cases fk
              case box => simp only [AV.rp.injEq] at hev; exact hi.ij tt hdi (hev.1 ▸ hk)
              all_goals first | (simp only [AV.rp.injEq] at hev; obtain ⟨rfl, rfl⟩ := hev; exact find_noRp hn1 k _ hfk) | cases hev
        refine ⟨_, (d, v) :: (d', u) :: env, rfl, ?_, fun t => ?_, fun k => ?_⟩
        · rw [if_pos (by rw [noRp_cons, hu1, hn1]; rfl)]
        · simp only [find]
          by_cases ha : d' = t
          · rw [if_pos ha, if_neg (by omega), if_pos ha]
          · by_cases hbb : d = t
            · rw [if_neg ha, if_pos hbb, if_pos hbb]
            · rw [if_neg ha, if_neg hbb, if_neg hbb, if_neg ha]
        · simp only [noRp_cons]
          cases rpTo k u <;> cases rpTo k v <;> simp
  · -- i puts, j writes a box
    have hloc := locOf_actL hc'
    have hdi : i.dst ≠ some t' := fun e => hi.ij t' e (by unfold rds; simp [hloc])
    simp only [Ed.run, Option.some.injEq] at r2 ⊢
    subst r2
    simp only [Ed.run] at r1
    cases hd : i.dst with
    | none =>
      rw [hd] at r1
      simp only [put, Option.some.injEq] at r1 ⊢
      subst r1
      exact ⟨_, _, rfl, rfl, EqE.refl _⟩
    | some d =>
      rw [hd] at r1 hdi
      simp only [put] at r1 ⊢
      split at r1
      case isFalse => simp at r1
      rename_i hn
      simp only [Option.some.injEq] at r1; subst r1
      refine ⟨_, (d, v) :: setAt env t' (.box cs'), rfl, if_pos (by rw [noRp_setAt hb']; exact hn), ?_⟩
      simp only [setAt]
      rw [if_neg (fun e => hdi (by rw [e]))]
      exact EqE.refl _
  · -- i writes a box, j puts
    have hloc := locOf_actL hc
    have hdj : j.dst ≠ some t := fun e => hi.ji t e (by unfold rds; simp [hloc])
    simp only [Ed.run, Option.some.injEq] at r1
    subst r1
    simp only [Ed.run] at r2 ⊢
    cases hd : j.dst with
    | none =>
      rw [hd] at r2
      simp only [put, Option.some.injEq] at r2 ⊢
      subst r2
      exact ⟨_, _, rfl, rfl, EqE.refl _⟩
    | some d =>
      rw [hd] at r2 hdj
      simp only [put] at r2 ⊢
      split at r2
      case isFalse => simp at r2
      rename_i hn
      simp only [Option.some.injEq] at r2; subst r2
      rw [noRp_setAt hb] at hn
      refine ⟨(d, u) :: env, _, if_pos hn, rfl, ?_⟩
      simp only [setAt]
      rw [if_neg (fun e => hdj (by rw [e]))]
      exact EqE.refl _
  · -- both write boxes
    have hne : t ≠ t' := fun e => by
      have hok := hi.ok
      rw [hc, hc', e] at hok
      simp [okPair] at hok
    simp only [Ed.run, Option.some.injEq] at r1 r2 ⊢
    subst r1; subst r2
    have nd : find env t ≠ .dead := by rw [hb]; exact fun h => by cases h
    have nd' : find env t' ≠ .dead := by rw [hb']; exact fun h => by cases h
    have f1 := find_setAt (v := .box cs) nd
    have f2 := find_setAt (v := .box cs') nd'
    have f3 := find_setAt (env := setAt env t (.box cs)) (t := t') (v := .box cs') (by rw [f1, if_neg hne.symm]; exact nd')
    have f4 := find_setAt (env := setAt env t' (.box cs')) (t := t) (v := .box cs) (by rw [f2, if_neg hne]; exact nd)
    refine ⟨_, _, rfl, rfl, fun k => ?_, fun k => ?_⟩
    · rw [f3, f4, f1, f2]
      by_cases h1 : k = t
      · by_cases h2 : k = t'
        · omega
        · rw [if_neg h2, if_pos h1, if_pos h1]
      · by_cases h2 : k = t'
        · rw [if_pos h2, if_neg h1, if_pos h2]
        · rw [if_neg h2, if_neg h1, if_neg h1, if_neg h2]
    · rw [noRp_setAt (cs0 := cs0') (by rw [f1, if_neg hne.symm]; exact hb'), noRp_setAt hb, noRp_setAt (cs0 := cs0) (by rw [f2, if_neg hne]; exact hb), noRp_setAt hb']
end
end Go.Hm
