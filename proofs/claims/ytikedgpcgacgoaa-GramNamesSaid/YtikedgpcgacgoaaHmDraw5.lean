/- A region in a drawn order: whatever is ready may come first. -/
import Derived.Test.YtikedgpcgacgoaaHmDraw4
namespace Go.Hm
open Go

section
variable {C : Orc} {lk lim base : Nat} {env env' : Env} {H H' : Heap}

theorem setH_len {cb : Nat} {b : Nat} {cs new : List AV} (h : setH lk lim cb H b cs new = some H') : H'.length = H.length := by
  unfold setH at h
  split at h
  · simp only [Option.some.injEq] at h; subst h; simp
  · simp at h
theorem exE_len {cb : Nat} {dst : Option Nat} {op : AOp} {e : Ed} (h : exE lk lim cb dst op env H = some (e, H')) : H.length ≤ H'.length := by
  cases op
  case st l n a x =>
    simp only [exE] at h
    split at h
    case h_2 => simp at h
    split at h
    case isFalse => simp at h
    generalize ev env a = va at h
    cases l with
    | some t =>
      cases va <;> dsimp only at h <;> first | (simp at h; done) | skip
      split at h
      case isFalse => simp at h
      split at h
      case h_2 => simp at h
      split at h
      case isFalse => simp at h
      simp only [Option.some.injEq, Prod.mk.injEq] at h
      rw [← h.2]; exact Nat.le_refl _
    | none =>
      cases va <;> dsimp only at h <;> first | (simp at h; done) | skip
      split at h
      case h_2 => simp at h
      split at h
      case isFalse => simp at h
      split at h
      case h_2 => simp at h
      rename_i hs
      simp only [Option.some.injEq, Prod.mk.injEq] at h
      rw [← h.2, setH_len hs]; exact Nat.le_refl _
  case app es bytes x y =>
    simp only [exE] at h
    split at h
    case h_2 => simp at h
    split at h
    case isFalse => simp at h
    generalize ev env x = va at h
    cases va <;> dsimp only at h <;> first | (simp at h; done) | skip
    · split at h
      · simp only [Option.some.injEq, Prod.mk.injEq] at h
        rw [← h.2]; exact Nat.le_refl _
      · split at h
        case isFalse => simp at h
        simp only [Option.some.injEq, Prod.mk.injEq] at h
        rw [← h.2]; simp
    · split at h
      case h_2 => simp at h
      split at h
      case isFalse => simp at h
      split at h
      case h_2 => simp at h
      rename_i hs
      simp only [Option.some.injEq, Prod.mk.injEq] at h
      rw [← h.2, setH_len hs]; exact Nat.le_refl _
  all_goals simp [exE] at h

theorem eff_to {cb : Nat} {i : AI} {e : Ed} {H2 : Heap} (h : eff C lk lim base cb i env H = some (e, .to H2)) : H.length ≤ H2.length := by
  unfold eff at h
  split at h
  · unfold effA at h
    split at h
    · split at h <;> simp at h
    · split at h
      case h_2 => simp at h
      rename_i hx
      simp only [Option.some.injEq, Prod.mk.injEq, Hd.to.injEq] at h
      rw [← h.2]; exact exE_len hx
    · split at h <;> simp at h
    · split at h
      case h_2 => simp at h
      split at h
      case isFalse => simp at h
      split at h
      case h_2 => simp at h
      split at h
      case isFalse => simp at h
      simp only [Option.some.injEq, Prod.mk.injEq] at h
      split at h <;> simp at h
    · split at h
      case h_2 => simp at h
      split at h <;> simp at h
  · simp at h
  · simp at h

theorem hd_len {cb : Nat} {i : AI} {e : Ed} {d : Hd} {H1 : Heap} (h : eff C lk lim base cb i env H = some (e, d)) (hr : d.run base H = some H1) : H.length ≤ H1.length := by
  cases d with
  | same => simp [Hd.run] at hr; rw [← hr]; exact Nat.le_refl _
  | fill k cs =>
    simp only [Hd.run] at hr
    split at hr
    · simp only [Option.some.injEq] at hr; rw [← hr]; simp
    · simp at hr
  | app X =>
    simp only [Hd.run] at hr
    split at hr
    · simp only [Option.some.injEq] at hr; rw [← hr]; simp
    · simp at hr
  | to H2 => simp [Hd.run] at hr; rw [← hr]; exact eff_to h

/-- The heap's edits do not touch its lower part, or the other instruction does not look. -/
theorem eff_after {i j : AI} (hi : Indep i j) (hb : base ≤ H.length) {ca cc cc' : Nat} {e1 : Ed} {d1 : Hd} {envx : Env} {H1 : Heap} (h1 : eff C lk lim base ca i envx H = some (e1, d1)) (s1 : d1.run base H = some H1) (hc : cls j.op = .actH → cc = cc') :
    eff C lk lim base cc j env H1 = eff C lk lim base cc' j env H := by
  apply eff_heap_congr
  have hok := hi.ok
  rcases eff_heap h1 with rfl | ⟨hm, cs, rfl⟩ | ⟨hm, X, _, rfl⟩ | hm
  · simp only [Hd.run, Option.some.injEq] at s1
    subst s1
    by_cases hj : cls j.op = .actH
    · exact .inr (.inl ⟨hj, rfl, hc hj⟩)
    · exact .inl ⟨hj, rfl⟩
  · rw [hm] at hok
    have hj : cls j.op ≠ .actH := fun e => by rw [e] at hok; simp [okPair] at hok
    refine .inl ⟨hj, ?_⟩
    simp only [Hd.run] at s1
    split at s1
    · simp only [Option.some.injEq] at s1; subst s1
      rw [List.take_set_of_le (by omega)]
    · simp at s1
  · rw [hm] at hok
    have hj : cls j.op ≠ .actH := fun e => by rw [e] at hok; simp [okPair] at hok
    refine .inl ⟨hj, ?_⟩
    simp only [Hd.run] at s1
    split at s1
    · simp only [Option.some.injEq] at s1; subst s1
      rw [List.take_append_of_le_length hb]
    · simp at s1
  · rw [hm] at hok
    refine .inr (.inr ?_)
    cases hj : cls j.op <;> rw [hj] at hok <;> simp [okPair] at hok
    · exact .inl (.inl rfl)
    · exact .inl (.inr ⟨_, rfl⟩)
    · exact .inr ⟨_, rfl⟩

/-- The heap's two edits, in the other order. -/
theorem heaps_swap {i j : AI} (hi : Indep i j) (hmk : cls i.op = .make ∨ cls j.op = .make → base < H.length) {ca cc : Nat} {e1 e2 : Ed} {d1 d2 : Hd} {envx envy : Env} {H1 H2 Hx Hy : Heap}
    (h1 : eff C lk lim base ca i envx Hx = some (e1, d1)) (s1 : d1.run base H = some H1) (h2 : eff C lk lim base cc j envy Hy = some (e2, d2)) (s2 : d2.run base H1 = some H2) : ∃ H1', d2.run base H = some H1' ∧ d1.run base H1' = some H2 := by
  have hok := hi.ok
  rcases eff_heap h1 with rfl | ⟨hm, cs, rfl⟩ | ⟨hm, X, hX, rfl⟩ | hm
  · simp only [Hd.run, Option.some.injEq] at s1
    subst s1
    exact ⟨H2, s2, rfl⟩
  · rcases eff_heap h2 with rfl | ⟨hm2, cs2, rfl⟩ | ⟨hm2, X2, hX2, rfl⟩ | hm2
    · simp only [Hd.run, Option.some.injEq] at s2
      subst s2
      exact ⟨H, rfl, s1⟩
    · have hne := hi.at_ hm hm2
      have hne2 : base + i.at_ ≠ base + j.at_ := by omega
      simp only [Hd.run] at s1 s2 ⊢
      split at s1
      case h_2 => simp at s1
      rename_i hk1
      simp only [Option.some.injEq] at s1; subst s1
      rw [List.getElem?_set_ne hne2] at s2
      split at s2
      case h_2 => simp at s2
      rename_i hk2
      simp only [Option.some.injEq] at s2; subst s2
      rw [hk2]
      refine ⟨_, rfl, ?_⟩
      rw [List.getElem?_set_ne (Ne.symm hne2), hk1]
      dsimp only
      rw [List.set_comm _ _ hne2]
    · have hlt := hmk (.inl hm)
      simp only [Hd.run] at s1 s2
      split at s1
      case h_2 => simp at s1
      simp only [Option.some.injEq] at s1; subst s1
      rw [List.length_set, if_neg (by omega)] at s2
      simp at s2
    · rw [hm, hm2] at hok; simp [okPair] at hok
  · rcases eff_heap h2 with rfl | ⟨hm2, cs2, rfl⟩ | ⟨hm2, X2, hX2, rfl⟩ | hm2
    · simp only [Hd.run, Option.some.injEq] at s2
      subst s2
      exact ⟨H, rfl, s1⟩
    · have hlt := hmk (.inr hm2)
      simp only [Hd.run] at s1
      rw [if_neg (by omega)] at s1
      simp at s1
    · simp only [Hd.run] at s1 s2
      split at s1
      case isFalse => simp at s1
      rename_i hl
      simp only [Option.some.injEq] at s1; subst s1
      split at s2
      case isFalse => simp at s2
      rename_i hl2
      rw [List.length_append] at hl2
      exact absurd (List.eq_nil_of_length_eq_zero (by omega)) hX
    · rw [hm, hm2] at hok; simp [okPair] at hok
  · rw [hm] at hok
    rcases eff_heap h2 with rfl | ⟨hm2, cs2, rfl⟩ | ⟨hm2, X2, hX2, rfl⟩ | hm2
    · simp only [Hd.run, Option.some.injEq] at s2
      subst s2
      exact ⟨H, rfl, s1⟩
    all_goals rw [hm2] at hok; simp [okPair] at hok

/-- What a region asks of the heap's size. -/
def Big (base : Nat) (l : List AI) (H : Heap) : Prop := base ≤ H.length ∧ ∀ i ∈ l, cls i.op = .make → base < H.length

theorem Big.mono {l l' : List AI} (h : Big base l H) (hl : ∀ i ∈ l', i ∈ l) (hs : H.length ≤ H'.length) : Big base l' H' :=
  ⟨Nat.le_trans h.1 hs, fun i hi hm => Nat.lt_of_lt_of_le (h.2 i (hl i hi) hm) hs⟩

theorem steps_len {cb : Nat} {i : AI} (h : Steps1 C lk lim base cb i env H env' H') : H.length ≤ H'.length := by
  obtain ⟨e, d, h1, _, h3⟩ := h
  exact hd_len h1 h3

theorem Ed.run_EqE {cb : Nat} {i : AI} {e : Ed} {d : Hd} {env1 : Env} (h : eff C lk lim base cb i env H = some (e, d)) (hr : e.run env = some env1) (he : EqE env env') : ∃ env1', e.run env' = some env1' ∧ EqE env1 env1' := by
  rcases eff_form h with ⟨v, rfl, _⟩ | ⟨t, cs, cs0, rfl, _, hb, _⟩
  · exact he.put hr
  · simp only [Ed.run, Option.some.injEq] at hr ⊢
    subst hr
    have hb' : find env' t = .box cs0 := by rw [← he.1 t]; exact hb
    have f1 := find_setAt (v := .box cs) (show find env t ≠ .dead by rw [hb]; exact fun h => by cases h)
    have f2 := find_setAt (v := .box cs) (show find env' t ≠ .dead by rw [hb']; exact fun h => by cases h)
    exact ⟨_, rfl, fun k => by rw [f1, f2, he.1 k], fun k => by rw [noRp_setAt hb, noRp_setAt hb', he.2 k]⟩

theorem steps_EqE {cb : Nat} {i : AI} {env1 : Env} {H1 : Heap} (h : Steps1 C lk lim base cb i env H env1 H1) (he : EqE env env') : ∃ env1', Steps1 C lk lim base cb i env' H env1' H1 ∧ EqE env1 env1' := by
  obtain ⟨e, d, h1, h2, h3⟩ := h
  obtain ⟨env1', h4, h5⟩ := Ed.run_EqE h1 h2 he
  exact ⟨env1', ⟨e, d, by rw [← eff_congr (he.agree i)]; exact h1, h4, h3⟩, h5⟩

def cbOf (base : Nat) (r : List AI) : Nat := if r.any isCall = true then base else 0
theorem runD_cons {i : AI} {r : List AI} {env2 : Env} {H2 : Heap} : runD C lk lim base (i :: r) env H = some (env2, H2) ↔ ∃ env1 H1, Steps1 C lk lim base (cbOf base r) i env H env1 H1 ∧ runD C lk lim base r env1 H1 = some (env2, H2) := by
  simp only [runD]
  constructor
  · intro h
    split at h
    · rename_i env1 H1 hs
      exact ⟨env1, H1, stepD_iff.1 hs, h⟩
    · simp at h
  · rintro ⟨env1, H1, hs, h⟩
    rw [show stepD C lk lim base (if r.any isCall = true then base else 0) i env H = some (env1, H1) from stepD_iff.2 hs]
    exact h

theorem runD_EqE : ∀ {l : List AI} {env env' : Env} {H : Heap} {env2 : Env} {H2 : Heap}, EqE env env' → runD C lk lim base l env H = some (env2, H2) → ∃ env2', runD C lk lim base l env' H = some (env2', H2) ∧ EqE env2 env2'
  | [], env, env', H, env2, H2, he, h => by
    simp only [runD, Option.some.injEq, Prod.mk.injEq] at h ⊢
    obtain ⟨rfl, rfl⟩ := h
    exact ⟨env', ⟨rfl, rfl⟩, he⟩
  | i :: r, env, env', H, env2, H2, he, h => by
    obtain ⟨env1, H1, hs, hr⟩ := runD_cons.1 h
    obtain ⟨env1', hs', he'⟩ := steps_EqE hs he
    obtain ⟨env2', hr', he2⟩ := runD_EqE he' hr
    exact ⟨env2', runD_cons.2 ⟨env1', H1, hs', hr'⟩, he2⟩

theorem cb_eq {i j : AI} {r : List AI} (hi : Indep i j) (h : cls j.op = .actH) : cbOf base r = cbOf base (i :: r) := by
  have hok := hi.ok
  rw [h] at hok
  have : isCall i = false := by
    unfold isCall
    cases hc : cls i.op <;> rw [hc] at hok <;> simp [okPair] at hok ⊢
  unfold cbOf
  rw [List.any_cons, this, Bool.false_or]

theorem runD_swap {i j : AI} {r : List AI} {env2 : Env} {H2 : Heap} (hi : Indep i j) (hb : Big base (i :: j :: r) H) (h : runD C lk lim base (i :: j :: r) env H = some (env2, H2)) : ∃ env2', runD C lk lim base (j :: i :: r) env H = some (env2', H2) ∧ EqE env2 env2' := by
  obtain ⟨env1, H1, ⟨e1, d1, h1, r1, s1⟩, h⟩ := runD_cons.1 h
  obtain ⟨envm, Hm', ⟨e2, d2, h2, r2, s2⟩, h⟩ := runD_cons.1 h
  have ag : Agree j env env1 := agree_eff hi h1 r1
  have h2' : eff C lk lim base (cbOf base (i :: r)) j env H = some (e2, d2) := by
    rw [← eff_after (env := env) hi hb.1 h1 s1 (fun hj => cb_eq hi hj), eff_congr ag]
    exact h2
  obtain ⟨env1', envm', r2', r1', heq⟩ := edits_swap hi h1 r1 h2' r2
  obtain ⟨H1', s2', s1'⟩ := heaps_swap hi (fun h => by
    rcases h with h | h
    · exact hb.2 i (by simp) h
    · exact hb.2 j (by simp) h) h1 s1 h2 s2
  have ag' : Agree i env env1' := agree_eff hi.symm h2' r2'
  have h1' : eff C lk lim base (cbOf base r) i env1' H1' = some (e1, d1) := by
    rw [eff_after (cc' := cbOf base (j :: r)) (env := env1') hi.symm hb.1 h2' s2' (fun hj => cb_eq hi.symm hj), ← eff_congr ag']
    exact h1
  obtain ⟨env2', h', he2⟩ := runD_EqE heq h
  exact ⟨env2', runD_cons.2 ⟨env1', H1', ⟨e2, d2, h2', r2', s2'⟩, runD_cons.2 ⟨envm', Hm', ⟨e1, d1, h1', r1', s1'⟩, h'⟩⟩, he2⟩

theorem cbOf_front {i : AI} (pre post : List AI) : cbOf base (pre ++ i :: post) = cbOf base (i :: (pre ++ post)) := by
  unfold cbOf
  have : (pre ++ i :: post).any isCall = (i :: (pre ++ post)).any isCall := by
    simp only [List.any_append, List.any_cons]
    cases isCall i <;> simp
  rw [this]

/-- WHAT IS APART FROM ALL BEFORE IT MAY COME FIRST. -/
theorem runD_front {i : AI} {post : List AI} : ∀ {pre : List AI} {env : Env} {H : Heap} {env2 : Env} {H2 : Heap}, (∀ p ∈ pre, Indep p i) → Big base (pre ++ i :: post) H → runD C lk lim base (pre ++ i :: post) env H = some (env2, H2) →
    ∃ env2', runD C lk lim base (i :: (pre ++ post)) env H = some (env2', H2) ∧ EqE env2 env2'
  | [], env, H, env2, H2, _, _, h => ⟨env2, h, EqE.refl _⟩
  | p :: pre, env, H, env2, H2, hp, hb, h => by
    obtain ⟨env1, H1, hs, h⟩ := runD_cons.1 h
    obtain ⟨env2', h', he⟩ := runD_front (pre := pre) (fun q hq => hp q (List.mem_cons_of_mem _ hq)) (hb.mono (fun q hq => List.mem_cons_of_mem _ hq) (steps_len hs)) h
    rw [show cbOf base (pre.append (i :: post)) = cbOf base (i :: (pre ++ post)) from cbOf_front pre post] at hs
    have hb' : Big base (p :: i :: (pre ++ post)) H := hb.mono (fun q hq => by simp at hq ⊢; rcases hq with h | h | h | h <;> simp [h]) (Nat.le_refl _)
    obtain ⟨env3, h3, he3⟩ := runD_swap (hp p (by simp)) hb' (runD_cons.2 ⟨env1, H1, hs, h'⟩)
    exact ⟨env3, h3, he.trans he3⟩
end
end Go.Hm
