/- A region in a drawn order: two instructions change places. -/
import Derived.Test.YtikedgpcgacgoaaHmDraw2
namespace Go.Hm
open Go

/-- Frames that answer alike. -/
def EqE (e e' : Env) : Prop := (∀ t, find e t = find e' t) ∧ ∀ d, noRp d e = noRp d e'
theorem EqE.refl (e : Env) : EqE e e := ⟨fun _ => rfl, fun _ => rfl⟩
theorem EqE.symm {e e' : Env} (h : EqE e e') : EqE e' e := ⟨fun t => (h.1 t).symm, fun d => (h.2 d).symm⟩
theorem EqE.trans {e e' e'' : Env} (h : EqE e e') (k : EqE e' e'') : EqE e e'' := ⟨fun t => (h.1 t).trans (k.1 t), fun d => (h.2 d).trans (k.2 d)⟩

def rpTo (d : Nat) : AV → Bool
  | .rp t _ => decide (t = d)
  | _ => false
theorem noRp_cons (d t : Nat) (v : AV) (env : Env) : noRp d ((t, v) :: env) = (!rpTo d v && noRp d env) := by
  cases v <;> simp [noRp, rpTo]
theorem noRp_setAt {d t : Nat} {cs : List AV} : ∀ {env : Env} {cs0 : List AV}, find env t = .box cs0 → noRp d (setAt env t (.box cs)) = noRp d env
  | [], cs0, h => by simp [find] at h
  | (t', v') :: r, cs0, h => by
    simp only [find] at h
    simp only [setAt]
    by_cases e : t' = t
    · rw [if_pos e] at h ⊢
      subst h
      rw [noRp_cons, noRp_cons]; rfl
    · rw [if_neg e] at h ⊢
      rw [noRp_cons, noRp_cons, noRp_setAt h]

theorem ev_find {env env' : Env} {x : AO} (h : ∀ t ∈ oT x, find env t = find env' t) : ev env x = ev env' x := by
  cases x with
  | con v => rfl
  | tmp t => simp only [ev, h t (by simp [oT])]
theorem guard_find {env env' : Env} {i : AI} (h : ∀ t ∈ (i.grd.map (·.1)).toList, find env t = find env' t) : guardI i env = guardI i env' := by
  unfold guardI
  cases hg : i.grd with
  | none => rfl
  | some p =>
    obtain ⟨t, want⟩ := p
    have := h t (by rw [hg]; simp)
    dsimp only
    rw [this]

theorem Agree.of_find {env env' : Env} {i : AI} (h : ∀ t ∈ rds i, find env t = find env' t) : Agree i env env' :=
  ⟨fun x hx => ev_find fun t ht => h t (by unfold rds; simp only [List.mem_append, List.mem_flatMap]; exact .inl (.inl ⟨x, hx, ht⟩)),
   fun t ht => h t (by unfold rds; simp only [List.mem_append]; exact .inl (.inr (by simpa using ht))),
   guard_find fun t ht => h t (by unfold rds; simp only [List.mem_append]; exact .inr ht)⟩

/-- After a write to a slot that the instruction does not read. -/
theorem agree_put {env env1 : Env} {j : AI} {dst : Option Nat} {v : AV} (hp : put dst v env = some env1) (hn : ∀ d, dst = some d → d ∉ rds j) : Agree j env env1 :=
  Agree.of_find fun t ht => by
    cases dst with
    | none => simp [put] at hp; subst hp; rfl
    | some d =>
      simp only [put] at hp
      split at hp
      · simp only [Option.some.injEq] at hp; subst hp
        simp only [find]
        rw [if_neg (fun e => hn d rfl (by subst e; exact ht))]
      · simp at hp

/-- After a write to a boxed local that the instruction does not look into. -/
theorem agree_box {env : Env} {j : AI} {t : Nat} {cs cs0 : List AV} (hb : find env t = .box cs0) (hl : locOf j.op ≠ some t) : Agree j env (setAt env t (.box cs)) := by
  have nd : find env t ≠ .dead := by rw [hb]; exact fun h => by cases h
  have fs := find_setAt (v := .box cs) nd
  refine ⟨fun x hx => ?_, fun u hu => ?_, ?_⟩
  · cases x with
    | con v => rfl
    | tmp u =>
      simp only [ev, fs u]
      by_cases e : u = t
      · subst e; rw [if_pos rfl, hb]
      · rw [if_neg e]
  · rw [fs u, if_neg (fun e => hl (by rw [hu, e]))]
  · unfold guardI
    cases j.grd with
    | none => rfl
    | some p =>
      obtain ⟨u, want⟩ := p
      dsimp only
      rw [fs u]
      by_cases e : u = t
      · subst e; rw [if_pos rfl, hb]
      · rw [if_neg e]

theorem EqE.agree {env env' : Env} (h : EqE env env') (j : AI) : Agree j env env' := Agree.of_find fun t _ => h.1 t

theorem EqE.put {env env' env1 : Env} (h : EqE env env') {dst : Option Nat} {v : AV} (hp : put dst v env = some env1) : ∃ env1', Hm.put dst v env' = some env1' ∧ EqE env1 env1' := by
  cases dst with
  | none => simp [Hm.put] at hp; subst hp; exact ⟨env', rfl, h⟩
  | some d =>
    simp only [Hm.put] at hp ⊢
    split at hp
    · rename_i hn
      simp only [Option.some.injEq] at hp; subst hp
      rw [h.2 d] at hn
      exact ⟨_, if_pos hn, fun t => by simp only [find, h.1 t], fun d' => by rw [noRp_cons, noRp_cons, h.2]⟩
    · simp at hp

section
variable {C : Orc} {lk lim base cb : Nat} {env env' : Env} {H H' : Heap}

/-- Where a pointer to a boxed local comes from. -/
theorem rd_rp {op : AOp} {t o : Nat} (ho : rpOp op = true) (h : rdOp op env H = some (.rp t o)) : ∃ x ∈ opnds op, ∃ o', ev env x = .rp t o' := by
  cases op <;> simp only [rpOp] at ho <;> try (cases ho; done)
  case mv x => simp only [rdOp, Option.some.injEq] at h; exact ⟨x, by simp [opnds], _, h⟩
  case pick c a b =>
    simp only [rdOp] at h
    split at h
    · simp only [Option.some.injEq] at h
      split at h
      · exact ⟨a, by simp [opnds], _, h⟩
      · exact ⟨b, by simp [opnds], _, h⟩
    · simp at h
  case nilc x =>
    simp only [rdOp] at h
    generalize hx : ev env x = vx at h
    cases vx <;> simp at h
    obtain ⟨rfl, rfl⟩ := h
    exact ⟨x, by simp [opnds], _, hx⟩
  case fldA off x =>
    simp only [rdOp] at h
    generalize hx : ev env x = vx at h
    cases vx <;> simp at h
    obtain ⟨rfl, rfl⟩ := h
    exact ⟨x, by simp [opnds], _, hx⟩
  case ixR len es a i =>
    simp only [rdOp] at h
    split at h
    · split at h
      · generalize hx : ev env a = vx at h
        cases vx <;> simp at h
        obtain ⟨rfl, rfl⟩ := h
        exact ⟨a, by simp [opnds], _, hx⟩
      · simp at h
    · simp at h

theorem mk_rp {op : AOp} {b : Nat} {v : AV} {cs : List AV} (h : mkOp op env b = some (v, cs)) : isRp v = false := by
  cases op
  case allocH z => simp only [mkOp, Option.some.injEq, Prod.mk.injEq] at h; rw [← h.1]; rfl
  case boxH n x =>
    simp only [mkOp] at h
    split at h
    · split at h
      · simp only [Option.some.injEq, Prod.mk.injEq] at h; rw [← h.1]; rfl
      · simp at h
    · simp at h
  case buildH n es z l =>
    simp only [mkOp] at h
    split at h
    · split at h
      · simp only [Option.some.injEq, Prod.mk.injEq] at h; rw [← h.1]; rfl
      · simp at h
    · simp at h
  case mks es bytes z x =>
    simp only [mkOp] at h
    split at h
    · split at h
      · simp only [Option.some.injEq, Prod.mk.injEq] at h; rw [← h.1]; rfl
      · simp at h
    · simp at h
  all_goals simp [mkOp] at h

theorem exE_actH {dst : Option Nat} {op : AOp} {e : Ed} (hc : cls op = .actH) (h : exE lk lim cb dst op env H = some (e, H')) : ∃ v, e = .put dst v ∧ isRp v = false := by
  cases op
  case st l n a x =>
    cases l with
    | some t => simp [cls] at hc
    | none =>
      simp only [exE] at h
      split at h
      case h_2 => simp at h
      split at h
      case isFalse => simp at h
      generalize ev env a = va at h
      cases va <;> dsimp only at h <;> first | (simp at h; done) | skip
      split at h
      case h_2 => simp at h
      split at h
      case isFalse => simp at h
      split at h
      case h_2 => simp at h
      simp only [Option.some.injEq, Prod.mk.injEq] at h
      exact ⟨_, h.1.symm, rfl⟩
  case app es bytes x y =>
    simp only [exE] at h
    split at h
    case h_2 => simp at h
    split at h
    case isFalse => simp at h
    generalize ev env x = va at h
    cases va <;> dsimp only at h <;> first | (simp at h; done) | skip
    · split at h
      · simp only [Option.some.injEq, Prod.mk.injEq] at h
        exact ⟨_, h.1.symm, rfl⟩
      · split at h
        case isFalse => simp at h
        simp only [Option.some.injEq, Prod.mk.injEq] at h
        exact ⟨_, h.1.symm, rfl⟩
    · split at h
      case h_2 => simp at h
      split at h
      case isFalse => simp at h
      split at h
      case h_2 => simp at h
      simp only [Option.some.injEq, Prod.mk.injEq] at h
      exact ⟨_, h.1.symm, rfl⟩
  all_goals simp [exE] at h

/-- The shapes of effects on the frame. -/
theorem eff_form {i : AI} {e : Ed} {d : Hd} (h : eff C lk lim base cb i env H = some (e, d)) :
    (∃ v, e = .put i.dst v ∧ ∀ t o, v = .rp t o → ∃ x ∈ opnds i.op, ∃ o', ev env x = .rp t o') ∨ (∃ t cs cs0, e = .box t cs ∧ cls i.op = .actL t ∧ find env t = .box cs0 ∧ i.dst = none) := by
  have nr : ∀ {v : AV}, isRp v = false → ∀ t o, v = .rp t o → ∃ x ∈ opnds i.op, ∃ o', ev env x = .rp t o' := fun h t o hv => by subst hv; cases h
  unfold eff at h
  split at h
  · unfold effA at h
    split at h
    · rename_i t hc
      split at h
      case h_2 => simp at h
      rename_i e2 H2 hx
      simp only [Option.some.injEq, Prod.mk.injEq] at h
      obtain ⟨rfl, rfl⟩ := h
      obtain ⟨_, cs, cs0, h1, h2, h3⟩ := exE_actL hc hx
      exact .inr ⟨t, cs, cs0, h1, hc, h2, h3⟩
    · rename_i hc
      split at h
      case h_2 => simp at h
      rename_i e2 H2 hx
      simp only [Option.some.injEq, Prod.mk.injEq] at h
      obtain ⟨rfl, rfl⟩ := h
      obtain ⟨v, h1, h2⟩ := exE_actH hc hx
      exact .inl ⟨v, h1, nr h2⟩
    · split at h
      case h_2 => simp at h
      rename_i v cs hm
      simp only [Option.some.injEq, Prod.mk.injEq] at h
      exact .inl ⟨v, h.1.symm, nr (mk_rp hm)⟩
    · split at h
      case h_2 => simp at h
      split at h
      case isFalse => simp at h
      split at h
      case h_2 => simp at h
      split at h
      case isFalse => simp at h
      rename_i hr
      simp only [Option.some.injEq, Prod.mk.injEq] at h
      exact .inl ⟨_, h.1.symm, nr hr⟩
    · split at h
      case h_2 => simp at h
      rename_i v hrd
      split at h
      case isFalse => simp at h
      rename_i hr
      simp only [Option.some.injEq, Prod.mk.injEq] at h
      refine .inl ⟨v, h.1.symm, fun t o hv => ?_⟩
      subst hv
      exact rd_rp (hr.resolve_left (by simp [isRp])) hrd
  · simp only [Option.some.injEq, Prod.mk.injEq] at h
    exact .inl ⟨.und, h.1.symm, nr rfl⟩
  · simp at h

/-- The shapes of effects on the heap. -/
theorem eff_heap {i : AI} {e : Ed} {d : Hd} (h : eff C lk lim base cb i env H = some (e, d)) :
    d = .same ∨ (cls i.op = .make ∧ ∃ cs, d = .fill (base + i.at_) cs) ∨ (cls i.op = .call ∧ ∃ X, X ≠ [] ∧ d = .app X) ∨ cls i.op = .actH := by
  unfold eff at h
  split at h
  · unfold effA at h
    split at h
    · split at h
      case h_2 => simp at h
      simp only [Option.some.injEq, Prod.mk.injEq] at h
      exact .inl h.2.symm
    · exact .inr (.inr (.inr ‹_›))
    · split at h
      case h_2 => simp at h
      simp only [Option.some.injEq, Prod.mk.injEq] at h
      exact .inr (.inl ⟨‹_›, _, h.2.symm⟩)
    · split at h
      case h_2 => simp at h
      split at h
      case isFalse => simp at h
      split at h
      case h_2 => simp at h
      split at h
      case isFalse => simp at h
      simp only [Option.some.injEq, Prod.mk.injEq] at h
      split at h
      · exact .inl h.2.symm
      · rename_i hl
        exact .inr (.inr (.inl ⟨‹_›, _, fun hx => hl (List.drop_eq_nil_iff.1 hx), h.2.symm⟩))
    · split at h
      case h_2 => simp at h
      split at h
      case isFalse => simp at h
      simp only [Option.some.injEq, Prod.mk.injEq] at h
      exact .inl h.2.symm
  · simp only [Option.some.injEq, Prod.mk.injEq] at h
    exact .inl h.2.symm
  · simp at h
end
end Go.Hm
