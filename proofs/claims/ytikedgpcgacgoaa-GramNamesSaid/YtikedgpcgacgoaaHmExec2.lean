/- What runs keep of the heap. -/
import Derived.Test.YtikedgpcgacgoaaHmExec1
namespace Go.Hm
open Go

section
variable {C : Orc} {lk lim base : Nat} {env env' : Env} {H H' : Heap}

theorem edRun_some {x : Option (Ed × Heap)} (h : edRun env x = some (env', H')) : ∃ e, x = some (e, H') := by
  unfold edRun at h
  split at h
  · split at h
    · simp only [Option.some.injEq, Prod.mk.injEq] at h
      obtain ⟨_, rfl⟩ := h
      exact ⟨_, rfl⟩
    · simp at h
  · simp at h

theorem stepI_fr (hF : OrcFr C) {i : AI} (h : stepI C lk lim i env H = some (env', H')) : Fr lk lim H H' := by
  unfold stepI at h
  split at h
  · unfold actOp at h
    split at h
    · rw [exOp_eq] at h
      obtain ⟨e, he⟩ := edRun_some h
      exact exE_fr he
    · rw [exOp_eq] at h
      obtain ⟨e, he⟩ := edRun_some h
      exact exE_fr he
    · split at h
      case h_2 => simp at h
      split at h
      case h_2 => simp at h
      simp only [Option.some.injEq, Prod.mk.injEq] at h
      obtain ⟨_, rfl⟩ := h
      exact ⟨by simp, fun hl b hb => List.getElem?_append_left (by omega), fun m _ h2 hc => hc.append h2⟩
    · split at h
      case h_2 => simp at h
      split at h
      case isFalse => simp at h
      split at h
      case h_2 => simp at h
      rename_i hc
      split at h
      case h_2 => simp at h
      simp only [Option.some.injEq, Prod.mk.injEq] at h
      obtain ⟨_, rfl⟩ := h
      exact ⟨hF.len _ _ _ _ _ _ _ hc, hF.lock _ _ _ _ _ _ _ hc, hF.cl _ _ _ _ _ _ _ hc⟩
    · split at h
      case h_2 => simp at h
      split at h
      case h_2 => simp at h
      simp only [Option.some.injEq, Prod.mk.injEq] at h
      obtain ⟨_, rfl⟩ := h
      exact Fr.refl _ _ _
  · split at h
    case h_2 => simp at h
    simp only [Option.some.injEq, Prod.mk.injEq] at h
    obtain ⟨_, rfl⟩ := h
    exact Fr.refl _ _ _
  · simp at h

theorem runOps_fr (hF : OrcFr C) : ∀ {l : List AI} {env : Env} {H : Heap}, runOps C lk lim l env H = some (env', H') → Fr lk lim H H'
  | [], env, H, h => by
    simp only [runOps, Option.some.injEq, Prod.mk.injEq] at h
    obtain ⟨_, rfl⟩ := h
    exact Fr.refl _ _ _
  | i :: r, env, H, h => by
    simp only [runOps] at h
    split at h
    · rename_i e1 h1 hs
      exact (stepI_fr hF hs).trans (runOps_fr hF h)
    · simp at h

/-- The same within a drawn region. -/
structure FrB (base lk lim : Nat) (H H' : Heap) : Prop where
  len : H.length ≤ H'.length
  lock : lk ≤ base → ∀ b, b < lk → H'[b]? = H[b]?
  cl : ∀ m, m ≤ lim → m ≤ base → Cl m H → Cl m H'

theorem steps_frb {cb : Nat} {i : AI} (hb : base ≤ H.length) (h : Steps1 C lk lim base cb i env H env' H') : FrB base lk lim H H' := by
  obtain ⟨e, d, h1, _, h3⟩ := h
  have hlen := hd_len h1 h3
  cases d with
  | same =>
    simp [Hd.run] at h3; subst h3
    exact ⟨hlen, fun _ _ _ => rfl, fun _ _ _ h => h⟩
  | app X =>
    simp only [Hd.run] at h3
    split at h3
    case isFalse => simp at h3
    simp only [Option.some.injEq] at h3; subst h3
    exact ⟨hlen, fun hl b hlt => List.getElem?_append_left (by omega), fun m _ h2 hc => hc.append (by omega)⟩
  | fill k cs =>
    rcases eff_heap h1 with h | ⟨_, _, h⟩ | ⟨_, _, _, h⟩ | h
    · cases h
    · cases h
      simp only [Hd.run] at h3
      split at h3
      case h_2 => simp at h3
      simp only [Option.some.injEq] at h3; subst h3
      exact ⟨hlen, fun hl b hlt => by rw [List.getElem?_set_ne (by omega)], fun m _ h2 hc => hc.set (by omega)⟩
    · cases h
    · exfalso
      unfold eff effA at h1
      rw [h] at h1
      split at h1
      · dsimp only at h1
        split at h1 <;> simp at h1
      · simp at h1
      · simp at h1
  | to H2 =>
    simp [Hd.run] at h3; subst h3
    have key : Fr lk lim H H2 := by
      unfold eff at h1
      split at h1
      · unfold effA at h1
        split at h1
        · split at h1 <;> simp at h1
        · split at h1
          case h_2 => simp at h1
          rename_i hx
          simp only [Option.some.injEq, Prod.mk.injEq, Hd.to.injEq] at h1
          rw [← h1.2]; exact exE_fr hx
        · split at h1 <;> simp at h1
        · split at h1
          case h_2 => simp at h1
          split at h1
          case isFalse => simp at h1
          split at h1
          case h_2 => simp at h1
          split at h1
          case isFalse => simp at h1
          simp only [Option.some.injEq, Prod.mk.injEq] at h1
          split at h1 <;> simp at h1
        · split at h1
          case h_2 => simp at h1
          split at h1 <;> simp at h1
      · simp at h1
      · simp at h1
    exact ⟨hlen, fun hl => key.lock (by omega), fun m h1 h2 => key.cl m h1 (by omega)⟩

theorem runD_frb : ∀ {l : List AI} {env : Env} {H : Heap}, base ≤ H.length → runD C lk lim base l env H = some (env', H') → FrB base lk lim H H'
  | [], env, H, hb, h => by
    simp only [runD, Option.some.injEq, Prod.mk.injEq] at h
    obtain ⟨_, rfl⟩ := h
    exact ⟨Nat.le_refl _, fun _ _ _ => rfl, fun _ _ _ h => h⟩
  | i :: r, env, H, hb, h => by
    obtain ⟨e1, h1, hs, hr⟩ := runD_cons.1 h
    have a := steps_frb hb hs
    have b := runD_frb (Nat.le_trans hb a.len) hr
    exact ⟨Nat.le_trans a.len b.len, fun hl k hk => by rw [b.lock hl k hk, a.lock hl k hk], fun m h1 h2 hc => b.cl m h1 h2 (a.cl m h1 h2 hc)⟩

theorem exec_fr (hF : OrcFr C) {n : Nat} : ∀ (c : AC) {env : Env} {H : Heap} {ex : Ex} {env' : Env} {H' : Heap}, exec C n lk lim c env H = some (ex, env', H') → Fr lk lim H H' := by
  intro c
  induction c with
  | skip => intro env H ex env' H' h; simp only [exec, Option.some.injEq, Prod.mk.injEq] at h; rw [← h.2.2]; exact Fr.refl _ _ _
  | exit id => intro env H ex env' H' h; simp only [exec, Option.some.injEq, Prod.mk.injEq] at h; rw [← h.2.2]; exact Fr.refl _ _ _
  | ret => intro env H ex env' H' h; simp only [exec, Option.some.injEq, Prod.mk.injEq] at h; rw [← h.2.2]; exact Fr.refl _ _ _
  | bad => intro env H ex env' H' h; simp [exec] at h
  | regN keep ops =>
    intro env H ex env' H' h
    simp only [exec] at h
    split at h
    case h_2 => simp at h
    rename_i hr
    simp only [Option.some.injEq, Prod.mk.injEq] at h
    rw [← h.2.2]; exact runOps_fr hF hr
  | regD keep m ops =>
    intro env H ex env' H' h
    simp only [exec] at h
    split at h
    case h_2 => simp at h
    rename_i hr
    simp only [Option.some.injEq, Prod.mk.injEq] at h
    rw [← h.2.2]
    have a := runD_frb (by simp) hr
    have hlen := a.len
    rw [List.length_append] at hlen
    refine ⟨by omega, fun hl b hb => ?_, fun k h1 h2 hc => a.cl k h1 h2 (hc.append h2)⟩
    rw [a.lock hl b hb, List.getElem?_append_left (by omega)]
  | seq a b iha ihb =>
    intro env H ex env' H' h
    simp only [exec] at h
    split at h
    · rename_i ha
      exact (iha ha).trans (ihb h)
    · exact iha h
  | cond c a b iha ihb =>
    intro env H ex env' H' h
    simp only [exec] at h
    split at h
    case h_2 => simp at h
    split at h
    · exact iha h
    · exact ihb h
  | block id b ih =>
    intro env H ex env' H' h
    simp only [exec] at h
    split at h
    · rename_i hb
      have := ih hb
      split at h <;> (simp only [Option.some.injEq, Prod.mk.injEq] at h; rw [← h.2.2]; exact this)
    · exact ih h
  | loop keep b ih =>
    intro env H ex env' H' h
    simp only [exec] at h
    have key : ∀ (k : Nat) {env : Env} {H : Heap}, iter (fun env H => exec C n lk lim b (restrict keep env) H) k env H = some (ex, env', H') → Fr lk lim H H' := by
      intro k
      induction k with
      | zero => intro env H h; simp [iter] at h
      | succ k ihk =>
        intro env H h
        simp only [iter] at h
        split at h
        · rename_i hb
          exact (ih hb).trans (ihk h)
        · exact ih h
    exact key n h
end

/-- What a call leaves: the frame. -/
theorem callN_fr {X : Orc} {A : FuncId → Option AFn} (hX : OrcFr X) : ∀ n, OrcFr (callN X A n)
  | 0 => ⟨fun _ _ _ _ _ _ _ h => by simp [callN] at h, fun _ _ _ _ _ _ _ h => by simp [callN] at h, fun _ _ _ _ _ _ _ h => by simp [callN] at h⟩
  | n + 1 => by
    have ih := callN_fr (A := A) hX n
    have key : ∀ lk lim f as H r H', callN X A (n + 1) lk lim f as H = some (r, H') → Fr lk lim H H' := by
      intro lk lim f as H r H' h
      simp only [callN] at h
      split at h
      · rename_i r' hx
        simp only [Option.some.injEq] at h
        subst h
        exact ⟨hX.len _ _ _ _ _ _ _ hx, hX.lock _ _ _ _ _ _ _ hx, hX.cl _ _ _ _ _ _ _ hx⟩
      · split at h
        case h_1 => simp at h
        rename_i fd hA
        split at h
        case isFalse => simp at h
        unfold finish at h
        split at h
        · simp at h
        · rename_i ex env1 H1 _ hex
          have hfr := exec_fr ih fd.body hex
          split at h
          case h_2 => simp at h
          split at h
          · rename_i ht
            rw [if_pos ht] at hfr
            split at h
            case h_2 => simp at h
            split at h
            case isFalse => simp at h
            simp only [Option.some.injEq, Prod.mk.injEq] at h
            rw [← h.2]
            have hlen := hfr.len
            refine ⟨by rw [List.length_take]; omega, fun hl b hb => ?_, fun m _ h2 hc => ?_⟩
            · rw [List.getElem?_take, if_pos (by omega)]; exact hfr.lock hl b hb
            · have := hfr.cl m h2 h2 hc
              intro b cs hb hbb
              exact this b cs hb (take_get hbb).2
          · rename_i ht
            rw [if_neg ht] at hfr
            simp only [Option.some.injEq, Prod.mk.injEq] at h
            rw [← h.2]; exact hfr
        · simp at h
    exact ⟨fun _ _ _ _ _ _ _ h => (key _ _ _ _ _ _ _ h).len, fun _ _ _ _ _ _ _ h => (key _ _ _ _ _ _ _ h).lock, fun _ _ _ _ _ _ _ h => (key _ _ _ _ _ _ _ h).cl⟩
end Go.Hm
