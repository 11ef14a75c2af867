/- A region in a drawn order: one step is sound. -/
import Derived.Test.YtikedgpcgacgoaaHmDraw5
namespace Go.Hm
open Go Go.RowKit

/-- The heap's lower part refers to itself. -/
def Cl (n : Nat) (H : Heap) : Prop := ∀ (b : Nat) cs, b < n → H[b]? = some (.cells cs) → belowL n cs = true

/-- What every oracle keeps to. -/
structure OrcFr (C : Orc) : Prop where
  len : ∀ lk lim f as H r H', C lk lim f as H = some (r, H') → H.length ≤ H'.length
  lock : ∀ lk lim f as H r H', C lk lim f as H = some (r, H') → lk ≤ H.length → ∀ b, b < lk → H'[b]? = H[b]?
  cl : ∀ lk lim f as H r H', C lk lim f as H = some (r, H') → ∀ m, m ≤ lim → m ≤ H.length → Cl m H → Cl m H'

theorem belowL_append {n : Nat} {a b : List AV} : belowL n (a ++ b) = (belowL n a && belowL n b) := by
  induction a with
  | nil => simp [belowL]
  | cons x r ih => simp [belowL, ih, Bool.and_assoc]
theorem belowL_sub {n : Nat} {a b : List AV} (h : ∀ x ∈ a, x ∈ b) (hb : belowL n b = true) : belowL n a = true := belowL_iff.2 fun x hx => belowL_iff.1 hb x (h x hx)
theorem belowL_replaceAt {n off : Nat} {cs new : List AV} (hc : belowL n cs = true) (hn : belowL n new = true) : belowL n (replaceAt cs off new) = true := by
  unfold replaceAt
  rw [belowL_append, belowL_append, hn, belowL_sub (fun x hx => List.mem_of_mem_take hx) hc, belowL_sub (fun x hx => List.mem_of_mem_drop hx) hc]
  rfl

theorem take_get {H : Heap} {n b : Nat} {x : HB} (h : (H.take n)[b]? = some x) : b < n ∧ H[b]? = some x := by
  rw [List.getElem?_take] at h
  split at h
  · exact ⟨‹_›, h⟩
  · simp at h

section
variable {φ : Nat → Nat} {F : Nat → Nat → Prop} {H H' : Heap} {w : World} {β : Nat → Nat} {env : Env}

theorem VRel.shrink {n : Nat} {a : AV} {v : Value} (h : VRel φ F H w a v) (hb : Hm.below n a = true) : VRel φ F (H.take n) w a v := by
  induction h with
  | one h => exact .one (h.shrink hb)
  | agg cs vs h => exact .agg cs vs ⟨h.1, fun i a v ha hv => (h.2 i a v ha hv).shrink (belowL_get (by simpa [Hm.below] using hb) ha)⟩
  | tup as vs hl _ ih => exact .tup as vs hl fun i a v ha hv => ih i a v ha hv (belowL_get (by simpa [Hm.below] using hb) ha)

theorem SR.take {n : Nat} (sr : SR φ F H w) (hc : Cl n H) : SR φ F (H.take n) w := by
  have lv : ∀ b, live (H.take n) b → live H b := fun b ⟨cs, h1, h2⟩ => ⟨cs, (take_get h1).2, h2⟩
  refine ⟨fun b cs hb hne => ?_, fun b b' h1 h2 => sr.inj b b' (lv b h1) (lv b' h2), fun b o h => sr.phiF b o (lv b h), sr.fsz⟩
  obtain ⟨hlt, hb⟩ := take_get hb
  obtain ⟨arr, ty, ha, hr⟩ := sr.blk b cs hb hne
  refine ⟨arr, ty, ha, fun i a hi => ?_⟩
  obtain ⟨v, hv, hrel⟩ := hr i a hi
  exact ⟨v, hv, hrel.shrink (belowL_get (hc b cs hlt hb) hi)⟩

/-- Everything refers into the heap. -/
theorem SR.cl (sr : SR φ F H w) : Cl H.length H := fun b cs _ hb => by
  by_cases hne : cs = []
  · subst hne; rfl
  · obtain ⟨arr, ty, ha, hr⟩ := sr.blk b cs hb hne
    exact belowL_of_get fun i a hi => by
      obtain ⟨v, _, hrel⟩ := hr i a hi
      exact hrel.refs

theorem ptr_take {n : Nat} {l : Option Nat} {a : AV} {r : List AV × Nat} (h : ptrCells l env (H.take n) a = some r) : ptrCells l env H a = some r := by
  cases l with
  | some t => exact h
  | none =>
    cases a <;> simp only [ptrCells] at h ⊢ <;> try exact h
    rename_i b g off
    split at h
    · rename_i cs hb
      rw [(take_get hb).2]
      exact h
    · simp at h
theorem slCells_take {n : Nat} {a : AV} {r : List AV} (h : slCells (H.take n) a = some r) : slCells H a = some r := by
  cases a <;> simp only [slCells] at h ⊢ <;> try exact h
  rename_i b g off m es
  split at h
  · rename_i cs hb
    rw [(take_get hb).2]
    exact h
  · simp at h

theorem rdOp_take {n : Nat} {op : AOp} {v : AV} (h : rdOp op env (H.take n) = some v) : rdOp op env H = some v := by
  cases op
  case ld1 l a =>
    simp only [rdOp] at h ⊢
    split at h
    · rename_i cs off hp
      rw [ptr_take hp]; exact h
    · simp at h
  case ldA l k a =>
    simp only [rdOp] at h ⊢
    split at h
    · rename_i cs off hp
      rw [ptr_take hp]; exact h
    · simp at h
  case b2s x =>
    simp only [rdOp] at h ⊢
    split at h
    · rename_i cs hp
      rw [slCells_take hp]; exact h
    · simp at h
  case len b x => cases b <;> exact h
  all_goals exact h
end

section
variable {P : Program} {φ0 : Nat → Nat} {F0 : Nat → Nat → Prop} {H0 : Heap} {w0 : World} {φ : Nat → Nat} {F : Nat → Nat → Prop} {H : Heap} {w : World} {β : Nat → Nat} {env : Env} {act : Act} {T : Nat} {C : Orc} {lk lim base cb : Nat} {pm : Pm} {ops : Array Oper} {Q : Exit → Act → World → Prop}

theorem actD_sound (hC : OrcOk P C) (hF : OrcFr C) (f : Full φ0 F0 H0 w0 φ F H w β env act T) {o : Oper} {k : Nat} {env' : Env} {H' : Heap} (hb : base ≤ H.length) (hcl : cls (compOp P pm o) = .call → Cl base H) (hd : ∀ d, o.dst = some d → d < T)
    (h : actD C lk lim base cb o.dst (compOp P pm o) k env H = some (env', H')) : Sound P φ0 F0 H0 w0 T act w o.dst o.op H' env' := by
  rcases compOp_rel (P := P) pm o with hbad | hrel
  · rw [hbad] at h
    simp [actD, cls, rdOp] at h
  · unfold actD at h
    split at h
    · exact s_ex f hrel hd h
    · exact s_ex f hrel hd h
    · split at h
      case h_2 => simp at h
      rename_i v cs hm
      split at h
      case h_2 => simp at h
      rename_i hk
      split at h
      case h_2 => simp at h
      rename_i env2 hp
      simp only [Option.some.injEq, Prod.mk.injEq] at h
      obtain ⟨rfl, rfl⟩ := h
      obtain ⟨m, hop, hmk⟩ := s_mk f hrel hm
      have hlt : base + k < H.length := (List.getElem?_eq_some_iff.1 hk).1
      exact s_make f hd hp (hop _) hmk (fun cs => by rw [hk]; simp) (by simp [hlt]) (fun b' hb' => by rw [List.getElem?_set_ne (fun e => hb' e.symm)])
    · rename_i hcc
      split at h
      case h_2 => simp at h
      rename_i g as hca
      split at h
      case isFalse => simp at h
      rename_i hok
      split at h
      case h_2 => simp at h
      rename_i v H2 hcall
      split at h
      case isFalse => simp at h
      rename_i hl
      split at h
      case h_2 => simp at h
      rename_i env2 hp
      simp only [Option.some.injEq, Prod.mk.injEq] at h
      obtain ⟨rfl, rfl⟩ := h
      have hlen := hF.len _ _ _ _ _ _ _ hcall
      have hlock := hF.lock _ _ _ _ _ _ _ hcall (by rw [List.length_take, Nat.min_eq_left hb]; exact Nat.le_refl _)
      rw [List.length_take, Nat.min_eq_left hb] at hlen
      obtain ⟨hE, hcon⟩ := hC _ _ _ _ _ _ _ hcall
      obtain ⟨vs, harel, hrun⟩ := s_args f hrel hca hok.1 hE
      have harel' : ARel φ F (H.take base) w as vs := ⟨harel.1, fun i a v ha hv => (harel.2 i a v ha hv).shrink (belowL_get hok.2 ha)⟩
      refine s_call hrun (Calls.mono (hcon φ F w vs (f.st.sr.take (hcl hcc)) harel') (fun e w' ⟨v, he, hr⟩ => ⟨v, he, f_call f hd hp (callR_lift f.st.sr ?_ (fun b hlt => ?_) hr)⟩))
      · rcases hl.1 with h | h
        · exact .inl (by omega)
        · exact .inr h
      · rw [hlock b hlt, List.getElem?_take, if_pos hlt]
    · split at h
      case h_2 => simp at h
      rename_i v hr
      split at h
      case isFalse => simp at h
      split at h
      case h_2 => simp at h
      rename_i env2 hp
      simp only [Option.some.injEq, Prod.mk.injEq] at h
      obtain ⟨rfl, rfl⟩ := h
      exact s_rd f hrel hd (rdOp_take hr) hp

/-- The same instruction, its place apart. -/
def SameBut (i j : AI) : Prop := i.dst = j.dst ∧ i.grd = j.grd ∧ i.op = j.op

theorem stepD_sound (hC : OrcOk P C) (hF : OrcFr C) (f : Full φ0 F0 H0 w0 φ F H w β env act T) {o : Oper} {i : AI} {idx : Nat} {env' : Env} {H' : Heap} {K : Act → World → Prop} (ho : ops[idx]? = some o) (hi : SameBut i (compI P pm ops o)) (hT : pm.T = T) (hb : base ≤ H.length) (hcl : isCall i = true → Cl base H)
    (h : stepD C lk lim base cb i env H = some (env', H')) (hK : ∀ act' w', Post φ0 F0 H0 w0 H' env' T act' w' → K act' w') : wpOp P ops Q idx K act w := by
  obtain ⟨hi1, hi2, hi3⟩ := hi
  rcases compI_ok (P := P) (pm := pm) (ops := ops) o with hbad | ⟨h1, h2, hd, hg⟩
  · rw [hbad] at hi1 hi2 hi3
    simp [stepD, guardI, hi2, badI, hi3, actD, cls, rdOp] at h
  rw [h1] at hi1
  rw [h2] at hi3
  unfold stepD at h
  rw [hi1, hi3] at h
  have hg' : grdOf ops o.guard = some i.grd := by rw [hg, hi2]
  split at h
  · rename_i hgd
    exact wpOp_of f ho (fun d hh => hT ▸ hd d hh) hg' hgd (fun _ => actD_sound hC hF f hb (fun hc => hcl (by unfold isCall; rw [hi3, hc]; rfl)) (fun d hh => hT ▸ hd d hh) h) (fun e => by cases e) hK
  · rename_i hgd
    split at h
    case h_2 => simp at h
    rename_i env2 hp
    simp only [Option.some.injEq, Prod.mk.injEq] at h
    obtain ⟨rfl, rfl⟩ := h
    exact wpOp_of f ho (fun d hh => hT ▸ hd d hh) hg' hgd (fun e => by cases e) (fun _ => ⟨hp, rfl⟩) hK
  · simp at h

/-- As long as calls are to come, the heap's lower part refers to itself. -/
theorem setH_cl {n : Nat} {b : Nat} {cs cs0 new : List AV} {H' : Heap} (hcl : Cl n H) (h : setH lk lim cb H b cs new = some H') (hb : H[b]? = some (.cells cs0)) (hcs : ∀ m, belowL m cs0 = true → belowL m new = true → belowL m cs = true) (hcb2 : cb = n ∨ n ≤ lim) : Cl n H' := by
  unfold setH at h
  split at h
  case isFalse => simp at h
  rename_i hc
  obtain ⟨_, hc1, hc2⟩ := hc
  simp only [Option.some.injEq] at h; subst h
  intro b' cs' hlt hb'
  by_cases e : b' = b
  · subst e
    have hlt2 := (List.getElem?_eq_some_iff.1 hb).1
    rw [List.getElem?_set_self hlt2] at hb'
    cases hb'
    refine hcs n (hcl b' cs0 hlt hb) ?_
    rcases hcb2 with h | h
    · subst h; exact hc2.resolve_left (by omega)
    · exact belowL_mono (Nat.zero_le n) _ (hc1.resolve_left (by omega))
  · rw [List.getElem?_set_ne (fun h => e h.symm)] at hb'
    exact hcl b' cs' hlt hb'

/-- What a store, an append, do to the heap: nothing at all, a new block at its end, a block set anew. -/
theorem exE_heap {dst : Option Nat} {op : AOp} {e : Ed} {H' : Heap} (h : exE lk lim cb dst op env H = some (e, H')) :
    H' = H ∨ (∃ x, H' = H ++ [x]) ∨ (∃ b cs cs0 new, setH lk lim cb H b cs new = some H' ∧ H[b]? = some (.cells cs0) ∧ ∀ m, belowL m cs0 = true → belowL m new = true → belowL m cs = true) := by
  cases op
  case st l n a x =>
    simp only [exE] at h
    split at h
    case h_2 => simp at h
    split at h
    case isFalse => simp at h
    generalize ev env a = va at h
    cases l with
    | some t =>
      cases va <;> dsimp only at h <;> first | (simp at h; done) | skip
      split at h
      case isFalse => simp at h
      split at h
      case h_2 => simp at h
      split at h
      case isFalse => simp at h
      simp only [Option.some.injEq, Prod.mk.injEq] at h
      exact .inl h.2.symm
    | none =>
      cases va <;> dsimp only at h <;> first | (simp at h; done) | skip
      split at h
      case h_2 => simp at h
      rename_i cs hb
      split at h
      case isFalse => simp at h
      split at h
      case h_2 => simp at h
      rename_i hs
      simp only [Option.some.injEq, Prod.mk.injEq] at h
      obtain ⟨_, rfl⟩ := h
      exact .inr (.inr ⟨_, _, cs, _, hs, hb, fun m h1 h2 => belowL_replaceAt h1 h2⟩)
  case app es bytes x y =>
    simp only [exE] at h
    split at h
    case h_2 => simp at h
    split at h
    case isFalse => simp at h
    generalize ev env x = va at h
    cases va <;> dsimp only at h <;> first | (simp at h; done) | skip
    · split at h
      · simp only [Option.some.injEq, Prod.mk.injEq] at h
        exact .inl h.2.symm
      · split at h
        case isFalse => simp at h
        simp only [Option.some.injEq, Prod.mk.injEq] at h
        exact .inr (.inl ⟨_, h.2.symm⟩)
    · split at h
      case h_2 => simp at h
      rename_i cs hb
      split at h
      case isFalse => simp at h
      split at h
      case h_2 => simp at h
      rename_i hs
      simp only [Option.some.injEq, Prod.mk.injEq] at h
      obtain ⟨_, rfl⟩ := h
      exact .inr (.inr ⟨_, _, cs, _, hs, hb, fun m h1 h2 => by rw [belowL_append, h1, h2]; rfl⟩)
  all_goals simp [exE] at h

theorem Cl.append {n : Nat} {X : Heap} (h : Cl n H) (hn : n ≤ H.length) : Cl n (H ++ X) := fun b cs hb hc => by
  rw [List.getElem?_append_left (by omega)] at hc
  exact h b cs hb hc
theorem Cl.set {n k : Nat} {x : HB} (h : Cl n H) (hk : n ≤ k) : Cl n (H.set k x) := fun b cs hb hc => by
  rw [List.getElem?_set_ne (by omega)] at hc
  exact h b cs hb hc

/-- A step keeps the lower part. -/
structure Fr (lk lim : Nat) (H H' : Heap) : Prop where
  len : H.length ≤ H'.length
  lock : lk ≤ H.length → ∀ b, b < lk → H'[b]? = H[b]?
  cl : ∀ m, m ≤ lim → m ≤ H.length → Cl m H → Cl m H'

theorem Fr.refl (lk lim : Nat) (H : Heap) : Fr lk lim H H := ⟨Nat.le_refl _, fun _ _ _ => rfl, fun _ _ _ h => h⟩
theorem Fr.trans {H1 H2 H3 : Heap} (h : Fr lk lim H1 H2) (k : Fr lk lim H2 H3) : Fr lk lim H1 H3 :=
  ⟨Nat.le_trans h.len k.len, fun hl b hb => by rw [k.lock (Nat.le_trans hl h.len) b hb, h.lock hl b hb], fun m h1 h2 hc => k.cl m h1 (Nat.le_trans h2 h.len) (h.cl m h1 h2 hc)⟩

theorem exE_fr {dst : Option Nat} {op : AOp} {e : Ed} {H' : Heap} (h : exE lk lim cb dst op env H = some (e, H')) : Fr lk lim H H' := by
  rcases exE_heap h with rfl | ⟨x, rfl⟩ | ⟨b, cs, cs0, new, hs, hb, hrow⟩
  · exact Fr.refl _ _ _
  · exact ⟨by simp, fun hl b hb => List.getElem?_append_left (by omega), fun m _ h2 hc => hc.append h2⟩
  · refine ⟨by rw [setH_len hs]; exact Nat.le_refl _, fun _ b' hb' => ?_, fun m h1 _ hc => setH_cl hc hs hb hrow (.inr h1)⟩
    unfold setH at hs
    split at hs
    case isFalse => simp at hs
    rename_i hcc
    simp only [Option.some.injEq] at hs; subst hs
    rw [List.getElem?_set_ne (by omega)]
theorem exE_clb {dst : Option Nat} {op : AOp} {e : Ed} {H' : Heap} (h : exE lk lim base dst op env H = some (e, H')) (hb : base ≤ H.length) (hc : Cl base H) : Cl base H' := by
  rcases exE_heap h with rfl | ⟨x, rfl⟩ | ⟨b, cs, cs0, new, hs, hbb, hrow⟩
  · exact hc
  · exact hc.append hb
  · exact setH_cl hc hs hbb hrow (.inl rfl)

theorem steps_clb {i : AI} {env' : Env} {H' : Heap} (h : Steps1 C lk lim base base i env H env' H') (hb : base ≤ H.length) (hc : Cl base H) : Cl base H' := by
  obtain ⟨e, d, h1, _, h3⟩ := h
  have hto : ∀ H2, d = .to H2 → Cl base H2 := fun H2 hd => by
    subst hd
    unfold eff at h1
    split at h1
    · unfold effA at h1
      split at h1
      · split at h1 <;> simp at h1
      · split at h1
        case h_2 => simp at h1
        rename_i hx
        simp only [Option.some.injEq, Prod.mk.injEq, Hd.to.injEq] at h1
        rw [← h1.2]; exact exE_clb hx hb hc
      · split at h1 <;> simp at h1
      · split at h1
        case h_2 => simp at h1
        split at h1
        case isFalse => simp at h1
        split at h1
        case h_2 => simp at h1
        split at h1
        case isFalse => simp at h1
        simp only [Option.some.injEq, Prod.mk.injEq] at h1
        split at h1 <;> simp at h1
      · split at h1
        case h_2 => simp at h1
        split at h1 <;> simp at h1
    · simp at h1
    · simp at h1
  cases d with
  | same => simp [Hd.run] at h3; rw [← h3]; exact hc
  | to H2 => simp [Hd.run] at h3; rw [← h3]; exact hto H2 rfl
  | app X =>
    simp only [Hd.run] at h3
    split at h3
    · simp only [Option.some.injEq] at h3; rw [← h3]; exact hc.append hb
    · simp at h3
  | fill k cs =>
    rcases eff_heap h1 with h | ⟨_, _, h⟩ | ⟨_, _, _, h⟩ | h
    · cases h
    · cases h
      simp only [Hd.run] at h3
      split at h3
      · simp only [Option.some.injEq] at h3; rw [← h3]; exact hc.set (by omega)
      · simp at h3
    · cases h
    · exfalso
      unfold eff effA at h1
      rw [h] at h1
      split at h1
      · dsimp only at h1
        split at h1 <;> simp at h1
      · simp at h1
      · simp at h1
end
end Go.Hm
