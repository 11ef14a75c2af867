/- The reading instructions are sound: 2, those that leave the world alone. -/
import Derived.Test.YtikedgpcgacgoaaHmOps1
namespace Go.Hm
open Go

/-- The operation yields a value related to v, and leaves the world alone. -/
def Pure (P : Program) (φ : Nat → Nat) (F : Nat → Nat → Prop) (H : Heap) (w : World) (β : Nat → Nat) (act : Act) (op : Op) (v : AV) : Prop :=
  ∀ (dst : Option Tmp) (type : TypeId) (pos : String) (after : Array Edge) (guard : Option (Nat × Bool)),
    ∃ cv, (execOp act.eval { dst, op, type, pos, after, guard }).run P w = .ok (.value cv) w ∧ ORel φ F H w β v cv

section
variable {P : Program} {φ : Nat → Nat} {F : Nat → Nat → Prop} {H : Heap} {w : World} {β : Nat → Nat} {env : Env} {act : Act} {T : Nat}

theorem szOf_run {t : TypeId} {n : Nat} (h : szOf P t = some n) (w : World) : (sizeOf t).run P w = .ok n w := by
  unfold szOf at h
  cases hi : P.info? t with
  | none => simp [hi] at h
  | some i =>
    simp [hi] at h
    simp [sizeOf, typeInfo, hi, h]
theorem szOf_info {t : TypeId} {n : Nat} (h : szOf P t = some n) : (P.info? t).map (·.size) = some n := h
theorem aggT_run {t : TypeId} (h : aggT P t = true) : ∃ d, P.underlying t = some d ∧ d.isRow = true := by
  unfold aggT at h
  split at h
  · rename_i fs hu; exact ⟨_, hu, rfl⟩
  · rename_i n e hu; exact ⟨_, hu, rfl⟩
  · simp at h
theorem isAgg_run {t : TypeId} {d : TypeDesc} (hu : P.underlying t = some d) (w : World) : (isAgg t).run P w = .ok d.isRow w := by
  unfold isAgg
  rw [Sem.run_bind, run_underlying hu w]
  cases d <;> rfl
theorem aggT_eq {t : TypeId} {d : TypeDesc} (hu : P.underlying t = some d) : aggT P t = d.isRow := by
  unfold aggT
  rw [hu]
  cases d <;> rfl

theorem add_none (k o n : Nat) : (⟨k, o, none⟩ : Addr).add n = ⟨k, o + n, none⟩ := Addr.add_mid k o n

/-! ### move, pick -/
theorem p_mv (s : St φ F H w β env act T) (x : Operand) : Pure P φ F H w β act (.move x) (ev env (cO x)) := fun _ _ _ _ _ => ⟨_, rfl, ev_rel s x⟩
theorem p_assign (s : St φ F H w β env act T) (x : Operand) : Pure P φ F H w β act (.assign x) (ev env (cO x)) := fun _ _ _ _ _ => ⟨_, rfl, ev_rel s x⟩
theorem p_pick (s : St φ F H w β env act T) (c x y : Operand) {v : AV} (h : rdOp (.pick (cO c) (cO x) (cO y)) env H = some v) : Pure P φ F H w β act (.pick c x y) v := by
  simp only [rdOp] at h
  split at h
  · rename_i b hb
    simp at h; subst h
    intro dst type pos after guard
    refine ⟨if b = true then act.eval x else act.eval y, ?_, ?_⟩
    · simp [execOp, ev_val s hb, asBool]
    · cases b
      · exact ev_rel s y
      · exact ev_rel s x
  · simp at h

/-! ### loads -/
theorem p_ld1 (s : St φ F H w β env act T) (t : TypeId) (x : Operand) {l : Option Nat} {v : AV} {d : TypeDesc} (hu : P.underlying t = some d) (ha : d.isRow = false) (h : rdOp (.ld1 l (cO x)) env H = some v) : Pure P φ F H w β act (.load t x) v := by
  simp only [rdOp] at h
  split at h
  · rename_i cs off hp
    split at h
    · rename_i a hcs
      split at h
      · rename_i h1
        simp at h; subst h
        obtain ⟨k, o, hv, hrow⟩ := ptr_rel s (ev_rel s x) hp
        obtain ⟨cv, hcv, hr⟩ := hrow off _ hcs
        intro dst type pos after guard
        refine ⟨cv, ?_, ORel.of (.one hr)⟩
        simp [execOp, Instr.loadAt, Instr.sureAddr, hv, loadVar, isAgg_run hu, ha, hcv]
      · simp at h
    · simp at h
  · simp at h
theorem RowAt.range {k o : Nat} {cs : List AV} (h : RowAt φ F H w k o cs) {off n : Nat} (hl : off + n ≤ cs.length) :
    ∃ vs, CL φ F H w ((cs.drop off).take n) vs ∧ w.rangeAt k (o + off) vs ∧ vs.length = n := by
  refine ⟨(List.range n).map fun i => (w.cell? ⟨k, o + (off + i), none⟩).getD undef, ⟨by simp; omega, fun i a v ha hv => ?_⟩, fun i v hv => ?_, by simp⟩
  · rw [List.getElem?_take] at ha
    split at ha
    · rename_i hi
      rw [List.getElem?_drop] at ha
      obtain ⟨u, hu, hr⟩ := h (off + i) a ha
      simp [hi, hu] at hv
      exact hv ▸ hr
    · simp at ha
  · have hi : i < n := by
      have := (List.getElem?_eq_some_iff.1 hv).1
      simpa using this
    simp [hi] at hv
    have hlt : off + i < cs.length := by omega
    obtain ⟨u, hu, _⟩ := h (off + i) cs[off + i] (by simp [hlt])
    rw [hu] at hv
    simp at hv
    rw [← hv, show o + off + i = o + (off + i) from by omega]
    exact hu
theorem p_ldA (s : St φ F H w β env act T) (t : TypeId) (x : Operand) {l : Option Nat} {n : Nat} {v : AV} {d : TypeDesc} (hu : P.underlying t = some d) (ha : d.isRow = true) (hn : szOf P t = some n) (h : rdOp (.ldA l n (cO x)) env H = some v) : Pure P φ F H w β act (.load t x) v := by
  simp only [rdOp] at h
  split at h
  · rename_i cs off hp
    split at h
    · rename_i hl
      simp at h; subst h
      obtain ⟨k, o, hv, hrow⟩ := ptr_rel s (ev_rel s x) hp
      obtain ⟨vs, hcl, hra, hlen⟩ := hrow.range hl
      intro dst type pos after guard
      refine ⟨.agg vs.toArray, ?_, ORel.of (.agg _ _ hcl)⟩
      simp only [execOp, hv, Sem.run_bind, run_loadAt_mid w k (o + off) t vs d hra hu ha (by rw [hlen]; exact hn), Result.andThen_ok, Sem.run_pure]
    · simp at h
  · simp at h

/-! ### nil checks, addresses -/
theorem p_nilc (s : St φ F H w β env act T) (x : Operand) {v : AV} (h : rdOp (.nilc (cO x)) env H = some v) : Pure P φ F H w β act (.nilCheck x) v := by
  simp only [rdOp] at h
  split at h <;> simp at h <;> subst h
  · rename_i t o hx
    have := ev_of s hx
    intro dst type pos after guard
    exact ⟨act.eval x, by simp [execOp, show act.eval x = _ from this], this⟩
  · rename_i b g o hx
    have hr := ev_of s hx
    intro dst type pos after guard
    refine ⟨act.eval x, ?_, hr⟩
    have h' : VRel φ F H w (.hp b g o) (act.eval x) := hr
    generalize hcv : act.eval x = cv at *
    cases h' with
    | one h' => cases h'; simp [execOp, hcv]
  · rename_i cs o hx
    have hr := ev_of s hx
    intro dst type pos after guard
    refine ⟨act.eval x, ?_, hr⟩
    have h' : VRel φ F H w (.rop cs o) (act.eval x) := hr
    generalize hcv : act.eval x = cv at *
    cases h' with
    | one h' => cases h'; simp [execOp, hcv]
  · rename_i f c hx
    have hr := ev_of s hx
    intro dst type pos after guard
    refine ⟨act.eval x, ?_, hr⟩
    have h' : VRel φ F H w (.fn f c) (act.eval x) := hr
    generalize hcv : act.eval x = cv at *
    cases h' with
    | one h' => cases h'; simp [execOp, hcv]
theorem ptr_add {a : AV} {v : Value} {f : Nat} {r : AV} (h : ORel φ F H w β a v)
    (hr : (∃ t o, a = .rp t o ∧ r = .rp t (o + f)) ∨ (∃ b g o, a = .hp b g o ∧ r = .hp b g (o + f)) ∨ (∃ cs o, a = .rop cs o ∧ r = .rop cs (o + f))) :
    ∃ ad, v = .pointer (some ad) ∧ ORel φ F H w β r (.pointer (some (ad.add f))) := by
  rcases hr with ⟨t, o, rfl, rfl⟩ | ⟨b, g, o, rfl, rfl⟩ | ⟨cs, o, rfl, rfl⟩
  · exact ⟨⟨β t, o, none⟩, h, by rw [add_none]; exact rfl⟩
  · have h' : VRel φ F H w (.hp b g o) v := h
    cases h' with
    | one h' =>
      cases h' with
      | hp b g off cs a hb hg h2 => exact ⟨a, rfl, VRel.one (.hp b g (o + f) cs _ hb hg (fun e => by rw [h2 e, add_none]))⟩
  · have h' : VRel φ F H w (.rop cs o) v := h
    cases h' with
    | one h' =>
      cases h' with
      | rop b o' off cells vs hl hb hF hc hr =>
        refine ⟨_, rfl, ?_⟩
        rw [add_none, Nat.add_assoc]
        exact VRel.one (.rop b o' (o + f) cs vs hl hb hF hc hr)

theorem p_fldA (s : St φ F H w β env act T) (t : TypeId) (x : Operand) (f : Nat) {fs : Array Field} {fd : Field} {n : Nat} {v : AV} (hu : P.underlying t = some (.struct fs)) (hf : fs[f]? = some fd) (hn : szOf P fd.type = some n) (h0 : n ≠ 0)
    (h : rdOp (.fldA fd.offset (cO x)) env H = some v) : Pure P φ F H w β act (.fieldAddr t x f) v := by
  have key : ∃ ad, act.eval x = .pointer (some ad) ∧ ORel φ F H w β v (.pointer (some (ad.add fd.offset))) := by
    simp only [rdOp] at h
    refine ptr_add (ev_rel s x) ?_
    split at h <;> simp at h
    · rename_i hx; exact .inl ⟨_, _, hx, h.symm⟩
    · rename_i hx; exact .inr (.inl ⟨_, _, _, hx, h.symm⟩)
    · rename_i hx; exact .inr (.inr ⟨_, _, hx, h.symm⟩)
  obtain ⟨ad, hx, hr⟩ := key
  intro dst type pos after guard
  refine ⟨_, ?_, hr⟩
  simp [execOp, hx, Instr.fieldAt, run_underlying hu, hf, Instr.sureAddr, fieldPlace, szOf_run hn, h0]

theorem p_ixR (s : St φ F H w β env act T) (t : TypeId) (x i : Operand) {len : Nat} {e : TypeId} {k : Nat} {v : AV} (hu : P.underlying t = some (.array len e)) (hk : szOf P e = some k)
    (h : rdOp (.ixR len k (cO x) (cO i)) env H = some v) : Pure P φ F H w β act (.indexAddr t x i) v := by
  simp only [rdOp] at h
  split at h
  · rename_i q n hi
    split at h
    · rename_i hr
      have key : ∃ ad, act.eval x = .pointer (some ad) ∧ ORel φ F H w β v (.pointer (some (ad.add (n.toNat * k)))) := by
        refine ptr_add (ev_rel s x) ?_
        split at h <;> simp at h
        · rename_i hx; exact .inl ⟨_, _, hx, h.symm⟩
        · rename_i hx; exact .inr (.inl ⟨_, _, _, hx, h.symm⟩)
        · rename_i hx; exact .inr (.inr ⟨_, _, hx, h.symm⟩)
      obtain ⟨ad, hx, hor⟩ := key
      intro dst type pos after guard
      refine ⟨_, ?_, hor⟩
      simp [execOp, hx, ev_val s hi, Instr.indexAt, asIntOf, run_underlying hu, Instr.sureAddr, hr.1, hr.2, szOf_run hk]
    · simp at h
  · simp at h

theorem p_ixA (s : St φ F H w β env act T) (t : TypeId) (x i : Operand) {e : TypeId} {k : Nat} {v : AV} (hu : P.underlying t = some (.slice e)) (hk : szOf P e = some k)
    (h : rdOp (.ixA k (cO x) (cO i)) env H = some v) : Pure P φ F H w β act (.indexAddr t x i) v := by
  simp only [rdOp] at h
  split at h
  · rename_i q n hi
    have hiv := ev_val s hi
    split at h
    · rename_i len cs hx
      split at h
      · rename_i hr
        simp at h; subst h
        have h' : VRel φ F H w (.sl len cs) (act.eval x) := ev_of s hx
        intro dst type pos after guard
        generalize hcv : act.eval x = cv at *
        cases h' with
        | one h' =>
          cases h' with
          | sl b o n' cap cells vs hn hl hb hF hc hrr =>
            refine ⟨.pointer (some ⟨b, o + n.toNat * k, none⟩), ?_, VRel.one (.rop b o _ cs vs hl hb hF hc hrr)⟩
            simp [execOp, hcv, hiv, Instr.indexAt, asIntOf, run_underlying hu, hr.1, hr.2, szOf_run hk, add_none]
          | slnil => have := hr.2; have := hr.1; omega
      · simp at h
    · rename_i b g off len es hx
      split at h
      · rename_i hr
        simp at h; subst h
        have h' : VRel φ F H w (.hs b g off len es) (act.eval x) := ev_of s hx
        intro dst type pos after guard
        generalize hcv : act.eval x = cv at *
        cases h' with
        | one h' =>
          cases h' with
          | hs b g off n' es cs xx cap hb hg hn hxn h2 =>
            by_cases hsome : ∃ ad, xx = some ad
            · obtain ⟨ad, rfl⟩ := hsome
              refine ⟨.pointer (some (ad.add (n.toNat * k))), ?_, VRel.one (.hp b g _ cs _ hb hg fun eg => ?_)⟩
              · simp [execOp, hcv, hiv, Instr.indexAt, asIntOf, run_underlying hu, hr.1, hr.2, szOf_run hk]
              · rcases h2 eg with ⟨_, hx2, _⟩ | ⟨h0, _⟩
                · cases hx2; rw [add_none]
                · have := hr.1; have := hr.2; omega
            · exfalso
              have hnone : xx = none := by
                cases xx with
                | none => rfl
                | some ad => exact absurd ⟨ad, rfl⟩ hsome
              have := hxn hnone
              have := hr.1
              have := hr.2
              omega
      · simp at h
    · simp at h
  · simp at h
end
end Go.Hm
