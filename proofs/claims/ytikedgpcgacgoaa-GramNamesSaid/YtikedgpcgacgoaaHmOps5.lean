/- The reading instructions are sound: 5, slices, strings, parts, literals. -/
import Derived.Test.YtikedgpcgacgoaaHmOps4
namespace Go.Hm
open Go

section
variable {P : Program} {φ : Nat → Nat} {F : Nat → Nat → Prop} {H : Heap} {w : World} {β : Nat → Nat} {env : Env} {act : Act} {T : Nat}

/-! ### lengths, extractions -/
theorem p_lenK (t : TypeId) (x : Operand) (n : Nat) (hu : (∃ e, P.underlying t = some (.array n e)) ∨ (∃ a e, P.underlying t = some (.pointer a) ∧ P.underlying a = some (.array n e))) {args : Array Operand} (hargs : args.toList = [x]) {ats : Array TypeId} (hats : ats[0]? = some t) :
    Pure P φ F H w β act (.call { callee := .builtin .len, args, argTypes := ats }) (.val (.int .i64 n)) := by
  intro dst type pos after guard
  have ha : args = #[x] := by apply Array.ext'; simpa using hargs
  subst ha
  refine ⟨.int .i64 n, ?_, VRel.one (.val _ rfl)⟩
  rcases hu with ⟨e, hu⟩ | ⟨a, e, hu, hu'⟩
  · simp [execOp, resolve, invoke, builtin, Builtin.len_, hats, run_underlying hu, goInt]
  · simp [execOp, resolve, invoke, builtin, Builtin.len_, hats, run_underlying hu, run_underlying hu', goInt]

theorem slice_shape {a : AV} {v : Value} (h : ORel φ F H w β a v) {n : Nat} (ha : (a = .e0 ∧ n = 0) ∨ (∃ cs, a = .sl n cs) ∨ (∃ b g off es, a = .hs b g off n es)) : ∃ x cap, v = .slice x n cap ∧ n ≤ cap ∧ (x = none → n = 0) := by
  rcases ha with ⟨rfl, rfl⟩ | ⟨cs, rfl⟩ | ⟨b, g, off, es, rfl⟩
  · obtain ⟨x, rfl⟩ := VRel.inv_e0 h
    exact ⟨x, 0, rfl, Nat.le_refl _, fun _ => rfl⟩
  · have h' : VRel φ F H w (.sl n cs) v := h
    cases h' with
    | one h' =>
      cases h' with
      | sl b o n' cap cells vs hn => exact ⟨_, _, rfl, hn, fun h => by cases h⟩
      | slnil xx => exact ⟨_, _, rfl, Nat.le_refl _, fun _ => rfl⟩
  · have h' : VRel φ F H w (.hs b g off n es) v := h
    cases h' with
    | one h' =>
      cases h' with
      | hs b g off n' es cs xx cap hb hg hn hx h2 => exact ⟨_, _, rfl, hn, hx⟩

theorem p_lenC (s : St φ F H w β env act T) (t : TypeId) (x : Operand) {v : AV} {e : TypeId} (hu : P.underlying t = some (.slice e)) {args : Array Operand} (hargs : args.toList = [x]) {ats : Array TypeId} (hats : ats[0]? = some t)
    (h : rdOp (.len false (cO x)) env H = some v) : Pure P φ F H w β act (.call { callee := .builtin .len, args, argTypes := ats }) v := by
  have ha : args = #[x] := by apply Array.ext'; simpa using hargs
  subst ha
  have sl : ∀ {n : Nat}, (ev env (cO x) = .e0 ∧ n = 0) ∨ (∃ cs, ev env (cO x) = .sl n cs) ∨ (∃ b g off es, ev env (cO x) = .hs b g off n es) → v = .val (.int .i64 n) →
      Pure P φ F H w β act (.call { callee := .builtin .len, args := #[x], argTypes := ats }) v := by
    intro n hn hv
    subst hv
    obtain ⟨xx, cap, hc, _, _⟩ := slice_shape (ev_rel s x) hn
    intro dst type pos after guard
    exact ⟨.int .i64 n, by simp [execOp, resolve, invoke, builtin, Builtin.len_, hats, run_underlying hu, hc, goInt], VRel.one (.val _ rfl)⟩
  simp only [rdOp] at h
  split at h
  · rename_i hx; exact sl (.inl ⟨hx, rfl⟩) (by simpa using h.symm)
  · rename_i n cs hx; exact sl (.inr (.inl ⟨_, hx⟩)) (by simpa using h.symm)
  · rename_i b g off n es hx; exact sl (.inr (.inr ⟨_, _, _, _, hx⟩)) (by simpa using h.symm)
  · simp at h

theorem p_lenS (s : St φ F H w β env act T) (t : TypeId) (x : Operand) {v : AV} (hu : P.underlying t = some .string) {args : Array Operand} (hargs : args.toList = [x]) {ats : Array TypeId} (hats : ats[0]? = some t)
    (h : rdOp (.len true (cO x)) env H = some v) : Pure P φ F H w β act (.call { callee := .builtin .len, args, argTypes := ats }) v := by
  have ha : args = #[x] := by apply Array.ext'; simpa using hargs
  subst ha
  simp only [rdOp] at h
  split at h
  · rename_i str hx
    simp only [Option.some.injEq] at h
    subst h
    intro dst type pos after guard
    exact ⟨.int .i64 str.size, by simp [execOp, resolve, invoke, builtin, Builtin.len_, hats, run_underlying hu, ev_val s hx, goInt], VRel.one (.val _ rfl)⟩
  · simp at h

theorem p_ext (s : St φ F H w β env act T) (x : Operand) (i : Nat) {v : AV} (h : rdOp (.ext (cO x) i) env H = some v) : Pure P φ F H w β act (.extract x i) v := by
  simp only [rdOp] at h
  split at h
  · rename_i vs hx
    obtain ⟨us, hu, hl, hr⟩ := VRel.inv_tup (ev_of s hx)
    have hi : i < us.length := by rw [hl]; exact (List.getElem?_eq_some_iff.1 h).1
    intro dst type pos after guard
    refine ⟨us[i], by simp [execOp, hu, Instr.extract, hi], ORel.of (hr i v us[i] h (by simp [hi]))⟩
  · simp at h

/-! ### parts of aggregates -/
theorem p_fld (s : St φ F H w β env act T) (t : TypeId) (x : Operand) (f : Nat) {fs : Array Field} {fd : Field} {n : Nat} {v : AV} {d : TypeDesc} (hu : P.underlying t = some (.struct fs)) (hf : fs[f]? = some fd) (hn : szOf P fd.type = some n) (hd : P.underlying fd.type = some d)
    (h : rdOp (.fld fd.offset n (aggT P fd.type) (cO x)) env H = some v) : Pure P φ F H w β act (.field t x f) v := by
  have hre := aggT_eq (P := P) hd
  simp only [rdOp] at h
  split at h
  · rename_i cs hx
    obtain ⟨us, hu', hcl⟩ := VRel.inv_agg (ev_of s hx)
    intro dst type pos after guard
    cases hr : d.isRow with
    | true =>
      rw [hre, hr, if_pos rfl] at h
      split at h
      · simp at h; subst h
        refine ⟨.agg ((us.drop fd.offset).take n).toArray, ?_, ORel.of (.agg _ _ ((hcl.drop _).take _))⟩
        simp [execOp, hu', Instr.field, run_underlying hu, hf, asAgg, part, isAgg_run hd, hr, szOf_run hn, List.extract]
      · simp at h
    | false =>
      rw [hre, hr] at h
      simp at h
      obtain ⟨cv, hcv, hrel⟩ := hcl.get h
      refine ⟨cv, ?_, ORel.of (.one hrel)⟩
      simp [execOp, hu', Instr.field, run_underlying hu, hf, asAgg, part, isAgg_run hd, hr, hcv]
  · simp at h

theorem p_ixG (s : St φ F H w β env act T) (t : TypeId) (x i : Operand) {len : Nat} {e : TypeId} {k : Nat} {v : AV} {d : TypeDesc} (hu : P.underlying t = some (.array len e)) (hk : szOf P e = some k) (hd : P.underlying e = some d)
    (h : rdOp (.ixG len k (aggT P e) (cO x) (cO i)) env H = some v) : Pure P φ F H w β act (.index t x i) v := by
  have hre := aggT_eq (P := P) hd
  simp only [rdOp] at h
  split at h
  · rename_i q n hi
    have hiv := ev_val s hi
    split at h
    · rename_i cs hx
      obtain ⟨us, hu', hcl⟩ := VRel.inv_agg (ev_of s hx)
      split at h
      · rename_i hr
        intro dst type pos after guard
        cases hrow : d.isRow with
        | true =>
          rw [hre, hrow, if_pos rfl] at h
          split at h
          · simp at h; subst h
            refine ⟨.agg ((us.drop (n.toNat * k)).take k).toArray, ?_, ORel.of (.agg _ _ ((hcl.drop _).take _))⟩
            simp [execOp, hu', hiv, Instr.index, asIntOf, run_underlying hu, hr.1, hr.2, part, isAgg_run hd, hrow, szOf_run hk, List.extract]
          · simp at h
        | false =>
          rw [hre, hrow] at h
          simp at h
          obtain ⟨cv, hcv, hrel⟩ := hcl.get h
          refine ⟨cv, ?_, ORel.of (.one hrel)⟩
          simp [execOp, hu', hiv, Instr.index, asIntOf, run_underlying hu, hr.1, hr.2, part, isAgg_run hd, hrow, szOf_run hk, hcv]
      · simp at h
    · simp at h
  · simp at h

theorem p_ixS (s : St φ F H w β env act T) (t : TypeId) (x i : Operand) {v : AV} (hu : P.underlying t = some .string) (h : rdOp (.ixS (cO x) (cO i)) env H = some v) : Pure P φ F H w β act (.index t x i) v := by
  simp only [rdOp] at h
  split at h
  · rename_i q n hi
    have hiv := ev_val s hi
    split at h
    · rename_i str hx
      split at h
      · rename_i h0
        split at h
        · rename_i b hb
          simp only [Option.some.injEq] at h; subst h
          intro dst type pos after guard
          exact ⟨.int .u8 b.toNat, by simp [execOp, ev_val s hx, hiv, Instr.index, asIntOf, run_underlying hu, h0, hb], VRel.one (.val _ rfl)⟩
        · simp at h
      · simp at h
    · simp at h
  · simp at h

/-! ### slice expressions -/
theorem bnd_run (s : St φ F H w β env act T) {x : Option Operand} {dflt y n : Nat} (h : bnd env (x.map cO) dflt y = some n) (code : BoundsCode) (w : World) :
    (match x.map act.eval with | some v => Instr.sliceBound v y code | none => Pure.pure dflt).run P w = .ok n w ∧ (x = none → n = dflt) ∧ (x ≠ none → n ≤ y) := by
  cases x with
  | none =>
    simp [bnd] at h
    exact ⟨by simp [h], fun _ => h.symm, fun hh => absurd rfl hh⟩
  | some o =>
    simp only [bnd, Option.map_some] at h
    split at h
    · rename_i q i hi
      split at h
      · rename_i hr
        simp at h; subst h
        refine ⟨?_, (fun hh => by cases hh), (fun _ => by omega)⟩
        simp [Instr.sliceBound, ev_val s hi, asIntOf, hr.1, hr.2]
      · simp at h
    · simp at h

theorem bounds_run (s : St φ F H w β env act T) {lo hi : Option Operand} {isS : Bool} {len cap l h : Nat} (hlc : len ≤ cap) (hh : bnd env (hi.map cO) len len = some h) (hl : bnd env (lo.map cO) 0 h = some l) (w : World) :
    (Instr.sliceBounds isS len cap (lo.map act.eval) (hi.map act.eval) none).run P w = .ok (l, h, cap) w ∧ h ≤ len ∧ l ≤ h := by
  have hhle : h ≤ len := by
    have := bnd_run (P := P) s hh .sliceB w
    by_cases e : hi = none
    · rw [this.2.1 e]; exact Nat.le_refl _
    · exact this.2.2 e
  have hlle : l ≤ h := by
    have := bnd_run (P := P) s hl .sliceB w
    by_cases e : lo = none
    · rw [this.2.1 e]; exact Nat.zero_le _
    · exact this.2.2 e
  have hh2 : bnd env (hi.map cO) len cap = some h := by
    cases hi with
    | none => simpa [bnd] using hh
    | some o =>
      simp only [bnd, Option.map_some] at hh ⊢
      split at hh
      · rename_i q i hi
        split at hh
        · rename_i hr
          have e : (0 ≤ i ∧ i ≤ (cap : Int)) := ⟨hr.1, by omega⟩
          rw [if_pos e]; exact hh
        · simp at hh
      · simp at hh
  have r1 := (bnd_run (P := P) s hh2 (if isS = true then .sliceAcap else .sliceAlen) w).1
  have r2 := (bnd_run (P := P) s hl .sliceB w).1
  refine ⟨?_, hhle, hlle⟩
  unfold Instr.sliceBounds
  cases hi with
  | none =>
    cases lo with
    | none => simp at r1 r2 ⊢; omega
    | some o => simp at r1 r2 ⊢; simp [r1, r2]
  | some o' =>
    cases lo with
    | none => simp at r1 r2 ⊢; simp [r1, r2]
    | some o => simp at r1 r2 ⊢; simp [r1, r2]

theorem p_slS (s : St φ F H w β env act T) (t : TypeId) (x : Operand) (lo hi : Option Operand) {v : AV} (hu : P.underlying t = some .string) (h : rdOp (.slS (cO x) (lo.map cO) (hi.map cO)) env H = some v) : Pure P φ F H w β act (.slice t x lo hi none) v := by
  simp only [rdOp] at h
  split at h
  · rename_i str hx
    split at h
    · rename_i hb hhb
      split at h
      · rename_i lb hlb
        simp only [Option.some.injEq] at h; subst h
        have hr := (bounds_run (P := P) s (isS := false) (Nat.le_refl _) hhb hlb w).1
        intro dst type pos after guard
        refine ⟨.string (str.extract lb hb), ?_, VRel.one (.val _ rfl)⟩
        simp only [execOp, ev_val s hx, Instr.sliceAt, Instr.slice, Sem.run_bind, run_underlying hu, Result.andThen_ok, Option.map_none]
        simp [hr]
      · simp at h
    · simp at h
  · simp at h

theorem p_slC (s : St φ F H w β env act T) (t : TypeId) (x : Operand) (lo hi : Option Operand) {v : AV} {e : TypeId} {k : Nat} (hu : P.underlying t = some (.slice e)) (hk : szOf P e = some k) (h : rdOp (.slC k (cO x) (lo.map cO) (hi.map cO)) env H = some v) : Pure P φ F H w β act (.slice t x lo hi none) v := by
  have fin : ∀ {n cap l hh : Nat} {xx : Option Addr} {r : AV}, act.eval x = .slice xx n cap → n ≤ cap → bnd env (hi.map cO) n n = some hh → bnd env (lo.map cO) 0 hh = some l →
      ORel φ F H w β r (.slice (if cap = l then xx else xx.map (·.add (l * k))) (hh - l) (cap - l)) → Pure P φ F H w β act (.slice t x lo hi none) r := by
    intro n cap l hh xx r hx hnc hhb hlb hr
    have hb := (bounds_run (P := P) s (isS := true) hnc hhb hlb w).1
    intro dst type pos after guard
    refine ⟨_, ?_, hr⟩
    simp only [execOp, hx, Instr.sliceAt, Instr.slice, Sem.run_bind, run_underlying hu, Result.andThen_ok, Option.map_none]
    simp [hb, szOf_run hk]
  simp only [rdOp] at h
  split at h
  · rename_i hx
    split at h
    · rename_i hh hhb
      split at h
      · rename_i l hlb
        simp at h; subst h
        obtain ⟨xx, hc⟩ := VRel.inv_e0 (ev_of s hx)
        have hb := bounds_run (P := P) s (isS := true) (Nat.le_refl 0) hhb hlb w
        refine fin hc (Nat.le_refl _) hhb hlb ?_
        have e1 : hh = 0 := by omega
        have e2 : l = 0 := by omega
        subst e1; subst e2
        exact VRel.one (.e0 _)
      · simp at h
    · simp at h
  · rename_i n cs hx
    split at h
    · rename_i hh hhb
      split at h
      · rename_i l hlb
        simp at h; subst h
        have h' : VRel φ F H w (.sl n cs) (act.eval x) := ev_of s hx
        generalize hcv : act.eval x = cv at h'
        cases h' with
        | one h' =>
          cases h' with
          | sl b o n' cap cells vs hn hl hb hF hc hr =>
            have hb' := bounds_run (P := P) s (isS := true) hn hhb hlb w
            refine fin hcv hn hhb hlb ?_
            have hcl : CL φ F H w cs vs := ⟨hl, hr⟩
            by_cases ec : cap = l
            · rw [if_pos ec]
              have e1 : hh - l = 0 := by omega
              rw [e1]
              simp only [Nat.zero_mul, List.take_zero]
              exact VRel.one (.sl b o 0 _ [] [] (Nat.zero_le _) rfl rfl (fun i hi => by simp at hi) (fun i v hv => by simp at hv) (fun i a v ha => by simp at ha))
            · rw [if_neg ec]
              have hcl' := (hcl.drop (l * k)).take ((hh - l) * k)
              simp only [Option.map_some, add_none]
              refine VRel.one (.sl b (o + l * k) (hh - l) _ _ _ (by omega) hcl'.1 ?_ ?_ ?_ hcl'.2)
              · exact belowL_of_get fun i a ha => by
                  rw [List.getElem?_take] at ha
                  split at ha
                  · rw [List.getElem?_drop] at ha; exact belowL_get hb ha
                  · simp at ha
              · intro i hi
                have : l * k + i < cs.length := by simp at hi; omega
                rw [Nat.add_assoc]; exact hF _ this
              · intro i v hv
                rw [List.getElem?_take] at hv
                split at hv
                · rw [List.getElem?_drop] at hv
                  rw [Nat.add_assoc]; exact hc _ v hv
                · simp at hv
          | slnil xx =>
            have hb' := bounds_run (P := P) s (isS := true) (Nat.le_refl 0) hhb hlb w
            refine fin hcv (Nat.le_refl _) hhb hlb ?_
            have e1 : hh = 0 := by omega
            have e2 : l = 0 := by omega
            subst e1; subst e2
            have e3 : ORel φ F H w β (.sl 0 []) (.slice xx 0 0) := VRel.one (.slnil xx)
            simpa using e3
      · simp at h
    · simp at h
  · rename_i b g off n es hx
    split at h
    · rename_i hes
      subst hes
      split at h
      · rename_i hh hhb
        split at h
        · rename_i l hlb
          simp at h; subst h
          have h' : VRel φ F H w (.hs b g off n es) (act.eval x) := ev_of s hx
          generalize hcv : act.eval x = cv at h'
          cases h' with
          | one h' =>
            cases h' with
            | hs b g off n' es cs xx cap hb hg hn hxn h2 =>
              have hb' := bounds_run (P := P) s (isS := true) hn hhb hlb w
              refine fin hcv hn hhb hlb (VRel.one ?_)
              refine .hs b g (off + l * es) (hh - l) es cs _ (cap - l) hb hg (by omega) ?_ (fun eg => ?_)
              · intro hnone
                by_cases ec : cap = l
                · omega
                · rw [if_neg ec] at hnone
                  have : xx = none := by cases xx <;> simp_all
                  have := hxn this
                  omega
              · rcases h2 eg with ⟨h0g, hx2, arr, ty, ha, hsz⟩ | ⟨h0, hc0⟩
                · by_cases ec : cap = l
                  · exact .inr ⟨by omega, by omega⟩
                  · rw [if_neg ec, hx2]
                    refine .inl ⟨h0g, by simp [add_none], arr, ty, ha, ?_⟩
                    have e4 : cap * es = l * es + (cap - l) * es := by rw [← Nat.add_mul]; congr 1; omega
                    omega
                · exact .inr ⟨by omega, by omega⟩
        · simp at h
      · simp at h
    · simp at h
  · simp at h
end
end Go.Hm
