/- The reading instructions are sound: 4, aggregates against each other. -/
import Derived.Test.YtikedgpcgacgoaaHmOps3
import Derived.DeepKeys
namespace Go.Hm
open Go

def eqVals : List Nat → List Value → List Value → Option Bool
  | [], [], [] => some true
  | k :: ks, a :: r, b :: s =>
    match eqScalar k a b with
    | some e => match eqVals ks r s with
      | some e' => some (e && e')
      | none => none
    | none => none
  | _, _, _ => none

theorem eqVals_len : ∀ {ks : List Nat} {a b : List Value} {e : Bool}, eqVals ks a b = some e → a.length = ks.length ∧ b.length = ks.length
  | [], [], [], _, _ => ⟨rfl, rfl⟩
  | k :: ks, x :: a, y :: b, e, h => by
    simp only [eqVals] at h
    split at h
    · split at h
      · rename_i h'
        have := eqVals_len h'
        simp [this.1, this.2]
      · simp at h
    · simp at h
  | [], _ :: _, _, _, h => by simp [eqVals] at h
  | [], [], _ :: _, _, h => by simp [eqVals] at h
  | _ :: _, [], _, _, h => by simp [eqVals] at h
  | _ :: _, _ :: _, [], _, h => by simp [eqVals] at h

theorem eqVals_append : ∀ {ks ls : List Nat} {a c : List Value} {e : Bool}, eqVals (ks ++ ls) a c = some e →
    ∃ e1 e2, eqVals ks (a.take ks.length) (c.take ks.length) = some e1 ∧ eqVals ls (a.drop ks.length) (c.drop ks.length) = some e2 ∧ e = (e1 && e2)
  | [], ls, a, c, e, h => ⟨true, e, by simp [eqVals], by simpa using h, by simp⟩
  | k :: ks, ls, x :: a, y :: c, e, h => by
    simp only [List.cons_append, eqVals] at h
    split at h
    · rename_i e0 h0
      split at h
      · rename_i e' h'
        simp at h; subst h
        obtain ⟨e1, e2, h1, h2, rfl⟩ := eqVals_append h'
        exact ⟨e0 && e1, e2, by simp [eqVals, h0, h1], by simpa using h2, by simp [Bool.and_assoc]⟩
      · simp at h
    · simp at h
  | _ :: _, _, [], _, _, h => by simp [eqVals] at h
  | _ :: _, _, _ :: _, [], _, h => by simp [eqVals] at h

section
variable {P : Program}

/-- A value of a type, of these cells. -/
def Packs (P : Program) (t : TypeId) (v : Value) (cs : List Value) : Prop := if aggT P t = true then v = .agg cs.toArray else cs = [v]

theorem part_packs {t : TypeId} {n o : Nat} {xs : List Value} (hn : szOf P t = some n) (hl : o + n ≤ xs.length) (h1 : aggT P t = false → n = 1) {d : TypeDesc} (hu : P.underlying t = some d) (w : World) :
    ∃ v, (part t xs.toArray o).run P w = .ok v w ∧ Packs P t v ((xs.drop o).take n) := by
  have hagg := isAgg_run (P := P) hu w
  have hre := aggT_eq (P := P) hu
  cases hd : d.isRow with
  | true =>
    refine ⟨.agg (xs.toArray.extract o (o + n)), ?_, ?_⟩
    · simp [part, hagg, hd, szOf_run hn]
    · unfold Packs
      rw [hre, hd, if_pos rfl]
      congr 1
      apply Array.ext'
      simp [List.extract]
  | false =>
    have e1 := h1 (by rw [hre, hd])
    subst e1
    have hlt : o < xs.length := by omega
    refine ⟨xs[o], ?_, ?_⟩
    · simp [part, hagg, hd, hlt]
    · unfold Packs
      rw [hre, hd, if_neg (by simp)]
      rw [List.drop_eq_getElem_cons hlt]
      rfl

theorem flatT_sz {d : Nat} {t : TypeId} {ks : List Nat} (h : flatT P d t = some ks) : ∃ u, P.underlying t = some u ∧ (aggT P t = false → ks.length = 1) := by
  cases d with
  | zero => simp [flatT] at h
  | succ d =>
    unfold flatT at h
    split at h
    case h_1 hu | h_2 _ hu | h_3 hu => simp at h; subst h; exact ⟨_, hu, fun _ => rfl⟩
    case h_4 fs hu => exact ⟨_, hu, fun ha => by simp [aggT, hu] at ha⟩
    case h_5 n e hu => exact ⟨_, hu, fun ha => by simp [aggT, hu] at ha⟩
    case h_6 => simp at h

def EqF (P : Program) (D : Nat) (t : TypeId) (ks : List Nat) : Prop :=
  ∀ (w : World) (x y : Value) (xs ys : List Value) (e : Bool), Packs P t x xs → Packs P t y ys → eqVals ks xs ys = some e → (Op.equalIn D t x y).run P w = .ok e w

theorem eqFields_flat {flat : TypeId → Option (List Nat)} {D : Nat} (hflat : ∀ t ks, flat t = some ks → EqF P D t ks ∧ ∃ u, P.underlying t = some u ∧ (aggT P t = false → ks.length = 1)) (w : World) :
    ∀ (fs : List Field) (o : Nat) (ks : List Nat) (xs ys : List Value) (e : Bool), flatFs P flat fs o = some ks → o ≤ xs.length → o ≤ ys.length → eqVals ks (xs.drop o) (ys.drop o) = some e →
      (Op.eqFields D xs.toArray ys.toArray fs).run P w = .ok e w
  | [], o, ks, xs, ys, e, h, hx, hy, he => by
    simp only [flatFs, Option.some.injEq] at h
    subst h
    have hl := eqVals_len he
    rw [List.eq_nil_of_length_eq_zero hl.1, List.eq_nil_of_length_eq_zero hl.2] at he
    simp [eqVals] at he
    subst he
    simp [Op.eqFields]
  | f :: fs, o, ks, xs, ys, e, h, hx, hy, he => by
    simp only [flatFs] at h
    split at h
    · rename_i hc
      obtain ⟨hname, hoff⟩ := hc
      split at h
      · rename_i k1 n hfl hn
        split at h
        · rename_i hkn
          split at h
          · rename_i l hl
            simp at h; subst h
            obtain ⟨hEq, u, hu, h1⟩ := hflat _ _ hfl
            have hlen := eqVals_len he
            simp only [List.length_drop, List.length_append] at hlen
            have hone : aggT P f.type = false → n = 1 := fun ha => by rw [← hkn]; exact h1 ha
            obtain ⟨a, pa, ka⟩ := part_packs hn (xs := xs) (o := o) (by omega) hone hu w
            obtain ⟨b, pb, kb⟩ := part_packs hn (xs := ys) (o := o) (by omega) hone hu w
            obtain ⟨e1, e2, h1', h2', rfl⟩ := eqVals_append he
            rw [hkn] at h1' h2'
            have hr := hEq w a b _ _ e1 ka kb h1'
            have ih := eqFields_flat hflat w fs (o + n) l xs ys e2 hl (by omega) (by omega) (by rw [← List.drop_drop, ← List.drop_drop]; exact h2')
            subst hoff
            simp only [Op.eqFields, hname, ne_eq, not_false_eq_true, if_true, Sem.run_bind, pa, pb, Result.andThen_ok, hr, Sem.run_ite]
            cases e1
            · simp
            · simpa using ih
          · simp at h
        · simp at h
      · simp at h
    · simp at h

theorem eqItems_flat {D : Nat} {e : TypeId} {k : Nat} {ks : List Nat} (hEq : EqF P D e ks) (hk : szOf P e = some k) (hks : ks.length = k) {u : TypeDesc} (hu : P.underlying e = some u) (h1 : aggT P e = false → k = 1) (w : World) :
    ∀ (m i : Nat) (xs ys : List Value) (r : Bool), i * k ≤ xs.length → i * k ≤ ys.length → eqVals (List.replicate m ks).flatten (xs.drop (i * k)) (ys.drop (i * k)) = some r →
      (Op.eqItems D e k xs.toArray ys.toArray (List.range' i m)).run P w = .ok r w
  | 0, i, xs, ys, r, hx, hy, he => by
    have hl := eqVals_len he
    simp only [List.replicate_zero, List.flatten_nil, List.length_nil] at hl
    rw [List.eq_nil_of_length_eq_zero hl.1, List.eq_nil_of_length_eq_zero hl.2] at he
    simp [eqVals] at he
    subst he
    simp [Op.eqItems]
  | m + 1, i, xs, ys, r, hx, hy, he => by
    rw [List.replicate_succ, List.flatten_cons] at he
    have hlen := eqVals_len he
    simp only [List.length_drop, List.length_append] at hlen
    obtain ⟨a, pa, ka⟩ := part_packs hk (xs := xs) (o := i * k) (by omega) h1 hu w
    obtain ⟨b, pb, kb⟩ := part_packs hk (xs := ys) (o := i * k) (by omega) h1 hu w
    obtain ⟨e1, e2, h1', h2', rfl⟩ := eqVals_append he
    rw [hks] at h1' h2'
    have hr := hEq w a b _ _ e1 ka kb h1'
    have e3 : (i + 1) * k = i * k + k := by rw [Nat.add_mul, Nat.one_mul]
    have ih := eqItems_flat hEq hk hks hu h1 w m (i + 1) xs ys e2 (by omega) (by omega) (by rw [e3, ← List.drop_drop, ← List.drop_drop]; exact h2')
    simp only [List.range'_succ, Op.eqItems, Sem.run_bind, pa, pb, Result.andThen_ok, hr, Sem.run_ite]
    cases e1
    · simp
    · simpa using ih

theorem eqVals_one {k : Nat} {x y : Value} {xs ys : List Value} {e : Bool} (hx : xs = [x]) (hy : ys = [y]) (h : eqVals [k] xs ys = some e) : eqScalar k x y = some e := by
  subst hx; subst hy
  simp only [eqVals] at h
  split at h
  · rename_i e0 h0
    simp at h; subst h; exact h0
  · simp at h

theorem flat_eq : ∀ (d D : Nat) (t : TypeId) (ks : List Nat), flatT P d t = some ks → EqF P (D + d) t ks
  | 0, _, _, _, h => by simp [flatT] at h
  | d + 1, D, t, ks, h => by
    intro w x y xs ys e px py he
    unfold flatT at h
    split at h
    case h_1 hu =>
      simp at h; subst h
      have hag : aggT P t = false := by simp [aggT, hu]
      simp only [Packs, hag, Bool.false_eq_true, if_false] at px py
      have hs := eqVals_one px py he
      unfold eqScalar at hs
      split at hs <;> simp_all
      subst hs
      rw [← Nat.add_assoc]
      simp [Op.equalIn, run_underlying hu]
    case h_2 k hu =>
      simp at h; subst h
      have hag : aggT P t = false := by simp [aggT, hu]
      simp only [Packs, hag, Bool.false_eq_true, if_false] at px py
      have hs := eqVals_one px py he
      unfold eqScalar at hs
      split at hs <;> simp_all
      obtain ⟨rfl, rfl⟩ := hs
      rw [← Nat.add_assoc]
      simp [Op.equalIn, run_underlying hu]
    case h_3 hu =>
      simp at h; subst h
      have hag : aggT P t = false := by simp [aggT, hu]
      simp only [Packs, hag, Bool.false_eq_true, if_false] at px py
      have hs := eqVals_one px py he
      unfold eqScalar at hs
      split at hs <;> simp_all
      subst hs
      rw [← Nat.add_assoc]
      exact run_equalIn_string w _ t _ _ hu
    case h_4 fs hu =>
      have hag : aggT P t = true := by simp [aggT, hu]
      simp only [Packs, hag, if_true] at px py
      subst px; subst py
      split at h
      · simp at h
      · rename_i hst
        have hfs : P.fieldsOf t = fs := by simp [Program.fieldsOf, hu]
        rw [← Nat.add_assoc, run_equalIn_struct w (D + d) t xs.toArray ys.toArray (by rw [hfs]; exact hu) (by simpa using hst), hfs]
        exact eqFields_flat (fun t ks ht => ⟨flat_eq d D t ks ht, flatT_sz ht⟩) w fs.toList 0 ks xs ys e h (Nat.zero_le _) (Nat.zero_le _) (by simpa using he)
    case h_5 m el hu =>
      have hag : aggT P t = true := by simp [aggT, hu]
      simp only [Packs, hag, if_true] at px py
      subst px; subst py
      split at h
      · rename_i k1 k hfl hk
        split at h
        · rename_i hkl
          simp at h; subst h
          obtain ⟨u, hu', h1⟩ := flatT_sz hfl
          cases hi : P.info? el with
          | none => simp [szOf, hi] at hk
          | some i =>
            have hc : P.cellsOf el = k := by
              have e1 := run_sizeOf w hi
              rw [szOf_run hk w] at e1
              cases e1; rfl
            rw [← Nat.add_assoc, run_equalIn_array w (D + d) xs.toArray ys.toArray hu hi, hc, List.range_eq_range']
            exact eqItems_flat (flat_eq d D el k1 hfl) hk hkl hu' (fun ha => by rw [← hkl]; exact h1 ha) w m 0 xs ys e (by omega) (by omega) (by simpa using he)
        · simp at h
      · simp at h
    case h_6 => simp at h

variable {φ : Nat → Nat} {F : Nat → Nat → Prop} {H : Heap} {w : World} {β : Nat → Nat} {env : Env} {act : Act} {T : Nat}

theorem eqCells_vals {ks : List Nat} : ∀ {as bs : List AV} {e : Bool} {xs ys : List Value}, eqCells ks as bs = some e → CL φ F H w as xs → CL φ F H w bs ys → eqVals ks xs ys = some e := by
  induction ks with
  | nil =>
    intro as bs e xs ys h hx hy
    unfold eqCells at h
    split at h
    · rw [List.eq_nil_of_length_eq_zero hx.1, List.eq_nil_of_length_eq_zero hy.1]
      simpa [eqVals] using h
    · rename_i hh; cases hh
    · simp at h
  | cons k0 ks0 ih =>
    intro as bs e xs ys h hx hy
    unfold eqCells at h
    split at h
    · rename_i hh; cases hh
    · rename_i k ks u as v bs hh
      cases hh
      cases xs with
      | nil => have := hx.1; simp at this
      | cons x xs =>
        cases ys with
        | nil => have := hy.1; simp at this
        | cons y ys =>
          have e1 := (hx.2 0 _ x rfl rfl).inv_val.1
          have e2 := (hy.2 0 _ y rfl rfl).inv_val.1
          subst e1; subst e2
          have hx' : CL φ F H w as xs := ⟨by have := hx.1; simpa using this, fun i c z hc hz => hx.2 (i + 1) c z hc hz⟩
          have hy' : CL φ F H w bs ys := ⟨by have := hy.1; simpa using this, fun i c z hc hz => hy.2 (i + 1) c z hc hz⟩
          split at h
          · rename_i e0 h0
            split at h
            · rename_i e' h'
              simp at h; subst h
              simp [eqVals, h0, ih h' hx' hy']
            · simp at h
          · simp at h
    · simp at h

theorem p_eqa (s : St φ F H w β env act T) (neg : Bool) (t : TypeId) (x y : Operand) (yt : TypeId) {v : AV} {ks : List Nat} (ha : aggT P t = true) (hk : flatT P 8 t = some ks) (hg : P.eqGuardType P.depth t = false)
    (h : rdOp (.eqa neg ks (cO x) (cO y)) env H = some v) : Pure P φ F H w β act (.binOp (if neg then .neq else .eql) t x y yt) v := by
  simp only [rdOp] at h
  split at h
  · rename_i as bs hx hy
    split at h
    · rename_i e he
      simp only [Option.some.injEq] at h; subst h
      obtain ⟨xs, hxv, hxc⟩ := VRel.inv_agg (ev_of s hx)
      obtain ⟨ys, hyv, hyc⟩ := VRel.inv_agg (ev_of s hy)
      have hrun : (Op.equal t (.agg xs.toArray) (.agg ys.toArray)).run P w = .ok e w := by
        rw [equal_eq]
        exact flat_eq 8 9992 t ks hk w _ _ xs ys e (by simp [Packs, ha]) (by simp [Packs, ha]) (eqCells_vals he hxc hyc)
      have hguard : ∀ op, (eqGuard op t x y (.agg xs.toArray) (.agg ys.toArray)).run P w = .ok () w := fun op => by
        cases op <;> simp [eqGuard, hg]
      intro dst type pos after guard
      refine ⟨.bool (if neg then !e else e), ?_, VRel.one (.val _ rfl)⟩
      have b1 : ∀ a b, binOp .eql t (.agg a) (.agg b) = (do pure (.bool (← Op.equal t (.agg a) (.agg b)))) := fun _ _ => rfl
      have b2 : ∀ a b, binOp .neq t (.agg a) (.agg b) = (do pure (.bool (!(← Op.equal t (.agg a) (.agg b))))) := fun _ _ => rfl
      cases neg
      · simp [execOp, hxv, hyv, hguard, b1, hrun]
      · simp [execOp, hxv, hyv, hguard, b2, hrun]
    · simp at h
  · simp at h
end
end Go.Hm
