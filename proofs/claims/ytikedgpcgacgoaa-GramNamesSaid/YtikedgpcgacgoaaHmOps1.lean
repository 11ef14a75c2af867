/- The reading instructions are sound: 1, operands and small ones. -/
import Derived.Test.YtikedgpcgacgoaaHmRel
import Derived.Deep.MidRow
import Derived.Laws.CopyRow
import Derived.Laws.StructEq
namespace Go.Hm
open Go

section
variable {φ : Nat → Nat} {F : Nat → Nat → Prop} {H : Heap} {w : World} {β : Nat → Nat}

/-- An operand's value. -/
def ORel (φ : Nat → Nat) (F : Nat → Nat → Prop) (H : Heap) (w : World) (β : Nat → Nat) : AV → Value → Prop
  | .rp t off, v => v = .pointer (some ⟨β t, off, none⟩)
  | .und, v => v = undef
  | .dead, _ => True
  | .box _, _ => False
  | a, v => VRel φ F H w a v

/-- A slot's value. -/
def SRel (φ : Nat → Nat) (F : Nat → Nat → Prop) (H : Heap) (w : World) (β : Nat → Nat) (t : Nat) : AV → Value → Prop
  | .box cs, v => v = .pointer (some ⟨β t, 0, none⟩) ∧ Blk φ F H w (β t) cs
  | a, v => ORel φ F H w β a v

/-- A frame and the world. -/
structure St (φ : Nat → Nat) (F : Nat → Nat → Prop) (H : Heap) (w : World) (β : Nat → Nat) (env : Env) (act : Act) (T : Nat) : Prop where
  sr : SR φ F H w
  size : act.tmps.size = T
  slot : ∀ t, SRel φ F H w β t (find env t) (act.tmps.getD t undef)
  bphi : ∀ t cs b, find env t = .box cs → live H b → β t ≠ φ b
  binj : ∀ t t' cs cs', find env t = .box cs → find env t' = .box cs' → β t = β t' → t = t'
  bF : ∀ t cs o, find env t = .box cs → ¬ F (β t) o

theorem CRel.inv_val {x v : Value} (h : CRel φ F H w (.val x) v) : v = x ∧ scal x = true := by
  cases h with
  | val _ h => exact ⟨rfl, h⟩
theorem VRel.inv_val {x v : Value} (h : VRel φ F H w (.val x) v) : v = x ∧ scal x = true := by
  cases h with
  | one h => exact h.inv_val
theorem VRel.inv_e0 {v : Value} (h : VRel φ F H w .e0 v) : ∃ x, v = .slice x 0 0 := by
  cases h with
  | one h => cases h; exact ⟨_, rfl⟩
theorem VRel.inv_agg {cs : List AV} {v : Value} (h : VRel φ F H w (.agg cs) v) : ∃ vs, v = .agg vs.toArray ∧ CL φ F H w cs vs := by
  cases h with
  | one h => cases h
  | agg cs vs h => exact ⟨vs, rfl, h⟩
theorem VRel.inv_tup {as : List AV} {v : Value} (h : VRel φ F H w (.tup as) v) : ∃ vs : List Value, v = .tuple vs.toArray ∧ vs.length = as.length ∧ ∀ (i : Nat) a v, as[i]? = some a → vs[i]? = some v → VRel φ F H w a v := by
  cases h with
  | one h => cases h
  | tup as vs hl h => exact ⟨vs, rfl, hl, h⟩
theorem VRel.cell {a : AV} {v : Value} (h : VRel φ F H w a v) (h1 : Hm.one a = true) : CRel φ F H w a v := by
  cases h with
  | one h => exact h
  | agg => simp [Hm.one] at h1
  | tup => simp [Hm.one] at h1
theorem CRel.isOne {a : AV} {v : Value} (h : CRel φ F H w a v) : Hm.one a = true := by cases h <;> rfl
theorem CRel.oneCell {a : AV} {v : Value} (h : CRel φ F H w a v) : v.oneCell' = true := by
  cases h with
  | val v h => cases v <;> simp_all [scal, Value.oneCell']
  | _ => rfl
theorem ORel.of {a : AV} {v : Value} (h : VRel φ F H w a v) : ORel φ F H w β a v := by
  cases a <;> first | exact h | (cases h with | one h => cases h)
theorem ORel.mono {φ' : Nat → Nat} {F' : Nat → Nat → Prop} {H' : Heap} {w' : World} (e : Ext φ F H w φ' F' H' w') {a : AV} {v : Value} (h : ORel φ F H w β a v) : ORel φ' F' H' w' β a v := by
  cases a <;> first | exact VRel.mono e h | exact h

theorem of1_rel {v : Value} {a : AV} (h : of1 v = some a) : CRel φ F H w a v := by
  unfold of1 at h
  split at h <;> simp at h <;> subst h
  · exact .e0 none
  all_goals exact .val _ rfl
theorem of1s_rel : ∀ {vs : List Value} {l : List AV}, of1s vs = some l → CL φ F H w l vs
  | [], l, h => by simp [of1s] at h; subst h; exact ⟨rfl, fun i a v ha => by simp at ha⟩
  | v :: r, l, h => by
    simp only [of1s] at h
    split at h
    · rename_i a ha
      split at h
      · rename_i l' hl'
        simp at h; subst h
        have ih := of1s_rel hl'
        refine ⟨by simp [ih.1], fun i b u hb hu => ?_⟩
        cases i with
        | zero => simp at hb hu; subst hb; subst hu; exact of1_rel ha
        | succ i => simp at hb hu; exact ih.2 i b u hb hu
      · simp at h
    · simp at h
theorem ofVal_rel (v : Value) : ORel φ F H w β (ofVal v) v := by
  unfold ofVal
  split
  · rename_i cs
    split
    · rename_i l hl
      have := VRel.agg (φ := φ) (F := F) (H := H) (w := w) l cs.toList (of1s_rel hl)
      exact ORel.of (by simpa using this)
    · trivial
  · cases h : of1 v with
    | none => trivial
    | some a => exact ORel.of (.one (of1_rel h))

variable {env : Env} {act : Act} {T : Nat}

/-- AN OPERAND. -/
theorem ev_rel (s : St φ F H w β env act T) (x : Operand) : ORel φ F H w β (ev env (cO x)) (act.eval x) := by
  cases x with
  | tmp t =>
    have h := s.slot t
    simp only [cO, ev, Act.eval]
    generalize find env t = a at h
    cases a <;> first | exact h | exact h.1
  | const v => exact ofVal_rel v
  | global g => trivial
  | func f =>
    simp only [cO, ev, Act.eval]
    split
    · rename_i hf
      have := CRel.fn (φ := φ) (F := F) (H := H) (w := w) f [] [] rfl (fun i a v ha => by simp at ha)
      rw [Nat.mod_eq_of_lt hf] at this
      exact .one this
    · trivial

theorem ev_val (s : St φ F H w β env act T) {x : Operand} {v : Value} (h : ev env (cO x) = .val v) : act.eval x = v := by
  have := ev_rel s x
  rw [h] at this
  exact (VRel.inv_val this).1
theorem ev_of (s : St φ F H w β env act T) {x : Operand} {a : AV} (h : ev env (cO x) = a) : ORel φ F H w β a (act.eval x) := h ▸ ev_rel s x

/-- The cells of a value that may be stored. -/
theorem cellsV_rel {a : AV} {v : Value} {cs : List AV} (h : ORel φ F H w β a v) (hc : cellsV a = some cs) :
    CL φ F H w cs v.cells.toList ∧ v.cells.all (·.oneCell') = true := by
  have single : ∀ {a : AV} {v : Value}, CRel φ F H w a v → CL φ F H w [a] v.cells.toList ∧ v.cells.all (·.oneCell') = true := fun {a v} h => by
    have h1 := h.oneCell
    have e : v.cells = #[v] := by cases v <;> simp_all [Value.cells, Value.oneCell']
    rw [e]
    refine ⟨⟨rfl, fun i b u hb hu => ?_⟩, by simp [h1]⟩
    cases i with
    | zero => simp at hb hu; subst hb; subst hu; exact h
    | succ i => simp at hb
  cases a <;> simp [cellsV] at hc <;> subst hc
  case agg cs =>
    obtain ⟨vs, rfl, hcl⟩ := VRel.inv_agg h
    refine ⟨by simpa [Value.cells] using hcl, ?_⟩
    simp only [Value.cells, List.all_toArray, List.all_eq_true]
    intro v hv
    obtain ⟨i, hi⟩ := List.getElem?_of_mem hv
    have hlt : i < vs.length := (List.getElem?_eq_some_iff.1 hi).1
    have hlt' : i < cs.length := by rw [← hcl.1]; exact hlt
    exact (hcl.2 i cs[i] v (by simp [hlt']) hi).oneCell
  all_goals exact single (VRel.cell h rfl)

theorem CL.get {as : List AV} {vs : List Value} (h : CL φ F H w as vs) {i : Nat} {a : AV} (ha : as[i]? = some a) : ∃ v, vs[i]? = some v ∧ CRel φ F H w a v := by
  have hi : i < vs.length := by rw [h.1]; exact (List.getElem?_eq_some_iff.1 ha).1
  exact ⟨vs[i], by simp [hi], h.2 i a vs[i] ha (by simp [hi])⟩
theorem CL.take {as : List AV} {vs : List Value} (h : CL φ F H w as vs) (n : Nat) : CL φ F H w (as.take n) (vs.take n) :=
  ⟨by simp [h.1], fun i a v ha hv => by
    rw [List.getElem?_take] at ha hv
    split at ha <;> simp_all
    exact h.2 i a v ha hv⟩
theorem CL.drop {as : List AV} {vs : List Value} (h : CL φ F H w as vs) (n : Nat) : CL φ F H w (as.drop n) (vs.drop n) :=
  ⟨by simp [h.1], fun i a v ha hv => by
    rw [List.getElem?_drop] at ha hv
    exact h.2 _ a v ha hv⟩
theorem CL.append {as bs : List AV} {vs us : List Value} (h : CL φ F H w as vs) (k : CL φ F H w bs us) : CL φ F H w (as ++ bs) (vs ++ us) :=
  ⟨by simp [h.1, k.1], fun i a v ha hv => by
    rw [List.getElem?_append] at ha hv
    have e := h.1
    by_cases hi : i < as.length
    · rw [if_pos hi] at ha; rw [if_pos (by omega)] at hv
      exact h.2 i a v ha hv
    · rw [if_neg hi] at ha; rw [if_neg (by omega)] at hv
      exact k.2 _ a v ha (by rwa [e] at hv)⟩

/-- A row behind a pointer. -/
def RowAt (φ : Nat → Nat) (F : Nat → Nat → Prop) (H : Heap) (w : World) (k o : Nat) (cs : List AV) : Prop :=
  ∀ (i : Nat) a, cs[i]? = some a → ∃ v, w.cell? ⟨k, o + i, none⟩ = some v ∧ CRel φ F H w a v

theorem Blk.row {k : Nat} {cs : List AV} (h : Blk φ F H w k cs) : RowAt φ F H w k 0 cs := by
  obtain ⟨arr, ty, ha, hc⟩ := h
  intro i a hi
  obtain ⟨v, hv, hr⟩ := hc i a hi
  exact ⟨v, by simp [World.cell?, ha, hv], hr⟩

/-- What a pointer leads to. -/
theorem ptr_rel (s : St φ F H w β env act T) {l : Option Nat} {a : AV} {v : Value} {cs : List AV} {off : Nat} (h : ORel φ F H w β a v) (hp : ptrCells l env H a = some (cs, off)) :
    ∃ k o, v = .pointer (some ⟨k, o + off, none⟩) ∧ RowAt φ F H w k o cs := by
  unfold ptrCells at hp
  split at hp
  · rename_i t
    split at hp
    · rename_i t' off'
      split at hp
      · rename_i ht
        subst ht
        split at hp
        · rename_i cs' hf
          simp at hp
          obtain ⟨rfl, rfl⟩ := hp
          have hs := s.slot t'
          rw [hf] at hs
          exact ⟨β t', 0, by rw [Nat.zero_add]; exact h, hs.2.row⟩
        · simp at hp
      · simp at hp
    · simp at hp
  · split at hp
    · rename_i cs' off'
      simp at hp
      obtain ⟨rfl, rfl⟩ := hp
      have h' : VRel φ F H w (.rop cs' off') v := h
      cases h' with
      | one h' =>
        cases h' with
        | rop b o off cells vs hl hb hF hc hr =>
          refine ⟨b, o, rfl, fun i a ha => ?_⟩
          have hi : i < vs.length := by rw [hl]; exact (List.getElem?_eq_some_iff.1 ha).1
          exact ⟨vs[i], hc i _ (by simp [hi]), hr i a _ ha (by simp [hi])⟩
    · rename_i b g off'
      split at hp
      · rename_i cs' hb
        split at hp
        · rename_i hg
          simp at hp
          obtain ⟨rfl, rfl⟩ := hp
          have h' : VRel φ F H w (.hp b g off') v := h
          cases h' with
          | one h' =>
            cases h' with
            | hp b g off cs2 ad hb2 hg2 h2 =>
              rw [hb] at hb2
              cases hb2
              have := h2 hg
              subst this
              by_cases hne : cs' = []
              · subst hne
                exact ⟨φ b, 0, by simp, fun i a ha => by simp at ha⟩
              · exact ⟨φ b, 0, by simp, (s.sr.blk b cs' hb hne).row⟩
        · simp at hp
      · simp at hp
    · simp at hp
end
end Go.Hm
