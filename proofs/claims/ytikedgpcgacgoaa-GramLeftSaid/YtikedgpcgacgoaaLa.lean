import Derived.Test.YtikedgpcgacgoaaPa
set_option linter.unusedSimpArgs false
set_option linter.unusedVariables false
namespace Go.Proofs.Ytikedgpcgacgoaa
open Go Go.Hm

/-! ### Beginnings: no program in sight -/
def bgL (t : Int) (null : List Bool) : List Int → List Nat
  | [] => []
  | x :: r => if x < t then [] else (x - t).toNat :: (if null.getD (x - t).toNat false = true then bgL t null r else [])
theorem bgL_lt {t : Int} {null : List Bool} {n : Nat} : ∀ {r : List Int}, (∀ x ∈ r, 0 ≤ x ∧ x < t + n) → ∀ s ∈ bgL t null r, s < n
  | [], _, s, h => by simp [bgL] at h
  | x :: r, hr, s, h => by
    simp only [bgL] at h
    split at h
    · simp at h
    · rename_i h1
      rcases List.mem_cons.1 h with h | h
      · have := hr x (List.mem_cons_self ..)
        omega
      · split at h
        · exact bgL_lt (fun y hy => hr y (List.mem_cons_of_mem _ hy)) s h
        · simp at h
theorem bgL_len {t : Int} {null : List Bool} : ∀ (r : List Int), (bgL t null r).length ≤ r.length
  | [] => Nat.le_refl _
  | x :: r => by
    simp only [bgL]
    split
    · simp
    · split
      · have := bgL_len (t := t) (null := null) r
        simp; omega
      · simp
def Edge (t : Int) (null : List Bool) (ps : List Pr) (i s : Nat) : Prop := ∃ p ∈ ps, p.l.toNat = i ∧ s ∈ bgL t null p.r
inductive Path (E : Nat → Nat → Prop) : Nat → Nat → Prop
  | one {i j : Nat} : E i j → Path E i j
  | cons {i s j : Nat} : E i s → Path E s j → Path E i j
theorem Path.trans {E : Nat → Nat → Prop} {i j k : Nat} (h : Path E i j) (h2 : Path E j k) : Path E i k := by
  induction h with
  | one h => exact .cons h h2
  | cons h _ ih => exact .cons h (ih h2)

/-! ### Squares -/
theorem ix_lt {n i j : Nat} (hi : i < n) (hj : j < n) : i * n + j < n * n := by
  have h1 : (i + 1) * n ≤ n * n := Nat.mul_le_mul_right n hi
  rw [Nat.succ_mul] at h1
  omega
theorem ix_inj {n i j i' j' : Nat} (hj : j < n) (hj' : j' < n) (h : i * n + j = i' * n + j') : i = i' ∧ j = j' := by
  have h1 : i = i' := by
    have e1 : (i * n + j) / n = i := by
      rw [Nat.mul_comm, Nat.mul_add_div (by omega), Nat.div_eq_of_lt hj]; rfl
    have e2 : (i' * n + j') / n = i' := by
      rw [Nat.mul_comm, Nat.mul_add_div (by omega), Nat.div_eq_of_lt hj']; rfl
    rw [← e1, ← e2, h]
  subst h1
  exact ⟨rfl, by omega⟩
abbrev Mx (n : Nat) (o : List Bool) (i j : Nat) : Prop := tr o (i * n + j)
theorem Mx_set {n : Nat} {o : List Bool} {i j i' j' : Nat} {v : Bool} (ho : o.length = n * n) (hi : i < n) (hj : j < n) (hj' : j' < n) : Mx n (o.set (i * n + j) v) i' j' ↔ if i' = i ∧ j' = j then v = true else Mx n o i' j' := by
  unfold Mx tr
  rw [List.getD_eq_getElem?_getD, List.getD_eq_getElem?_getD, List.getElem?_set]
  by_cases h : i' = i ∧ j' = j
  · obtain ⟨rfl, rfl⟩ := h
    rw [if_pos rfl, if_pos (by rw [ho]; exact ix_lt hi hj), if_pos ⟨rfl, rfl⟩]
    simp
  · rw [if_neg h, if_neg (fun e => h (by have := ix_inj hj hj' e; exact ⟨this.1.symm, this.2.symm⟩))]

/-! ### Growing to the closure -/
def lfK (n l s : Nat) (o : List Bool) (k : Nat) : List Bool := if ((o.getD (s * n + k) false || decide (k = s)) && !o.getD (l * n + k) false) = true then o.set (l * n + k) true else o
def lfS (n l : Nat) (o : List Bool) (s : Nat) : List Bool := (List.range n).foldl (lfK n l s) o
def lfP (n : Nat) (t : Int) (null : List Bool) (o : List Bool) (p : Pr) : List Bool := (bgL t null p.r).foldl (lfS n p.l.toNat) o
theorem lfK_grows (n l s k : Nat) : Grows fun o => lfK n l s o k := fun o => by
  simp only [lfK]
  split
  · rename_i h
    refine set_grows o _ (fun h2 => ?_)
    rw [h2] at h
    simp at h
  · exact .inl rfl
theorem lfS_grows (n l s : Nat) : Grows fun o => lfS n l o s := fun o => rnd_grows (st := lfK n l s) (fun k => lfK_grows n l s k) (List.range n) o
theorem lfP_grows (n : Nat) (t : Int) (null : List Bool) (p : Pr) : Grows fun o => lfP n t null o p := fun o => rnd_grows (st := lfS n p.l.toNat) (fun s => lfS_grows n p.l.toNat s) (bgL t null p.r) o
theorem lfK_len (n l s : Nat) (o : List Bool) (k : Nat) : (lfK n l s o k).length = o.length := by
  unfold lfK
  split <;> simp
theorem lfS_len (n l : Nat) (o : List Bool) (s : Nat) : (lfS n l o s).length = o.length := rnd_len (fun o k => lfK_len n l s o k) _ o
theorem lfP_len (n : Nat) (t : Int) (null : List Bool) (o : List Bool) (p : Pr) : (lfP n t null o p).length = o.length := rnd_len (fun o s => lfS_len n p.l.toNat o s) _ o
def leftM (n : Nat) (t : Int) (null : List Bool) (ps : List Pr) : List Bool := fin (rnd (lfP n t null) ps) (List.replicate (n * n) false)
/-- What productions must be. -/
def PsOk (t : Int) (n : Nat) (ps : List Pr) : Prop := ∀ p ∈ ps, p.l.toNat < n ∧ ∀ x ∈ p.r, 0 ≤ x ∧ x < t + n
section
variable {n : Nat} {t : Int} {null : List Bool} {ps : List Pr}
theorem leftM_len : (leftM n t null ps).length = n * n :=
  fin_ind (rnd_grows (fun p => lfP_grows n t null p) ps) (fun o => o.length = n * n) (fun o h => by rw [rnd_len (fun o p => lfP_len n t null o p)]; exact h) _ _ (Nat.le_refl _) (by simp)
theorem leftM_sound (ok : PsOk t n ps) (i j : Nat) (hj : j < n) (h : Mx n (leftM n t null ps) i j) : Path (Edge t null ps) i j := by
  have := fin_ind (rnd_grows (fun p => lfP_grows n t null p) ps) (fun o => o.length = n * n ∧ ∀ i j, j < n → Mx n o i j → Path (Edge t null ps) i j) (fun o ho => ?_) _ (List.replicate (n * n) false) (Nat.le_refl _) ⟨by simp, fun i j _ h => absurd h (rep_not _ _)⟩
  · exact this.2 i j hj h
  · refine rnd_ind (st := lfP n t null) (fun o => o.length = n * n ∧ ∀ i j, j < n → Mx n o i j → Path (Edge t null ps) i j) ps (fun o p hp ho => ?_) ps (fun _ h => h) o ho
    obtain ⟨hl, hr⟩ := ok p hp
    refine rnd_ind (st := lfS n p.l.toNat) (fun o => o.length = n * n ∧ ∀ i j, j < n → Mx n o i j → Path (Edge t null ps) i j) (bgL t null p.r) (fun o s hs ho => ?_) _ (fun _ h => h) o ho
    have hsn := bgL_lt hr s hs
    have he : Edge t null ps p.l.toNat s := ⟨p, hp, rfl, hs⟩
    refine rnd_ind (st := lfK n p.l.toNat s) (fun o => o.length = n * n ∧ ∀ i j, j < n → Mx n o i j → Path (Edge t null ps) i j) (List.range n) (fun o k hk ho => ?_) _ (fun _ h => h) o ho
    have hk := List.mem_range.1 hk
    refine ⟨by rw [lfK_len]; exact ho.1, fun i j hj h => ?_⟩
    unfold lfK at h
    split at h
    · rename_i hc
      simp only [Bool.and_eq_true, Bool.or_eq_true, decide_eq_true_eq] at hc
      rw [Mx_set ho.1 hl hk hj] at h
      split at h
      · rename_i hij
        obtain ⟨rfl, rfl⟩ := hij
        rcases hc.1 with h1 | h1
        · exact .cons he (ho.2 _ _ hj h1)
        · rw [h1]; exact .one he
      · exact ho.2 i j hj h
    · exact ho.2 i j hj h
theorem leftM_closed (ok : PsOk t n ps) {l s k : Nat} (he : Edge t null ps l s) (hk : k < n) (h : k = s ∨ Mx n (leftM n t null ps) s k) : Mx n (leftM n t null ps) l k := by
  obtain ⟨p, hp, rfl, hs⟩ := he
  obtain ⟨hl, hr⟩ := ok p hp
  have f1 := rnd_fixed (fun p => lfP_grows n t null p) ps _ (fin_fix (rnd_grows (fun p => lfP_grows n t null p) ps) _ (List.replicate (n * n) false) (Nat.le_refl _)) p hp
  change lfP n t null (leftM n t null ps) p = leftM n t null ps at f1
  have f2 := rnd_fixed (st := lfS n p.l.toNat) (fun s => lfS_grows n p.l.toNat s) (bgL t null p.r) (leftM n t null ps) f1 s hs
  have f3 := rnd_fixed (st := lfK n p.l.toNat s) (fun k => lfK_grows n p.l.toNat s k) (List.range n) (leftM n t null ps) f2 k (List.mem_range.2 hk)
  unfold lfK at f3
  split at f3
  · rw [← f3]
    exact tr_set_self (by rw [leftM_len]; exact ix_lt hl hk)
  · rename_i hc
    simp only [Bool.and_eq_true, Bool.or_eq_true, decide_eq_true_eq, Bool.not_eq_true', not_and] at hc
    have := hc (h.symm.imp (fun h => h) (fun h => h))
    unfold Mx tr
    simpa using this
theorem leftM_iff (ok : PsOk t n ps) (i j : Nat) (hj : j < n) : Mx n (leftM n t null ps) i j ↔ Path (Edge t null ps) i j := by
  refine ⟨leftM_sound ok i j hj, fun h => ?_⟩
  induction h with
  | one h => exact leftM_closed ok h hj (.inl rfl)
  | cons h _ ih => exact leftM_closed ok h hj (.inr (ih hj))
end
end Go.Proofs.Ytikedgpcgacgoaa
