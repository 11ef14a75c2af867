import Derived.Test.YtikedgpcgacgoaaLa
set_option linter.unusedSimpArgs false
set_option linter.unusedVariables false
namespace Go.Proofs.Ytikedgpcgacgoaa
open Go Go.Hm

theorem Mx_mono_set {n : Nat} {o : List Bool} {i : Nat} {j a b : Nat} (h : Mx n o a b) : Mx n (o.set (i * n + j) true) a b := tr_set h
theorem foldl_ind {α β : Type} {f : β → α → β} (Q : β → Prop) : ∀ (l : List α) (o : β), (∀ o, ∀ x ∈ l, Q o → Q (f o x)) → Q o → Q (l.foldl f o)
  | [], _, _, h => h
  | x :: l, o, hq, h => foldl_ind Q l (f o x) (fun o y hy => hq o y (List.mem_cons_of_mem _ hy)) (hq o x (List.mem_cons_self ..) h)
/-- What holds behind one, and is kept, holds in the end. -/
theorem foldl_at {α β : Type} {f : β → α → β} (I Q : β → Prop) : ∀ (l : List α) (o : β) (x : α), x ∈ l → I o → (∀ o, ∀ y ∈ l, I o → I (f o y)) → (∀ o, I o → Q (f o x)) → (∀ o, ∀ y ∈ l, I o → Q o → Q (f o y)) → Q (l.foldl f o)
  | [], _, _, h, _, _, _, _ => by simp at h
  | y :: l, o, x, h, hi, ki, h1, h2 => by
    rw [List.foldl_cons]
    have ki2 : ∀ o, ∀ z ∈ l, I o → I (f o z) := fun o z hz => ki o z (List.mem_cons_of_mem _ hz)
    have hi2 := ki o y (List.mem_cons_self ..) hi
    by_cases hx : x ∈ l
    · exact foldl_at I Q l (f o y) x hx hi2 ki2 h1 fun o z hz => h2 o z (List.mem_cons_of_mem _ hz)
    · rcases List.mem_cons.1 h with rfl | h
      · have := foldl_ind (f := f) (fun o => I o ∧ Q o) l (f o x) (fun o z hz hq => ⟨ki2 o z hz hq.1, h2 o z (List.mem_cons_of_mem _ hz) hq.1 hq.2⟩) ⟨hi2, h1 o hi⟩
        exact this.2
      · exact absurd h hx

/-! ### The document's closure -/
def edS (n l : Nat) (o : List Bool) (s : Nat) : List Bool := o.set (l * n + s) true
def edP (n : Nat) (t : Int) (null : List Bool) (o : List Bool) (p : Pr) : List Bool := (bgL t null p.r).foldl (edS n p.l.toNat) o
def edM (n : Nat) (t : Int) (null : List Bool) (ps : List Pr) : List Bool := ps.foldl (edP n t null) (List.replicate (n * n) false)
def waC (n m i : Nat) (o : List Bool) (k : Nat) : List Bool := o.set (i * n + k) (o.getD (i * n + k) false || (o.getD (i * n + m) false && o.getD (m * n + k) false))
def waR (n m : Nat) (o : List Bool) (i : Nat) : List Bool := (List.range n).foldl (waC n m i) o
def waM (n : Nat) (o : List Bool) (m : Nat) : List Bool := (List.range n).foldl (waR n m) o
def refM (n : Nat) (t : Int) (null : List Bool) (ps : List Pr) : List Bool := (List.range n).foldl (waM n) (edM n t null ps)
theorem foldl_len {α : Type} {f : List Bool → α → List Bool} (h : ∀ o x, (f o x).length = o.length) (l : List α) (o : List Bool) : (l.foldl f o).length = o.length := rnd_len h l o
theorem waC_len (n m i : Nat) (o : List Bool) (k : Nat) : (waC n m i o k).length = o.length := by simp [waC]
theorem waR_len (n m : Nat) (o : List Bool) (i : Nat) : (waR n m o i).length = o.length := foldl_len (fun o k => waC_len n m i o k) _ _
theorem waM_len (n : Nat) (o : List Bool) (m : Nat) : (waM n o m).length = o.length := foldl_len (fun o i => waR_len n m o i) _ _
theorem edP_len (n : Nat) (t : Int) (null : List Bool) (o : List Bool) (p : Pr) : (edP n t null o p).length = o.length := foldl_len (fun o s => by simp [edS]) _ _
theorem edM_len (n : Nat) (t : Int) (null : List Bool) (ps : List Pr) : (edM n t null ps).length = n * n := by
  unfold edM
  rw [foldl_len (fun o p => edP_len n t null o p)]
  simp
section
variable {n : Nat} {t : Int} {null : List Bool} {ps : List Pr}
theorem edM_iff (ok : PsOk t n ps) (i j : Nat) (hj : j < n) : Mx n (edM n t null ps) i j ↔ Edge t null ps i j := by
  constructor
  · intro h
    have := foldl_ind (f := edP n t null) (fun o => o.length = n * n ∧ ∀ i j, j < n → Mx n o i j → Edge t null ps i j) ps (List.replicate (n * n) false) (fun o p hp ho => ?_) ⟨by simp, fun i j _ h => absurd h (rep_not _ _)⟩
    · exact this.2 i j hj h
    · obtain ⟨hl, hr⟩ := ok p hp
      refine foldl_ind (f := edS n p.l.toNat) (fun o => o.length = n * n ∧ ∀ i j, j < n → Mx n o i j → Edge t null ps i j) _ o (fun o s hs ho => ?_) ho
      have hsn := bgL_lt hr s hs
      refine ⟨by simp [edS, ho.1], fun i j hj h => ?_⟩
      unfold edS at h
      rw [Mx_set ho.1 hl hsn hj] at h
      split at h
      · rename_i hij
        obtain ⟨rfl, rfl⟩ := hij
        exact ⟨p, hp, rfl, hs⟩
      · exact ho.2 i j hj h
  · rintro ⟨p, hp, rfl, hs⟩
    obtain ⟨hl, hr⟩ := ok p hp
    refine foldl_at (f := edP n t null) (fun o => o.length = n * n) (fun o => Mx n o p.l.toNat j) ps _ p hp (by simp) (fun o q _ h => by rw [edP_len]; exact h) (fun o ho => ?_) (fun o q hq ho h => ?_)
    · refine foldl_at (f := edS n p.l.toNat) (fun o => o.length = n * n) (fun o => Mx n o p.l.toNat j) _ o j hs ho (fun o s _ h => by simp [edS, h]) (fun o ho => ?_) (fun o s _ _ h => Mx_mono_set h)
      exact tr_set_self (by rw [ho]; exact ix_lt hl hj)
    · exact foldl_ind (f := edS n q.l.toNat) (fun o => Mx n o p.l.toNat j) _ o (fun o s _ h => Mx_mono_set h) h
/-- One round of the closure. -/
theorem waM_iff {b : List Bool} {m : Nat} (hb : b.length = n * n) (hm : m < n) (i j : Nat) (hi : i < n) (hj : j < n) : Mx n (waM n b m) i j ↔ Mx n b i j ∨ (Mx n b i m ∧ Mx n b m j) := by
  have cell : ∀ (i k : Nat) (o : List Bool), i < n → k < n → o.length = n * n → (∀ i' j', i' < n → j' < n → (Mx n o i' j' ↔ if i' < i ∨ (i' = i ∧ j' < k) then Mx n b i' j' ∨ (Mx n b i' m ∧ Mx n b m j') else Mx n b i' j')) →
      ∀ i' j', i' < n → j' < n → (Mx n (waC n m i o k) i' j' ↔ if i' < i ∨ (i' = i ∧ j' < k + 1) then Mx n b i' j' ∨ (Mx n b i' m ∧ Mx n b m j') else Mx n b i' j') := by
    intro i k o hi hk ho h i' j' hi' hj'
    unfold waC
    rw [Mx_set ho hi hk hj']
    by_cases hij : i' = i ∧ j' = k
    · obtain ⟨rfl, rfl⟩ := hij
      rw [if_pos ⟨rfl, rfl⟩, if_pos (.inr ⟨rfl, by omega⟩)]
      have e1 := h i' j' hi' hj'
      rw [if_neg (by omega)] at e1
      have e2 : Mx n o i' m ↔ Mx n b i' m := by
        rw [h i' m hi' hm]
        split
        · constructor
          · rintro (h | h)
            · exact h
            · exact h.1
          · exact .inl
        · exact Iff.rfl
      have e3 : Mx n o m j' ↔ Mx n b m j' := by
        rw [h m j' hm hj']
        split
        · constructor
          · rintro (h | h)
            · exact h
            · exact h.2
          · exact .inl
        · exact Iff.rfl
      rw [Bool.or_eq_true, Bool.and_eq_true]
      exact or_congr e1 (and_congr e2 e3)
    · rw [if_neg hij, h i' j' hi' hj']
      by_cases h1 : i' < i ∨ (i' = i ∧ j' < k)
      · rw [if_pos h1, if_pos (by omega)]
      · rw [if_neg h1, if_neg (by omega)]
  have row : ∀ (i : Nat) (o : List Bool), i < n → o.length = n * n → (∀ i' j', i' < n → j' < n → (Mx n o i' j' ↔ if i' < i then Mx n b i' j' ∨ (Mx n b i' m ∧ Mx n b m j') else Mx n b i' j')) →
      ∀ i' j', i' < n → j' < n → (Mx n (waR n m o i) i' j' ↔ if i' < i + 1 then Mx n b i' j' ∨ (Mx n b i' m ∧ Mx n b m j') else Mx n b i' j') := by
    intro i o hi ho h
    have main : ∀ k, k ≤ n → ((List.range k).foldl (waC n m i) o).length = n * n ∧ ∀ i' j', i' < n → j' < n → (Mx n ((List.range k).foldl (waC n m i) o) i' j' ↔ if i' < i ∨ (i' = i ∧ j' < k) then Mx n b i' j' ∨ (Mx n b i' m ∧ Mx n b m j') else Mx n b i' j') := by
      intro k
      induction k with
      | zero =>
        intro _
        refine ⟨ho, fun i' j' h1 h2 => ?_⟩
        rw [List.range_zero, List.foldl_nil, h i' j' h1 h2]
        by_cases h3 : i' < i
        · rw [if_pos h3, if_pos (.inl h3)]
        · rw [if_neg h3, if_neg (by omega)]
      | succ k ih =>
        intro hk
        obtain ⟨h1, h2⟩ := ih (by omega)
        rw [List.range_succ, List.foldl_append]
        exact ⟨by simp only [List.foldl_cons, List.foldl_nil]; rw [waC_len]; exact h1, cell i k _ hi (by omega) h1 h2⟩
    intro i' j' h1 h2
    unfold waR
    rw [(main n (Nat.le_refl _)).2 i' j' h1 h2]
    by_cases h3 : i' < i + 1
    · rw [if_pos (by omega), if_pos h3]
    · rw [if_neg (by omega), if_neg h3]
  have all : ∀ k, k ≤ n → ((List.range k).foldl (waR n m) b).length = n * n ∧ ∀ i' j', i' < n → j' < n → (Mx n ((List.range k).foldl (waR n m) b) i' j' ↔ if i' < k then Mx n b i' j' ∨ (Mx n b i' m ∧ Mx n b m j') else Mx n b i' j') := by
    intro k
    induction k with
    | zero =>
      intro _
      exact ⟨hb, fun i' j' h1 h2 => by rw [List.range_zero, List.foldl_nil, if_neg (by omega)]⟩
    | succ k ih =>
      intro hk
      obtain ⟨h1, h2⟩ := ih (by omega)
      rw [List.range_succ, List.foldl_append]
      exact ⟨by simp only [List.foldl_cons, List.foldl_nil]; rw [waR_len]; exact h1, row k _ (by omega) h1 h2⟩
  unfold waM
  rw [(all n (Nat.le_refl _)).2 i j hi hj, if_pos hi]
theorem refM_iff (ok : PsOk t n ps) (i j : Nat) (hi : i < n) (hj : j < n) : Mx n (refM n t null ps) i j ↔ Path (Edge t null ps) i j := by
  have Elt : ∀ a b, Edge t null ps a b → a < n ∧ b < n := fun a b ⟨p, hp, h1, h2⟩ => by
    obtain ⟨hl, hr⟩ := ok p hp
    exact ⟨h1 ▸ hl, bgL_lt hr b h2⟩
  have main : ∀ m, m ≤ n → ((List.range m).foldl (waM n) (edM n t null ps)).length = n * n ∧
      (∀ i j, i < n → j < n → Edge t null ps i j → Mx n ((List.range m).foldl (waM n) (edM n t null ps)) i j) ∧
      (∀ i j, i < n → j < n → Mx n ((List.range m).foldl (waM n) (edM n t null ps)) i j → Path (Edge t null ps) i j) ∧
      ∀ m', m' < m → ∀ i j, i < n → j < n → Mx n ((List.range m).foldl (waM n) (edM n t null ps)) i m' → Mx n ((List.range m).foldl (waM n) (edM n t null ps)) m' j → Mx n ((List.range m).foldl (waM n) (edM n t null ps)) i j := by
    intro m
    induction m with
    | zero =>
      intro _
      exact ⟨edM_len .., fun i j _ hj h => (edM_iff ok i j hj).2 h, fun i j _ hj h => .one ((edM_iff ok i j hj).1 h), fun m' h => absurd h (by omega)⟩
    | succ m ih =>
      intro hm
      obtain ⟨h1, h2, h3, h4⟩ := ih (by omega)
      rw [List.range_succ, List.foldl_append, List.foldl_cons, List.foldl_nil]
      generalize (List.range m).foldl (waM n) (edM n t null ps) = b at h1 h2 h3 h4
      have hmn : m < n := hm
      have e := fun i j hi hj => waM_iff h1 hmn i j hi hj
      refine ⟨by rw [waM_len]; exact h1, fun i j hi hj h => (e i j hi hj).2 (.inl (h2 i j hi hj h)), fun i j hi hj h => ?_, fun m' hm' i j hi hj ha hb => ?_⟩
      · rcases (e i j hi hj).1 h with h | ⟨ha, hb⟩
        · exact h3 i j hi hj h
        · exact (h3 i m hi hmn ha).trans (h3 m j hmn hj hb)
      · have hm'n : m' < n := by omega
        have ha := (e i m' hi hm'n).1 ha
        have hb := (e m' j hm'n hj).1 hb
        refine (e i j hi hj).2 ?_
        by_cases hmm : m' = m
        · subst hmm
          have ha : Mx n b i m' := by rcases ha with h | h; exact h; exact h.1
          have hb : Mx n b m' j := by rcases hb with h | h; exact h; exact h.2
          exact .inr ⟨ha, hb⟩
        · have hlt : m' < m := by omega
          rcases ha with ha | ⟨ha1, ha2⟩
          · rcases hb with hb | ⟨hb1, hb2⟩
            · exact .inl (h4 m' hlt i j hi hj ha hb)
            · exact .inr ⟨h4 m' hlt i m hi hmn ha hb1, hb2⟩
          · rcases hb with hb | ⟨hb1, hb2⟩
            · exact .inr ⟨ha1, h4 m' hlt m j hmn hj ha2 hb⟩
            · exact .inr ⟨ha1, hb2⟩
  obtain ⟨h1, h2, h3, h4⟩ := main n (Nat.le_refl _)
  refine ⟨h3 i j hi hj, fun h => ?_⟩
  induction h with
  | one h => exact h2 _ _ hi hj h
  | cons h _ ih =>
    obtain ⟨ha, hb⟩ := Elt _ _ h
    exact h4 _ hb _ _ hi hj (h2 _ _ ha hb h) (ih hb hj)
end
end Go.Proofs.Ytikedgpcgacgoaa
