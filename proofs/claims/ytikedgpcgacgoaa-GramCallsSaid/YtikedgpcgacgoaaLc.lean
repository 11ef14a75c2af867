import Derived.Test.YtikedgpcgacgoaaLb
set_option linter.unusedSimpArgs false
set_option linter.unusedVariables false
namespace Go.Proofs.Ytikedgpcgacgoaa
open Go Go.Hm

/-! ### Rounds -/
def rdK (n l s : Nat) (o : List Bool) (m : Nat) : List Bool := o.set (l * n + m) (o.getD (l * n + m) false || o.getD (s * n + m) false)
def rdS (n l : Nat) (o : List Bool) (s : Nat) : List Bool := (List.range n).foldl (rdK n l s) (o.set (l * n + s) true)
def rdP (n : Nat) (t : Int) (null : List Bool) (o : List Bool) (p : Pr) : List Bool := (bgL t null p.r).foldl (rdS n p.l.toNat) o
def rdM (n : Nat) (t : Int) (null : List Bool) (ps : List Pr) : List Bool := itF (fun o => ps.foldl (rdP n t null) o) (n + 1) (List.replicate (n * n) false)
theorem rdK_len (n l s : Nat) (o : List Bool) (m : Nat) : (rdK n l s o m).length = o.length := by simp [rdK]
theorem rdS_len (n l : Nat) (o : List Bool) (s : Nat) : (rdS n l o s).length = o.length := by
  unfold rdS
  rw [foldl_len (fun o m => rdK_len n l s o m)]
  simp
theorem rdP_len (n : Nat) (t : Int) (null : List Bool) (o : List Bool) (p : Pr) : (rdP n t null o p).length = o.length := foldl_len (fun o s => rdS_len n p.l.toNat o s) _ _
theorem rdR_len (n : Nat) (t : Int) (null : List Bool) (ps : List Pr) (o : List Bool) : (ps.foldl (rdP n t null) o).length = o.length := foldl_len (fun o p => rdP_len n t null o p) _ _
theorem rdM_len (n : Nat) (t : Int) (null : List Bool) (ps : List Pr) : (rdM n t null ps).length = n * n := by
  unfold rdM
  rw [itF_len (fun o => rdR_len n t null ps o)]
  simp
theorem tr_set_v {o : List Bool} {i j : Nat} {v : Bool} (h : tr o j) (hv : i = j → v = true) : tr (o.set i v) j := by
  by_cases hij : i = j
  · rw [hv hij]; exact tr_set h
  · unfold tr at *
    rw [List.getD_eq_getElem?_getD] at *
    rw [List.getElem?_set_ne hij]
    exact h
theorem rdK_le (n l s : Nat) (o : List Bool) (m : Nat) : Le o (rdK n l s o m) := fun i h => tr_set_v h fun e => by
  subst e
  unfold tr at h
  rw [h, Bool.true_or]
theorem foldl_le {α : Type} {f : List Bool → α → List Bool} (h : ∀ o x, Le o (f o x)) (l : List α) (o : List Bool) : Le o (l.foldl f o) :=
  foldl_ind (fun o' => Le o o') l o (fun o' x _ h' i hi => h o' x i (h' i hi)) fun _ h => h
theorem rdS_le (n l : Nat) (o : List Bool) (s : Nat) : Le o (rdS n l o s) := fun i h => foldl_le (fun o m => rdK_le n l s o m) _ _ i (tr_set h)
theorem rdP_le (n : Nat) (t : Int) (null : List Bool) (o : List Bool) (p : Pr) : Le o (rdP n t null o p) := foldl_le (fun o s => rdS_le n p.l.toNat o s) _ _
section
variable {n : Nat} {t : Int} {null : List Bool} {ps : List Pr}
theorem rdR_sound (ok : PsOk t n ps) (o : List Bool) (ho : o.length = n * n) (h : ∀ i j, j < n → Mx n o i j → Path (Edge t null ps) i j) : ∀ i j, j < n → Mx n (ps.foldl (rdP n t null) o) i j → Path (Edge t null ps) i j := by
  have := foldl_ind (f := rdP n t null) (fun o => o.length = n * n ∧ ∀ i j, j < n → Mx n o i j → Path (Edge t null ps) i j) ps o (fun o p hp ho => ?_) ⟨ho, h⟩
  · exact this.2
  · obtain ⟨hl, hr⟩ := ok p hp
    refine foldl_ind (f := rdS n p.l.toNat) (fun o => o.length = n * n ∧ ∀ i j, j < n → Mx n o i j → Path (Edge t null ps) i j) _ o (fun o s hs ho => ?_) ho
    have hsn := bgL_lt hr s hs
    have he : Edge t null ps p.l.toNat s := ⟨p, hp, rfl, hs⟩
    unfold rdS
    refine foldl_ind (f := rdK n p.l.toNat s) (fun o => o.length = n * n ∧ ∀ i j, j < n → Mx n o i j → Path (Edge t null ps) i j) _ _ (fun o k hk ho => ?_) ⟨by rw [List.length_set]; exact ho.1, fun i j hj h => ?_⟩
    · have hk := List.mem_range.1 hk
      refine ⟨by rw [rdK_len]; exact ho.1, fun i j hj h => ?_⟩
      unfold rdK at h
      rw [Mx_set ho.1 hl hk hj] at h
      split at h
      · rename_i hij
        obtain ⟨rfl, rfl⟩ := hij
        rw [Bool.or_eq_true] at h
        rcases h with h | h
        · exact ho.2 _ _ hj h
        · exact .cons he (ho.2 _ _ hj h)
      · exact ho.2 i j hj h
    · rw [Mx_set ho.1 hl hsn hj] at h
      split at h
      · rename_i hij
        obtain ⟨rfl, rfl⟩ := hij
        exact .one he
      · exact ho.2 i j hj h
theorem rdR_more (ok : PsOk t n ps) (o : List Bool) (ho : o.length = n * n) {l s k : Nat} (he : Edge t null ps l s) (hk : k < n) (h : k = s ∨ Mx n o s k) : Mx n (ps.foldl (rdP n t null) o) l k := by
  obtain ⟨p, hp, rfl, hs⟩ := he
  obtain ⟨hl, hr⟩ := ok p hp
  have hsn := bgL_lt hr s hs
  refine foldl_at (f := rdP n t null) (fun o' => o'.length = n * n ∧ Le o o') (fun o' => Mx n o' p.l.toNat k) ps o p hp ⟨ho, fun _ h => h⟩ (fun o' q _ h => ⟨by rw [rdP_len]; exact h.1, fun i hi => rdP_le n t null o' q i (h.2 i hi)⟩) (fun o' ho' => ?_) (fun o' q _ _ h => rdP_le n t null o' q _ h)
  refine foldl_at (f := rdS n p.l.toNat) (fun o' => o'.length = n * n ∧ Le o o') (fun o' => Mx n o' p.l.toNat k) _ o' s hs ho' (fun o' q _ h => ⟨by rw [rdS_len]; exact h.1, fun i hi => rdS_le n p.l.toNat o' q i (h.2 i hi)⟩) (fun o' ho' => ?_) (fun o' q _ _ h => rdS_le n p.l.toNat o' q _ h)
  unfold rdS
  have hset : (o'.set (p.l.toNat * n + s) true).length = n * n := by rw [List.length_set]; exact ho'.1
  rcases h with rfl | h
  · refine foldl_le (fun o m => rdK_le n p.l.toNat k o m) _ _ _ ?_
    exact tr_set_self (by rw [ho'.1]; exact ix_lt hl hk)
  · refine foldl_at (f := rdK n p.l.toNat s) (fun o'' => o''.length = n * n ∧ Mx n o'' s k) (fun o'' => Mx n o'' p.l.toNat k) _ _ k (List.mem_range.2 hk) ⟨hset, tr_set (ho'.2 _ h)⟩ (fun o'' q _ h => ⟨by rw [rdK_len]; exact h.1, rdK_le n p.l.toNat s o'' q _ h.2⟩) (fun o'' ho'' => ?_) (fun o'' q _ _ h => rdK_le n p.l.toNat s o'' q _ h)
    unfold rdK
    rw [Mx_set ho''.1 hl hk hk, if_pos ⟨rfl, rfl⟩]
    have := ho''.2
    unfold Mx tr at this
    rw [this, Bool.or_true]
def PathN (E : Nat → Nat → Prop) : Nat → Nat → Nat → Prop
  | 0, _, _ => False
  | r + 1, i, j => ∃ s, E i s ∧ (s = j ∨ PathN E r s j)
theorem PathN.more {E : Nat → Nat → Prop} : ∀ {r i j : Nat}, PathN E r i j → PathN E (r + 1) i j
  | r + 1, i, j, ⟨s, h1, h2⟩ => ⟨s, h1, h2.imp (fun h => h) fun h => h.more⟩
theorem rdIt (ok : PsOk t n ps) : ∀ r, (itF (fun o => ps.foldl (rdP n t null) o) r (List.replicate (n * n) false)).length = n * n ∧ ∀ i j, j < n → PathN (Edge t null ps) r i j → Mx n (itF (fun o => ps.foldl (rdP n t null) o) r (List.replicate (n * n) false)) i j
  | 0 => ⟨by simp [itF], fun i j _ h => h.elim⟩
  | r + 1 => by
    obtain ⟨h1, h2⟩ := rdIt ok r
    rw [itF_succ]
    refine ⟨by rw [rdR_len]; exact h1, fun i j hj ⟨s, he, hs⟩ => ?_⟩
    refine rdR_more ok _ h1 he hj (hs.imp (fun h => h.symm) fun h => h2 s j hj h)
/-- A vector that gets more. -/
theorem cntF_le_of : ∀ {o o' : List Bool}, o.length = o'.length → (∀ i, tr o i → tr o' i) → o' = o ∨ cntF o' < cntF o
  | [], [], _, _ => .inl rfl
  | [], _ :: _, h, _ => by simp at h
  | _ :: _, [], h, _ => by simp at h
  | a :: o, b :: o', h, hle => by
    have ih := cntF_le_of (o := o) (o' := o') (by simpa using h) fun i hi => by
      have := hle (i + 1) (by unfold tr at *; simpa using hi)
      unfold tr at *
      simpa using this
    have h0 : a = true → b = true := fun ha => by
      have := hle 0 (by unfold tr; simpa using ha)
      unfold tr at this
      simpa using this
    simp only [cntF]
    have hle2 : cntF o' ≤ cntF o := by
      rcases ih with h | h
      · rw [h]; exact Nat.le_refl _
      · omega
    cases a with
    | true =>
      rw [h0 rfl]
      rcases ih with h | h
      · rw [h]; exact .inl rfl
      · exact .inr (by omega)
    | false =>
      cases b with
      | true => exact .inr (by simp; omega)
      | false =>
        rcases ih with h | h
        · rw [h]; exact .inl rfl
        · exact .inr (by omega)
open Classical in
noncomputable def colF (E : Nat → Nat → Prop) (n j : Nat) (v : List Bool) : List Bool := (List.range n).map fun i => v.getD i false || decide (∃ s, E i s ∧ (s = j ∨ tr v s))
theorem colF_tr {E : Nat → Nat → Prop} {n j : Nat} {v : List Bool} (i : Nat) : tr (colF E n j v) i ↔ i < n ∧ (tr v i ∨ ∃ s, E i s ∧ (s = j ∨ tr v s)) := by
  unfold tr colF
  rw [List.getD_eq_getElem?_getD, List.getElem?_map]
  rcases Nat.lt_or_ge i n with h | h
  · rw [List.getElem?_range h]
    simp only [Option.map_some, Option.getD_some, Bool.or_eq_true, decide_eq_true_eq, h, true_and]
  · rw [List.getElem?_eq_none (by simpa using h)]
    simp; omega
theorem path_short {E : Nat → Nat → Prop} {n : Nat} (hE : ∀ a b, E a b → a < n ∧ b < n) {i j : Nat} (h : Path E i j) : PathN E n i j := by
  have hg : ∀ v : List Bool, v.length = n → colF E n j v = v ∨ cntF (colF E n j v) < cntF v := fun v hv =>
    cntF_le_of (by unfold colF; simpa using hv) fun i hi => (colF_tr i).2 ⟨by have := tr_lt hi; omega, .inl hi⟩
  have hlen : ∀ v, (colF E n j v).length = n := fun v => by unfold colF; simp
  -- so many rounds are fixed
  have fixd : ∀ (m : Nat) (v : List Bool), v.length = n → cntF v ≤ m → colF E n j (itF (colF E n j) m v) = itF (colF E n j) m v := by
    intro m
    induction m with
    | zero =>
      intro v hv hm
      rcases hg v hv with h | h
      · exact h
      · omega
    | succ m ih =>
      intro v hv hm
      simp only [itF]
      rcases hg v hv with h | h
      · rw [h]
        rw [itF_fix h]; exact h
      · exact ih _ (hlen v) (by omega)
  have snd : ∀ r i, tr (itF (colF E n j) r (List.replicate n false)) i → PathN E r i j := by
    intro r
    induction r with
    | zero => intro i hi; exact absurd hi (rep_not _ _)
    | succ r ih =>
      intro i hi
      rw [itF_succ, colF_tr] at hi
      rcases hi.2 with h | ⟨s, h1, h2⟩
      · exact (ih i h).more
      · exact ⟨s, h1, h2.imp (fun h => h) (ih s)⟩
  have hf := fixd n (List.replicate n false) (by simp) (by have := cntF_le (List.replicate n false); simpa using this)
  refine snd n i ?_
  generalize itF (colF E n j) n (List.replicate n false) = F at hf
  induction h with
  | one h =>
    rw [← hf, colF_tr]
    exact ⟨(hE _ _ h).1, .inr ⟨_, h, .inl rfl⟩⟩
  | cons h _ ih =>
    rw [← hf, colF_tr]
    exact ⟨(hE _ _ h).1, .inr ⟨_, h, .inr (ih hg hlen fixd snd hf)⟩⟩
theorem rdM_iff (ok : PsOk t n ps) (i j : Nat) (hj : j < n) : Mx n (rdM n t null ps) i j ↔ Path (Edge t null ps) i j := by
  have Elt : ∀ a b, Edge t null ps a b → a < n ∧ b < n := fun a b ⟨p, hp, h1, h2⟩ => by
    obtain ⟨hl, hr⟩ := ok p hp
    exact ⟨h1 ▸ hl, bgL_lt hr b h2⟩
  constructor
  · intro h
    have : ∀ r, (itF (fun o => ps.foldl (rdP n t null) o) r (List.replicate (n * n) false)).length = n * n ∧ ∀ i j, j < n → Mx n (itF (fun o => ps.foldl (rdP n t null) o) r (List.replicate (n * n) false)) i j → Path (Edge t null ps) i j := by
      intro r
      induction r with
      | zero => exact ⟨by simp [itF], fun i j _ h => absurd h (rep_not _ _)⟩
      | succ r ih =>
        rw [itF_succ]
        exact ⟨by rw [rdR_len]; exact ih.1, rdR_sound ok _ ih.1 ih.2⟩
    exact (this (n + 1)).2 i j hj h
  · intro h
    exact (rdIt ok (n + 1)).2 i j hj (path_short Elt h).more
end
/-- The least that leads to itself. -/
def dgL (n : Nat) (o : List Bool) : Nat → Nat → Int × Bool
  | 0, _ => (0, false)
  | m + 1, i => if o.getD (i * n + i) false = true then ((i : Int), true) else dgL n o m (i + 1)
theorem dgL_eq {n : Nat} {o o' : List Bool} : ∀ (m i : Nat), i + m ≤ n → (∀ i, i < n → (Mx n o i i ↔ Mx n o' i i)) → dgL n o m i = dgL n o' m i
  | 0, _, _, _ => rfl
  | m + 1, i, hi, h => by
    simp only [dgL]
    have := h i (by omega)
    unfold Mx tr at this
    by_cases h1 : o.getD (i * n + i) false = true
    · rw [if_pos h1, if_pos (this.1 h1)]
    · rw [if_neg h1, if_neg (fun h2 => h1 (this.2 h2)), dgL_eq m (i + 1) (by omega) h]
end Go.Proofs.Ytikedgpcgacgoaa
