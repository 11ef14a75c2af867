import Derived.Test.YtdbbaopgmapmaaaLp
set_option linter.unusedSimpArgs false
set_option linter.unusedVariables false
namespace Go.Proofs.Ytdbbaopgmapmaaa
open Go Go.Hm
/-! ### The document's parts: of each state, and of none (the last one) -/
def ixI (n : Nat) (a : Int) : Int := if a < 0 then n else a
def stI (n k : Nat) : Int := if k < n then k else -1
def getR (p : List Int) (n : Nat) (a : Int) : Int := p.getD (ixI n a).toNat 0
def keyQ (nx p : List Int) (n : Nat) (a : Int) : List Int := getR p n a :: (List.range 256).map fun c => getR p n (toV nx a c)
theorem ixI_st {n k : Nat} (h : k ≤ n) : ixI n (stI n k) = k := by
  unfold ixI stI
  by_cases hk : k < n
  · rw [if_pos hk, if_neg (by omega)]
  · rw [if_neg hk, if_pos (by omega)]; omega
theorem stI_in {rl : List Int} {k : Nat} : InS rl (stI rl.length k) := by
  unfold stI InS; split <;> omega
theorem ixI_b {rl : List Int} {a : Int} (h : InS rl a) : 0 ≤ ixI rl.length a ∧ (ixI rl.length a).toNat ≤ rl.length := by
  unfold ixI; have := h.1; have := h.2; split <;> omega
theorem stI_ix {rl : List Int} {a : Int} (h : InS rl a) : stI rl.length (ixI rl.length a).toNat = a := by
  unfold ixI stI; have := h.1; have := h.2
  by_cases ha : a < 0
  · rw [if_pos ha, if_neg (by omega)]; omega
  · rw [if_neg ha, if_pos (by omega)]; omega
theorem getR_st {p : List Int} {n k : Nat} (h : k ≤ n) : getR p n (stI n k) = p.getD k 0 := by
  unfold getR; rw [ixI_st h, Int.toNat_natCast]
theorem keyQ_eq {nx p : List Int} {n : Nat} {a b : Int} : keyQ nx p n a = keyQ nx p n b ↔ getR p n a = getR p n b ∧ ∀ c : UInt8, getR p n (toV nx a c.toNat) = getR p n (toV nx b c.toNat) := by
  unfold keyQ
  constructor
  · intro h
    obtain ⟨h1, h2⟩ := List.cons.inj h
    refine ⟨h1, fun c => ?_⟩
    have := congrArg (fun l => l[c.toNat]?) h2
    simp only [List.getElem?_map, List.getElem?_range c.toNat_lt, Option.map_some, Option.some.injEq] at this
    exact this
  · rintro ⟨h1, h2⟩
    rw [h1]
    congr 1
    refine List.map_congr_left fun c hc => ?_
    have := h2 (UInt8.ofNat c)
    rw [show (UInt8.ofNat c).toNat = c by rw [UInt8.toNat_ofNat', Nat.mod_eq_of_lt (by have := List.mem_range.1 hc; omega)]] at this
    exact this
/-- A round: which ones came first, the parts. -/
def stepG (K : Nat → List Int) (s : List Int × List Int) (i : Nat) : List Int × List Int :=
  match findK (K i) (s.1.map fun f => K f.toNat) 0 with
  | some k => (s.1, s.2 ++ [(k : Int)])
  | none => (s.1 ++ [(i : Int)], s.2 ++ [(s.1.length : Int)])
def roundG (K : Nat → List Int) (i : Nat) : List Int × List Int := (List.range i).foldl (stepG K) ([], [])
def roundQ (nx p : List Int) (n i : Nat) : List Int × List Int := roundG (fun k => keyQ nx p n (stI n k)) i
def partQ (nx : List Int) (n : Nat) : Nat → List Int → Nat → List Int
  | 0, p, _ => p
  | f + 1, p, c => if (roundQ nx p n (n + 1)).1.length = c then (roundQ nx p n (n + 1)).2 else partQ nx n f (roundQ nx p n (n + 1)).2 (roundQ nx p n (n + 1)).1.length
def P0Q (rl : List Int) : List Int := (rl.map fun r => r + 1) ++ [0]
def partR (nx rl : List Int) : List Int := partQ nx rl.length (rl.length + 3) (P0Q rl) 0
theorem roundG_succ (K : Nat → List Int) (i : Nat) : roundG K (i + 1) = stepG K (roundG K i) i := by
  unfold roundG; rw [List.range_succ, List.foldl_append]; rfl
theorem roundQ_succ (nx p : List Int) (n i : Nat) : roundQ nx p n (i + 1) = stepG (fun k => keyQ nx p n (stI n k)) (roundQ nx p n i) i := roundG_succ _ _
/-- What is kept in a round. -/
structure RG (K : Nat → List Int) (i : Nat) (s : List Int × List Int) : Prop where
  len : s.2.length = i
  fl : s.1.length ≤ i
  fb : ∀ f ∈ s.1, 0 ≤ f ∧ f < i
  nd : (s.1.map fun f => K f.toNat).Nodup
  get : ∀ j, j < i → ∃ k : Nat, s.2[j]? = some (k : Int) ∧ (s.1.map fun f => K f.toNat)[k]? = some (K j)
  occ : ∀ k : Nat, k < s.1.length → ∃ j, j < i ∧ s.2[j]? = some (k : Int)
theorem roundG_ok (K : Nat → List Int) : ∀ i, RG K i (roundG K i)
  | 0 => ⟨rfl, Nat.le_refl _, fun f hf => by simp [roundG] at hf, by simp [roundG], fun j hj => by omega, fun k hk => by simp [roundG] at hk⟩
  | i + 1 => by
    have h := roundG_ok K i
    rw [roundG_succ]
    obtain ⟨⟨F, q⟩, hs⟩ : ∃ s, roundG K i = s := ⟨_, rfl⟩
    rw [hs] at h ⊢
    have h1 : q.length = i := h.len
    have h2 : F.length ≤ i := h.fl
    have old : ∀ (v : Int) j, j < i → (q ++ [v])[j]? = q[j]? := fun v j hj => List.getElem?_append_left (by omega)
    have new : ∀ (v : Int), (q ++ [v])[i]? = some v := fun v => by rw [← h1, List.getElem?_append_right (Nat.le_refl _)]; simp
    unfold stepG
    cases hf : findK (K i) (F.map fun f => K f.toNat) 0 with
    | some k =>
      obtain ⟨_, k2, k3⟩ := findK_lt _ _ _ hf
      simp only [hf]
      refine ⟨by simp [h1], by show F.length ≤ i + 1; omega, fun f hf => by have := h.fb f hf; omega, h.nd, fun j hj => ?_, fun m hm => ?_⟩
      · by_cases e : j < i
        · obtain ⟨m, m1, m2⟩ := h.get j e
          exact ⟨m, (old _ _ e).trans m1, m2⟩
        · obtain rfl : j = i := by omega
          exact ⟨k, new _, by rw [Nat.sub_zero] at k3; exact k3⟩
      · obtain ⟨j, j1, j2⟩ := h.occ m hm
        exact ⟨j, by omega, (old _ _ j1).trans j2⟩
    | none =>
      have hn := findK_none _ _ hf
      have hi : K ((i : Int)).toNat = K i := by rw [Int.toNat_natCast]
      simp only [hf]
      refine ⟨by simp [h1], by simp; omega, fun f hf => ?_, ?_, fun j hj => ?_, fun m hm => ?_⟩
      · rcases List.mem_append.1 hf with hf | hf
        · have := h.fb f hf; omega
        · obtain rfl := List.mem_singleton.1 hf; omega
      · rw [List.map_append, List.map_cons, List.map_nil, List.nodup_append]
        refine ⟨h.nd, by simp, fun a ha b hb e => ?_⟩
        have hb := List.mem_singleton.1 hb
        rw [e, hb, hi] at ha
        exact hn ha
      · by_cases e : j < i
        · obtain ⟨m, m1, m2⟩ := h.get j e
          refine ⟨m, (old _ _ e).trans m1, ?_⟩
          rw [List.map_append, List.getElem?_append_left (lt_of_get m2)]; exact m2
        · obtain rfl : j = i := by omega
          refine ⟨F.length, new _, ?_⟩
          rw [List.map_append, List.map_cons, List.map_nil, List.getElem?_append_right (by simp)]
          simp [hi]
      · simp only [List.length_append, List.length_singleton] at hm
        by_cases e : m < F.length
        · obtain ⟨j, j1, j2⟩ := h.occ m e
          exact ⟨j, by omega, (old _ _ j1).trans j2⟩
        · obtain rfl : m = F.length := by omega
          exact ⟨i, by omega, new _⟩
abbrev RQ (nx p : List Int) (n i : Nat) (s : List Int × List Int) : Prop := RG (fun k => keyQ nx p n (stI n k)) i s
theorem roundQ_ok (nx p : List Int) (n i : Nat) : RQ nx p n i (roundQ nx p n i) := roundG_ok _ i
attribute [irreducible] keyQ
/-- Parts that tell no more than what is done. -/
structure QInv (nx rl p : List Int) : Prop where
  len : p.length = rl.length + 1
  sim : ∀ a b, InS rl a → InS rl b → Sim nx rl a nx rl b → getR p rl.length a = getR p rl.length b
  rule : ∀ a b, InS rl a → InS rl b → getR p rl.length a = getR p rl.length b → rulV rl a = rulV rl b
theorem QInv.start {nx rl : List Int} : QInv nx rl (P0Q rl) := by
  have g : ∀ a, InS rl a → getR (P0Q rl) rl.length a = rulV rl a + 1 := fun a ha => by
    unfold getR ixI P0Q
    by_cases h : a < 0
    · rw [if_pos h, Int.toNat_natCast, List.getD_eq_getElem?_getD, List.getElem?_append_right (by simp)]
      unfold rulV
      rw [if_pos h]; simp
    · obtain ⟨k, rfl⟩ := Int.eq_ofNat_of_zero_le (by omega : 0 ≤ a)
      have hk : k < rl.length := by have := ha.2; omega
      rw [if_neg h, Int.toNat_natCast, List.getD_eq_getElem?_getD, List.getElem?_append_left (by simpa using hk), List.getElem?_map, List.getElem?_eq_getElem hk, rulV_nat hk]; rfl
  refine ⟨by simp [P0Q], fun a b ha hb hs => ?_, fun a b ha hb he => ?_⟩
  · rw [g a ha, g b hb]
    have := hs []
    rw [rnV_nil, rnV_nil] at this
    rw [this]
  · rw [g a ha, g b hb] at he; omega
theorem roundQ_iff {nx rl p : List Int} {a b : Int} (ha : InS rl a) (hb : InS rl b) : getR (roundQ nx p rl.length (rl.length + 1)).2 rl.length a = getR (roundQ nx p rl.length (rl.length + 1)).2 rl.length b ↔ keyQ nx p rl.length a = keyQ nx p rl.length b := by
  have h := roundQ_ok nx p rl.length (rl.length + 1)
  have ia := ixI_b ha
  have ib := ixI_b hb
  obtain ⟨k, k1, k2⟩ := h.get (ixI rl.length a).toNat (by omega)
  obtain ⟨m, m1, m2⟩ := h.get (ixI rl.length b).toNat (by omega)
  rw [stI_ix ha] at k2
  rw [stI_ix hb] at m2
  unfold getR
  rw [getD_some k1, getD_some m1]
  constructor
  · intro e
    obtain rfl : k = m := by omega
    rw [k2] at m2
    exact Option.some.inj m2
  · intro e
    rw [e] at k2
    rw [nodup_get h.nd k2 m2]
theorem QInv.next {nx rl p : List Int} (ok : TOk nx rl) (h : QInv nx rl p) : QInv nx rl (roundQ nx p rl.length (rl.length + 1)).2 := by
  refine ⟨(roundQ_ok nx p rl.length (rl.length + 1)).len, fun a b ha hb hs => ?_, fun a b ha hb he => ?_⟩
  · rw [roundQ_iff ha hb, keyQ_eq]
    exact ⟨h.sim a b ha hb hs, fun c => h.sim _ _ (toV_in ok ha c) (toV_in ok hb c) (hs.step c)⟩
  · rw [roundQ_iff ha hb, keyQ_eq] at he
    exact h.rule a b ha hb he.1
def PartOkR (nx rl p : List Int) : Prop := ∀ a b, InS rl a → InS rl b → (getR p rl.length a = getR p rl.length b ↔ Sim nx rl a nx rl b)
theorem partQ_stable {nx rl p : List Int} (ok : TOk nx rl) (h : QInv nx rl p) (op : ∀ k : Nat, k < (roundQ nx p rl.length (rl.length + 1)).1.length → ∃ j, j < rl.length + 1 ∧ p[j]? = some (k : Int)) (pb : ∀ (j : Nat) (x : Int), p[j]? = some x → 0 ≤ x) : PartOkR nx rl (roundQ nx p rl.length (rl.length + 1)).2 := by
  have hn := h.next ok
  have hq := roundQ_ok nx p rl.length (rl.length + 1)
  have hl := h.len
  obtain ⟨q, hqe⟩ : ∃ q, (roundQ nx p rl.length (rl.length + 1)).2 = q := ⟨_, rfl⟩
  have iff : ∀ a b, InS rl a → InS rl b → (getR q rl.length a = getR q rl.length b ↔ keyQ nx p rl.length a = keyQ nx p rl.length b) := fun a b ha hb => by rw [← hqe]; exact roundQ_iff ha hb
  rw [hqe] at hn ⊢
  have hq2 := hq.len
  rw [hqe] at hq2
  have st : ∀ a b, InS rl a → InS rl b → getR p rl.length a = getR p rl.length b → getR q rl.length a = getR q rl.length b := fun a b ha hb he => by
    have ia := ixI_b ha
    have ib := ixI_b hb
    have nn : ∀ j, j < rl.length + 1 → 0 ≤ p.getD j 0 := fun j hj => by
      rw [List.getD_eq_getElem?_getD, List.getElem?_eq_getElem (by omega)]
      exact pb j _ (List.getElem?_eq_getElem (by omega))
    have nq : ∀ j, j < rl.length + 1 → ∃ k : Nat, q.getD j 0 = (k : Int) ∧ k < (roundQ nx p rl.length (rl.length + 1)).1.length := fun j hj => by
      obtain ⟨k, k1, k2⟩ := hq.get j hj
      rw [hqe] at k1
      have := lt_of_get k2
      rw [List.length_map] at this
      exact ⟨k, getD_some k1, this⟩
    refine pig (n := rl.length + 1) (c := (roundQ nx p rl.length (rl.length + 1)).1.length) (p := fun j => p.getD j 0) (q := fun j => q.getD j 0) (fun j hj _ => ?_) (fun k hk => ?_) (fun k hk => ?_) (fun j k hj hk _ he => ?_) (fun j hj => ?_) (j := (ixI rl.length a).toNat) (k := (ixI rl.length b).toNat) (by omega) (by omega) (nn _ (by omega)) he
    · obtain ⟨k, h1, h2⟩ := nq j hj; omega
    · obtain ⟨j, j1, j2⟩ := hq.occ k hk
      rw [hqe] at j2
      exact ⟨j, j1, getD_some j2⟩
    · obtain ⟨j, j1, j2⟩ := op k hk
      exact ⟨j, j1, getD_some j2⟩
    · have h1 := (iff (stI rl.length j) (stI rl.length k) stI_in stI_in).1 (by rw [getR_st (by omega), getR_st (by omega)]; exact he)
      have := (keyQ_eq.1 h1).1
      rw [getR_st (by omega), getR_st (by omega)] at this
      exact this
    · obtain ⟨k, h1, h2⟩ := nq j hj
      have := nn j hj
      omega
  intro a b ha hb
  constructor
  · intro he l
    induction l generalizing a b with
    | nil => rw [rnV_nil, rnV_nil]; exact hn.rule a b ha hb he
    | cons c l ih =>
      rw [rnV_cons, rnV_cons]
      have := (keyQ_eq.1 ((iff a b ha hb).1 he)).2 c
      exact ih _ _ (toV_in ok ha c) (toV_in ok hb c) (st _ _ (toV_in ok ha c) (toV_in ok hb c) this)
  · exact fun hs => hn.sim a b ha hb hs
theorem roundQ_ge {nx p : List Int} {n c : Nat} (ho : ∀ k : Nat, k < c → ∃ j, j < n + 1 ∧ p[j]? = some (k : Int)) : c ≤ (roundQ nx p n (n + 1)).1.length := by
  have h := roundQ_ok nx p n (n + 1)
  have nd : ((List.range c).map fun k : Nat => (k : Int)).Nodup := by
    rw [List.nodup_iff_pairwise_ne, List.pairwise_map]
    exact (List.nodup_iff_pairwise_ne.1 List.nodup_range).imp fun h e => h (by omega)
  have sub : ((List.range c).map fun k : Nat => (k : Int)) ⊆ ((roundQ nx p n (n + 1)).1.map fun f => keyQ nx p n (stI n f.toNat)).map fun k => k.headD 0 := by
    intro x hx
    obtain ⟨k, hk, rfl⟩ := List.mem_map.1 hx
    obtain ⟨j, h1, h2⟩ := ho k (List.mem_range.1 hk)
    obtain ⟨m, m1, m2⟩ := h.get j h1
    refine List.mem_map.2 ⟨_, List.mem_of_getElem? m2, ?_⟩
    rw [show (keyQ nx p n (stI n j)).headD 0 = getR p n (stI n j) by unfold keyQ; rfl, getR_st (by omega), getD_some h2]
  have := List.Nodup.length_le_of_subset nd sub
  simpa using this
theorem partQ_ok {nx rl : List Int} (ok : TOk nx rl) : ∀ (f : Nat) (p : List Int) (c : Nat), QInv nx rl p → c ≤ rl.length + 1 → rl.length + 3 ≤ c + f → (c = 0 ∨ ∀ (j : Nat) (x : Int), p[j]? = some x → 0 ≤ x) → (∀ k : Nat, k < c → ∃ j, j < rl.length + 1 ∧ p[j]? = some (k : Int)) → PartOkR nx rl (partQ nx rl.length f p c)
  | 0, p, c, h, h1, h2, _, _ => by omega
  | f + 1, p, c, h, h1, h2, h3, ho => by
    have hr := roundQ_ok nx p rl.length (rl.length + 1)
    have hpos : 0 < (roundQ nx p rl.length (rl.length + 1)).1.length := by
      obtain ⟨k, _, k2⟩ := hr.get 0 (by omega)
      have := lt_of_get k2
      rw [List.length_map] at this; omega
    simp only [partQ]
    split
    · rename_i he
      exact partQ_stable ok h (fun k hk => ho k (by omega)) (h3.resolve_left (by omega))
    · rename_i he
      have hge := roundQ_ge (nx := nx) (p := p) (n := rl.length) ho
      refine partQ_ok ok f _ _ (h.next ok) hr.fl (by omega) (.inr fun j x hx => ?_) (fun k hk => ?_)
      · have hj := lt_of_get hx
        rw [hr.len] at hj
        obtain ⟨k, k1, _⟩ := hr.get j hj
        rw [hx] at k1
        rw [Option.some.inj k1]; omega
      · obtain ⟨j, j1, j2⟩ := hr.occ k hk
        exact ⟨j, j1, j2⟩
theorem partR_ok {nx rl : List Int} (ok : TOk nx rl) : PartOkR nx rl (partR nx rl) := by
  unfold partR
  exact partQ_ok ok _ _ 0 QInv.start (by omega) (by omega) (.inl rfl) (fun k hk => by omega)
/-! ### The document's least table -/
def deadR (p : List Int) (n : Nat) (t : Int) : Bool := decide (getR p n t = getR p n (-1))
theorem Cl.ref {nx rl p : List Int} (ok : TOk nx rl) (h : PartOkR nx rl p) : Cl nx rl (deadR p rl.length) (getR p rl.length) := by
  refine ⟨fun t ht => ?_, fun a b ha ha2 hb hb2 => h a b ⟨by omega, ha2⟩ ⟨by omega, hb2⟩⟩
  unfold deadR
  rw [decide_eq_true_eq]
  exact h t (-1) ht ⟨by omega, by omega⟩
def leastR (nx rl p : List Int) : List Int × List Int := leX (deadR p rl.length) (getR p rl.length) nx (rl.length + 1) [0] [] 0
theorem leastR_eq {nx rl : List Int} (hc : chk nx rl = true) : (leastR nx rl (partR nx rl)).2 = lN nx rl ∧ ruleL rl (leastR nx rl (partR nx rl)).1 = lR nx rl := by
  obtain ⟨ok, _⟩ := chk_ok hc
  obtain ⟨h1, h2⟩ := least_same ok ok (Cl.ref ok (partR_ok ok)) (Cl.prog (partM_ok ok)) (Sim.refl _ _ _)
  exact ⟨h1, h2⟩
theorem partQ_len (nx : List Int) (n : Nat) : ∀ (f : Nat) (p : List Int) (c : Nat), p.length = n + 1 → (partQ nx n f p c).length = n + 1
  | 0, _, _, h => h
  | f + 1, p, c, h => by
    have h2 := (roundQ_ok nx p n (n + 1)).len
    simp only [partQ]
    split
    · exact h2
    · exact partQ_len nx n f _ _ h2
theorem partR_len (nx rl : List Int) : (partR nx rl).length = rl.length + 1 := partQ_len nx _ _ _ _ (by simp [P0Q])
end Go.Proofs.Ytdbbaopgmapmaaa
