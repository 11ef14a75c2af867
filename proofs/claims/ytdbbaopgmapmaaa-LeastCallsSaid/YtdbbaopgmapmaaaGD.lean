import Derived.Test.YtdbbaopgmapmaaaO
set_option linter.unusedSimpArgs false
set_option linter.unusedVariables false
namespace Go.Proofs.Ytdbbaopgmapmaaa
open Go Go.Hm
/-! ### Pairs that were come to -/
def pairS (s : Stp) : Int × Int := (s.a, s.b)
def pEnt (Q : List Stp) : List (AV × AV) := Q.map fun s => (.agg [I s.a, I s.b], Bo true)
theorem eqKey_pair (a b c d : Int) : eqKey true [1, 1] (.agg [I a, I b]) (.agg [I c, I d]) = some (decide ((a, b) = (c, d))) := by
  simp only [eqKey, if_true, eqCells, eqScalar]
  by_cases h1 : a = c <;> by_cases h2 : b = d <;> simp [h1, h2]
theorem pair_ok (a b : Int) : keyOk true [1, 1] (.agg [I a, I b]) = true := by
  unfold keyOk; rw [eqKey_pair]; simp
theorem mget_pair (a b : Int) : ∀ Q : List Stp, mget true [1, 1] (.agg [I a, I b]) (pEnt Q) = some (if (a, b) ∈ Q.map pairS then some (Bo true) else none)
  | [] => rfl
  | s :: Q => by
    have ih := mget_pair a b Q
    simp only [pEnt, List.map_cons, mget] at ih ⊢
    rw [eqKey_pair]
    by_cases h : (a, b) = (s.a, s.b)
    · rw [decide_eq_true h, if_pos (by rw [List.mem_cons]; exact .inl h)]
    · rw [decide_eq_false h]
      simp only
      rw [ih]
      by_cases h2 : (a, b) ∈ Q.map pairS
      · rw [if_pos h2, if_pos (List.mem_cons_of_mem _ h2)]
      · rw [if_neg h2, if_neg]
        intro h3
        rcases List.mem_cons.1 h3 with h3 | h3
        · exact h h3
        · exact h2 h3
theorem mset_pair (a b : Int) (c : UInt8) (i : Nat) : ∀ Q : List Stp, (a, b) ∉ Q.map pairS → mset true [1, 1] (.agg [I a, I b]) (Bo true) (pEnt Q) = some (pEnt (Q ++ [⟨a, b, c, i⟩]))
  | [], _ => rfl
  | s :: Q, h => by
    have h1 : ¬ (a, b) = (s.a, s.b) := fun e => h (by rw [List.map_cons, e]; exact List.mem_cons_self ..)
    have ih := mset_pair a b c i Q (fun h2 => h (by rw [List.map_cons]; exact List.mem_cons_of_mem _ h2))
    simp only [pEnt, List.map_cons, List.cons_append, mset] at ih ⊢
    rw [eqKey_pair, decide_eq_false h1]
    simp only
    rw [ih]
/-! ### Going through all pairs, breadth first -/
def exp1 (nx1 nx2 : List Int) (s : Stp) (i : Nat) (Q : List Stp) (c : Nat) : List Stp :=
  if (toV nx1 s.a c, toV nx2 s.b c) ∈ Q.map pairS then Q else Q ++ [⟨toV nx1 s.a c, toV nx2 s.b c, UInt8.ofNat c, i⟩]
def expK (nx1 nx2 : List Int) (s : Stp) (i : Nat) (Q : List Stp) (n : Nat) : List Stp := (List.range n).foldl (exp1 nx1 nx2 s i) Q
theorem expK_succ (nx1 nx2 : List Int) (s : Stp) (i : Nat) (Q : List Stp) (n : Nat) : expK nx1 nx2 s i Q (n + 1) = exp1 nx1 nx2 s i (expK nx1 nx2 s i Q n) n := by
  unfold expK; rw [List.range_succ, List.foldl_append]; rfl
def bfs (nx1 nx2 : List Int) (P : Int → Int → Bool) : Nat → List Stp → Nat → Option (List UInt8)
  | 0, _, _ => none
  | f + 1, Q, i => match Q[i]? with
    | none => none
    | some s => if P s.a s.b = true then some (txF Q i i).reverse else bfs nx1 nx2 P f (expK nx1 nx2 s i Q 256) (i + 1)
/-- What is kept of the steps: each was come to from one ahead by its byte, no pair twice, all in bounds. -/
structure QOk (nx1 nx2 : List Int) (n1 n2 : Nat) (Q : List Stp) : Prop where
  first : Q[0]? = some ⟨0, 0, 0, 0⟩
  nodup : (Q.map pairS).Nodup
  bd : ∀ s ∈ Q, -1 ≤ s.a ∧ s.a < n1 ∧ -1 ≤ s.b ∧ s.b < n2
  from_ : ∀ (k : Nat) t, Q[k]? = some t → k ≠ 0 → t.par < k ∧ ∃ p, Q[t.par]? = some p ∧ t.a = toV nx1 p.a t.by_.toNat ∧ t.b = toV nx2 p.b t.by_.toNat
theorem QOk.len {nx1 nx2 : List Int} {n1 n2 : Nat} {Q : List Stp} (h : QOk nx1 nx2 n1 n2 Q) : Q.length ≤ (n1 + 1) * (n2 + 1) := by
  let cd : Int × Int → Nat := fun x => (x.1 + 1).toNat * (n2 + 1) + (x.2 + 1).toNat
  have nd : ((Q.map pairS).map cd).Nodup := by
    have hn := h.nodup
    rw [List.nodup_iff_pairwise_ne, List.pairwise_map] at hn ⊢
    rw [List.pairwise_map]
    refine List.Pairwise.imp_of_mem ?_ hn
    intro s t hs ht hne he
    have b1 := h.bd s hs
    have b2 := h.bd t ht
    apply hne
    simp only [cd, pairS] at he
    have e1 : (s.b + 1).toNat < n2 + 1 := by omega
    have e2 : (t.b + 1).toNat < n2 + 1 := by omega
    have d1 : ((s.a + 1).toNat * (n2 + 1) + (s.b + 1).toNat) / (n2 + 1) = (s.a + 1).toNat := by
      rw [Nat.mul_comm, Nat.mul_add_div (by omega), Nat.div_eq_of_lt e1]; rfl
    have d2 : ((t.a + 1).toNat * (n2 + 1) + (t.b + 1).toNat) / (n2 + 1) = (t.a + 1).toNat := by
      rw [Nat.mul_comm, Nat.mul_add_div (by omega), Nat.div_eq_of_lt e2]; rfl
    rw [he, d2] at d1
    have ea : s.a = t.a := by omega
    rw [ea] at he
    have eb : s.b = t.b := by omega
    simp only [pairS, ea, eb]
  have sub : (Q.map pairS).map cd ⊆ List.range ((n1 + 1) * (n2 + 1)) := by
    intro x hx
    obtain ⟨y, hy, rfl⟩ := List.mem_map.1 hx
    obtain ⟨s, hs, rfl⟩ := List.mem_map.1 hy
    have b1 := h.bd s hs
    rw [List.mem_range]
    simp only [cd, pairS]
    have e1 : (s.b + 1).toNat < n2 + 1 := by omega
    have e2 : (s.a + 1).toNat ≤ n1 := by omega
    have e3 : (s.a + 1).toNat * (n2 + 1) ≤ n1 * (n2 + 1) := Nat.mul_le_mul_right _ e2
    have e4 : (n1 + 1) * (n2 + 1) = n1 * (n2 + 1) + (n2 + 1) := Nat.succ_mul _ _
    omega
  have := List.Nodup.length_le_of_subset nd sub
  simpa using this
theorem exp1_mono {nx1 nx2 : List Int} {s : Stp} {i : Nat} {Q : List Stp} {c k : Nat} {t : Stp} (h : Q[k]? = some t) : (exp1 nx1 nx2 s i Q c)[k]? = some t := by
  unfold exp1
  split
  · exact h
  · have hk : k < Q.length := by
      rcases Nat.lt_or_ge k Q.length with h2 | h2
      · exact h2
      · rw [List.getElem?_eq_none h2] at h; cases h
    rw [List.getElem?_append_left hk]; exact h
theorem QOk.exp1 {nx1 nx2 rl1 rl2 : List Int} {Q : List Stp} (ok1 : TOk nx1 rl1) (ok2 : TOk nx2 rl2) (h : QOk nx1 nx2 rl1.length rl2.length Q) {i : Nat} {s : Stp} (hi : Q[i]? = some s) {c : Nat} (hc : c < 256) :
    QOk nx1 nx2 rl1.length rl2.length (exp1 nx1 nx2 s i Q c) := by
  have hlt : i < Q.length := by
    rcases Nat.lt_or_ge i Q.length with h2 | h2
    · exact h2
    · rw [List.getElem?_eq_none h2] at hi; cases hi
  have hQi : Q[i] = s := by rw [List.getElem?_eq_getElem hlt] at hi; exact Option.some.inj hi
  have hs := h.bd s (hQi ▸ List.getElem_mem hlt)
  unfold Go.Proofs.Ytdbbaopgmapmaaa.exp1
  split
  · exact h
  · rename_i hn
    have t1 := toV_b ok1 hs.2.1 hc
    have t2 := toV_b ok2 hs.2.2.2 hc
    have hcb : (UInt8.ofNat c).toNat = c := by simp [UInt8.toNat_ofNat, Nat.mod_eq_of_lt hc]
    refine ⟨by rw [List.getElem?_append_left (by omega)]; exact h.first, ?_, ?_, ?_⟩
    · rw [List.map_append, List.nodup_append]
      refine ⟨h.nodup, by simp, ?_⟩
      intro x hx y hy e
      obtain rfl := List.mem_singleton.1 hy
      rw [e] at hx; exact hn hx
    · intro t ht
      rcases List.mem_append.1 ht with ht | ht
      · exact h.bd t ht
      · obtain rfl := List.mem_singleton.1 ht
        exact ⟨t1.1, t1.2, t2.1, t2.2⟩
    · intro k t hk hk0
      by_cases hkQ : k < Q.length
      · rw [List.getElem?_append_left hkQ] at hk
        obtain ⟨p1, p, p2, p3⟩ := h.from_ k t hk hk0
        exact ⟨p1, p, by rw [List.getElem?_append_left (by omega)]; exact p2, p3⟩
      · have hkl : k = Q.length := by
          rcases Nat.lt_or_ge k (Q.length + 1) with h2 | h2
          · omega
          · rw [List.getElem?_eq_none (by simp; omega)] at hk; cases hk
        subst hkl
        rw [List.getElem?_append_right (Nat.le_refl _), Nat.sub_self] at hk
        obtain rfl := Option.some.inj hk
        refine ⟨hlt, s, by rw [List.getElem?_append_left hlt]; exact hi, ?_, ?_⟩
        · show toV nx1 s.a c = toV nx1 s.a (UInt8.ofNat c).toNat
          rw [hcb]
        · show toV nx2 s.b c = toV nx2 s.b (UInt8.ofNat c).toNat
          rw [hcb]
end Go.Proofs.Ytdbbaopgmapmaaa

namespace Go.Proofs.Ytdbbaopgmapmaaa
open Go Go.Hm
/-! ### first's memory: what was seen, the steps, the row of them (the second block of the first step) -/
def qC (M n : Nat) : List AV := (List.range n).map fun k => AV.hp (M + 1 + 2 * k) 4 0
theorem qC_len (M n : Nat) : (qC M n).length = n := by simp [qC]
theorem qC_succ (M n : Nat) : qC M (n + 1) = qC M n ++ [.hp (M + 1 + 2 * n) 4 0] := by simp [qC, List.range_succ]
theorem qC_get {M n k : Nat} (h : k < n) : (qC M n)[k]? = some (.hp (M + 1 + 2 * k) 4 0) := by simp [qC, h]
structure FHp (H0 H : Heap) (Q : List Stp) : Prop where
  low : H.take H0.length = H0
  len : H.length = H0.length + 1 + 2 * Q.length
  map_ : H[H0.length]? = some (.map (pEnt Q))
  row : H[H0.length + 2]? = some (.cells (qC H0.length Q.length))
  chain : Chain H H0.length Q
/-- One step more: what is seen, the step's block, its pointer's, the row. -/
def nextH (H0 H : Heap) (Q : List Stp) (t : Stp) : Heap :=
  List.set ((List.set H H0.length (HB.map (pEnt (Q ++ [t]))) ++ [HB.cells (stpC H0.length Q.length t)]) ++ [HB.cells [.hp (H0.length + 1 + 2 * Q.length) 4 0]]) (H0.length + 2) (HB.cells (qC H0.length (Q.length + 1)))
theorem FHp.next {H0 H : Heap} {Q : List Stp} (h : FHp H0 H Q) (hQ : Q ≠ []) (t : Stp) (hp : t.par < Q.length) : FHp H0 (nextH H0 H Q t) (Q ++ [t]) := by
  obtain ⟨h1, h2, h3, h4, h5⟩ := h
  have hq : 0 < Q.length := List.length_pos_iff.2 hQ
  have hl : (nextH H0 H Q t).length = H0.length + 1 + 2 * (Q ++ [t]).length := by unfold nextH; simp [h2]; omega
  have gt : ∀ j, j < H.length → j ≠ H0.length → j ≠ H0.length + 2 → (nextH H0 H Q t)[j]? = H[j]? := fun j hj ha hb => by
    unfold nextH
    rw [List.getElem?_set_ne (by omega), List.getElem?_append_left (by simp; omega), List.getElem?_append_left (by simp; omega), List.getElem?_set_ne (by omega)]
  refine ⟨?_, hl, ?_, ?_, ?_, ?_⟩
  · refine List.ext_getElem? fun j => ?_
    by_cases hj : j < H0.length
    · rw [List.getElem?_take_of_lt hj, gt j (by omega) (by omega) (by omega)]
      have := congrArg (fun l => l[j]?) h1
      simp only [List.getElem?_take_of_lt hj] at this
      exact this
    · rw [List.getElem?_eq_none (by simp; omega), List.getElem?_eq_none (by omega)]
  · unfold nextH
    rw [List.getElem?_set_ne (by omega), List.getElem?_append_left (by simp; omega), List.getElem?_append_left (by simp; omega), List.getElem?_set_self (by omega)]
  · unfold nextH
    rw [List.getElem?_set_self (by simp; omega)]; simp
  · intro k hk
    have hk : k < Q.length + 1 := by simpa using hk
    by_cases hkQ : k < Q.length
    · rw [gt _ (by omega) (by omega) (by omega), h5.at_ k hkQ, List.getElem_append_left hkQ]
    · obtain rfl : k = Q.length := by omega
      unfold nextH
      rw [List.getElem?_set_ne (by omega), List.getElem?_append_left (by simp; omega), List.getElem?_append_right (by simp; omega)]
      simp [h2]
  · intro k hk hk0
    have hk : k < Q.length + 1 := by simpa using hk
    by_cases hkQ : k < Q.length
    · rw [List.getElem_append_left hkQ]; exact h5.par k hkQ hk0
    · obtain rfl : k = Q.length := by omega
      simp; exact hp
end Go.Proofs.Ytdbbaopgmapmaaa
