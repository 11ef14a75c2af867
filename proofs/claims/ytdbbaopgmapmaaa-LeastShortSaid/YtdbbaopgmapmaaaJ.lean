import Derived.Test.YtdbbaopgmapmaaaI
set_option linter.unusedSimpArgs false
set_option linter.unusedVariables false
namespace Go.Proofs.Ytdbbaopgmapmaaa
open Go Go.Hm

theorem ints_set1 (l : List Int) (k : Nat) (v : Int) : (ints l).set k (I v) = ints (l.set k v) := by simp [ints, List.map_set]
/-- A row that is being filled. -/
def fillR (F : List Int) (k : Nat) : List Int := F.take k ++ List.replicate (F.length - k) 0
theorem fillR_len (F : List Int) (k : Nat) (h : k ≤ F.length) : (fillR F k).length = F.length := by unfold fillR; simp; omega
theorem fillR_set (F : List Int) (k : Nat) (h : k < F.length) : (fillR F k).set k F[k] = fillR F (k + 1) := by
  unfold fillR
  rw [List.set_append, if_neg (by simp; omega)]
  have e : F.length - k = (F.length - (k + 1)) + 1 := by omega
  have z : k - (F.take k).length = 0 := by simp; omega
  rw [z, e, List.replicate_succ, List.set_cons_zero, List.take_succ_eq_append_getElem h, List.append_assoc]; rfl
theorem fillR_0 (F : List Int) : fillR F 0 = List.replicate F.length 0 := by unfold fillR; simp
theorem fillR_all (F : List Int) : fillR F F.length = F := by unfold fillR; simp
theorem ints_rep (n : Nat) : repl n [I 0] = ints (List.replicate n 0) := by simp [repl, ints]
def GI (G : Heap) (p : List Int) : Heap := G ++ [.cells (ints p)]
theorem GI_0 (G : Heap) (p : List Int) : (GI G p)[G.length]? = some (.cells (ints p)) := by unfold GI; simp
theorem GI_len (G : Heap) (p : List Int) : (GI G p).length = G.length + 1 := by unfold GI; simp
theorem GI_upd (G : Heap) (p : List Int) (k : Nat) (v : Int) (h : k < p.length) : (GI G p).set G.length (.cells (replaceAt (ints p) k [I v])) = GI G (p.set k v) := by
  rw [replaceAt_one _ (by rw [ints_len]; exact h), ints_set1]
  unfold GI; rw [Hm.set_at0]; rfl
theorem GI_take {H G : Heap} (h : G.take H.length = H) (p : List Int) : (GI G p).take H.length = H := by
  have hl : H.length ≤ G.length := by
    have := congrArg List.length h
    rw [List.length_take] at this
    omega
  unfold GI
  rw [List.take_append_of_le_length hl, h]
/-- A round's memory: the parts, the keys that are known, the parts that come to be. -/
def RH (G : Heap) (p : List Int) (ks : List (List Int)) (q : List Int) : Heap := G ++ [.cells (ints p), .map (kEnt ks 0), .cells (ints q)]
theorem RH_0 (G : Heap) (p : List Int) (ks : List (List Int)) (q : List Int) : (RH G p ks q)[G.length]? = some (.cells (ints p)) := by unfold RH; simp
theorem RH_1 (G : Heap) (p : List Int) (ks : List (List Int)) (q : List Int) : (RH G p ks q)[G.length + 1]? = some (.map (kEnt ks 0)) := by unfold RH; simp
theorem RH_2 (G : Heap) (p : List Int) (ks : List (List Int)) (q : List Int) : (RH G p ks q)[G.length + 2]? = some (.cells (ints q)) := by unfold RH; simp
theorem RH_len (G : Heap) (p : List Int) (ks : List (List Int)) (q : List Int) : (RH G p ks q).length = G.length + 3 := by unfold RH; simp
theorem RH_upd (G : Heap) (p : List Int) (ks : List (List Int)) (q : List Int) (k : Nat) (v : Int) (h : k < q.length) : (RH G p ks q).set (G.length + 2) (.cells (replaceAt (ints q) k [I v])) = RH G p ks (q.set k v) := by
  rw [replaceAt_one _ (by rw [ints_len]; exact h), ints_set1]
  unfold RH; rw [Hm.set_at]; rfl
theorem RH_map (G : Heap) (p : List Int) (ks ks2 : List (List Int)) (q : List Int) : (RH G p ks q).set (G.length + 1) (.map (kEnt ks2 0)) = RH G p ks2 q := by
  unfold RH; rw [Hm.set_at]; rfl
theorem RH_GI (G : Heap) (p : List Int) (ks : List (List Int)) (q : List Int) : RH G p ks q = GI (G ++ [.cells (ints p), .map (kEnt ks 0)]) q := by unfold RH GI; simp
def P0 (lv : List Bool) (rl : List Int) : List Int := (List.range rl.length).map fun i => if lv.getD i false = true then rl.getD i 0 + 1 else -1
def partG (nx : List Int) : Nat → List Int → Int → List Int
  | 0, p, _ => p
  | f + 1, p, n => if ((roundK nx p p.length).1.length : Int) = n then (roundK nx p p.length).2 else partG nx f (roundK nx p p.length).2 (roundK nx p p.length).1.length
def partM (nx rl : List Int) : List Int := partG nx (rl.length + 3) (P0 (liveM nx rl) rl) (-1)
theorem roundK_take (nx p : List Int) : ∀ (n i : Nat), i ≤ n → (roundK nx p i).2 = (roundK nx p n).2.take i
  | 0, i, h => by
    obtain rfl : i = 0 := by omega
    rfl
  | n + 1, i, h => by
    obtain ⟨l1, _⟩ := roundK_len nx p n
    by_cases hi : i = n + 1
    · subst hi
      rw [List.take_of_length_le (by rw [(roundK_len nx p (n + 1)).1]; exact Nat.le_refl _)]
    · have e : ∃ v, (roundK nx p (n + 1)).2 = (roundK nx p n).2 ++ [v] := by
        rw [roundK_succ]; unfold stepR
        split
        · exact ⟨_, rfl⟩
        · split <;> exact ⟨_, rfl⟩
      obtain ⟨v, e⟩ := e
      rw [e, List.take_append_of_le_length (by omega)]
      exact roundK_take nx p n i (by omega)
theorem roundK_at {nx p : List Int} {n i : Nat} (h : i < n) {v : Int} (e : (roundK nx p (i + 1)).2 = (roundK nx p i).2 ++ [v]) : (roundK nx p n).2[i]'(by rw [(roundK_len nx p n).1]; exact h) = v := by
  have h1 := roundK_take nx p n (i + 1) h
  rw [e] at h1
  have h2 : ((roundK nx p n).2.take (i + 1))[i]? = some v := by
    rw [← h1, List.getElem?_append_right (by rw [(roundK_len nx p i).1]; exact Nat.le_refl _), (roundK_len nx p i).1]; simp
  rw [List.getElem?_take_of_lt (by omega), List.getElem?_eq_getElem (by rw [(roundK_len nx p n).1]; exact h)] at h2
  exact Option.some.inj h2
/-- No fewer parts come to be. -/
theorem round_ge {nx p : List Int} {n : Nat} (ho : ∀ k : Nat, k < n → ∃ j, j < p.length ∧ p.getD j 0 = (k : Int)) : n ≤ (roundK nx p p.length).1.length := by
  have nd : ((List.range n).map fun k : Nat => (k : Int)).Nodup := by
    rw [List.nodup_iff_pairwise_ne, List.pairwise_map]
    exact (List.nodup_iff_pairwise_ne.1 List.nodup_range).imp fun h e => h (by omega)
  have sub : ((List.range n).map fun k : Nat => (k : Int)) ⊆ (roundK nx p p.length).1.map fun k => k.headD 0 := by
    intro x hx
    obtain ⟨k, hk, rfl⟩ := List.mem_map.1 hx
    obtain ⟨j, h1, h2⟩ := ho k (List.mem_range.1 hk)
    rcases roundK_get (nx := nx) (p := p) p.length j h1 with ⟨h3, _⟩ | ⟨_, m, _, h4⟩
    · omega
    · refine List.mem_map.2 ⟨_, List.mem_of_getElem? h4, ?_⟩
      show p.getD j 0 = _
      exact h2
  have := List.Nodup.length_le_of_subset nd sub
  simpa using this
theorem round_bd {nx p : List Int} {x : Int} (h : x ∈ (roundK nx p p.length).2) : -1 ≤ x ∧ x < p.length := by
  obtain ⟨j, hj, rfl⟩ := List.getElem_of_mem h
  obtain ⟨l1, l2⟩ := roundK_len nx p p.length
  rcases roundK_get (nx := nx) (p := p) p.length j (by omega) with ⟨_, h4⟩ | ⟨_, m, h4, h5⟩
  · rw [List.getElem?_eq_getElem hj] at h4
    rw [Option.some.inj h4]; omega
  · rw [List.getElem?_eq_getElem hj] at h4
    rw [Option.some.inj h4]
    have : m < (roundK nx p p.length).1.length := by
      rcases Nat.lt_or_ge m (roundK nx p p.length).1.length with h | h
      · exact h
      · rw [List.getElem?_eq_none h] at h5; cases h5
    omega
theorem round_occ {nx p : List Int} (k : Nat) (h : k < (roundK nx p p.length).1.length) : ∃ j, j < (roundK nx p p.length).2.length ∧ (roundK nx p p.length).2.getD j 0 = (k : Int) := by
  obtain ⟨j, h1, h2, _⟩ := roundK_from (nx := nx) (p := p) p.length k _ (List.getElem?_eq_getElem h)
  refine ⟨j, by rw [(roundK_len nx p p.length).1]; exact h1, ?_⟩
  rw [List.getD_eq_getElem?_getD, h2]; rfl
end Go.Proofs.Ytdbbaopgmapmaaa
