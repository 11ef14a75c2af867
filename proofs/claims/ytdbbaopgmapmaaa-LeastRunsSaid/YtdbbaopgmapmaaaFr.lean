import Derived.Test.YtdbbaopgmapmaaaSa
set_option linter.unusedSimpArgs false
set_option linter.unusedVariables false
namespace Go.Proofs.Ytdbbaopgmapmaaa
open Go Go.Hm
/-! ### A table whose first state is another one -/
def swN (i a : Nat) : Nat := if a = 0 then i else if a = i then 0 else a
def swI (i a : Int) : Int := if a = 0 then i else if a = i then 0 else a
def tabI (n : Nat) (f : Nat → Int) : List Int := (List.range n).map f
theorem tabI_len (n : Nat) (f : Nat → Int) : (tabI n f).length = n := by simp [tabI]
theorem tabI_get {n k : Nat} (f : Nat → Int) (h : k < n) : (tabI n f)[k]? = some (f k) := by
  unfold tabI; rw [List.getElem?_map, List.getElem?_range h]; rfl
theorem tabI_ge {n k : Nat} (f : Nat → Int) (h : k < n) : (tabI n f)[k]'(by rw [tabI_len]; exact h) = f k := by
  have := tabI_get f h
  rw [List.getElem?_eq_getElem (by rw [tabI_len]; exact h)] at this
  exact Option.some.inj this
theorem tabI_set {n k : Nat} {f g : Nat → Int} {v : Int} (hk : k < n) (h : ∀ j, j < n → g j = if j = k then v else f j) : (tabI n f).set k v = tabI n g := by
  refine List.ext_getElem? fun j => ?_
  by_cases hj : j < n
  · rw [tabI_get g hj, h j hj]
    by_cases e : j = k
    · subst e; rw [List.getElem?_set_self (by rw [tabI_len]; exact hk), if_pos rfl]
    · rw [List.getElem?_set_ne (fun x => e x.symm), tabI_get f hj, if_neg e]
  · rw [List.getElem?_eq_none (by rw [List.length_set, tabI_len]; omega), List.getElem?_eq_none (by rw [tabI_len]; omega)]
theorem tabI_eq {n : Nat} {f g : Nat → Int} (h : ∀ j, j < n → f j = g j) : tabI n f = tabI n g := by
  unfold tabI
  exact List.map_congr_left fun j hj => h j (List.mem_range.1 hj)
theorem tabI_self (l : List Int) : tabI l.length (fun j => l.getD j 0) = l := by
  refine List.ext_getElem? fun j => ?_
  by_cases hj : j < l.length
  · rw [tabI_get _ hj, List.getD_eq_getElem?_getD, List.getElem?_eq_getElem hj]; rfl
  · rw [List.getElem?_eq_none (by rw [tabI_len]; omega), List.getElem?_eq_none (by omega)]
/-- Two rows have changed places in the first b columns. -/
def frA (nx : List Int) (i b j : Nat) : Int := nx.getD (if j % 256 < b then 256 * swN i (j / 256) + j % 256 else j) 0
def frB (nx : List Int) (i k j : Nat) : Int := if j < k then swI i (frA nx i 256 j) else frA nx i 256 j
def frN (nx : List Int) (i : Nat) : List Int := tabI nx.length fun j => swI i (frA nx i 256 j)
def frR (rl : List Int) (i : Nat) : List Int := tabI rl.length fun j => rl.getD (swN i j) 0
theorem frA_0 (nx : List Int) (i : Nat) : tabI nx.length (frA nx i 0) = nx := by
  rw [← tabI_self nx]
  rw [tabI_len]
  refine tabI_eq fun j hj => ?_
  unfold frA
  rw [if_neg (by omega), tabI_self]
theorem frA_step (nx : List Int) {i b n : Nat} (hb : b < 256) (hi : i < n) (hn : nx.length = 256 * n) : ((tabI nx.length (frA nx i b)).set b (frA nx i b (256 * i + b))).set (256 * i + b) (frA nx i b b) = tabI nx.length (frA nx i (b + 1)) := by
  have d0 : b / 256 = 0 := by omega
  have m0 : b % 256 = b := by omega
  have d1 : (256 * i + b) / 256 = i := by omega
  have m1 : (256 * i + b) % 256 = b := by omega
  have a0 : frA nx i b b = nx.getD b 0 := by unfold frA; rw [if_neg (by omega)]
  have a1 : frA nx i b (256 * i + b) = nx.getD (256 * i + b) 0 := by unfold frA; rw [if_neg (by omega)]
  rw [tabI_set (g := fun j => if j = b then frA nx i b (256 * i + b) else frA nx i b j) (by omega) (fun j _ => rfl)]
  refine tabI_set (by omega) (fun j hj => ?_)
  by_cases e1 : j = 256 * i + b
  · subst e1
    rw [if_pos rfl, a0]
    unfold frA
    rw [m1, d1, if_pos (by omega)]
    unfold swN
    by_cases hi0 : i = 0
    · subst hi0; simp
    · rw [if_neg hi0, if_pos rfl]; simp
  · rw [if_neg e1]
    by_cases e0 : j = b
    · subst e0
      rw [if_pos rfl, a1]
      unfold frA
      rw [m0, d0, if_pos (by omega)]
      unfold swN
      rw [if_pos rfl]
    · rw [if_neg e0]
      unfold frA
      by_cases hm : j % 256 < b
      · rw [if_pos hm, if_pos (by omega)]
      · rw [if_neg hm]
        by_cases hm2 : j % 256 < b + 1
        · rw [if_pos hm2]
          have hjb : j % 256 = b := by omega
          have h0 : j / 256 ≠ 0 := fun h => e0 (by omega)
          have h1 : j / 256 ≠ i := fun h => e1 (by omega)
          unfold swN
          rw [if_neg h0, if_neg h1]
          congr 1; omega
        · rw [if_neg hm2]
theorem swN_lt {i a n : Nat} (hi : i < n) (ha : a < n) : swN i a < n := by unfold swN; split <;> (try split) <;> omega
theorem swN_swN (i a : Nat) : swN i (swN i a) = a := by unfold swN; split <;> (try split) <;> (try split) <;> (try split) <;> omega
theorem swI_nat (i a : Nat) : swI i a = (swN i a : Nat) := by
  unfold swI swN
  by_cases h0 : a = 0
  · subst h0; simp
  · rw [if_neg (by omega), if_neg h0]
    by_cases h1 : a = i
    · subst h1; simp
    · rw [if_neg (by omega), if_neg h1]
theorem swI_neg (i : Nat) : swI i (-1) = -1 := by unfold swI; rw [if_neg (by omega), if_neg (by omega)]
theorem frA_256 (nx : List Int) (i j : Nat) : frA nx i 256 j = nx.getD (256 * swN i (j / 256) + j % 256) 0 := by
  unfold frA; rw [if_pos (by omega)]
/-- What it does. -/
theorem from_sim {nx rl : List Int} (ok : TOk nx rl) {i : Nat} (hi : i < rl.length) : ∀ (l : List UInt8) (a : Nat), a < rl.length → rnV (frN nx i) (frR rl i) (swN i a : Nat) l = rnV nx rl a l
  | [], a, ha => by
    have hs := swN_lt hi ha
    rw [rnV_nil, rnV_nil, rulV_nat ha]
    unfold rulV
    rw [if_neg (by omega), Int.toNat_natCast, List.getD_eq_getElem?_getD]
    unfold frR
    rw [tabI_get _ hs, Option.getD_some, swN_swN, List.getD_eq_getElem?_getD, List.getElem?_eq_getElem ha]; rfl
  | c :: l, a, ha => by
    have hs := swN_lt hi ha
    have hc := c.toNat_lt
    have hl := ok.len
    have hin := toV_in ok (a := (a : Int)) ⟨by omega, by omega⟩ c
    have e : toV (frN nx i) (swN i a : Nat) c.toNat = swI i (toV nx a c.toNat) := by
      unfold toV
      rw [if_neg (by omega), if_neg (by omega), Int.toNat_natCast, Int.toNat_natCast, List.getD_eq_getElem?_getD]
      unfold frN
      rw [tabI_get _ (by omega), Option.getD_some, frA_256, show (256 * swN i a + c.toNat) / 256 = swN i a by omega, show (256 * swN i a + c.toNat) % 256 = c.toNat by omega, swN_swN]
    rw [rnV_cons, rnV_cons, e]
    by_cases hneg : toV nx a c.toNat < 0
    · rw [show toV nx a c.toNat = -1 by have := hin.1; omega, swI_neg, rnV_none, rnV_none]
    · obtain ⟨k, hk⟩ := Int.eq_ofNat_of_zero_le (by omega : 0 ≤ toV nx a c.toNat)
      rw [hk, swI_nat]
      exact from_sim ok hi l k (by have := hin.2; omega)
theorem from_chk {nx rl : List Int} (hc : chk nx rl = true) {i : Nat} (hi : i < rl.length) : chk (frN nx i) (frR rl i) = true := by
  obtain ⟨ok, m1, m2⟩ := chk_ok hc
  have hl := ok.len
  unfold chk inB
  simp only [Bool.and_eq_true, decide_eq_true_eq, List.all_eq_true]
  have l1 : (frN nx i).length = nx.length := by unfold frN; rw [tabI_len]
  have l2 : (frR rl i).length = rl.length := by unfold frR; rw [tabI_len]
  rw [l1, l2]
  refine ⟨⟨⟨⟨ok.one, m1⟩, hl⟩, fun x hx => ?_⟩, fun x hx => ?_⟩
  · unfold frR tabI at hx
    obtain ⟨j, hj, rfl⟩ := List.mem_map.1 hx
    have hs := swN_lt hi (List.mem_range.1 hj)
    have hm : rl.getD (swN i j) 0 ∈ rl := by
      rw [List.getD_eq_getElem?_getD, List.getElem?_eq_getElem hs]; exact List.getElem_mem hs
    exact ⟨(ok.rlb _ hm).1, m2 _ hm⟩
  · unfold frN tabI at hx
    obtain ⟨j, hj, rfl⟩ := List.mem_map.1 hx
    have hj := List.mem_range.1 hj
    rw [frA_256]
    have hs := swN_lt hi (by omega : j / 256 < rl.length)
    have hb : 256 * swN i (j / 256) + j % 256 < nx.length := by omega
    have hm : nx.getD (256 * swN i (j / 256) + j % 256) 0 ∈ nx := by
      rw [List.getD_eq_getElem?_getD, List.getElem?_eq_getElem hb]; exact List.getElem_mem hb
    have := ok.nxb _ hm
    unfold swI
    split
    · omega
    · split <;> omega
theorem from_run {nx rl : List Int} (hc : chk nx rl = true) {i : Nat} (hi : i < rl.length) : Sim (frN nx i) (frR rl i) 0 nx rl i := fun l => by
  have := from_sim (chk_ok hc).1 hi l i hi
  have e : swN i i = 0 := by
    unfold swN
    by_cases h : i = 0
    · rw [if_pos h, h]
    · rw [if_neg h, if_pos rfl]
  rw [e] at this
  exact this
/-! ### The walk -/
def hsV (b : Nat) (l : List Int) : AV := .hs b l.length 0 l.length 1
theorem own_code {lk lim : Nat} {H : Heap} (l : List Int) (h0 : 1 ≤ l.length) (h1 : l.length ≤ 1000000) : callW X A lk lim 34 [.sl l.length (ints l)] H = some (hsV H.length l, H ++ [.cells (ints l)]) := by
  refine wb_callB [] rfl A34 rfl rfl ?_
  unfold t34B
  have hro : l.length * 8 ≤ room := by unfold room; omega
  have hne : ¬ l.length = 0 := by omega
  simp [hro, hne, srcCells, hsV]
end Go.Proofs.Ytdbbaopgmapmaaa
