import Derived.Test.YtdbbaopgmapmaaaGC
set_option linter.unusedSimpArgs false
set_option linter.unusedVariables false
namespace Go.Proofs.Ytdbbaopgmapmaaa
open Go Go.Hm
/-! ### The steps that were come to, in memory -/
structure Stp where
  a : Int
  b : Int
  by_ : UInt8
  par : Nat
def aheadV (M k par : Nat) : AV := if k = 0 then .val (.pointer none) else .hp (M + 1 + 2 * par) 4 0
def stpC (M k : Nat) (s : Stp) : List AV := [I s.a, I s.b, Ub s.by_, aheadV M k s.par]
structure Chain (H : Heap) (M : Nat) (Q : List Stp) : Prop where
  at_ : ∀ k (h : k < Q.length), H[M + 1 + 2 * k]? = some (.cells (stpC M k Q[k]))
  par : ∀ k (h : k < Q.length), k ≠ 0 → Q[k].par < k
/-- The bytes by which a step was come to, the last one first. -/
def txF (Q : List Stp) : Nat → Nat → List UInt8
  | 0, _ => []
  | f + 1, k => if k = 0 then [] else match Q[k]? with
    | some s => s.by_ :: txF Q f s.par
    | none => []
theorem txF_more (Q : List Stp) (hp : ∀ k (h : k < Q.length), k ≠ 0 → Q[k].par < k) : ∀ (f k : Nat), k ≤ f → txF Q f k = txF Q k k
  | 0, k, h => by
    obtain rfl : k = 0 := by omega
    rfl
  | f + 1, 0, h => by simp [txF]
  | f + 1, k + 1, h => by
    simp only [txF]
    rw [if_neg (by omega), if_neg (by omega)]
    cases hq : Q[k + 1]? with
    | none => rfl
    | some s =>
      have hk : k + 1 < Q.length := by
        rcases Nat.lt_or_ge (k + 1) Q.length with h | h
        · exact h
        · rw [List.getElem?_eq_none h] at hq; cases hq
      have hpar := hp (k + 1) hk (by omega)
      rw [List.getElem?_eq_getElem hk] at hq
      rw [Option.some.inj hq] at hpar
      simp only
      rw [txF_more Q hp f s.par (by omega), txF_more Q hp k s.par (by omega)]
theorem txF_succ (Q : List Stp) (hp : ∀ k (h : k < Q.length), k ≠ 0 → Q[k].par < k) {k : Nat} (h0 : k ≠ 0) (hk : k < Q.length) : txF Q k k = Q[k].by_ :: txF Q Q[k].par Q[k].par := by
  obtain ⟨k, rfl⟩ : ∃ j, k = j + 1 := ⟨k - 1, by omega⟩
  simp only [txF]
  rw [if_neg h0, List.getElem?_eq_getElem hk]
  simp only
  rw [txF_more Q hp k _ (by have := hp (k + 1) hk h0; omega)]
theorem bytesOf_bsL : ∀ l : List UInt8, bytesOf (bsL l) = some l
  | [] => rfl
  | b :: l => by
    have ih := bytesOf_bsL l
    simp only [bsL] at ih
    simp [bsL, bytesOf, ih]
theorem bsL_app (l m : List UInt8) : bsL (l ++ m) = bsL l ++ bsL m := by simp [bsL]
/-- The row that is being made. -/
def rowO (n : Nat) (l : List UInt8) : AV := if l = [] then .e0 else .hs n l.length 0 l.length 1
def rowG (H : Heap) (l : List UInt8) : Heap := if l = [] then H else H ++ [.cells (bsL l)]
theorem rowG_get {H : Heap} {l : List UInt8} {j : Nat} (h : j < H.length) : (rowG H l)[j]? = H[j]? := by
  unfold rowG
  split
  · rfl
  · rw [List.getElem?_append_left h]
set_option maxRecDepth 20000 in
theorem text_code {lk lim : Nat} {H : Heap} {M : Nat} {Q : List Stp} (hc : Chain H M Q) {k : Nat} (hk : k < Q.length) (hQ : Q.length ≤ 1000000) (hlk : lk ≤ H.length) :
    callW X A lk lim 46 [.hp (M + 1 + 2 * k) 4 0] H = some (Sg (txF Q k k).reverse, H) := by
  refine wb_callB [] rfl A46 rfl rfl ?_
  unfold t46B
  simp
  refine wb_loop (σ := Nat × List UInt8) (fun s => [(0, .hp (M + 1 + 2 * s.1) 4 0), (3, rowO H.length s.2)]) (fun s => rowG H s.2)
    (fun s => s.1 < Q.length ∧ s.2 ++ txF Q s.1 s.1 = txF Q k k ∧ s.2.length + s.1 ≤ 1000000) (fun s => s.1) ?_ (k, []) ⟨hk, rfl, by simp only [List.length_nil]; omega⟩ (by simp [rowO]) (by simp [rowG])
  rintro ⟨j, l⟩ ⟨hj, hinv, hb⟩
  simp only at hj hinv hb
  unfold t46L1
  have g0 := hc.at_ j hj
  have hjH : M + 1 + 2 * j < H.length := by
    rcases Nat.lt_or_ge (M + 1 + 2 * j) H.length with h | h
    · exact h
    · rw [List.getElem?_eq_none h] at g0; cases g0
  have g1 : (rowG H l)[M + 1 + 2 * j]? = some (.cells (stpC M j Q[j])) := by rw [rowG_get hjH]; exact g0
  obtain ⟨s, hs⟩ : ∃ s, Q[j] = s := ⟨_, rfl⟩
  rw [hs] at g1
  by_cases hj0 : j = 0
  · subst hj0
    simp only [stpC, aheadV, if_pos] at g1
    have htx : txF Q k k = l := by rw [← hinv]; simp [txF]
    rw [htx]
    cases l with
    | nil =>
      have kr := fun L => rev_nil (lk := lk) (lim := L) (H := H)
      have e1 : rowO H.length [] = .e0 := rfl
      have e2 : rowG H [] = H := rfl
      rw [e2] at g1
      rw [e2]
      rw [Nat.mul_zero, Nat.add_zero] at g1
      generalize callW X A = C at kr ⊢
      simp [e1, eqPtr, isPtr, g1, kr, bytesOf]
    | cons u l =>
      have kr := fun L => rev_code (lk := lk) (lim := L) (H := H ++ [.cells (bsL (u :: l))]) (b := H.length) (l := u :: l) (by simp) hlk (by omega)
      have e1 : rowO H.length (u :: l) = .hs H.length (u :: l).length 0 (u :: l).length 1 := by unfold rowO; rw [if_neg (by simp)]
      have e2 : rowG H (u :: l) = H ++ [.cells (bsL (u :: l))] := by unfold rowG; rw [if_neg (by simp)]
      have e3 : List.set (H ++ [HB.cells (bsL (u :: l))]) H.length (HB.cells (bsL (u :: l).reverse)) = H ++ [HB.cells (bsL (u :: l).reverse)] := by rw [Hm.set_at0]; rfl
      rw [e3] at kr
      rw [e2] at g1
      rw [Nat.mul_zero, Nat.add_zero] at g1
      rw [e2]
      obtain ⟨w, hw⟩ : ∃ w, u :: l = w := ⟨_, rfl⟩
      rw [hw] at kr e1 g1
      simp only [hw]
      generalize hG : H ++ [.cells (bsL w)] = G at g1 kr ⊢
      generalize callW X A = C at kr ⊢
      have hwl : (bsL w.reverse).length = w.length := by rw [bsL_len]; simp
      have htk : (bsL w.reverse).take w.length = bsL w.reverse := List.take_of_length_le (by omega)
      simp [-wb_regN, e1]
      rw [wb_regN]
      simp [-wb_regN, e1, eqPtr, isPtr, g1]
      rw [wb_regN]
      simp [-wb_regN, kr, aok_val]
      rw [wb_regN]
      have g2 : (H ++ [HB.cells (bsL w.reverse)])[H.length]? = some (.cells (bsL w.reverse)) := by simp
      simp [hwl, htk, bytesOf_bsL]
  · simp only [stpC, aheadV, if_neg hj0] at g1
    have hpar := hc.par j hj hj0
    have hsu := txF_succ Q hc.par hj0 hj
    rw [hs] at hpar hsu
    rw [hsu] at hinv
    have hinv2 : (l ++ [s.by_]) ++ txF Q s.par s.par = txF Q k k := by rw [← hinv, List.append_assoc]; rfl
    cases l with
    | nil =>
      have e1 : rowO H.length [] = .e0 := rfl
      have e2 : rowG H [] = H := rfl
      rw [e2] at g1
      rw [e2]
      have hro : (1 : Nat) ≤ room := by unfold room; omega
      simp [-wi_app, -wb_regN, e1]
      rw [wb_regN]
      simp [-wi_app, -wb_regN, e1, eqPtr, isPtr, g1]
      rw [wb_regN]
      simp [-wi_app, -wb_regN, g1]
      rw [wi_app]
      have g2 : (H ++ [HB.cells [Ub s.by_]])[M + 1 + 2 * j]? = some (.cells [I s.a, I s.b, Ub s.by_, .hp (M + 1 + 2 * s.par) 4 0]) := by rw [List.getElem?_append_left hjH]; exact g1
      simp [-wi_app, -wb_regN, srcCells, slN, hro]
      rw [wb_regN]
      generalize hG : H ++ [HB.cells [Ub s.by_]] = G at g2 ⊢
      simp [-wb_regN, g2]
      rw [rnd_nrm]
      refine ⟨(s.par, [s.by_]), ⟨by simp only; omega, hinv2, by simp only [List.length_cons, List.length_nil]; omega⟩, by simp only; omega, by simp [rowO], ?_⟩
      rw [← hG]; simp [rowG, bsL]
    | cons u l =>
      have e1 : rowO H.length (u :: l) = .hs H.length (u :: l).length 0 (u :: l).length 1 := by unfold rowO; rw [if_neg (by simp)]
      have e2 : rowG H (u :: l) = H ++ [.cells (bsL (u :: l))] := by unfold rowG; rw [if_neg (by simp)]
      obtain ⟨w, hw⟩ : ∃ w, u :: l = w := ⟨_, rfl⟩
      have hw0 : w ≠ [] := by rw [← hw]; simp
      rw [hw] at e1 e2 hinv2 hb g1 ⊢
      rw [e2] at g1 ⊢
      have hro : w.length + 1 ≤ room := by unfold room; omega
      have hwl : (bsL w).length = w.length := bsL_len w
      have g3 : (H ++ [HB.cells (bsL w)])[H.length]? = some (.cells (bsL w)) := by simp
      have hset : List.set (H ++ [HB.cells (bsL w)]) H.length (HB.cells (bsL w ++ [Ub s.by_])) = H ++ [HB.cells (bsL (w ++ [s.by_]))] := by
        rw [Hm.set_at0, bsL_app]; rfl
      have g2 : (H ++ [HB.cells (bsL (w ++ [s.by_]))])[M + 1 + 2 * j]? = some (.cells [I s.a, I s.b, Ub s.by_, .hp (M + 1 + 2 * s.par) 4 0]) := by
        rw [List.getElem?_append_left hjH] at g1 ⊢; exact g1
      generalize hG : H ++ [HB.cells (bsL w)] = G at g1 g3 hset ⊢
      simp [-wi_app, -wb_regN, e1]
      rw [wb_regN]
      simp [-wi_app, -wb_regN, e1, eqPtr, isPtr, g1]
      rw [wb_regN]
      simp [-wi_app, -wb_regN, g1]
      rw [wi_app]
      simp [-wi_app, -wb_regN, srcCells, slN, hro, g3, hwl, setH, hlk, hset]
      rw [wb_regN]
      generalize hG2 : H ++ [HB.cells (bsL (w ++ [s.by_]))] = G2 at g2 ⊢
      simp [-wb_regN, g2]
      rw [rnd_nrm]
      refine ⟨(s.par, w ++ [s.by_]), ⟨by simp only; omega, hinv2, by simp only [List.length_append, List.length_cons, List.length_nil]; omega⟩, by simp only; omega, by simp [rowO], ?_⟩
      rw [← hG2]; simp [rowG]
end Go.Proofs.Ytdbbaopgmapmaaa
