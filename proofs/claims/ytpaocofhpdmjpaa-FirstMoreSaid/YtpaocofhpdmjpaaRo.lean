import Derived.Test.YtpaocofhpdmjpaaX
import Derived.Test.YtpaocofhpdmjpaaIt
set_option linter.unusedSimpArgs false
set_option linter.unusedVariables false
namespace Go.Proofs.Ytpaocofhpdmjpaa
open Go Go.Hm

theorem seq_code {lk lim : Nat} {H : Heap} (t k : Int) : callW X A lk lim 26 [I t, I k] H = some (.fn 51 [.hp H.length 1 0, .hp (H.length + 1) 1 0], H ++ [.cells [I t], .cells [I k]]) := by
  refine wb_callB [] rfl A26 rfl rfl ?_
  unfold t26B
  generalize callW X A = C
  simp
def roH (H : Heap) (t k : Int) (r ok lv : AV) (lg : Heap) : Heap := H ++ (.cells [r] :: .cells [ok] :: .cells [I t] :: .cells [I k] :: .cells [lv] :: lg)
def rlV (B : Nat) (l : List (List UInt8)) : AV := if l = [] then .e0 else .hs B l.length 0 l.length 1
def rlG (l : List (List UInt8)) : Heap := if l = [] then [] else [.cells (rowsB l)]
def rV (l : List (List UInt8)) : AV := if l = [] then .e0 else rowsV l
theorem rV_rv (l : List (List UInt8)) : RV (rV l) l := by
  unfold rV RV
  split
  · rename_i h; exact .inr ⟨rfl, h⟩
  · exact .inl rfl
theorem it_ok (H : Heap) (t k : Int) (r ok lv : AV) (lg : Heap) : rowsIt 51 [.hp (H.length + 2) 1 0, .hp (H.length + 2 + 1) 1 0] (roH H t k r ok lv lg) = some (itV (rowsOf t k)) := by
  unfold rowsIt roH
  rw [if_pos rfl]
  simp only
  rw [Hm.get_at, show H.length + 2 + 1 = H.length + 3 from rfl, Hm.get_at]
  rfl
set_option maxRecDepth 20000 in
theorem rows_code {lk lim : Nat} {H : Heap} (hlk : lk ≤ H.length) (t k : Int) (hl : (rowsOf t k).length ≤ 700) : callW X A lk lim 24 [I t, I k] H = some (.tup [rV (rowsOf t k), Bo true], H) := by
  have k26 := fun (L : Nat) (H : Heap) => seq_code (lk := lk) (lim := L) (H := H) t k
  have hit := it_ok H t k .e0 (Bo false) .e0 []
  refine wb_callB [] rfl A24 rfl rfl ?_
  unfold t24B
  generalize callW X A = C at k26 ⊢
  have g : ∀ n, lk ≤ H.length + n := fun n => by omega
  simp [-wb_regN, -wb_true, -wb_false, -wi_st]
  rw [wb_regN]
  simp [-wb_regN, -wb_true, -wb_false, -wi_st]
  rw [wb_regN]
  simp [-wb_regN, -wb_true, -wb_false, -wi_st, k26]
  rw [wb_regN]
  simp [-wb_regN, -wb_true, -wb_false, -wi_st, eqFn, isFn]
  rw [wb_false rfl]
  simp [-wb_regN, -wb_true, -wb_false, -wi_st]
  rw [wb_regN]
  simp [-wb_regN, -wb_true, -wb_false, -wi_st]
  rw [wb_regN]
  simp [-wb_regN, -wb_true, -wb_false, -wi_st]
  generalize rowsOf t k = l at *
  refine wb_rangeE (itV l) (fun i h => h = roH H t k .e0 (Bo false) (rlV (H.length + 5) (l.take i)) (rlG (l.take i)))
    [(4, .hp H.length 1 0), (5, .hp (H.length + 1) 1 0), (7, .hp (H.length + 4) 1 0), (14, .fn 51 [.hp (H.length + 2) 1 0, .hp (H.length + 2 + 1) 1 0])] rfl rfl rfl hit (by simp [itV]) rfl ?_ ?_
  · rintro i x h hx rfl
    obtain ⟨y, hy, rfl⟩ : ∃ y, l[i]? = some y ∧ x = [.string ⟨⟨y⟩⟩] := by
      unfold itV at hx
      rw [List.getElem?_map] at hx
      cases hy : l[i]? with
      | none => rw [hy] at hx; cases hx
      | some y => rw [hy] at hx; simp at hx; exact ⟨y, rfl, hx.symm⟩
    have hil := (List.getElem?_eq_some_iff.1 hy).1
    have hx1 : l.take (i + 1) = l.take i ++ [y] := by
      rw [List.take_add_one, hy]; rfl
    have hli : (l.take i).length ≤ 700 := by rw [List.length_take]; omega
    refine ⟨_, rfl, ?_⟩
    rw [wb_regN]
    simp [-wb_regN, -wb_true, -wb_false, -wi_st]
    refine nrm_nrm rfl ?_
    simp [-wb_regN, -wb_true, -wb_false, -wi_st]
    rw [wb_regN]
    generalize l.take i = q at *
    cases q with
    | nil =>
      show WR _ _ _ _ (roH H t k .e0 (Bo false) .e0 [])
      simp [-wb_regN, -wb_true, -wb_false, -wi_st, roH]
      rw [wb_false rfl]
      simp [-wb_regN, -wb_true, -wb_false, -wi_st]
      rw [wb_regN]
      have r1 : (16 : Nat) ≤ room := by decide
      simp [-wb_regN, -wb_true, -wb_false, -wi_st, src_one, r1]
      rw [wi_st]
      simp [-wb_regN, -wb_true, -wb_false, -wi_st, setH, replaceAt, g, hlk]
      rw [rge_nrm, hx1]
      rfl
    | cons a q =>
      show WR _ _ _ _ (roH H t k .e0 (Bo false) (.hs (H.length + 5) (q.length + 1) 0 (q.length + 1) 1) [.cells (rowsB (a :: q))])
      have c1 : ¬ (700 : Int) < (q.length : Int) + 1 := by simp only [List.length_cons] at hli; omega
      simp [-wb_regN, -wb_true, -wb_false, -wi_st, roH, c1]
      rw [wb_false rfl]
      simp [-wb_regN, -wb_true, -wb_false, -wi_st]
      rw [wb_regN]
      have r1 : (q.length + 1 + 1) * 16 ≤ room := by unfold room; simp only [List.length_cons] at hli; omega
      simp [-wb_regN, -wb_true, -wb_false, -wi_st, src_one, r1, appC, appG, setH, g]
      rw [wi_st]
      simp [-wb_regN, -wb_true, -wb_false, -wi_st, setH, replaceAt, g, hlk]
      rw [rge_nrm, hx1]
      simp [rlV, rlG, rowsB]
  · rintro h rfl
    have e3 : l.take (itV l).length = l := by rw [show (itV l).length = l.length by simp [itV], List.take_length]
    rw [e3]
    cases l with
    | nil =>
      rw [show roH H t k .e0 (Bo false) (rlV (H.length + 5) []) (rlG []) = roH H t k .e0 (Bo false) .e0 [] from rfl]
      simp [-wb_regN, -wb_true, -wb_false, -wi_st, roH]
      rw [wb_regN]
      simp [-wb_regN, -wb_true, -wb_false, -wi_st]
      rw [wi_st]
      simp [-wb_regN, -wb_true, -wb_false, -wi_st, setH, replaceAt, g, hlk]
      rw [wi_st]
      simp [-wb_regN, -wb_true, -wb_false, -wi_st, setH, replaceAt, g, hlk, rV]
    | cons a q =>
      rw [show roH H t k .e0 (Bo false) (rlV (H.length + 5) (a :: q)) (rlG (a :: q)) = roH H t k .e0 (Bo false) (.hs (H.length + 5) (q.length + 1) 0 (q.length + 1) 1) [.cells (rowsB (a :: q))] from rfl]
      have hfr := fun G d => frz_rowsB H.length G d (a :: q)
      have hn5 : ¬ H.length + 5 < H.length := by omega
      have htk : (rowsB (a :: q)).take (q.length + 1) = rowsB (a :: q) := rowsB_take _ _ (by simp)
      have hbl := bel_rowsB 0 (a :: q)
      have hrl : (rowsB (a :: q)).length = q.length + 1 := by simp
      have hrv : rV (a :: q) = .sl (q.length + 1) (rowsB (a :: q)) := rfl
      rw [hrv]
      generalize rowsB (a :: q) = cs at *
      simp [-wb_regN, -wb_true, -wb_false, -wi_st, roH]
      rw [wb_regN]
      simp [-wb_regN, -wb_true, -wb_false, -wi_st]
      rw [wi_st]
      simp [-wb_regN, -wb_true, -wb_false, -wi_st, setH, replaceAt, g, hlk]
      rw [wi_st]
      simp [-wb_regN, -wb_true, -wb_false, -wi_st, setH, replaceAt, g, hlk, htk, hbl, hrl, hfr, hn5]
end Go.Proofs.Ytpaocofhpdmjpaa
