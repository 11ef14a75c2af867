import Derived.Test.YtmehaecclidfjaaU
set_option linter.unusedSimpArgs false
set_option linter.unusedVariables false
namespace Go.Proofs.Ytmehaecclidfjaa
open Go Go.Hm

set_option maxRecDepth 20000 in
theorem seq_code {H : Heap} {p : AV} (hp : one p = true) {lk lim : Nat} : callW X A lk lim 15 [p] H = some (.fn 29 [.hp H.length 1 0], H ++ [.cells [p]]) := by
  refine wb_callB [] rfl A15 rfl (by cases p <;> first | rfl | cases hp) ?_
  unfold t15B
  generalize callW X A = C
  cases p <;> first | (simp [one] at hp; done) | simp

theorem tx_app {H : Heap} {b : Nat} {s : List UInt8} {m : Nat} (h : TX H b s m) (X : Heap) : TX (H ++ X) b s m := by
  obtain ⟨u1, fs, cm, ns, u2, u3, u4, u5⟩ := h
  have hlt := tb_lt u2
  refine ⟨u1, fs, cm, ns, ⟨?_, lst_same u2.lst fun n hn => List.getElem?_append_left (lst_lt u2.lst n hn), u2.nd, u2.ok⟩, u3, u4, u5⟩
  rw [List.getElem?_append_left hlt.1]
  exact u2.tab
/-- The heap in a walk of all: the result's cells, the iterator's, the text's, the count's. -/
def allH (H : Heap) (b : Nat) (r : List UInt8) (ok : Bool) (s : List UInt8) (n : Nat) : Heap := H ++ [.cells [Sg r], .cells [Bo ok], .cells [.hp b 4 0], .cells [Sg s], .cells [I n]]

set_option maxRecDepth 20000 in
theorem all_code {lk lim : Nat} {H : Heap} {b : Nat} {s : List UInt8} {m : Nat} (h : TX H b s m) (hm : m ≤ 1000000000000) (hlk : lk ≤ H.length) : callW X2 A2 lk lim 21 [.hp b 4 0] H = some (.tup [Sg s, Bo true], H) := by
  have hit : ∃ l : List (List UInt8), l.flatten = s ∧ (∀ x ∈ l, x ≠ []) ∧ l.length ≤ 65536 ∧ pieceIt 29 [.hp (H.length + 2) 1 0] (allH H b [] false [] 0) = some (itV l) := it_tx (tx_app h _) hm (by unfold allH; rw [List.getElem?_append_right (by omega)]; simp)
  obtain ⟨l, hl1, hl2, hl3, hit⟩ := hit
  refine wb_callB [] rfl B21 rfl rfl ?_
  unfold u21B
  have k15 : ∀ lk lim (H : Heap), callW X2 A2 lk lim 15 [.hp b 4 0] H = some (.fn 29 [.hp H.length 1 0], H ++ [.cells [.hp b 4 0]]) := fun lk lim H => up rfl (seq_code rfl)
  generalize callW X2 A2 = C at k15 ⊢
  have g : ∀ n, lk ≤ H.length + n := fun n => by omega
  simp [-wb_regN, -wb_true, -wb_false, -wi_st]
  rw [wb_regN]
  simp [-wb_regN, -wb_true, -wb_false, -wi_st]
  rw [wb_regN]
  simp [-wb_regN, -wb_true, -wb_false, -wi_st, k15]
  rw [wb_regN]
  simp [-wb_regN, -wb_true, -wb_false, -wi_st, eqFn, isFn]
  rw [wb_false rfl]
  simp [-wb_regN, -wb_true, -wb_false, -wi_st]
  rw [wb_regN]
  simp [-wb_regN, -wb_true, -wb_false, -wi_st]
  rw [wi_st]
  simp [-wb_regN, -wb_true, -wb_false, -wi_st, setH, replaceAt, g, hlk]
  rw [wi_st]
  simp [-wb_regN, -wb_true, -wb_false, -wi_st, setH, replaceAt, g, hlk]
  rw [wb_regN]
  simp [-wb_regN, -wb_true, -wb_false, -wi_st]
  refine wb_rangeE (itV l) (fun i h => h = allH H b [] false (l.take i).flatten i) [(2, .hp H.length 1 0), (3, .hp (H.length + 1) 1 0), (5, .hp (H.length + 3) 1 0), (6, .hp (H.length + 4) 1 0), (12, .fn 29 [.hp (H.length + 2) 1 0])] rfl rfl rfl hit (by simp [itV]) rfl ?_ ?_
  · rintro i x h hx rfl
    obtain ⟨y, hy, rfl⟩ : ∃ y, l[i]? = some y ∧ x = [.string ⟨⟨y⟩⟩] := by
      unfold itV at hx
      rw [List.getElem?_map] at hx
      cases hy : l[i]? with
      | none => rw [hy] at hx; cases hx
      | some y => rw [hy] at hx; simp at hx; exact ⟨y, rfl, hx.symm⟩
    refine ⟨_, rfl, ?_⟩
    rw [wb_regN]
    simp [-wb_regN, -wb_true, -wb_false, -wi_st]
    refine nrm_nrm rfl ?_
    simp [-wb_regN, -wb_true, -wb_false, -wi_st]
    rw [wb_regN]
    have hil := (List.getElem?_eq_some_iff.1 hy).1
    have w1 : IntKind.i64.wrap ((i : Int) + 1) = (i : Int) + 1 := wrap64 (by omega) (by omega)
    simp [-wb_regN, -wb_true, -wb_false, -wi_st, allH, w1]
    rw [wi_st]
    simp [-wb_regN, -wb_true, -wb_false, -wi_st, setH, replaceAt, g, hlk]
    rw [wb_regN]
    have hy0 : y ≠ [] := hl2 y (List.mem_of_getElem? hy)
    have e1 : abins .eql ⟨⟨y⟩⟩ ⟨#[]⟩ = some (.val (.bool false)) := by
      rw [(show abins .eql ⟨⟨y⟩⟩ ⟨#[]⟩ = _ from sg_eql y [])]
      simp [hy0]
    have e2 : ¬ (65536 : Int) < (i : Int) + 1 := by omega
    simp [-wb_regN, -wb_true, -wb_false, -wi_st, e1, e2]
    rw [wb_false rfl]
    simp [-wb_regN, -wb_true, -wb_false, -wi_st]
    rw [wb_regN]
    have hx1 : (List.take (i + 1) l).flatten = (List.take i l).flatten ++ y := by
      rw [List.take_add_one, hy]
      simp
    have hx2 : (List.take (i + 1) l).flatten.length ≤ s.length := by
      rw [← hl1]
      conv => rhs; rw [← List.take_append_drop (i + 1) l]
      rw [List.flatten_append, List.length_append]
      omega
    rw [hx1, List.length_append] at hx2
    have hs := h.1
    have e4 := sg_add (a := (List.take i l).flatten) (b := y) (by omega)
    simp [-wb_regN, -wb_true, -wb_false, -wi_st, e4]
    rw [wi_st]
    simp [-wb_regN, -wb_true, -wb_false, -wi_st, setH, replaceAt, g, hlk]
    rw [rge_nrm, hx1]
    simp
  · rintro h rfl
    have e3 : (List.take (itV l).length l).flatten = s := by
      rw [show (itV l).length = l.length by simp [itV], List.take_length, hl1]
    rw [e3]
    simp [-wb_regN, -wb_true, -wb_false, -wi_st, allH]
    rw [wb_regN]
    simp [-wb_regN, -wb_true, -wb_false, -wi_st]
    rw [wi_st]
    simp [-wb_regN, -wb_true, -wb_false, -wi_st, setH, replaceAt, g, hlk]
    rw [wi_st]
    simp [-wb_regN, -wb_true, -wb_false, -wi_st, setH, replaceAt, g, hlk]
end Go.Proofs.Ytmehaecclidfjaa
