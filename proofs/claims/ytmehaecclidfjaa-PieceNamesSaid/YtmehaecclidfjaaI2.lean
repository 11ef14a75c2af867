import Derived.Test.YtmehaecclidfjaaI
set_option linter.unusedSimpArgs false
set_option linter.unusedVariables false
namespace Go.Proofs.Ytmehaecclidfjaa
open Go Go.Hm

set_option maxRecDepth 20000 in
theorem light_hs {lk lim : Nat} (s : List UInt8) (l : List Ac) (hl : l.length ≤ 1000000000000000) : callW X A lk lim 9 [Sg s, .hs 0 (l.length * 4) 0 l.length 4] [.cells (acC l)] = some (Bo (lightB s l), [.cells (acC l)]) := by
  refine wb_callB [] rfl A9 rfl rfl ?_
  unfold t9B
  generalize callW X A = C
  simp
  refine wb_loop (σ := Nat) (fun i => [(0, Sg s), (1, .hs 0 (l.length * 4) 0 l.length 4), (5, I i)]) (fun _ => [.cells (acC l)]) (fun i => i ≤ l.length ∧ lightB s l = ((l.drop i).all (fun x => decide (x.s.length ≤ 60)) && (decide (s.length ≤ 300) && decide (l.length ≤ 60)))) (fun i => l.length - i) ?_ 0 ⟨by omega, by simp [lightB]⟩ (by simp [restrict, find]) rfl
  rintro i ⟨hi, hinv⟩
  unfold t9L1
  by_cases hil : i < l.length
  · have hd := List.drop_eq_getElem_cons hil
    have w1 : IntKind.i64.wrap ((i : Int) + 1) = (i : Int) + 1 := wrap64 (by omega) (by omega)
    have g3 := acC_3 hil
    have i4 : i * 4 + 4 ≤ 4 * l.length := by omega
    rw [hd, List.all_cons] at hinv
    generalize l[i] = x at g3 hinv
    by_cases hx : (60 : Int) < x.s.length
    · have : decide (x.s.length ≤ 60) = false := decide_eq_false (by omega)
      rw [this, Bool.false_and, Bool.false_and] at hinv
      simp [hil, acC_len, i4, (by omega : 4 * l.length = l.length * 4), g3, Sg_size, hx, hinv]
    · have : decide (x.s.length ≤ 60) = true := decide_eq_true (by omega)
      rw [this, Bool.true_and] at hinv
      simp [hil, acC_len, i4, (by omega : 4 * l.length = l.length * 4), g3, Sg_size, hx, w1, rnd_nrm]
      exact ⟨i + 1, ⟨by omega, hinv⟩, by omega, by simp⟩
  · have : l.length ≤ i := by omega
    rw [List.drop_eq_nil_of_le this] at hinv
    simp only [List.all_nil, Bool.true_and] at hinv
    rw [hinv]
    by_cases h3 : s.length ≤ 300
    · have h3' : ((s.length : Int) ≤ 300) := by omega
      have h4 : decide ((l.length : Int) ≤ 60) = decide (l.length ≤ 60) := decide_eq_decide.2 (by omega)
      simp [hil, Sg_size, h3, h3', h4]
    · have h3' : ¬ ((s.length : Int) ≤ 300) := by omega
      simp [hil, Sg_size, h3, h3']
end Go.Proofs.Ytmehaecclidfjaa
