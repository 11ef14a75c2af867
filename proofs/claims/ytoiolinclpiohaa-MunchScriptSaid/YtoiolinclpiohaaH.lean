import Derived.Test.YtoiolinclpiohaaG
import Derived.Test.YtoiolinclpiohaaF
set_option linter.unusedSimpArgs false
set_option linter.unusedVariables false
namespace Go.Proofs.Ytoiolinclpiohaa
open Go Go.Hm
noncomputable def ans : Ans := [(51, goX), (40, mmX iLt), (41, mmX iGt)]
theorem ans_ok : ∀ p ∈ ans, ∀ lk lim l H r, p.2 lk l H = some r → callW X A lk lim p.1 l H = some r := fun p hp => by
  simp only [ans, List.mem_cons, List.not_mem_nil, or_false] at hp
  rcases hp with rfl | rfl | rfl
  · exact goX_ok
  · exact mmX_ok fun _ _ _ x l h => by rw [← minL_fold]; exact min_code x l h
  · exact mmX_ok fun _ _ _ x l h => by rw [← maxL_fold]; exact max_code x l h
noncomputable def E : Orc := callE (gF X (fun _ => false) A ans) 100000 300
theorem X_none (f : FuncId) (_ : (fun _ : Nat => false) f = false) (lk lim : Nat) (l : List AV) (H : Heap) : X lk lim f l H = none := rfl
theorem lives_ok : callW X A 0 0 11 [] [] = some (Bo true, []) :=
  run_W X_none ans_ok 100000 300 E rfl _ _ _ _ _ _ rfl (by kernel_rfl)
end Go.Proofs.Ytoiolinclpiohaa
