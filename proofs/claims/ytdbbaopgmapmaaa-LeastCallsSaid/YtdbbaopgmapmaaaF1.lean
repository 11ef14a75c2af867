import Derived.Test.YtdbbaopgmapmaaaGA
set_option linter.unusedSimpArgs false
set_option linter.unusedVariables false
namespace Go.Proofs.Ytdbbaopgmapmaaa
open Go Go.Hm
noncomputable def ans : Ans := [(57, goX), (43, mmX iLt), (44, mmX iGt)]
theorem ans_ok : ∀ p ∈ ans, ∀ lk lim l H r, p.2 lk l H = some r → callW X A lk lim p.1 l H = some r := fun p hp => by
  simp only [ans, List.mem_cons, List.not_mem_nil, or_false] at hp
  rcases hp with rfl | rfl | rfl
  · exact goX_ok
  · exact mmX_ok fun _ _ _ x l h => by rw [← minL_fold]; exact min_code x l h
  · exact mmX_ok fun _ _ _ x l h => by rw [← maxL_fold]; exact max_code x l h
noncomputable def E : Orc := callE (gF X (fun _ => false) A ans) 100000 300
theorem X_none (f : FuncId) (_ : (fun _ : Nat => false) f = false) (lk lim : Nat) (l : List AV) (H : Heap) : X lk lim f l H = none := rfl
/-- A row: where some bytes lead; all others lead nowhere. -/
def lookB (b : Nat) : List (Nat × Int) → Int
  | [] => -1
  | (c, k) :: r => bif Nat.beq c b then k else lookB b r
def rowT (l : List (Nat × Int)) : List Int := (List.range 256).map fun b => lookB b l
def tabT : List (List (Nat × Int)) → List Int
  | [] => []
  | l :: r => rowT l ++ tabT r
end Go.Proofs.Ytdbbaopgmapmaaa
