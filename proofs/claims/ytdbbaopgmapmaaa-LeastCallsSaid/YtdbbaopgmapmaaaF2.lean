import Derived.Test.YtdbbaopgmapmaaaTb1
import Derived.Test.YtdbbaopgmapmaaaTb2
import Derived.Test.YtdbbaopgmapmaaaTb3
import Derived.Test.YtdbbaopgmapmaaaTb4
import Derived.Test.YtdbbaopgmapmaaaTb5
import Derived.Test.YtdbbaopgmapmaaaTb6
set_option linter.unusedSimpArgs false
set_option linter.unusedVariables false
namespace Go.Proofs.Ytdbbaopgmapmaaa
open Go Go.Hm
/-! ### The tables of the examples as answers -/
def eqB : List UInt8 → List UInt8 → Bool
  | [], [] => true
  | a :: l, b :: r => bif Nat.beq a.toNat b.toNat then eqB l r else false
  | _, _ => false
theorem eqB_eq : ∀ (l r : List UInt8), eqB l r = true → l = r
  | [], [], _ => rfl
  | a :: l, b :: r, h => by
    simp only [eqB, Bool.cond_eq_ite] at h
    split at h
    · rename_i h1
      rw [eqB_eq l r h, UInt8.toNat_inj.1 (Nat.eq_of_beq_eq_true h1)]
    · cases h
  | [], _ :: _, h => by cases h
  | _ :: _, [], h => by cases h
def tabsL : List (List UInt8 × AV) := [([40, 97, 124, 98, 41, 42], .agg (Dv tx0 tr0)), ([91, 97, 98, 93, 42], .agg (Dv tx1 tr1)), ([97, 42], .agg (Dv tx2 tr2)), ([97, 43], .agg (Dv tx3 tr3)), ([91, 93], .agg (Dv tx4 tr4)), ([98, 124, 97, 97, 124, 97, 98], .agg (Dv tx5 tr5)), ([97], .agg (Dv tx6 tr6)), ([97, 40, 98, 124, 99, 41], .agg (Dv tx7 tr7)), ([97, 98], .agg (Dv tx8 tr8)), ([97, 98, 124, 97, 99], .agg (Dv tx9 tr9)), ([97, 91, 93, 124, 98], .agg (Dv tx10 tr10)), ([98], .agg (Dv tx11 tr11))]
def pickT (s : List UInt8) : List (List UInt8 × AV) → R
  | [] => none
  | (t, v) :: r => bif eqB s t then some (v, []) else pickT s r
theorem pickT_some (s : List UInt8) (r : AV × Heap) : ∀ l, pickT s l = some r → ∃ v, (s, v) ∈ l ∧ r = (v, [])
  | [], h => by cases h
  | (t, v) :: l, h => by
    simp only [pickT, Bool.cond_eq_ite] at h
    split at h
    · rename_i h1
      rw [eqB_eq _ _ h1]
      exact ⟨v, List.mem_cons_self .., by cases h; rfl⟩
    · obtain ⟨v', h2, h3⟩ := pickT_some s r l h
      exact ⟨v', List.mem_cons_of_mem _ h2, h3⟩
noncomputable def tabX (lk : Nat) (l : List AV) (H : Heap) : R := match l, H with
  | [.val (.string s)], [] => bIf (Nat.beq lk 0) (pickT s.data.toList tabsL)
  | _, _ => none
theorem tabs_all : ∀ p ∈ tabsL, callW X A 0 0 20 [Sg p.1] [] = some (p.2, []) := by
  simp only [tabsL, List.mem_cons, List.not_mem_nil, or_false, forall_eq_or_imp, forall_eq]
  exact ⟨tb0, tb1, tb2, tb3, tb4, tb5, tb6, tb7, tb8, tb9, tb10, tb11⟩
theorem Sg_data (s : ByteArray) : AV.val (.string s) = Sg s.data.toList := rfl
theorem tabX_ok (lk lim : Nat) (l : List AV) (H : Heap) (r : AV × Heap) (h : tabX lk l H = some r) : callW X A lk lim 20 l H = some r := by
  unfold tabX at h
  split at h
  · obtain ⟨h1, h2⟩ := bIf_some h
    have h1 := Nat.eq_of_beq_eq_true h1
    subst h1
    obtain ⟨v, h3, rfl⟩ := pickT_some _ _ _ h2
    have h4 := tabs_all _ h3
    rw [Sg_data, ← h4, callW_eq (f := 20) (fd := t20) rfl A20 rfl, callW_eq (f := 20) (fd := t20) (lim := 0) rfl A20 rfl]
    rfl
  · cases h
noncomputable def ans2 : Ans := (20, tabX) :: ans
theorem ans2_ok : ∀ p ∈ ans2, ∀ lk lim l H r, p.2 lk l H = some r → callW X A lk lim p.1 l H = some r := fun p hp => by
  rcases List.mem_cons.1 hp with rfl | hp
  · exact tabX_ok
  · exact ans_ok p hp
noncomputable def E2 : Orc := callE (gF X (fun _ => false) A ans2) 100000 300
end Go.Proofs.Ytdbbaopgmapmaaa
