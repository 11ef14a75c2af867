/- MunchNames: the chapter's example comes out as it tells: the law returns true. No conditions. -/
import Derived.Test.YtoiolinclpiohaaH
set_option linter.unusedSimpArgs false
set_option linter.unusedVariables false
namespace Go.Proofs.Ytoiolinclpiohaa.munchNames
open Go Go.Hm Go.ChangeShapes Go.WideShapes Go.ChangeAt Go.RowKit

/-- What is known already: the first part of the example. -/
noncomputable def livesX (lk : Nat) (l : List AV) (H : Heap) : R := List.rec (motive := fun _ => R) (List.rec (motive := fun _ => R) (bIf (Nat.beq lk 0) (some (Bo true, []))) (fun _ _ _ => none) H) (fun _ _ _ => none) l
theorem livesX_ok (lk lim : Nat) (l : List AV) (H : Heap) (r : AV × Heap) (h : livesX lk l H = some r) : callW X A lk lim 11 l H = some r := by
  match l, H with
  | [], [] =>
    obtain ⟨h1, h2⟩ := bIf_some (show bIf (Nat.beq lk 0) (some (Bo true, [])) = some r from h)
    have h1 := Nat.eq_of_beq_eq_true h1
    subst h1
    rw [← h2, ← lives_ok, callW_eq (f := 11) (fd := t11) rfl A11 rfl, callW_eq (f := 11) (fd := t11) (lim := 0) rfl A11 rfl]
    rfl
  | _ :: _, _ => cases h
  | [], _ :: _ => cases h
noncomputable def ans2 : Ans := (11, livesX) :: ans
theorem ans2_ok : ∀ p ∈ ans2, ∀ lk lim l H r, p.2 lk l H = some r → callW X A lk lim p.1 l H = some r := fun p hp => by
  rcases List.mem_cons.1 hp with rfl | hp
  · exact livesX_ok
  · exact ans_ok p hp
noncomputable def E2 : Orc := callE (gF X (fun _ => false) A ans2) 100000 300
theorem names_true : callW X A 0 0 7 [] [] = some (.val (.bool true), []) :=
  run_W X_none ans2_ok 100000 300 E2 rfl _ _ _ _ _ _ rfl (by kernel_rfl)

set_option maxRecDepth 100000 in
theorem lifted (os : Os) (started : os.Started) (H : Type) (enc : TypeId × Value → H) :
    ReturnsInHanded {} Try.checked os 7 .any (Rows.munchNamesSpec.pre6 enc Try.prog Try.f7 Rows.munchNamesRow.domain false) (Rows.munchNamesSpec.post enc Try.prog Try.f7 false true false false) := by
  refine returnsInHanded_of_change (C := Try.checked) own started (by kernel_rfl) Try.func7
    (ChangeSpec.witness6 (enc := enc) (C := Try.checked) false ⟨#[], #[], []⟩ 8 (by kernel_rfl) (by kernel_rfl) (by kernel_rfl) (by kernel_rfl)) ?_
  intro W base args ds gs before hval hW _ _
  exact law_contract (d := 8) (tb := 4) orcOk (by decide) laidOut (by kernel_rfl) rfl Try.underlying4 rfl (by kernel_rfl)
    (fun ds hl => match ds, hl with | [], _ => rfl) (fun l hl => match l, hl with | [], _ => ⟨0, 0, [], names_true⟩) hval hW

theorem holds : Rows.MunchNamesSaid :=
  OpenClaim.holds_of_wide 7 Try.f7 rfl rfl rfl rfl rfl rfl rfl ⟨rfl, rfl, rfl, rfl, rfl⟩ rfl rfl rfl rfl rfl (by kernel_rfl) Try.func7 (by kernel_rfl)
    (of_decide_eq_true (by kernel_rfl)) (by unfold Func.isWrapper; first | (rw [if_pos (by decide +kernel)]; kernel_rfl) | (rw [if_neg (by decide +kernel)]; exact ⟨rfl, rfl⟩))
    (fun os started H enc _ => lifted os started H enc)
end Go.Proofs.Ytoiolinclpiohaa.munchNames
#print axioms Go.Proofs.Ytoiolinclpiohaa.munchNames.holds
