import Derived.Test.YtoiolinclpiohaaN
set_option linter.unusedSimpArgs false
set_option linter.unusedVariables false
namespace Go.Proofs.Ytoiolinclpiohaa
open Go Go.Hm

/-- What is known already: the first part of the example. -/
noncomputable def livesX (lk : Nat) (l : List AV) (H : Heap) : R := List.rec (motive := fun _ => R) (List.rec (motive := fun _ => R) (bIf (Nat.beq lk 0) (some (Bo true, []))) (fun _ _ _ => none) H) (fun _ _ _ => none) l
theorem livesX_ok (lk lim : Nat) (l : List AV) (H : Heap) (r : AV × Heap) (h : livesX lk l H = some r) : callW X A lk lim 11 l H = some r := by
  match l, H with
  | [], [] =>
    obtain ⟨h1, h2⟩ := bIf_some (show bIf (Nat.beq lk 0) (some (Bo true, [])) = some r from h)
    have h1 := Nat.eq_of_beq_eq_true h1
    subst h1
    rw [← h2, ← lives_ok, callW_eq (f := 11) (fd := t11) rfl A11 rfl, callW_eq (f := 11) (fd := t11) (lim := 0) rfl A11 rfl]
    rfl
  | _ :: _, _ => cases h
  | [], _ :: _ => cases h
noncomputable def ans2 : Ans := (11, livesX) :: ans
theorem ans2_ok : ∀ p ∈ ans2, ∀ lk lim l H r, p.2 lk l H = some r → callW X A lk lim p.1 l H = some r := fun p hp => by
  rcases List.mem_cons.1 hp with rfl | hp
  · exact livesX_ok
  · exact ans_ok p hp
noncomputable def E2 : Orc := callE (gF X (fun _ => false) A ans2) 100000 300
theorem nil_code (w : Int) (hw : -9223372036854775808 ≤ w ∧ w ≤ 9223372036854775807) (l : List UInt8) : callW X A 0 0 8 [I w, Sg l] [] = some (Bo true, []) :=
  run_W X_none ans2_ok 100000 300 E2 rfl _ _ _ _ _ _ rfl (by kernel_rfl)
end Go.Proofs.Ytoiolinclpiohaa
