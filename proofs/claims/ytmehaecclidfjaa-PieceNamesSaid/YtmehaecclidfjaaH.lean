import Derived.Test.YtmehaecclidfjaaG
set_option linter.unusedSimpArgs false
set_option linter.unusedVariables false
namespace Go.Proofs.Ytmehaecclidfjaa
open Go Go.Hm

theorem cnt_le {fs cm : List UInt8} : ∀ {ns : List Nd}, (∀ n ∈ ns, NdOk fs cm n) → ns.length ≤ (alls fs cm ns).length
  | [], _ => Nat.zero_le _
  | n :: r, h => by
    have h1 := h n (List.mem_cons_self ..)
    have h2 := cnt_le fun m hm => h m (List.mem_cons_of_mem _ hm)
    rw [alls_cons, List.length_append, List.length_cons, txt_len h1]
    have := h1.1
    omega
set_option maxRecDepth 20000 in
theorem lives_ok : callW X A 0 0 8 [] [] = some (Bo true, []) := by
  obtain ⟨H1, ns, k1, t1, e1, -, -⟩ := new_code (H := []) (s := [97, 98, 99]) (by decide)
  have z0 : Sz ([97, 98, 99] : List UInt8) [] := ⟨by decide, by decide⟩
  obtain ⟨H2, k2, cm', ns', t2, e2, -, -, c2⟩ := edit_code (a := 1) (d := 1) (x := [120, 121]) (⟨by decide, by decide⟩) t1 (by rw [e1]; decide)
  rw [e1] at k2 t2 e2
  have q1 : editE ([97, 98, 99] : List UInt8) 1 1 [120, 121] = 0 := by decide
  have q2 : editV ([97, 98, 99] : List UInt8) 1 1 [120, 121] = [97, 120, 121, 99] := by decide
  rw [q1] at k2
  rw [q2] at t2 e2
  have z2 : Sz ([97, 98, 99] : List UInt8) cm' := ⟨by decide, by simp at c2; omega⟩
  have l2 := cnt_le t2.ok
  rw [e2] at l2
  have k3 := text_code (lk := 0) (lim := 0) (Nat.zero_le _) z2 t2 (Nat.le_trans l2 (by decide)) (by rw [e2]; decide)
  rw [e2] at k3
  have k4 := len_code (lk := 0) (lim := 0) t2
  have k1 : callW X A 0 0 11 [.val (.string ⟨#[97, 98, 99]⟩)] [] = some (.tup [.hp 0 4 0, I 0], H1) := k1
  have k2 : callW X A 0 0 12 [.hp 0 4 0, I 1, I 1, .val (.string ⟨#[120, 121]⟩)] H1 = some (I 0, H2) := k2
  have k3 : callW X A 0 0 13 [.hp 0 4 0] H2 = some (Sg [97, 120, 121, 99], H2) := k3
  have k4 : callW X A 0 0 17 [.hp 0 4 0] H2 = some (I 4, H2) := k4
  have ee : abins .eql ⟨⟨[97, 120, 121, 99]⟩⟩ ⟨#[97, 120, 121, 99]⟩ = some (Bo true) := sg_eql [97, 120, 121, 99] [97, 120, 121, 99]
  refine wb_callB [] rfl A8 rfl rfl ?_
  unfold t8B
  generalize callW X A = C at k1 k2 k3 k4 ⊢
  simp [-wb_regN]
  rw [wb_regN]
  simp [-wb_regN]
  rw [wb_regN]
  simp [-wb_regN, k1]
  rw [wb_regN]
  simp [-wb_regN, eqPtr, isPtr]
  rw [wb_regN]
  simp [-wb_regN, k2]
  rw [wb_regN]
  simp [k3, k4, ee]
end Go.Proofs.Ytmehaecclidfjaa
