import Derived.Test.YtdbbaopgmapmaaaF4
import Derived.Test.YtdbbaopgmapmaaaW1
import Derived.Test.YtdbbaopgmapmaaaW2
import Derived.Test.YtdbbaopgmapmaaaW3
import Derived.Test.YtdbbaopgmapmaaaW4
set_option linter.unusedSimpArgs false
set_option linter.unusedVariables false
namespace Go.Proofs.Ytdbbaopgmapmaaa
open Go Go.Hm
/-- What is known already: the first part of the example. -/
noncomputable def livesX (lk : Nat) (l : List AV) (H : Heap) : R := List.rec (motive := fun _ => R) (List.rec (motive := fun _ => R) (bIf (Nat.beq lk 0) (some (Bo true, []))) (fun _ _ _ => none) H) (fun _ _ _ => none) l
theorem livesX_ok (lk lim : Nat) (l : List AV) (H : Heap) (r : AV × Heap) (h : livesX lk l H = some r) : callW X A lk lim 9 l H = some r := by
  match l, H with
  | [], [] =>
    obtain ⟨h1, h2⟩ := bIf_some (show bIf (Nat.beq lk 0) (some (Bo true, [])) = some r from h)
    have h1 := Nat.eq_of_beq_eq_true h1
    subst h1
    rw [← h2, ← lives_ok, callW_eq (f := 9) (fd := t9) rfl A9 rfl, callW_eq (f := 9) (fd := t9) (lim := 0) rfl A9 rfl]
    rfl
  | _ :: _, _ => cases h
  | [], _ :: _ => cases h
/-! ### Calls of two arguments that are known -/
def isT (nx tr : List Int) (v : AV) : Bool := match v with
  | .agg [.sl n a, .sl m b] => bif Nat.beq n nx.length then bif Nat.beq m tr.length then bif eqI a nx then eqI b tr else false else false else false
  | _ => false
theorem isT_eq {nx tr : List Int} {v : AV} (h : isT nx tr v = true) : v = .agg (Dv nx tr) := by
  unfold isT at h
  split at h
  · rename_i n a m b
    cases h1 : Nat.beq n nx.length with
    | false => rw [h1] at h; cases h
    | true =>
      cases h2 : Nat.beq m tr.length with
      | false => rw [h1, h2] at h; cases h
      | true =>
        cases h3 : eqI a nx with
        | false => rw [h1, h2, h3] at h; cases h
        | true =>
          rw [h1, h2, h3] at h
          rw [Nat.eq_of_beq_eq_true h1, Nat.eq_of_beq_eq_true h2, eqI_eq _ _ h3, eqI_eq _ _ h]
  · cases h
def pick2 (a b : AV) : List ((AV → Bool) × (AV → Bool) × AV) → R
  | [] => none
  | (p, q, v) :: r => bif p a then (bif q b then some (v, []) else pick2 a b r) else pick2 a b r
theorem pick2_ok {a b : AV} {r : AV × Heap} (P : AV → Prop) : ∀ (fs : List ((AV → Bool) × (AV → Bool) × AV)), (∀ x ∈ fs, x.1 a = true → x.2.1 b = true → P x.2.2) → pick2 a b fs = some r → P r.1 ∧ r.2 = []
  | [], _, h => by cases h
  | (p, q, v) :: fs, hf, h => by
    have ih := pick2_ok (r := r) P fs (fun x hx => hf x (List.mem_cons_of_mem _ hx))
    simp only [pick2, Bool.cond_eq_ite] at h
    split at h
    · rename_i h1
      split at h
      · rename_i h2
        cases h
        exact ⟨hf (p, q, v) (List.mem_cons_self ..) h1 h2, rfl⟩
      · exact ih h
    · exact ih h
noncomputable def twoX (fs : List ((AV → Bool) × (AV → Bool) × AV)) (lk : Nat) (l : List AV) (H : Heap) : R := match l, H with
  | [a, b], [] => bIf (Nat.beq lk 0) (pick2 a b fs)
  | _, _ => none
theorem twoX_ok {f : FuncId} {fd : AFn} (hA : A f = some fd) (hX : ∀ lk lim l H, X lk lim f l H = none) (hn : fd.np = 2) (ht : fd.trunc = true) {fs : List ((AV → Bool) × (AV → Bool) × AV)} (hf : ∀ a b, ∀ x ∈ fs, x.1 a = true → x.2.1 b = true → callW X A 0 0 f [a, b] [] = some (x.2.2, []))
    (lk lim : Nat) (l : List AV) (H : Heap) (r : AV × Heap) (h : twoX fs lk l H = some r) : callW X A lk lim f l H = some r := by
  unfold twoX at h
  split at h
  · rename_i a b
    obtain ⟨h1, h2⟩ := bIf_some h
    have h1 := Nat.eq_of_beq_eq_true h1
    subst h1
    obtain ⟨h3, h4⟩ := pick2_ok (fun v => callW X A 0 0 f [a, b] [] = some (v, [])) fs (hf a b) h2
    obtain ⟨r1, r2⟩ := r
    simp only at h3 h4
    subst h4
    have hl : [a, b].length = fd.np := hn.symm
    rw [← h3, callW_eq (f := f) (fd := fd) (hX _ _ _ _) hA hl, callW_eq (f := f) (fd := fd) (lim := 0) (hX _ _ _ _) hA hl, ht]
    rfl
  · cases h
def fs14 : List ((AV → Bool) × (AV → Bool) × AV) := [(isT tx5 tr5, fun v => isIv v 0, .tup [Sg [98], Bo true]), (isT tx6 tr6, fun v => isIv v 1, .tup [Sg [], Bo false])]
def fs19 : List ((AV → Bool) × (AV → Bool) × AV) := [(isT tx7 tr7, isT tx8 tr8, .tup [Sg [97, 99], Bo true]), (isT tx9 tr9, isT tx7 tr7, .tup [Sg [], Bo false]), (isT tx6 tr6, isT tx11 tr11, .tup [Sg [97], Bo true])]
theorem fs14_ok (a b : AV) : ∀ x ∈ fs14, x.1 a = true → x.2.1 b = true → callW X A 0 0 14 [a, b] [] = some (x.2.2, []) := by
  simp only [fs14, List.mem_cons, List.not_mem_nil, or_false, forall_eq_or_imp, forall_eq]
  exact ⟨fun h1 h2 => by rw [isT_eq h1, isIv_eq h2]; exact sh0, fun h1 h2 => by rw [isT_eq h1, isIv_eq h2]; exact sh1⟩
theorem fs19_ok (a b : AV) : ∀ x ∈ fs19, x.1 a = true → x.2.1 b = true → callW X A 0 0 19 [a, b] [] = some (x.2.2, []) := by
  simp only [fs19, List.mem_cons, List.not_mem_nil, or_false, forall_eq_or_imp, forall_eq]
  exact ⟨fun h1 h2 => by rw [isT_eq h1, isT_eq h2]; exact wi0, fun h1 h2 => by rw [isT_eq h1, isT_eq h2]; exact wi1, fun h1 h2 => by rw [isT_eq h1, isT_eq h2]; exact wi2⟩
noncomputable def ans4 : Ans := (9, livesX) :: (14, twoX fs14) :: (19, twoX fs19) :: ans3
theorem ans4_ok : ∀ p ∈ ans4, ∀ lk lim l H r, p.2 lk l H = some r → callW X A lk lim p.1 l H = some r := fun p hp => by
  rcases List.mem_cons.1 hp with rfl | hp
  · exact livesX_ok
  rcases List.mem_cons.1 hp with rfl | hp
  · exact twoX_ok A14 (fun _ _ _ _ => rfl) rfl rfl fs14_ok
  rcases List.mem_cons.1 hp with rfl | hp
  · exact twoX_ok A19 (fun _ _ _ _ => rfl) rfl rfl fs19_ok
  · exact ans3_ok p hp
noncomputable def E4 : Orc := callE (gF X (fun _ => false) A ans4) 100000 300
theorem names_true : callW X A 0 0 7 [] [] = some (.val (.bool true), []) :=
  run_W X_none ans4_ok 100000 300 E4 rfl _ _ _ _ _ _ rfl (by kernel_rfl)
end Go.Proofs.Ytdbbaopgmapmaaa
