import Derived.Test.YtdbbaopgmapmaaaP0
import Derived.Test.YtdbbaopgmapmaaaP1
import Derived.Test.YtdbbaopgmapmaaaP4
set_option linter.unusedSimpArgs false
set_option linter.unusedVariables false
namespace Go.Proofs.Ytdbbaopgmapmaaa
open Go Go.Hm
def isIv (v : AV) (b : Int) : Bool := match v with
  | .val (.int .i64 a) => decide (a = b)
  | _ => false
theorem isIv_eq {v : AV} {b : Int} (h : isIv v b = true) : v = I b := by
  unfold isIv at h
  split at h
  · rw [of_decide_eq_true h]
  · cases h
def eqI : List AV → List Int → Bool
  | [], [] => true
  | a :: l, b :: r => bif isIv a b then eqI l r else false
  | _, _ => false
theorem eqI_eq : ∀ (l : List AV) (r : List Int), eqI l r = true → l = ints r
  | [], [], _ => rfl
  | a :: l, b :: r, h => by
    simp only [eqI, Bool.cond_eq_ite] at h
    split at h
    · rename_i h1
      rw [eqI_eq l r h, isIv_eq h1]; rfl
    · cases h
  | [], _ :: _, h => by cases h
  | _ :: _, [], h => by cases h
noncomputable def partsX (lk : Nat) (l : List AV) (H : Heap) : R := match l, H with
  | [.agg [.sl n nx, .sl m rl]], [] => bIf (Nat.beq lk 0) (bif Nat.beq m 3 then bIf (Nat.beq n tx0.length) (bIf (eqI nx tx0) (bIf (eqI rl tr0) (some (.sl 3 [I 0, I 0, I 0], [])))) else bif Nat.beq m 2 then bIf (Nat.beq n tx1.length) (bIf (eqI nx tx1) (bIf (eqI rl tr1) (some (.sl 2 [I 0, I 0], [])))) else bIf (Nat.beq m 1) (bIf (Nat.beq n tx4.length) (bIf (eqI nx tx4) (bIf (eqI rl tr4) (some (.sl 1 [I (-1)], []))))))
  | _, _ => none
theorem lim28 {c : AV} {v : AV × Heap} (h : callW X A 0 0 28 [c] [] = some v) (lim : Nat) : callW X A 0 lim 28 [c] [] = some v := by
  rw [← h, callW_eq (f := 28) (fd := t28) rfl A28 rfl, callW_eq (f := 28) (fd := t28) (lim := 0) rfl A28 rfl]
  rfl
theorem tr0_len : tr0.length = 3 := rfl
theorem tr4_len : tr4.length = 1 := rfl
theorem tr1_len : tr1.length = 2 := rfl
attribute [local irreducible] tx0 tx1 tr0 tr1 tx4 tr4
theorem partsX_ok (lk lim : Nat) (l : List AV) (H : Heap) (r : AV × Heap) (h : partsX lk l H = some r) : callW X A lk lim 28 l H = some r := by
  unfold partsX at h
  split at h
  · rename_i n nx m rl
    obtain ⟨h1, hq⟩ := bIf_some h
    clear h
    have h1 := Nat.eq_of_beq_eq_true h1
    subst h1
    rw [Bool.cond_eq_ite] at hq
    split at hq
    · rename_i h2
      have h2 := Nat.eq_of_beq_eq_true h2
      obtain ⟨h3, ha⟩ := bIf_some hq
      obtain ⟨h4, hb⟩ := bIf_some ha
      obtain ⟨h5, hd⟩ := bIf_some hb
      have h3 := Nat.eq_of_beq_eq_true h3
      have h4 := eqI_eq _ _ h4
      have h5 := eqI_eq _ _ h5
      have hp := lim28 parts0 lim
      simp only [Dv, tr0_len] at hp
      rw [← hd, h2, h3, h4, h5]
      exact hp
    · rw [Bool.cond_eq_ite] at hq
      split at hq
      · rename_i h2
        have h2 := Nat.eq_of_beq_eq_true h2
        obtain ⟨h3, ha⟩ := bIf_some hq
        obtain ⟨h4, hb⟩ := bIf_some ha
        obtain ⟨h5, hd⟩ := bIf_some hb
        have h3 := Nat.eq_of_beq_eq_true h3
        have h4 := eqI_eq _ _ h4
        have h5 := eqI_eq _ _ h5
        have hp := lim28 parts1 lim
        simp only [Dv, tr1_len] at hp
        rw [← hd, h2, h3, h4, h5]
        exact hp
      · obtain ⟨h2, h⟩ := bIf_some hq
        have h2 := Nat.eq_of_beq_eq_true h2
        obtain ⟨h3, ha⟩ := bIf_some h
        obtain ⟨h4, hb⟩ := bIf_some ha
        obtain ⟨h5, hd⟩ := bIf_some hb
        have h3 := Nat.eq_of_beq_eq_true h3
        have h4 := eqI_eq _ _ h4
        have h5 := eqI_eq _ _ h5
        have hp := lim28 parts4 lim
        simp only [Dv, tr4_len] at hp
        rw [← hd, h2, h3, h4, h5]
        exact hp
  · cases h
noncomputable def ans3 : Ans := (28, partsX) :: ans2
theorem ans3_ok : ∀ p ∈ ans3, ∀ lk lim l H r, p.2 lk l H = some r → callW X A lk lim p.1 l H = some r := fun p hp => by
  rcases List.mem_cons.1 hp with rfl | hp
  · exact partsX_ok
  · exact ans2_ok p hp
noncomputable def E3 : Orc := callE (gF X (fun _ => false) A ans3) 100000 300
end Go.Proofs.Ytdbbaopgmapmaaa
