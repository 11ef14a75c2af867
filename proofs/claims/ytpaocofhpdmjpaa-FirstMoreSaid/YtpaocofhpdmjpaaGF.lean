import Derived.Test.YtpaocofhpdmjpaaGE
set_option linter.unusedSimpArgs false
set_option linter.unusedVariables false
namespace Go.Proofs.Ytpaocofhpdmjpaa
open Go Go.Hm

theorem srows_code {lk lim : Nat} {H : Heap} {cs ds : List AV} {S T : Ss} (hS : SC cs S) (hT : SC ds T) (hl : S.length ≤ 1000000) (he : S.length = T.length) (hb : ∀ l ∈ S, l.length ≤ 1000000000) :
    callW X A lk lim 34 [.sl cs.length cs, .sl ds.length ds] H = some (Bo (decide (S = T)), H) := by
  have ks := fun (L : Nat) (va vb : AV) (a b : List (List UInt8)) (ha : RV va a) (hb : RV vb b) h => same_code (lk := lk) (lim := L) (H := H) ha hb h
  have hcs := hS.1
  have hds := hT.1
  refine wb_callB [] rfl A34 rfl rfl ?_
  unfold t34B
  generalize callW X A = C at ks ⊢
  have hne : ((cs.length : Int) != ds.length) = false := by rw [hcs, hds, he]; simp
  simp [hne]
  refine wb_loop (σ := Nat) (fun i => [(0, .sl cs.length cs), (1, .sl ds.length ds), (5, I i)]) (fun _ => H)
    (fun i => i ≤ S.length ∧ decide (S = T) = decide (S.drop i = T.drop i)) (fun i => S.length - i) ?_ 0 (by simp) (by simp [restrict, find]) rfl
  rintro i ⟨hi, hinv⟩
  unfold t34L1
  have w : IntKind.i64.wrap ((i : Int) + 1) = (i : Int) + 1 := wrap64 (by omega) (by omega)
  by_cases hil : i < S.length
  · have hil2 : i < T.length := by omega
    have hc1 : i < cs.length := by omega
    have hc2 : i < ds.length := by omega
    have hc1' : (i : Int) < cs.length := by omega
    obtain ⟨v, hv, hrv⟩ := hS.get hil
    obtain ⟨u, hu, hru⟩ := hT.get hil2
    have hvE : cs[i] = v := by rw [List.getElem?_eq_getElem hc1] at hv; simpa using hv
    have huE : ds[i] = u := by rw [List.getElem?_eq_getElem hc2] at hu; simpa using hu
    have e1 : S.getD i [] = S[i] := by rw [List.getD_eq_getElem?_getD, List.getElem?_eq_getElem hil]; rfl
    have e2 : T.getD i [] = T[i] := by rw [List.getD_eq_getElem?_getD, List.getElem?_eq_getElem hil2]; rfl
    rw [e1] at hrv
    rw [e2] at hru
    rw [List.drop_eq_getElem_cons hil, List.drop_eq_getElem_cons hil2] at hinv
    have ks1 := fun L => ks L v u _ _ hrv hru (hb _ (List.getElem_mem hil))
    generalize S[i] = x at hrv hinv ks1
    generalize T[i] = y at hru hinv ks1
    by_cases hxy : x = y
    · subst hxy
      rw [decide_eq_true rfl] at ks1
      have hinv2 : S = T ↔ S.drop (i + 1) = T.drop (i + 1) := (decide_eq_decide.1 hinv).trans (by simp)
      rcases rv_noRp hrv with rfl | rfl <;> rcases rv_noRp hru with rfl | rfl
      all_goals
        simp [hc1, hc1', hc2, hv, hu, hvE, huE, ks1, w, rnd_nrm]
        exact ⟨i + 1, ⟨by omega, hinv2⟩, by omega, by omega⟩
    · rw [decide_eq_false hxy] at ks1
      have : decide (S = T) = false := by rw [hinv]; simp [hxy]
      rw [this]
      rcases rv_noRp hrv with rfl | rfl <;> rcases rv_noRp hru with rfl | rfl
      all_goals simp [hc1, hc1', hc2, hv, hu, hvE, huE, ks1]
  · obtain rfl : i = S.length := by omega
    rw [List.drop_length, he, List.drop_length] at hinv
    have h2 : decide (S = T) = true := by rw [hinv]; simp
    rw [h2]
    have h3 : ¬ S.length < cs.length := by omega
    simp [h3]

/-! ### The chapter's example -/
def prB (f : Nat) : Bool := Nat.beq f 38 || Nat.beq f 15
noncomputable def E : Orc := callE (gF X0 prB A []) 100000 300
theorem X0_none (f : FuncId) (h : prB f = false) (lk lim : Nat) (l : List AV) (H : Heap) : X0 lk lim f l H = none := by
  simp only [prB, Bool.or_eq_false_iff] at h
  show withRows 38 15 (primX prims) lk lim f l H = none
  unfold withRows
  rw [if_neg (fun e => by subst e; exact absurd h.1 (by decide)), if_neg (fun e => by subst e; exact absurd h.2 (by decide))]
  rfl
theorem lives0 : callW X0 A 0 0 10 [] [] = some (Bo true, []) :=
  run_W X0_none (fun p h => by cases h) 100000 300 E rfl _ _ _ _ _ _ rfl (by kernel_rfl)
theorem lives_at {lk lim : Nat} {H : Heap} : callW X A lk lim 10 [] H = some (Bo true, H) := callW_prim withConst_at
theorem lives_ok : callW X A 0 0 10 [] [] = some (Bo true, []) := lives_at
end Go.Proofs.Ytpaocofhpdmjpaa

namespace Go.Proofs.Ytpaocofhpdmjpaa
open Go Go.Hm

/-- Rows as arguments are. -/
structure LR (l : List (List UInt8)) : Prop where
  n : l.length ≤ 9223372036854775807
  s : ∀ x ∈ l, x.length ≤ 9223372036854775807
def lightR (l : List (List UInt8)) (m : Int) : Bool := l.all (fun x => decide (x.length ≤ 20)) && decide ((l.length : Int) ≤ m)
theorem lrows_code {lk lim : Nat} {H : Heap} {l : List (List UInt8)} (hl : LR l) (m : Int) : callW X A lk lim 28 [rowsV l, I m] H = some (Bo (lightR l m), H) := by
  refine wb_callB [] rfl A28 rfl rfl ?_
  unfold t28B
  generalize callW X A = C
  simp
  refine wb_loop (σ := Nat) (fun i => [(0, rowsV l), (1, I m), (5, I i)]) (fun _ => H) (fun i => i ≤ l.length ∧ lightR l m = ((l.drop i).all (fun x => decide (x.length ≤ 20)) && decide ((l.length : Int) ≤ m))) (fun i => l.length - i) ?_ 0 ⟨by omega, by simp [lightR]⟩ (by simp [restrict, find]) rfl
  rintro i ⟨hi, hinv⟩
  have hln := hl.n
  unfold t28L1
  by_cases hil : i < l.length
  · have hd := List.drop_eq_getElem_cons hil
    have w1 : IntKind.i64.wrap ((i : Int) + 1) = (i : Int) + 1 := wrap64 (by omega) (by omega)
    have ga := rowsB_getE hil
    rw [hd, List.all_cons] at hinv
    generalize l[i] = x at ga hinv
    by_cases hx : (20 : Int) < x.length
    · have : decide (x.length ≤ 20) = false := decide_eq_false (by omega)
      rw [this, Bool.false_and, Bool.false_and] at hinv
      simp [hil, ga, Sg_size, hx, hinv]
    · have : decide (x.length ≤ 20) = true := decide_eq_true (by omega)
      rw [this, Bool.true_and] at hinv
      simp [hil, ga, Sg_size, hx, w1, rnd_nrm]
      exact ⟨i + 1, ⟨by omega, hinv⟩, by omega, by omega⟩
  · obtain rfl : i = l.length := by omega
    rw [List.drop_length] at hinv
    rw [hinv]
    simp
def endIn (x : List UInt8) (k : Nat) : Bool := ((x.take (x.length - 1)).drop k).any (· == 255)
def rightAt (l d : List (List UInt8)) : Bool := if d.any (fun x => endIn x 0) = true then false else lightR l 6
def rightB (l : List (List UInt8)) : Bool := rightAt l l
theorem endIn_step {x : List UInt8} {k : Nat} (h : k + 1 < x.length) : endIn x k = (x[k] == 255 || endIn x (k + 1)) := by
  unfold endIn
  have hk : k < (x.take (x.length - 1)).length := by rw [List.length_take]; omega
  rw [List.drop_eq_getElem_cons hk, List.any_cons, List.getElem_take]
theorem endIn_end {x : List UInt8} {k : Nat} (h : ¬ k + 1 < x.length) : endIn x k = false := by
  unfold endIn
  rw [List.drop_of_length_le (by rw [List.length_take]; omega)]; rfl
set_option maxRecDepth 20000 in
theorem right_code {lk lim : Nat} {H : Heap} {l : List (List UInt8)} (hl : LR l) : callW X A lk lim 11 [rowsV l] H = some (Bo (rightB l), H) := by
  have kl := fun (L : Nat) => lrows_code (lk := lk) (lim := L) (H := H) hl 6
  refine wb_callB [] rfl A11 rfl rfl ?_
  unfold t11B
  generalize callW X A = C at kl ⊢
  simp
  refine wb_loop (σ := Nat) (fun i => [(0, rowsV l), (3, I i)]) (fun _ => H) (fun i => i ≤ l.length ∧ rightB l = rightAt l (l.drop i)) (fun i => l.length - i) ?_ 0 ⟨by omega, rfl⟩ (by simp [restrict, find]) rfl
  rintro i ⟨hi, hinv⟩
  have hln := hl.n
  unfold t11L2
  by_cases hil : i < l.length
  · have hd := List.drop_eq_getElem_cons hil
    have w1 : IntKind.i64.wrap ((i : Int) + 1) = (i : Int) + 1 := wrap64 (by omega) (by omega)
    have ga := rowsB_getE hil
    have hxl := hl.s _ (List.getElem_mem hil)
    have hra : ∀ x d, rightAt l (x :: d) = if endIn x 0 = true then false else rightAt l d := fun x d => by
      unfold rightAt
      rw [List.any_cons]
      cases endIn x 0 <;> simp
    rw [hd, hra] at hinv
    generalize l[i] = x at ga hinv hxl
    simp [hil]
    refine wb_loop (σ := Nat) (fun k => [(0, rowsV l), (3, I i), (4, I k)]) (fun _ => H) (fun k => (k = 0 ∨ k < x.length) ∧ endIn x 0 = endIn x k) (fun k => x.length - k) ?_ 0 ⟨.inl rfl, rfl⟩ (by simp [restrict, find]) rfl
    rintro k ⟨hk, hke⟩
    unfold t11L1
    have w2 : IntKind.i64.wrap ((k : Int) + 1) = (k : Int) + 1 := wrap64 (by omega) (by omega)
    by_cases hk1 : k + 1 < x.length
    · have hk1' : (k : Int) + 1 < x.length := by omega
      have hkl : k < x.length := by omega
      rw [endIn_step hk1] at hke
      have hg : (⟨⟨x⟩⟩ : ByteArray)[k]'hkl = x[k] := rfl
      generalize x[k] = c at hke hg
      have hb := byte_eq c
      cases hc : c == 255 with
      | true =>
        rw [hc] at hb hke
        rw [hke] at hinv
        have hinv : rightB l = false := by rw [hinv]; simp
        rw [hinv]
        simp [hil, ga, Sg_size, Sg_get, w2, hk1', hkl, hg, hb]
      | false =>
        rw [hc] at hb hke
        simp [hil, ga, Sg_size, Sg_get, w2, hk1', hkl, hg, hb, rnd_nrm]
        exact ⟨k + 1, ⟨.inr hk1, by simpa using hke⟩, by omega, by omega⟩
    · have hk1' : ¬ (k : Int) + 1 < x.length := by omega
      rw [endIn_end hk1] at hke
      rw [hke, if_neg (by simp)] at hinv
      simp [hil, ga, Sg_size, w2, hk1', w1, rnd_nrm]
      exact ⟨i + 1, ⟨by omega, hinv⟩, by omega, by omega⟩
  · obtain rfl : i = l.length := by omega
    rw [List.drop_length] at hinv
    have hinv : rightB l = lightR l 6 := by rw [hinv]; simp [rightAt]
    simp [kl, hinv]
theorem right_light {l : List (List UInt8)} (h : rightB l = true) : l.length ≤ 6 ∧ ∀ x ∈ l, x.length ≤ 20 := by
  unfold rightB rightAt at h
  split at h
  · cases h
  · unfold lightR at h
    rw [Bool.and_eq_true, List.all_eq_true, decide_eq_true_eq] at h
    exact ⟨by omega, fun x hx => by simpa using h.1 x hx⟩
end Go.Proofs.Ytpaocofhpdmjpaa
