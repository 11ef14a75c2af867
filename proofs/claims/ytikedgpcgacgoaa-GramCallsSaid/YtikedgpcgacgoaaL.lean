import Derived.Test.YtikedgpcgacgoaaK
set_option linter.unusedSimpArgs false
set_option linter.unusedVariables false
namespace Go.Proofs.Ytikedgpcgacgoaa
open Go Go.Hm

def rS (g : Gm) (H : Heap) (o : List Bool) : Heap := H ++ [.cells g.cells, .cells (bools o), .cells [.hs (H.length + 1) g.n.toNat 0 g.n.toNat 1]]
theorem rS_rh (g : Gm) (H : Heap) (o : List Bool) : RH g (rS g H o) H.length o := by
  unfold rS
  exact ⟨by rw [get_at0]; rfl, by rw [Hm.get_at]; rfl, by rw [Hm.get_at]; rfl⟩
theorem rS_set (g : Gm) (H : Heap) (o o2 : List Bool) : (rS g H o).set (H.length + 1) (.cells (bools o2)) = rS g H o2 := by
  unfold rS
  rw [set_at]; rfl
theorem rchP_len (g : Gm) (o : List Bool) (p : Pr) : (rchP g o p).length = o.length := by
  have : ∀ (l : List Int) (q : List Bool), (l.foldl (rchS g) q).length = q.length := by
    intro l
    induction l with
    | nil => intro q; rfl
    | cons a l ih => intro q; simp only [List.foldl_cons]; rw [ih]; exact rchS_len _ _ _
  unfold rchP
  split
  · exact this _ _
  · rfl
def rchV (g : Gm) : AV := if chkE g = 0 then .sl g.n.toNat (bools (rchM g)) else .e0
theorem rchM_len (g : Gm) : (rchM g).length = g.n.toNat :=
  fin_ind (rnd_grows (fun p => rchP_grows g p) g.ps) (fun o => o.length = g.n.toNat) (fun o h => rnd_ind (fun o => o.length = g.n.toNat) g.ps (fun o p _ h => by rw [rchP_len]; exact h) g.ps (fun _ h => h) o h) _ _ (Nat.le_refl _) (by simp)
set_option maxRecDepth 20000 in
theorem rch_code {lk lim : Nat} {H : Heap} (g : Gm) (hl : g.ps.length ≤ 1000000) (hr : ∀ p ∈ g.ps, p.r.length ≤ 1000000) (hlk : lk ≤ H.length) :
    callW X A lk lim 17 [gV g] H = some (rchV g, H) := by
  have kc := fun (L : Nat) (H' : Heap) => check_code (lk := lk) (lim := L) (H := H') g hl hr
  have kg := fun (L : Nat) (ok : GOk g) => grow_code (lk := lk) (lim := L) (f := 41) (cap := [.hp (H.length + 2) 1 0, .hp H.length 4 0]) g.ps (rchP g) (rS g H) (fun o => o.length = g.n.toNat) (H.length + 3) hl rfl
    (fun p => rchP_grows g p) (fun o p _ h => by rw [rchP_len]; exact h) (fun o => by simp [rS]) (fun o p hp ho => by
      have := c41_code (lk := lk) (lim := H.length + 3) (rS_rh g H o) (by omega) ok ho p (ok.p p hp)
      rw [rS_set] at this
      exact this) ((List.replicate g.n.toNat false).set 0 true) (by simp)
  refine wb_callB [] rfl A17 rfl rfl ?_
  unfold t17B
  unfold rchV
  by_cases hc : chkE g = 0
  case neg =>
    rw [if_neg hc]
    obtain ⟨t, n, k, ps⟩ := g
    simp only [gV, Gm.cells] at kc
    generalize callW X A = C at kc ⊢
    simp [Gm.cells, kc, hc]
  have ok := gok_of hc
  rw [if_pos hc]
  rw [hc] at kc
  have kg := fun L => kg L ok
  have hFl := rchM_len g
  obtain ⟨t, n, k, ps⟩ := g
  have n1 := ok.n1
  have n2 := ok.n2
  simp only at n1 n2
  obtain ⟨n, rfl⟩ := Int.eq_ofNat_of_zero_le (by omega : 0 ≤ n)
  simp only [gV, Gm.cells] at kc
  have hro : (n : Int) ≤ (room : Int) := by unfold room; omega
  obtain ⟨F, hF⟩ : ∃ F, rchM ⟨t, n, k, ps⟩ = F := ⟨_, rfl⟩
  rw [hF] at hFl ⊢
  simp only [Int.toNat_natCast] at hFl
  have kg : ∀ L, callW X A lk L 38 [.sl ps.length (psC ps), .fn 41 [.hp (H.length + 2) 1 0, .hp H.length 4 0]] (rS ⟨t, n, k, ps⟩ H ((List.replicate n false).set 0 true)) = some (.tup [], rS ⟨t, n, k, ps⟩ H F) := fun L => by
    rw [← hF]; exact kg L
  have hb := fun (H' : Heap) => frz_bools H.length H' 7 F
  have hb2 := bel_bools 0 F
  have htk : (bools F).take n = bools F := List.take_of_length_le (by rw [bools_len]; omega)
  have hbl : (bools F).length = n := by rw [bools_len]; exact hFl
  simp only [rS, Gm.cells, Int.toNat_natCast] at kg
  simp only [Int.toNat_natCast]
  have s1 : lk ≤ H.length + 1 := by omega
  have s2 : lk ≤ H.length + 2 := by omega
  have s3 : ¬ (H.length + 1 < H.length) := by omega
  have z1 : 0 < n := by omega
  have z2 : 1 ≤ n := by omega
  have z3 : (bools (List.replicate n false)).length = n := by rw [bools_len]; simp
  have z4 : replaceAt (bools (List.replicate n false)) 0 [Bo true] = bools ((List.replicate n false).set 0 true) := by
    rw [replaceAt_one _ (by rw [z3]; omega), bools_set]
  generalize callW X A = C at kc kg ⊢
  simp [Gm.cells, kc, hro, bools_rep, setH, s1, s2, set_at, Hm.get_at, get_at0, kg, hbl, htk, hb, hb2, s3, z1, z2, z3, z4]
end Go.Proofs.Ytikedgpcgacgoaa
