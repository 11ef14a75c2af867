import Derived.Test.YtikedgpcgacgoaaLe1
set_option linter.unusedSimpArgs false
set_option linter.unusedVariables false
namespace Go.Proofs.Ytikedgpcgacgoaa
open Go Go.Hm

def leftR (g : Gm) : Int × Bool := if chkE g = 0 then dgL g.n.toNat (leftM g.n.toNat g.t (derM g false) g.ps) g.n.toNat 0 else (0, false)
def leftV (g : Gm) : AV := .tup [I (leftR g).1, Bo (leftR g).2]
/-- Memory while rows are made. -/
def LR (g : Gm) (H : Heap) (null : List Bool) (n i : Nat) : Heap := H ++ (.cells g.cells :: .cells [.sl n (bools null)] :: .cells (outC (H.length + 4) n i) :: .cells [.hs (H.length + 2) n 0 n 1] :: List.replicate i (.cells (bools (List.replicate n false))))
section
variable {g : Gm} {H : Heap} {null : List Bool} {n i : Nat}
theorem LR_len : (LR g H null n i).length = H.length + 4 + i := by
  unfold LR
  rw [List.length_append]
  simp only [List.length_cons, List.length_replicate]; omega
theorem LR_0 : (LR g H null n i)[H.length]? = some (.cells g.cells) := by unfold LR; rw [get_at0]; rfl
theorem LR_2 : (LR g H null n i)[H.length + 2]? = some (.cells (outC (H.length + 4) n i)) := by unfold LR; rw [Hm.get_at]; rfl
theorem LR_3 : (LR g H null n i)[H.length + 3]? = some (.cells [.hs (H.length + 2) n 0 n 1]) := by unfold LR; rw [Hm.get_at]; rfl
theorem LR_next (hi : i < n) : (LR g H null n i ++ [HB.cells (bools (List.replicate n false))]).set (H.length + 2) (.cells ((outC (H.length + 4) n i).set i (.hs (H.length + 4 + i) n 0 n 1))) = LR g H null n (i + 1) := by
  unfold LR
  rw [List.append_assoc, set_at, outC_set hi, List.replicate_succ']
  rfl
theorem LR_LS : LR g H null n n = LS g H null n (List.replicate (n * n) false) := by
  unfold LR LS matB
  rw [outC_all, matB_zero n n (Nat.le_refl _)]
end
theorem repl_e0 (n : Nat) : repl n [.e0] = List.replicate n .e0 := by simp [repl]
theorem outC_zero (b n : Nat) : outC b n 0 = List.replicate n .e0 := by simp [outC, rowV]
set_option maxRecDepth 20000 in
theorem left_code13 {lk lim : Nat} {H : Heap} (g : Gm) (hl : g.ps.length ≤ 1000000) (hr : ∀ p ∈ g.ps, p.r.length ≤ 1000000) (hlk : lk ≤ H.length) : callW X A lk lim 13 [gV g] H = some (leftV g, H) := by
  have kc := fun (L : Nat) (H' : Heap) => check_code (lk := lk) (lim := L) (H := H') g hl hr
  have kn := fun (L : Nat) (H' : Heap) (h : lk ≤ H'.length) => null_code (lk := lk) (lim := L) (H := H') g hl hr h
  refine wb_callB [] rfl A13 rfl rfl ?_
  unfold t13B
  unfold leftV leftR
  by_cases hc : chkE g = 0
  case neg =>
    rw [if_neg hc]
    obtain ⟨t, n, k, ps⟩ := g
    simp only [gV, Gm.cells] at kc
    generalize callW X A = C at kc ⊢
    simp [Gm.cells, kc, hc]
  have ok := gok_of hc
  rw [if_pos hc]
  rw [hc] at kc
  have lN := derM_len g false
  unfold derV at kn
  rw [if_pos hc] at kn
  generalize derM g false = N at kn lN ⊢
  have hok : PsOk g.t g.n.toNat g.ps := fun p hp => by
    have pok := ok.p p hp
    have := pok.l0
    have := pok.l1
    have := ok.n1
    exact ⟨by omega, fun x hx => by have := pok.s x hx; omega⟩
  have kg := fun (L : Nat) => grow_code (lk := lk) (lim := L) (f := 39) (cap := [.hp (H.length + 3) 1 0, .hp H.length 4 0, .hp (H.length + 1) 1 0]) g.ps (lfP g.n.toNat g.t N) (LS g H N g.n.toNat) (fun o => o.length = g.n.toNat * g.n.toNat) (H.length + 4 + g.n.toNat) hl rfl
    (fun p => lfP_grows g.n.toNat g.t N p) (fun o p _ h => by rw [lfP_len]; exact h) (fun o => LS_len) (fun o p hp ho => c39_code ok lN ho hlk p (ok.p p hp)) (List.replicate (g.n.toNat * g.n.toNat) false) (by simp)
  have hF := leftM_len (n := g.n.toNat) (t := g.t) (null := N) (ps := g.ps)
  have kg : ∀ L, callW X A lk L 38 [.sl g.ps.length (psC g.ps), .fn 39 [.hp (H.length + 3) 1 0, .hp H.length 4 0, .hp (H.length + 1) 1 0]] (LS g H N g.n.toNat (List.replicate (g.n.toNat * g.n.toNat) false)) = some (.tup [], LS g H N g.n.toNat (leftM g.n.toNat g.t N g.ps)) := kg
  generalize leftM g.n.toNat g.t N g.ps = F at hF kg ⊢
  obtain ⟨res, hres⟩ : ∃ res, dgL g.n.toNat F g.n.toNat 0 = res := ⟨_, rfl⟩
  rw [hres]
  have n1 := ok.n1
  have n2 := ok.n2
  have r0 := fun i => LR_0 (g := g) (H := H) (null := N) (n := g.n.toNat) (i := i)
  have r2 := fun i => LR_2 (g := g) (H := H) (null := N) (n := g.n.toNat) (i := i)
  have r3 := fun i => LR_3 (g := g) (H := H) (null := N) (n := g.n.toNat) (i := i)
  have q0 := LS_0 (g := g) (H := H) (null := N) (n := g.n.toNat) (o := F)
  have q2 := LS_2 (g := g) (H := H) (null := N) (n := g.n.toNat) (o := F)
  have q3 := LS_3 (g := g) (H := H) (null := N) (n := g.n.toNat) (o := F)
  have qr := fun i hi => LS_row (g := g) (H := H) (null := N) (n := g.n.toNat) (o := F) (i := i) hi
  have ql := LS_len (g := g) (H := H) (null := N) (n := g.n.toNat) (o := F)
  have hLR := fun i hi => LR_next (g := g) (H := H) (null := N) (n := g.n.toNat) (i := i) hi
  have hLl := fun i => LR_len (g := g) (H := H) (null := N) (n := g.n.toNat) (i := i)
  have hLS := LR_LS (g := g) (H := H) (null := N) (n := g.n.toNat)
  generalize hnn : g.n.toNat = n at *
  have hgn : g.n = n := by omega
  have hstart : H ++ [.cells g.cells, .cells [.sl n (bools N)], .cells (repl n [.e0]), .cells [.hs (H.length + 2) n 0 n 1]] = LR g H N n 0 := by
    unfold LR
    rw [repl_e0, outC_zero]; rfl
  have htk : ∀ o, (LS g H N n o).take H.length = H := fun o => by unfold LS; simp
  obtain ⟨t, n', k, ps⟩ := g
  simp only at hgn
  subst hgn
  simp only at n1 n2 hl hr kg
  simp only [gV, Gm.cells] at kc kn hstart r0 q0
  have hro : (n : Int) ≤ (room : Int) := by unfold room; omega
  have hro2 : (n : Int) * 24 ≤ (room : Int) := by unfold room; omega
  generalize callW X A = C at kc kn kg ⊢
  have kn1 : ∀ L, C lk L 12 [.agg [I t, I n, I k, .sl ps.length (psC ps)]] (H ++ [.cells [I t, I n, I k, .sl ps.length (psC ps)]]) = some (.sl n (bools N), H ++ [.cells [I t, I n, I k, .sl ps.length (psC ps)]]) := fun L => kn L _ (by simp; omega)
  have k1 : lk ≤ H.length + 1 := by omega
  have k2 : lk ≤ H.length + 2 := by omega
  have k3 : lk ≤ H.length + 3 := by omega
  simp [Gm.cells, kc, kn1, setH, k1, k2, k3, set_at, Hm.get_at, get_at0, hro2]
  generalize hg : (⟨t, n, k, ps⟩ : Gm) = g at *
  refine wb_loop (σ := Nat) (fun i => [(1, .hp H.length 4 0), (4, .hp (H.length + 1) 1 0), (5, .hp (H.length + 3) 1 0), (17, I n), (18, I i)]) (fun i => LR g H N n i)
    (fun i => i ≤ n) (fun i => n - i) ?_ 0 (by simp) (by simp) hstart
  intro i hi
  unfold t13L1
  have w1 : IntKind.i64.wrap ((i : Int) + 1) = (i : Int) + 1 := wrap64 (by omega) (by omega)
  have hcl := outC_len (b := H.length + 4) hi
  have r0 := r0 i
  have r2 := r2 i
  have r3 := r3 i
  have hLl := hLl i
  have hbt : H.length < (LR g H N n i).length := by omega
  have hbt2 : H.length + 2 < (LR g H N n i).length := by omega
  by_cases hil : i < n
  · have hLR := hLR i hil
    have hli : i < (outC (H.length + 4) n i).length := by omega
    have hrp := fun v => replaceAt_one (cs := outC (H.length + 4) n i) (k := i) v hli
    have hi1 : i + 1 ≤ n := hil
    have a2 : (LR g H N n i ++ [HB.hole])[H.length + 2]? = some (.cells (outC (H.length + 4) n i)) := by rw [List.getElem?_append_left hbt2]; exact r2
    have s1 : (LR g H N n i ++ [HB.hole]).set (LR g H N n i).length (.cells (bools (List.replicate n false))) = LR g H N n i ++ [.cells (bools (List.replicate n false))] := by simp
    have a3 : (LR g H N n i ++ [HB.cells (bools (List.replicate n false))])[H.length + 2]? = some (.cells (outC (H.length + 4) n i)) := by rw [List.getElem?_append_left hbt2]; exact r2
    have a4 : (LR g H N n i ++ [HB.hole])[(LR g H N n i).length]? = some .hole := by simp
    have htl : (LR g H N n i ++ [HB.hole]).take (LR g H N n i).length = LR g H N n i := by simp
    have htl2 : (LR g H N n i ++ [HB.cells (bools (List.replicate n false))]).take (LR g H N n i).length = LR g H N n i := by simp
    simp [hil]
    refine wb_regM rfl (by decide) (inv_cons2 rfl (inv_cons2 rfl (inv_cons2 rfl (inv_cons2 rfl (inv_cons2 rfl (inv_cons2 rfl (inv_nil _))))))) ?_
    rw [hLl] at s1 a4 htl htl2
    simp [cls, rpOp, isRp, hLl, r3, r0, hil, hi1, hcl, bools_rep, hro, s1, a3, a4, htl, htl2, setH, k2, hrp, hLR]
    rw [rnd_nrm]
    refine ⟨i + 1, by omega, by omega, ?_, rfl⟩
    simp [w1]
  obtain rfl : i = n := by omega
  have g0 := LR_0 (g := g) (H := H) (null := N) (n := i) (i := i)
  rw [hLS] at g0 r3 r0
  rw [hLS]
  simp [r0, kg, q0]
  refine wb_loop (σ := Nat) (fun j => [(5, .hp (H.length + 3) 1 0), (33, I i), (34, I j)]) (fun _ => LS g H N i F)
    (fun j => j ≤ i ∧ dgL i F (i - j) j = res) (fun j => i - j) ?_ 0 ⟨Nat.zero_le _, hres⟩ (by simp) (by simp)
  rintro j ⟨hj, hinv⟩
  unfold t13L2
  have w2 : IntKind.i64.wrap ((j : Int) + 1) = (j : Int) + 1 := wrap64 (by omega) (by omega)
  by_cases hjl : j < i
  case neg =>
    obtain rfl : j = i := by omega
    rw [Nat.sub_self] at hinv
    subst hinv
    simp [dgL, htk]
  have hrl := rowV_len (H.length + 4) i i
  have qr := qr j hjl
  have r1 := rowL_len hF hjl
  have s1 := rowL_get (o := F) (i := j) hjl
  have i1 : j * i + j < F.length := by rw [hF]; exact ix_lt hjl hjl
  obtain ⟨u, hu⟩ : ∃ u, F[j * i + j] = u := ⟨_, rfl⟩
  rw [List.getElem?_eq_getElem i1, hu] at s1
  rw [show i - j = (i - (j + 1)) + 1 by omega, dgL, getD_of i1, hu] at hinv
  generalize hR1 : rowL i F j = R1 at qr r1 s1
  have k1 : j < R1.length := by omega
  rw [List.getElem?_eq_getElem k1, Option.some.injEq] at s1
  have b1 : (bools R1).length = i := by rw [bools_len, r1]
  cases u with
  | true =>
    rw [if_pos rfl] at hinv
    subst hinv
    simp [hjl, q3, q2, hrl, rowV_ge, qr, k1, s1, b1, bools_get, htk]
  | false =>
    rw [if_neg (by simp)] at hinv
    simp [hjl, q3, q2, hrl, rowV_ge, qr, k1, s1, b1, bools_get, w2]
    rw [rnd_nrm]
    refine ⟨j + 1, ⟨by omega, hinv⟩, by omega, ?_, rfl⟩
    simp
end Go.Proofs.Ytikedgpcgacgoaa
