import Derived.Test.YtdmaganalpamlaaGL
import Derived.Test.YtdmaganalpamlaaNm
set_option linter.unusedSimpArgs false
set_option linter.unusedVariables false
namespace Go.Proofs.Ytdmaganalpamlaa
open Go Go.Hm

set_option maxRecDepth 20000 in
set_option maxHeartbeats 2000000 in
theorem ffixed_code (g : Gm) {lk lim : Nat} {H : Heap} (hlk : lk ≤ H.length) : callW X A lk lim 3 [gV g] H = some (Bo true, H) := by
  have k9 := fun (L : Nat) => lives_at (lk := lk) (lim := L) (H := H)
  have kk := fun (L : Nat) => light_code (lk := lk) (lim := L) (H := H) g
  have hcl : (g.cells).length = 4 := rfl
  have ht4 : List.take 4 g.cells = g.cells := rfl
  refine wb_callB [1, 7] rfl A3 rfl rfl ?_
  unfold t3B
  by_cases hli : light g = true
  case neg =>
    have hli : light g = false := by simpa using hli
    rw [hli] at kk
    generalize callW X A = C at k9 kk ⊢
    simp [-wb_true, -wb_false, -wb_regN]
    rw [wb_regN]
    simp [-wb_true, -wb_false, -wb_regN, hcl]
    rw [wb_regN]
    simp [-wb_true, -wb_false, -wb_regN, k9]
    rw [wb_false rfl, wb_skip, fol_nrm, wb_seq, wb_seq, wb_regN]
    simp [-wb_true, -wb_false, -wb_regN, kk, hcl, ht4]
    rw [wb_true rfl]
    simp
  rw [hli] at kk
  obtain ⟨hl, hr⟩ := light_bd hli
  have kc := fun (L : Nat) => rcheck_code (lk := lk) (lim := L) (H := H) g hl hr
  by_cases hc : chkE g = 0
  case neg =>
    generalize chkE g = e at kc hc
    have hc2 : (e != 0) = true := by simpa using hc
    generalize callW X A = C at k9 kk kc ⊢
    simp [-wb_true, -wb_false, -wb_regN]
    rw [wb_regN]
    simp [-wb_true, -wb_false, -wb_regN, hcl]
    rw [wb_regN]
    simp [-wb_true, -wb_false, -wb_regN, k9]
    rw [wb_false rfl, wb_skip, fol_nrm, wb_seq, wb_seq, wb_regN]
    simp [-wb_true, -wb_false, -wb_regN, kk, kc, hc2, hcl, ht4]
    rw [wb_true rfl]
    simp
  rw [hc] at kc
  have ok := gok_of hc
  have hn1 := ok.n1
  have hn2 := ok.n2
  have hl2 := ok.l2
  obtain ⟨n, hn⟩ : ∃ n : Nat, g.n = (n : Int) := Int.eq_ofNat_of_zero_le (by omega)
  have hnn : g.n.toNat = n := by omega
  obtain ⟨v, h', ks, hh, hv⟩ := fsets_code (lk := lk) (lim := H.length) (H := H) hlk g hl hr
  rw [hh] at ks
  rw [if_pos hc] at hv
  obtain ⟨Sc, rfl, hSc⟩ := hv
  obtain ⟨v, h', kf, hh, hv⟩ := sets2_code (lk := lk) (lim := H.length) (H := H) hlk g hl hr
  rw [hh] at kf
  rw [if_pos hc] at hv
  obtain ⟨Fc, rfl, hF⟩ := hv
  have kr := kr_all hc hl hr hF
  have hfo := fol_ok ok
  have hScn : Sc.length = n := by rw [hSc.1, hfo.len, hnn]
  have kq := fun (L : Nat) (cs : List AV) (T : Ss) (hT : SC cs T) (hTn : T = folM g) => srows_hs (lk := lk) (lim := L) (H := H ++ [.cells cs]) (b := H.length) (get_app _ _) hT hSc (by rw [hTn, hfo.len, hnn]; omega) (by rw [hTn]) (by rw [hTn]; exact fun l hl => by have := (hfo.r l hl).size ok; omega)
  have hc1 : ∀ h : 1 < g.cells.length, (g.cells)[1] = I n := fun _ => by rw [← hn]; rfl
  have hc3 : ∀ h : 3 < g.cells.length, (g.cells)[3] = .sl g.ps.length (psC g.ps) := fun _ => rfl
  have hro : n * 24 ≤ room := by unfold room; omega
  generalize callW X A = C at k9 kk kc ks kf kr kq ⊢
  simp [-wb_true, -wb_false, -wb_regN]
  rw [wb_regN]
  simp [-wb_true, -wb_false, -wb_regN, hcl]
  rw [wb_regN]
  simp [-wb_true, -wb_false, -wb_regN, k9]
  rw [wb_false rfl, wb_skip, fol_nrm, wb_seq, wb_seq, wb_regN]
  simp [-wb_true, -wb_false, -wb_regN, -wb_regD, kk, kc, hcl, ht4]
  rw [wb_false rfl, wb_skip, fol_nrm, wb_seq, wb_regD rfl]
  simp [-wb_true, -wb_false, -wb_regN, -wb_regD, ks, kf, hcl, ht4]
  rw [wb_regN]
  simp [-wb_true, -wb_false, -wb_regN, -wb_regD, hcl, hc1, hScn]
  rw [wb_false rfl, wb_skip, fol_nrm, wb_seq, wb_regN]
  simp [-wb_true, -wb_false, -wb_regN, -wb_regD, -wi_mks, hcl, hc1]
  rw [wi_mks, mk_mks (l := .tmp 33) (z := [.e0]) (es := 1) (n := n) rfl rfl hro]
  simp [-wb_true, -wb_false, -wb_regN, -wi_st]
  rw [wb_regN]
  have hn0 : 0 < n := by omega
  have hS0 := sc_set (sc_start n) (j := 0) (v := rowsV [[255]]) (l := [[255]]) (.inl rfl)
  have hset : (repl n [AV.e0]).set 0 (rowsV [[255]]) = replaceAt (repl n [AV.e0]) 0 [.sl 1 [Sg [255]]] := by
    obtain ⟨m, rfl⟩ : ∃ m, n = m + 1 := ⟨n - 1, by omega⟩
    have : repl (m + 1) [AV.e0] = .e0 :: repl m [AV.e0] := rfl
    rw [this]
    simp [replaceAt]
    rfl
  have hst0 : startF g = (List.replicate n []).set 0 [[255]] := by unfold startF; rw [hn, Int.toNat_natCast]
  rw [hset, ← hst0] at hS0
  have hrl : (repl n [AV.e0]).length = n := by simp [repl]
  have hn1' : 1 ≤ n := hn0
  simp [-wb_true, -wb_false, -wb_regN, -wi_st, hn0]
  rw [wi_st]
  have hsg : AV.sl 1 [AV.val (.string ⟨#[255]⟩)] = .sl 1 [Sg [255]] := rfl
  simp [-wb_true, -wb_false, -wb_regN, -wi_st, setH, hlk, hsg, hrl, hn1']
  generalize replaceAt (repl n [AV.e0]) 0 [.sl 1 [Sg [255]]] = cs at *
  rw [wb_regN]
  simp [-wb_true, -wb_false, -wb_regN, -wi_st]
  have hall := all_fol ok
  refine wb_loop (σ := Nat × Ss × List AV) (fun s => lenv H g n Sc Fc.length Fc n [(6, I s.1)]) (fun s => H ++ [.cells s.2.2])
    (fun s => s.1 ≤ g.ps.length ∧ J3 g ((g.ps.drop s.1).flatMap fun p => plsR g.t p.l.toNat p.r) (folM g) s.2.1 s.2.2) (fun s => g.ps.length - s.1) ?_ (0, startF g, cs) ⟨Nat.zero_le _, TOk.start ok, hS0, hall⟩ rfl rfl
  rintro ⟨i, A, cs2⟩ ⟨hi, hJ⟩
  simp only at hi hJ
  unfold t3L2
  by_cases hil : i < g.ps.length
  case neg =>
    obtain rfl : i = g.ps.length := by omega
    rw [List.drop_length, List.flatMap_nil] at hJ
    have hA : A = folM g := hJ.rem
    subst hA
    have kq1 := fun L => kq L cs2 _ hJ.sc rfl
    rw [decide_eq_true rfl] at kq1
    have hcn : cs2.length = n := by rw [hJ.sc.1, hfo.len, hnn]
    simp [-wb_true, -wb_false, -wb_regN, lenv, hcl]
    rw [wb_regN]
    simp [-wb_true, -wb_false, -wb_regN, hcl, hc3]
    rw [wb_false rfl]
    simp [-wb_true, -wb_false, -wb_regN]
    rw [hcn, hScn] at kq1
    rw [wb_regN]
    simp [-wb_true, -wb_false, -wb_regN]
    refine wb_loop (σ := Nat) (fun i => [(1, .box g.cells), (3, .sl n Sc), (5, .hs H.length n 0 n 1), (10, I i)]) (fun _ => H ++ [.cells cs2]) (fun i => i ≤ n) (fun i => n - i) ?_ 0 (Nat.zero_le _) rfl rfl
    intro i hi
    unfold t3L4
    by_cases hil : i < n
    case neg =>
      obtain rfl : i = n := by omega
      simp [-wb_true, -wb_false, -wb_regN]
      rw [wb_regN]
      simp [-wb_true, -wb_false, -wb_regN, hcl, hc1]
      rw [wb_false rfl]
      simp [-wb_true, -wb_false, kq1]
    have w1 : IntKind.i64.wrap ((i : Int) + 1) = (i : Int) + 1 := wrap64 (by omega) (by omega)
    have hil2 : (i : Int) < n := by omega
    obtain ⟨v, hv, hrv⟩ := hSc.get (j := i) (by rw [← hSc.1, hScn]; exact hil)
    simp [-wb_true, -wb_false, -wb_regN]
    rw [wb_regN]
    simp [-wb_true, -wb_false, -wb_regN, hcl, hc1, hil]
    rw [wb_true rfl, wb_skip, fol_nrm, wb_seq, wb_block, wb_seq, wb_regN]
    simp [-wb_true, -wb_false, -wb_regN]
    refine c3L3 (i := i) ok hScn hv hrv (hfo.get i) rfl ?_
    intro E hE
    rw [blk_exit, if_pos rfl]
    show WB _ _ _ _ _
    rw [wb_regN, hE]
    simp [w1]
    rw [rnd_nrm]
    exact ⟨i + 1, hil, by show n - (i + 1) < n - i; omega, rfl, rfl⟩
  obtain ⟨p, hp⟩ : ∃ p, g.ps[i] = p := ⟨_, rfl⟩
  have hpm : p ∈ g.ps := hp ▸ List.getElem_mem hil
  have hs := psC_sub hil
  have hll := psC_len g.ps
  have h2 : i * 2 + 2 ≤ 2 * g.ps.length := by omega
  rw [hp] at hs
  simp only [Pr.cells] at hs
  have hil2 : (i : Int) < g.ps.length := by omega
  have w1 : IntKind.i64.wrap ((i : Int) + 1) = (i : Int) + 1 := wrap64 (by omega) (by omega)
  rw [List.drop_eq_getElem_cons hil, hp, List.flatMap_cons] at hJ
  have hrem := hJ.rem
  rw [List.foldl_append] at hrem
  obtain ⟨R1, hR1⟩ : ∃ R1, (plsR g.t p.l.toNat p.r).foldl (allF g (folM g)) A = R1 := ⟨_, rfl⟩
  rw [hR1] at hrem
  have main : ∀ E, restrict [1, 3, 4, 5, 6, 7, 8] E = env3 H g n Sc Fc.length Fc n i p ⟨0, A, cs2⟩ → ∀ Q : Ex → Kt, (∀ s : T3, ∀ e, J3 g [] R1 s.A s.cs → restrict [1, 3, 4, 5, 6] e = lenv H g n Sc Fc.length Fc n [(6, I i)] → Q (.exit 2) e (H ++ [.cells s.cs])) →
      WB ⟨C, lk, H.length, [1, 7]⟩ (.loop [1, 3, 4, 5, 6, 7, 8] t3L1) Q E (H ++ [.cells cs2]) := by
    intro E hE Q hQ
    refine wb_loop (σ := T3) (env3 H g n Sc Fc.length Fc n i p) (fun s => H ++ [.cells s.cs]) (fun s => s.k ≤ p.r.length ∧ J3 g (plsR g.t p.l.toNat (p.r.drop s.k)) R1 s.A s.cs) (fun s => p.r.length - s.k) ?_ ⟨0, A, cs2⟩ ?_ hE ?_
    · intro s hs
      exact l3_1 (i := i) (R := R1) (n := n) (ns := n) (nf := Fc.length) hlk ok hSc kr hpm hnn rfl hQ s hs
    · exact ⟨Nat.zero_le _, hJ.ok, hJ.sc, hR1⟩
    · rfl
  simp [-wb_true, -wb_false, -wb_regN, -wi_stL, lenv, hcl]
  rw [wb_regN]
  simp [-wb_true, -wb_false, -wb_regN, -wi_stL, hcl, hc3, hil2]
  rw [wb_true rfl, wb_skip, fol_nrm, wb_seq, wb_block, wb_seq, wb_regN]
  simp [-wb_true, -wb_false, -wb_regN, -wi_stL, hcl, hc3, hil, hs, hll, h2]
  rw [wi_stL]
  simp [-wb_true, -wb_false, -wb_regN, replaceAt]
  rw [wb_regN]
  simp [-wb_true, -wb_false, -wb_regN]
  refine main _ (by simp [env3, lenv]) _ ?_
  rintro ⟨k3, A3, cs3⟩ e hJ3 he
  simp only at hJ3 he
  rw [blk_exit, if_pos rfl]
  show WB _ _ _ _ _
  rw [wb_regN, he]
  simp [lenv, w1]
  rw [rnd_nrm]
  have e3 : A3 = R1 := hJ3.rem
  exact ⟨(i + 1, A3, cs3), ⟨hil, hJ3.ok, hJ3.sc, by show List.foldl _ A3 _ = _; rw [e3]; exact hrem⟩, by show g.ps.length - (i + 1) < g.ps.length - i; omega, rfl, rfl⟩
end Go.Proofs.Ytdmaganalpamlaa
