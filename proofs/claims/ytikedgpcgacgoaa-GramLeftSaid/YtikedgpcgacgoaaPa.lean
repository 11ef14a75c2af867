import Derived.Test.YtikedgpcgacgoaaZ
set_option linter.unusedSimpArgs false
set_option linter.unusedVariables false
namespace Go.Proofs.Ytikedgpcgacgoaa
open Go Go.Hm

theorem seenM_0 (ps : List Pr) (h : ∀ p ∈ ps, 0 ≤ p.l) : seenM ps 0 0 = List.replicate ps.length 0 := by
  apply List.ext_getElem?
  intro x
  rcases Nat.lt_or_ge x ps.length with hx | hx
  · rw [seenM_get _ _ _ _ hx, List.getElem?_replicate, if_pos hx]
    have gD : ps.getD x ⟨0, []⟩ = ps[x] := by rw [List.getD_eq_getElem?_getD, List.getElem?_eq_getElem hx]; rfl
    have := h ps[x] (List.getElem_mem hx)
    rw [gD, if_neg (by omega)]
  · rw [List.getElem?_eq_none (by rw [seenM_len]; omega), List.getElem?_eq_none (by simpa using hx)]
theorem repl_ints (n : Nat) : repl n [.val (.int .i64 0)] = ints (List.replicate n 0) := by
  simp [repl, ints]
theorem cpS_get (b : Nat) (ps : List Pr) (i : Nat) (v : AV) (h : (cpS b ps)[i * 2 + 1]? = some v) : v = .e0 ∨ ∃ c r, v = .hs c (List.length (α := Int) r) 0 r.length 1 ∧ ∃ p ∈ ps, p.r = r := by
  induction ps generalizing b i with
  | nil => simp [cpS] at h
  | cons p l ih =>
    cases i with
    | zero =>
      have h : cpV b p.r = v := by simpa [cpS] using h
      unfold cpV at h
      split at h
      · exact .inl h.symm
      · exact .inr ⟨b, p.r, h.symm, p, by simp, rfl⟩
    | succ i =>
      rw [show (i + 1) * 2 + 1 = i * 2 + 1 + 1 + 1 by omega] at h
      simp only [cpS, List.getElem?_cons_succ] at h
      rcases ih _ _ h with h | ⟨c, r, h, q, hq, hr⟩
      · exact .inl h
      · exact .inr ⟨c, r, h, q, List.mem_cons_of_mem _ hq, hr⟩
theorem WC_cop (x : HB) (ps : List Pr) (h0 : ¬ ps = []) : WC ps.length (cpS 2 ps) (copH [x] ps) := by
  have hpc := PC_cp ps ([x] ++ [.cells (cpS 2 ps)])
  have e : copH [x] ps = [x] ++ [.cells (cpS 2 ps)] ++ cpB ps := by
    unfold copH
    rw [if_neg h0]; rfl
  rw [e]
  refine ⟨cpS_len _ _, by rfl, fun i hi => ?_⟩
  obtain ⟨v, h1, h2⟩ := hpc.row i hi
  have hl := cpS_len 2 ps
  change ((cpS 2 ps).drop (i * 2)).take 2 = _ at h1
  have g0 : (cpS 2 ps)[i * 2]? = some (I ps[i].l) := by
    have := congrArg (fun l : List AV => l[0]?) h1
    simpa [List.getElem?_take, List.getElem?_drop] using this
  have g1 : (cpS 2 ps)[i * 2 + 1]? = some v := by
    have := congrArg (fun l : List AV => l[1]?) h1
    simpa [List.getElem?_take, List.getElem?_drop] using this
  refine ⟨⟨_, g0⟩, v, g1, ?_⟩
  rcases cpS_get 2 ps i v g1 with h | ⟨c, r, h, _⟩
  · exact .inl h
  · subst h
    generalize hv : AV.hs c r.length 0 r.length 1 = v at h2 g1
    cases h2 with
    | e0 => cases hv
    | sl => cases hv
    | hs b hb =>
      injection hv with e1 e2 e3 e4
      subst e1
      refine .inr ⟨c, ps[i].r, rfl, ?_, hb⟩
      rintro rfl
      have : (ints ps[i].r) = cpS 2 ps := by
        have hb' : some (HB.cells (cpS 2 ps)) = some (.cells (ints ps[i].r)) := hb
        simpa using hb'.symm
      rw [← this] at g1
      simp [ints_get] at g1
set_option maxRecDepth 20000 in
theorem parts_code (g : Gm) : callW X A 0 0 6 [gV g] [] = some (Bo true, []) := by
  have kl := fun (L : Nat) => lives_code L
  have kk := fun (L : Nat) (H : Heap) => light_code (lk := 0) (lim := L) (H := H) g
  refine wb_callB [1, 8, 9] rfl A6 rfl rfl ?_
  unfold t6B
  by_cases hli : light g = true
  case neg =>
    have hli : light g = false := by simpa using hli
    rw [hli] at kk
    obtain ⟨t, n, k, ps⟩ := g
    simp only [gV, Gm.cells] at kk
    generalize callW X A = C at kl kk ⊢
    simp [Gm.cells, kl, kk]
  rw [hli] at kk
  obtain ⟨hl, hr⟩ := light_bd hli
  have kc := fun (L : Nat) (H : Heap) => check_code (lk := 0) (lim := L) (H := H) g hl hr
  by_cases hc : chkE g = 0
  case neg =>
    obtain ⟨t, n, k, ps⟩ := g
    simp only [gV, Gm.cells] at kk kc
    generalize callW X A = C at kl kk kc ⊢
    simp [Gm.cells, kl, kk, kc, hc]
  have ok := gok_of hc
  rw [hc] at kc
  have ko := fun (L : Nat) (H : Heap) (left : Int) => of_code (lk := 0) (lim := L) (H := H) g left hl hr (Nat.zero_le _)
  have ku := fun (L : Nat) (H : Heap) => own20_code (lk := 0) (lim := L) (H := H) g hl hr (Nat.zero_le _)
  have kp := fun (H : Heap) => copy21_code (lk := 0) (lim := 0) (H := H) g hl hr (Nat.zero_le _) (Nat.zero_le _)
  have ks := fun (L : Nat) (H : Heap) (h : Gm) (v w : AV) (a1 : h.ps.length ≤ 1000000) (a2 : ∀ p ∈ h.ps, p.r.length ≤ 1000000) (hv : PS H h.ps v) (hw : PS H g.ps w) => same22_code (lk := 0) (lim := L) (H := H) h g a1 hl a2 hr v w hv hw
  unfold ofV at ko
  simp only [if_pos hc] at ko
  obtain ⟨t, n, k, ps⟩ := g
  have ok2 := ok
  obtain ⟨t1, t2, n1, n2, k1, k2, l1, l2, okp⟩ := ok2
  simp only at t1 t2 n1 n2 k1 k2 l1 l2 okp hl hr
  obtain ⟨n, rfl⟩ := Int.eq_ofNat_of_zero_le (by omega : 0 ≤ n)
  simp only [gV, Gm.cells, gW] at kk kc ko ku kp ks
  generalize hC : callW X A = C at kl kk kc ko ku kp ks ⊢
  have hne : ¬ ps = [] := fun h => by rw [h] at l1; simp at l1
  have hro : (ps.length : Int) * 8 ≤ (room : Int) := by unfold room; omega
  simp [Gm.cells, kl, kk, kc, hro, repl_ints]
  let bx : AV := .box [I t, I n, I k, .sl ps.length (psC ps)]
  refine wb_loop (σ := Nat) (fun i => [(1, bx), (3, .hs 0 ps.length 0 ps.length 1), (4, I i)]) (fun i => [.cells (ints (seenM ps i 0))])
    (fun i => i ≤ n) (fun i => n - i) ?_ 0 (by simp) (by simp [bx]) (by rw [seenM_0 ps (fun p hp => (okp p hp).l0)])
  intro i hi
  unfold t6L2
  have w1 : IntKind.i64.wrap ((i : Int) + 1) = (i : Int) + 1 := wrap64 (by omega) (by omega)
  by_cases hil : i < n
  · have done : ∀ (E : Env) (H' : Heap), E = [(1, bx), (3, .hs 0 ps.length 0 ps.length 1), (4, I ((i : Int) + 1))] → H' = [.cells (ints (seenM ps (i + 1) 0))] → ∃ i' : Nat, i' ≤ n ∧ n - i' < n - i ∧ E = [(1, bx), (3, .hs 0 ps.length 0 ps.length 1), (4, I i')] ∧ H' = [HB.cells (ints (seenM ps i' 0))] := fun E H' h1 h2 => ⟨i + 1, by omega, by omega, by rw [h1]; simp, h2⟩
    have ko := fun L H => ko L H (i : Int)
    have hO := fun k h => ofN_lt (ps := ps) (left := i) (m := ps.length) (k := k) h
    have hS : ∀ j k (hj : j < (ofN ps i ps.length).length) (hk : k < (ofN ps i ps.length).length), j < k → (ofN ps i ps.length)[j] < (ofN ps i ps.length)[k] := fun j k _ hk hjk => ofN_sorted (ps := ps) (left := i) (m := ps.length) (j := j) (k := k) hjk hk
    have hOl := ofN_len ps i ps.length
    have hF := fold_inc ps i ps.length (Nat.le_refl _)
    rw [seen_next] at hF
    have hsl := seenM_len ps i 0
    generalize seenM ps (i + 1) 0 = s1 at hF done
    generalize seenM ps i 0 = s0 at hF hsl ⊢
    generalize ofN ps i ps.length = o at ko hO hOl hF hS
    by_cases ho : o = []
    · have hsv : slvN o = .e0 := by unfold slvN; rw [if_pos ho]
      subst ho
      have hF : s0 = s1 := hF
      subst hF
      rw [hsv] at ko
      simp [bx, hil, ko]
      refine wb_loop0 ?_
      unfold t6L1
      simp [w1]
      rw [rnd_nrm]
      refine done _ _ ?_ rfl
      simp [bx]
    · have hsv : slvN o = .sl o.length (nts o) := by unfold slvN; rw [if_neg ho]
      rw [hsv] at ko
      simp [bx, hil, ko]
      refine p6L1 (t := t) (k' := k) (n := n) (i := i) l2 hsl hO (fun j k hk hjk => hS j k (by omega) hk hjk) hOl (by simp) (fun env' hE' => ?_)
      rw [hF, blk_exit, if_pos rfl, blk_nrm, fol_nrm, wb_regN, hE']
      simp [w1]
      rw [rnd_nrm]
      refine done _ _ ?_ rfl
      simp [bx]
  obtain rfl : i = n := by omega
  have hones : ∀ x, x < ps.length → (seenM ps i 0)[x]? = some 1 := fun x hx => by
    have gD : ps.getD x ⟨0, []⟩ = ps[x] := by rw [List.getD_eq_getElem?_getD, List.getElem?_eq_getElem hx]; rfl
    have := (okp ps[x] (List.getElem_mem hx)).l1
    simp only at this
    rw [seenM_get _ _ _ _ hx, gD, if_pos (.inl this)]
  have hsl := seenM_len ps i 0
  generalize seenM ps i 0 = s at hones hsl ⊢
  simp [bx]
  refine wb_loop (σ := Nat) (fun x => [(1, bx), (3, .hs 0 ps.length 0 ps.length 1), (7, I x)]) (fun _ => [.cells (ints s)])
    (fun x => x ≤ ps.length) (fun x => ps.length - x) ?_ 0 (by simp) (by simp [bx]) rfl
  intro x hx
  unfold t6L3
  have w2 : IntKind.i64.wrap ((x : Int) + 1) = (x : Int) + 1 := wrap64 (by omega) (by omega)
  by_cases hxl : x < ps.length
  · have h1 := hones x hxl
    have hil : (ints s).length = ps.length := by rw [ints_len]; omega
    have hxs : x < s.length := by omega
    rw [List.getElem?_eq_getElem hxs] at h1
    have h1 : s[x] = 1 := by simpa using h1
    have hb : ((1 : Int) != 1) = false := by decide
    simp [bx, hxl, hil, ints_get, hxs, h1, hb, w2]
    rw [rnd_nrm]
    refine ⟨x + 1, by omega, by omega, ?_, rfl⟩
    simp [bx]
  obtain rfl : x = ps.length := by omega
  have hcV : copV [HB.cells (ints s)] ps = .hs 1 (2 * ps.length) 0 ps.length 2 := by unfold copV; rw [if_neg hne]; rfl
  have hps := cop_ps [HB.cells (ints s)] ps
  have hWC := WC_cop (.cells (ints s)) ps hne
  have kp := kp [.cells (ints s)]
  rw [hcV] at kp hps
  have hfz : fzP ps = .sl ps.length (psZ ps) := by unfold fzP; rw [if_neg hne]
  rw [hfz] at ku
  have k1 := fun L => ks L (copH [.cells (ints s)] ps) ⟨t, i, k, ps⟩ _ _ hl hr hps (PS_psC _ ps)
  rw [decide_eq_true rfl] at k1
  simp only at k1
  simp [-wi_stL, bx, ku]
  rw [wi_stL]
  simp [-wi_stL, replaceAt, kp]
  rw [wi_stL]
  simp [replaceAt, k1]
  obtain ⟨p0, pt, rfl⟩ : ∃ p0 pt, ps = p0 :: pt := by
    cases ps with
    | nil => exact absurd rfl hne
    | cons a b => exact ⟨a, b, rfl⟩
  have hcl : ∀ j v, (cpS 2 (p0 :: pt))[j * 2 + 1]? = some v → v = .e0 ∨ ∃ b m, v = .hs b m 0 m 1 ∧ m ≤ 1000 := fun j v h => by
    rcases cpS_get 2 _ j v h with h | ⟨c, r, h, q, hq, hqr⟩
    · exact .inl h
    · have := (okp q hq).len
      rw [hqr] at this
      exact .inr ⟨c, r.length, h, by omega⟩
  refine p6L5 (l0 := p0.l) (t := t) (k' := k) (n := i) (b1 := bx) (b8 := .box [I t, I i, I k, .sl (p0 :: pt).length (psZ (p0 :: pt))]) l2 hWC rfl hcl (by simp [bx]) (fun env' H' cs' hE' hw' h0' hlen' => ?_)
  obtain ⟨ps', q1, q2, q3⟩ := hw'.ps
  have q0 : 0 < ps'.length := by rw [q1]; simp
  have q4 := (q3 0 q0).1
  have h0' := h0' (by simp)
  have hl0 := (okp p0 (by simp)).l0
  have hl1 := (okp p0 (by simp)).l1
  simp only at hl1
  have w4 : IntKind.i64.wrap (p0.l + 1) = p0.l + 1 := wrap64 (by omega) (by omega)
  rw [w4] at h0'
  have hne2 : ¬ (⟨t, i, k, ps'⟩ : Gm) = ⟨t, i, k, p0 :: pt⟩ := fun h => by
    have e : ps' = p0 :: pt := by simpa using h
    subst e
    simp only [Nat.zero_mul, List.getElem_cons_zero] at q4
    rw [h0'] at q4
    have : p0.l + 1 = p0.l := by simpa using q4
    omega
  have hr' : ∀ p ∈ ps', p.r.length ≤ 1000000 := fun p hp => by
    obtain ⟨j, hj, rfl⟩ := List.getElem_of_mem hp
    obtain ⟨_, v, hv, hi⟩ := q3 j hj
    rcases hlen' j v hv with h | ⟨b, m, h, hm⟩
    · subst h
      generalize hz : AV.e0 = z at hi
      cases hi with
      | e0 h => rw [h]; simp
      | sl => cases hz
      | hs _ _ => cases hz
    · subst h
      generalize hz : AV.hs b m 0 m 1 = z at hi
      cases hi with
      | e0 h => cases hz
      | sl => cases hz
      | hs _ _ => injection hz with z1 z2; omega
  have k2 := fun L => ks L H' ⟨t, i, k, ps'⟩ _ _ (by simp only; omega) hr' q2 (PS_psC _ (p0 :: pt))
  have k3 := fun L => ks L H' ⟨t, i, k, p0 :: pt⟩ _ _ hl hr (PS_psC _ (p0 :: pt)) (.sl _ (PC_psZ _ (p0 :: pt)))
  rw [decide_eq_false hne2] at k2
  rw [decide_eq_true rfl] at k3
  simp only [List.length_cons] at k2 k3
  rw [blk_exit, if_pos rfl, fol_nrm, wb_seq, wb_regN, hE']
  simp [bx, k2, k3]
end Go.Proofs.Ytikedgpcgacgoaa
