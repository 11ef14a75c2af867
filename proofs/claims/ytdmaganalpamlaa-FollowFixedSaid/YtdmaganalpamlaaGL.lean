import Derived.Test.YtdmaganalpamlaaGK
set_option linter.unusedSimpArgs false
set_option linter.unusedVariables false
namespace Go.Proofs.Ytdmaganalpamlaa
open Go Go.Hm

structure T3 where
  k : Nat
  A : Ss
  cs : List AV
structure J3 (g : Gm) (rest : List Pl) (R : Ss) (A : Ss) (cs : List AV) : Prop where
  ok : TOk g A
  sc : SC cs A
  rem : rest.foldl (allF g (folM g)) A = R
def lenv (H : Heap) (g : Gm) (ns : Nat) (Sc : List AV) (nf : Nat) (Fc : List AV) (n : Nat) (t : Env) : Env := (1, .box g.cells) :: (3, .sl ns Sc) :: (4, .sl nf Fc) :: (5, .hs H.length n 0 n 1) :: t
def env3 (H : Heap) (g : Gm) (ns : Nat) (Sc : List AV) (nf : Nat) (Fc : List AV) (n i : Nat) (p : Pr) (s : T3) : Env := lenv H g ns Sc nf Fc n [(6, I i), (7, .box [I p.l, .sl p.r.length (ints p.r)]), (8, I s.k)]
set_option maxRecDepth 20000 in
set_option maxHeartbeats 1000000 in
theorem r3_1 {C : Orc} {lk : Nat} {H : Heap} (hlk : lk ≤ H.length) {g : Gm} {ns nf : Nat} {Sc Fc : List AV} {p : Pr} (pok : POk g p) {n i j m l : Nat} {cs : List AV} {Q : Ex → Kt} {E : Env} {sf : List Int} {ov vm vl cv uv : AV} {o Sm Sl c u : List (List UInt8)} (hjl : j < p.r.length) (hl : p.l = (l : Int))
    (hE : restrict [1, 3, 4, 5, 6, 7, 8, 9] E = lenv H g ns Sc nf Fc n [(6, I i), (7, .box [I p.l, .sl p.r.length (ints p.r)]), (8, I j), (9, I m)]) (hsf : p.r.drop (j + 1) = sf) (hov : RV ov o) (hcv : RV cv c) (huv : RV uv u) (hcn : cs.length = n) (hm : m < n) (hln : l < ns)
    (hvm : cs[m]? = some vm) (hrm : RV vm Sm) (hvl : Sc[l]? = some vl) (hrl : RV vl Sl)
    (kf : ∀ K M, K ≤ H.length + 1 → C K M 16 [gV g, .sl nf Fc, .sl sf.length (ints sf)] (H ++ [.cells cs]) = some (ov, H ++ [.cells cs]))
    (kc : ∀ K M, K ≤ H.length + 1 → C K M 15 [I g.k, ov, vl] (H ++ [.cells cs]) = some (cv, H ++ [.cells cs]))
    (ku : ∀ K M, K ≤ H.length + 1 → C K M 14 [vm, cv] (H ++ [.cells cs]) = some (uv, H ++ [.cells cs]))
    (hQ : ∀ E', restrict [1, 3, 4, 5, 6, 7, 8] E' = lenv H g ns Sc nf Fc n [(6, I i), (7, .box [I p.l, .sl p.r.length (ints p.r)]), (8, I j)] → Q .nrm E' (H ++ [.cells (cs.set m uv)])) :
    WB ⟨C, lk, H.length, [1, 7]⟩ (.regD [1, 3, 4, 5, 6, 7, 8, 9] 0 [
      ⟨some 73, none, .mv (.tmp 5), 0, false⟩, ⟨some 74, none, .mv (.tmp 9), 0, false⟩, ⟨some 75, none, .mv (.tmp 5), 0, false⟩, ⟨some 76, none, .mv (.tmp 9), 0, false⟩, ⟨some 77, none, .ixA 1 (.tmp 75) (.tmp 76), 0, false⟩, ⟨some 78, none, .ld1 none (.tmp 77), 0, false⟩, ⟨some 79, none, .fldA 2 (.tmp 1), 0, false⟩, ⟨some 80, none, .ld1 (some 1) (.tmp 79), 0, false⟩, ⟨some 81, none, .ldA (some 1) 4 (.tmp 1), 0, false⟩, ⟨some 82, none, .mv (.tmp 4), 0, false⟩, ⟨some 83, none, .fldA 1 (.tmp 7), 0, false⟩, ⟨some 84, none, .ld1 (some 7) (.tmp 83), 0, false⟩, ⟨some 85, none, .mv (.tmp 8), 0, false⟩, ⟨some 86, none, .bini .add (.tmp 85) (.con (.val (.int .i64 1))), 0, false⟩, ⟨some 87, none, .slC 1 (.tmp 84) (some (.tmp 86)) none, 0, false⟩, ⟨some 88, none, .call 16 [(.tmp 81), (.tmp 82), (.tmp 87)], 0, false⟩, ⟨some 89, none, .mv (.tmp 3), 0, false⟩, ⟨some 90, none, .fldA 0 (.tmp 7), 0, false⟩, ⟨some 91, none, .ld1 (some 7) (.tmp 90), 0, false⟩, ⟨some 92, none, .ixA 1 (.tmp 89) (.tmp 91), 0, false⟩, ⟨some 93, none, .ld1 none (.tmp 92), 0, false⟩, ⟨some 94, none, .call 15 [(.tmp 80), (.tmp 88), (.tmp 93)], 0, false⟩, ⟨some 95, none, .call 14 [(.tmp 78), (.tmp 94)], 0, true⟩, ⟨some 96, none, .ixA 1 (.tmp 73) (.tmp 74), 0, false⟩, ⟨none, none, .st none 1 (.tmp 96) (.tmp 95), 0, false⟩]) Q E (H ++ [.cells cs]) := by
  have w2 : IntKind.i64.wrap ((j : Int) + 1) = (j : Int) + 1 := by have := pok.len; exact wrap64 (by omega) (by omega)
  have hjr : (j : Int) + 1 ≤ p.r.length := by omega
  have hj0 : (0 : Int) ≤ (j : Int) + 1 := by omega
  have hsl2 : AV.sl (p.r.length - (j + 1)) (List.take (p.r.length - (j + 1)) (List.drop (j + 1) (ints p.r))) = .sl sf.length (ints sf) := by
    rw [← hsf, List.length_drop, List.take_of_length_le (by simp)]; simp [ints, List.map_drop]
  have hc2 : ∀ h : 2 < g.cells.length, (g.cells)[2] = I g.k := fun _ => rfl
  have hcl : (g.cells).length = 4 := rfl
  have ht4 : List.take 4 g.cells = g.cells := rfl
  have hbg : ∀ X, belowL X g.cells = true := fun X => by simp [Gm.cells, belowL, Hm.below]
  have hvmE : ∀ h, cs[m]'h = vm := fun h => by rw [List.getElem?_eq_getElem h] at hvm; simpa using hvm
  have hvlE : ∀ h, Sc[l]'h = vl := fun h => by rw [List.getElem?_eq_getElem h] at hvl; simpa using hvl
  have hK1 : lk ≤ H.length + 1 := by omega
  have hmc : m < cs.length := by omega
  have hm1 : m + 1 ≤ n := hm
  have hset : List.take m cs ++ uv :: List.drop (m + 1) cs = cs.set m uv := by rw [List.set_eq_take_append_cons_drop, if_pos hmc]
  have hsh : setH lk H.length 0 (H ++ [.cells cs]) H.length (cs.set m uv) [uv] = some (H ++ [.cells (cs.set m uv)]) := by
    unfold setH
    rw [if_pos ⟨hlk, .inl (Nat.le_refl _), .inl (Nat.zero_le _)⟩, set_app]
  rw [wb_regD rfl, hE]
  unfold lenv
  unfold lenv at hQ
  rw [hl] at hQ ⊢
  rcases rv_noRp hov with rfl | rfl <;> rcases rv_noRp hrm with rfl | rfl <;> rcases rv_noRp hrl with rfl | rfl <;> rcases rv_noRp hcv with rfl | rfl <;> rcases rv_noRp huv with rfl | rfl
  all_goals
    simp [-wi_stD, hcl, hc2, hcn, hm, hln, hvm, hvmE, hvl, hvlE, ht4, hbg, w2, bnd, hjr, hj0, hsl2, kf, kc, ku, hK1]
    rw [wi_stD]
    simp [-wi_stD, hcn, hm1, replaceAt, hset, hsh]
    exact hQ _ rfl
set_option maxRecDepth 20000 in
set_option maxHeartbeats 2000000 in
theorem l3_1 {C : Orc} {lk : Nat} {H : Heap} (hlk : lk ≤ H.length) {g : Gm} (hg : GOk g) {ns nf : Nat} {Sc Fc : List AV} (hSc : SC Sc (folM g)) (k : KR C g (.sl nf Fc)) {R : Ss} {p : Pr} (hp : p ∈ g.ps) {n i : Nat} (hn : g.n.toNat = n) (hns : ns = n) {Q : Ex → Kt}
    (hQ : ∀ s : T3, ∀ e, J3 g [] R s.A s.cs → restrict [1, 3, 4, 5, 6] e = lenv H g ns Sc nf Fc n [(6, I i)] → Q (.exit 2) e (H ++ [.cells s.cs])) (s : T3) (hs : s.k ≤ p.r.length ∧ J3 g (plsR g.t p.l.toNat (p.r.drop s.k)) R s.A s.cs) :
    WB ⟨C, lk, H.length, [1, 7]⟩ t3L1 (Rnd [1, 3, 4, 5, 6, 7, 8] (env3 H g ns Sc nf Fc n i p) (fun s => H ++ [.cells s.cs]) (fun s => s.k ≤ p.r.length ∧ J3 g (plsR g.t p.l.toNat (p.r.drop s.k)) R s.A s.cs) (fun s => p.r.length - s.k) s Q) (env3 H g ns Sc nf Fc n i p s) (H ++ [.cells s.cs]) := by
  have hQ2 := hQ s
  obtain ⟨j, A, cs⟩ := s
  obtain ⟨hj, hJ⟩ := hs
  simp only at hj hJ hQ2
  have pok := hg.p p hp
  unfold t3L1
  by_cases hjl : j < p.r.length
  case neg =>
    obtain rfl : j = p.r.length := by omega
    rw [List.drop_length] at hJ
    simp [-wb_true, -wb_false, -wb_regN, env3, lenv]
    rw [wb_regN]
    simp [-wb_true, -wb_false]
    rw [wb_false rfl]
    simp
    exact hQ2 _ hJ rfl
  have hjl2 : (j : Int) < p.r.length := by omega
  obtain ⟨sy, hsy⟩ : ∃ sy, p.r[j] = sy := ⟨_, rfl⟩
  have hq2 : p.r[j]? = some sy := by rw [List.getElem?_eq_getElem hjl, hsy]
  have hsok := pok.s sy (hsy ▸ List.getElem_mem hjl)
  have hd := List.drop_eq_getElem_cons hjl
  rw [hsy] at hd
  have hc0 : ∀ h : 0 < g.cells.length, (g.cells)[0] = I g.t := fun _ => rfl
  have hcl : (g.cells).length = 4 := rfl
  have hwr : IntKind.i64.wrap (sy - g.t) = sy - g.t := by have := hg.t1; have := hg.t2; have := hg.n1; have := hg.n2; exact wrap64 (by omega) (by omega)
  have w2 : IntKind.i64.wrap ((j : Int) + 1) = (j : Int) + 1 := by have := pok.len; exact wrap64 (by omega) (by omega)
  simp [-wi_st, -wb_regN, -wb_regD, -wb_true, -wb_false, env3, lenv]
  rw [wb_regN]
  simp [-wi_st, -wb_regN, -wb_regD, -wb_true, -wb_false, hjl2]
  rw [wb_true rfl, wb_skip, fol_nrm, wb_seq, wb_block, wb_seq, wb_regD rfl]
  simp [-wi_st, -wb_regN, -wb_regD, -wb_true, -wb_false, hjl, hq2, hsy, hc0, hcl]
  by_cases hst : g.t ≤ sy
  case neg =>
    rw [decide_eq_false hst, wb_false rfl]
    simp [w2]
    rw [rnd_nrm]
    refine ⟨⟨j + 1, A, cs⟩, ⟨hjl, hJ.ok, hJ.sc, ?_⟩, by show p.r.length - (j + 1) < p.r.length - j; omega, rfl, rfl⟩
    rw [← hJ.rem, hd, plsR, if_pos (by omega)]
  obtain ⟨m, hm⟩ : ∃ m : Nat, sy - g.t = (m : Int) := Int.eq_ofNat_of_zero_le (by omega)
  obtain ⟨l, hlE⟩ : ∃ l : Nat, p.l = (l : Int) := Int.eq_ofNat_of_zero_le pok.l0
  have hlt : p.l.toNat = l := by omega
  have hcn : cs.length = n := by rw [hJ.sc.1, hJ.ok.len, hn]
  have hfo := fol_ok hg
  have hmn : m < n := by omega
  have hln : l < n := by have := pok.l1; omega
  obtain ⟨sf, hsf⟩ : ∃ sf, p.r.drop (j + 1) = sf := ⟨_, rfl⟩
  have hsfs : ∀ x ∈ sf, 0 ≤ x ∧ x < g.t + g.n := fun x hx => pok.s x (by rw [← hsf] at hx; exact List.mem_of_mem_drop hx)
  have hsf8 : sf.length ≤ 8 := by rw [← hsf, List.length_drop]; have := pok.len; omega
  obtain ⟨vm, hvm, hrm⟩ := hJ.sc.get (j := m) (by rw [← hJ.sc.1, hcn]; exact hmn)
  obtain ⟨vl, hvl, hrl⟩ := hSc.get (j := l) (by rw [hfo.len, hn]; exact hln)
  have hofok := ofM_ok hg (sets_ok hg) (r := sf) fun x hx => (hsfs x hx).1
  have hov := rV_rv (ofM g (setsM g) sf)
  have hcv := rV_rv (cat g.k.toNat (ofM g (setsM g) sf) ((folM g).getD l []))
  have huv := rV_rv (uni (A.getD m []) (cat g.k.toNat (ofM g (setsM g) sf) ((folM g).getD l [])))
  have kf := fun (K M : Nat) (hK : K ≤ H.length + 1) => k.first K M (H ++ [.cells cs]) sf (by simpa using hK) hsf8 hsfs
  have kc := fun (K M : Nat) (hK : K ≤ H.length + 1) => k.cat K M (H ++ [.cells cs]) _ _ _ _ (by simpa using hK) hov hrl hofok (hfo.get l)
  have ku := fun (K M : Nat) (hK : K ≤ H.length + 1) => k.uni K M (H ++ [.cells cs]) _ _ _ _ (by simpa using hK) hrm hcv (hJ.ok.get m) (cat_fok hg hofok (hfo.get l))
  have hplm : (⟨l, m, sf⟩ : Pl) ∈ pls g := by
    have := place_at hp hlt hjl (by rw [hsy]; omega)
    rw [hsy, hsf, hm] at this
    exact this
  have pk := pls_ok hg _ hplm
  have hnew : J3 g (plsR g.t p.l.toNat (p.r.drop (j + 1))) R (allF g (folM g) A ⟨l, m, sf⟩) (cs.set m (rV (uni (A.getD m []) (cat g.k.toNat (ofM g (setsM g) sf) ((folM g).getD l []))))) := by
    refine ⟨allF_ok hg hfo hJ.ok pk, sc_set hJ.sc huv, ?_⟩
    rw [← hJ.rem, hd, plsR, if_neg (by omega), List.foldl_cons, hm, hsf, hlt, Int.toNat_natCast]
  rw [decide_eq_true hst, wb_true rfl, wb_seq, wb_regD rfl]
  simp [-wi_st, -wb_regN, -wb_regD, -wb_true, -wb_false, hjl, hq2, hsy, hc0, hcl, hwr]
  refine r3_1 (n := n) (i := i) (m := m) (ns := ns) hlk pok hjl hlE (by rw [hm]; rfl) hsf hov hcv huv hcn hmn (by omega) hvm hrm hvl hrl kf kc ku ?_
  intro E3 hE3
  generalize cs.set m (rV (uni (A.getD m []) (cat g.k.toNat (ofM g (setsM g) sf) ((folM g).getD l [])))) = cs2 at *
  generalize allF g (folM g) A ⟨l, m, sf⟩ = A2 at *
  show WB _ _ _ _ _
  rw [wb_regN, hE3]
  simp [lenv, w2]
  rw [rnd_nrm]
  exact ⟨⟨j + 1, A2, cs2⟩, ⟨hjl, hnew⟩, by show p.r.length - (j + 1) < p.r.length - j; omega, rfl, rfl⟩
end Go.Proofs.Ytdmaganalpamlaa

namespace Go.Proofs.Ytdmaganalpamlaa
open Go Go.Hm

theorem row_cases {g : Gm} (hg : GOk g) {x : List UInt8} (h : RowF g x) : 0 < x.length ∧ x.length ≤ g.k.toNat ∧ (x.length = g.k.toNat ∨ x[x.length - 1]? = some 255) := by
  refine ⟨h.pos hg, h.len, ?_⟩
  obtain ⟨y, _, rfl⟩ := h
  by_cases hy : g.k.toNat ≤ y.length
  · left; rw [List.length_take]; simp; omega
  · right
    rw [List.take_of_length_le (by simp; omega)]
    simp
theorem rows_getE {l : List (List UInt8)} {i : Nat} (h : i < l.length) : (rowsB l)[i]'(by simpa [rowsB] using h) = Sg l[i] := by simp [rowsB]
set_option maxRecDepth 20000 in
set_option maxHeartbeats 1000000 in
theorem c3L3 {C : Orc} {lk lim : Nat} {h : Heap} {Q : Ex → Kt} {env : Env} {g : Gm} (hg : GOk g) {v5 : AV} {cs : List AV} {v : AV} {l : List (List UInt8)} {i ns : Nat} (hns : cs.length = ns) (hcv : cs[i]? = some v) (hv : RV v l) (hl : FOk g l)
    (hE : restrict [1, 3, 5, 10, 11] env = [(1, .box g.cells), (3, .sl ns cs), (5, v5), (10, I i), (11, I 0)])
    (hQ : ∀ env', restrict [1, 3, 5, 10] env' = [(1, .box g.cells), (3, .sl ns cs), (5, v5), (10, I i)] → Q (.exit 6) env' h) :
    WB ⟨C, lk, lim, [1, 7]⟩ (.loop [1, 3, 5, 10, 11] t3L3) Q env h := by
  subst hns
  have hic : i < cs.length := (List.getElem?_eq_some_iff.1 hcv).1
  have hicE : cs[i] = v := by rw [List.getElem?_eq_getElem hic] at hcv; simpa using hcv
  have hic' : (i : Int) < cs.length := by omega
  have hsz := hl.size hg
  have hc2 : ∀ h : 2 < g.cells.length, (g.cells)[2] = I g.k := fun _ => rfl
  have hcl : (g.cells).length = 4 := rfl
  refine wb_loop (σ := Nat) (fun m => [(1, .box g.cells), (3, .sl cs.length cs), (5, v5), (10, I i), (11, I m)]) (fun _ => h) (fun m => m ≤ l.length) (fun m => l.length - m) ?_ 0 (by omega) hE rfl
  intro m hm
  unfold t3L3
  by_cases hml : m < l.length
  case neg =>
    obtain rfl : m = l.length := by omega
    rcases hv with rfl | ⟨rfl, rfl⟩
    all_goals
      simp [-wb_true, -wb_false, -wb_regN]
      rw [wb_regN]
      simp [-wb_true, -wb_false, hic, hic', hcv, hicE]
      rw [wb_false rfl]
      simp
      refine hQ _ ?_
      simp [restrict, find]
  have hv : v = rowsV l := hv.resolve_right fun h => by rw [h.2] at hml; simp at hml
  subst hv
  have w1 : IntKind.i64.wrap ((m : Int) + 1) = (m : Int) + 1 := wrap64 (by omega) (by omega)
  have ga := rows_getE hml
  have hml2 : (m : Int) < l.length := by omega
  obtain ⟨x0, x1, x2⟩ := row_cases hg (hl.row _ (List.getElem_mem hml))
  have hk1 := hg.k1
  have hk2 := hg.k2
  simp [-wb_true, -wb_false, -wb_regN]
  rw [wb_regN]
  simp [-wb_true, -wb_false, -wb_regN, hic, hic', hcv, hicE, hml2]
  rw [wb_true rfl, wb_skip, fol_nrm, wb_seq, wb_block, wb_seq, wb_regN]
  simp [-wb_true, -wb_false, -wb_regN, hic, hic', hcv, hicE, hml, ga]
  have main : ∀ E, restrict [1, 3, 5, 10, 11] E = [(1, .box g.cells), (3, .sl cs.length cs), (5, v5), (10, I i), (11, I m)] → ∀ c : AO, ev E c = .val (.bool false) → ∀ a : AC,
      WB ⟨C, lk, lim, [1, 7]⟩ (.cond c a .skip) (BlkE 7 (Fol ⟨C, lk, lim, [1, 7]⟩ (.regN [1, 3, 5, 10, 11] [⟨some 110, none, .mv (.tmp 11), 0, false⟩, ⟨some 111, none, .bini .add (.tmp 110) (.con (.val (.int .i64 1))), 0, false⟩, ⟨some 11, none, .mv (.tmp 111), 0, false⟩])
      (Rnd [1, 3, 5, 10, 11] (fun (m : Nat) => [(1, .box g.cells), (3, .sl cs.length cs), (5, v5), (10, I i), (11, I m)]) (fun _ => h) (fun m => m ≤ l.length) (fun m => l.length - m) m Q))) E h := fun E hE c hc a => by
    rw [wb_false hc, wb_skip]
    show WB _ _ _ _ _
    rw [wb_regN, hE]
    simp [w1]
    rw [rnd_nrm]
    exact ⟨m + 1, hml, by show l.length - (m + 1) < l.length - m; omega, rfl, rfl⟩
  rw [wb_regN]
  have s1 : ¬ (l[m].length : Int) < 1 := by omega
  have s2 : ¬ g.k < (l[m].length : Int) := by omega
  by_cases h0 : m = 0
  · subst h0
    generalize l[0] = x at *
    by_cases hk : (x.length : Int) < g.k
    · have hq := x2.resolve_left (by omega)
      have w3 : IntKind.i64.wrap ((x.length : Int) - 1) = ((x.length - 1 : Nat) : Int) := by rw [wrap64 (by omega) (by omega)]; omega
      simp [-wb_true, -wb_false, -wb_regN, Sg_size, s1, s2, hk, hcl, hc2, w3, Sg_get, hq]
      exact main _ rfl _ rfl _
    · simp [-wb_true, -wb_false, -wb_regN, Sg_size, s1, s2, hk, hcl, hc2]
      exact main _ rfl _ rfl _
  · obtain ⟨j, hj⟩ : ∃ j, j + 1 = m := ⟨m - 1, by omega⟩
    have hjl : j < l.length := by omega
    have gj := rows_getE hjl
    have hlt := List.pairwise_iff_getElem.1 hl.up j m hjl hml (by omega)
    have w2 : IntKind.i64.wrap ((m : Int) - 1) = (j : Int) := by rw [wrap64 (by omega) (by omega)]; omega
    have hp : 0 < m := by omega
    generalize l[m] = x at *
    generalize l[j] = y at gj hlt
    have hge := sg_geq y x
    rw [hlt] at hge
    by_cases hk : (x.length : Int) < g.k
    · have hq := x2.resolve_left (by omega)
      have w3 : IntKind.i64.wrap ((x.length : Int) - 1) = ((x.length - 1 : Nat) : Int) := by rw [wrap64 (by omega) (by omega)]; omega
      simp [-wb_true, -wb_false, -wb_regN, Sg_size, s1, s2, hk, hcl, hc2, w3, Sg_get, hq, hic, hic', hcv, hicE, hjl, gj, w2, hp, hge]
      exact main _ rfl _ rfl _
    · simp [-wb_true, -wb_false, -wb_regN, Sg_size, s1, s2, hk, hcl, hc2, hic, hic', hcv, hicE, hjl, gj, w2, hp, hge]
      exact main _ rfl _ rfl _
theorem srows_hs {lk lim : Nat} {H : Heap} {cs ds : List AV} {S T : Ss} {b : Nat} (hb : H[b]? = some (.cells cs)) (hS : SC cs S) (hT : SC ds T) (hl : S.length ≤ 1000000) (he : S.length = T.length) (hbb : ∀ l ∈ S, l.length ≤ 1000000000) :
    callW X A lk lim 17 [.hs b cs.length 0 cs.length 1, .sl ds.length ds] H = some (Bo (decide (S = T)), H) := by
  have ks := fun (L : Nat) (va vb : AV) (a b : List (List UInt8)) (ha : RV va a) (hb : RV vb b) h => same_code (lk := lk) (lim := L) (H := H) ha hb h
  have hcs := hS.1
  have hds := hT.1
  refine wb_callB [] rfl A17 rfl rfl ?_
  unfold t17B
  generalize callW X A = C at ks ⊢
  have hne : ((cs.length : Int) != ds.length) = false := by rw [hcs, hds, he]; simp
  simp [hne]
  refine wb_loop (σ := Nat) (fun i => [(0, .hs b cs.length 0 cs.length 1), (1, .sl ds.length ds), (5, I i)]) (fun _ => H)
    (fun i => i ≤ S.length ∧ decide (S = T) = decide (S.drop i = T.drop i)) (fun i => S.length - i) ?_ 0 (by simp) (by simp [restrict, find]) rfl
  rintro i ⟨hi, hinv⟩
  unfold t17L1
  have w : IntKind.i64.wrap ((i : Int) + 1) = (i : Int) + 1 := wrap64 (by omega) (by omega)
  by_cases hil : i < S.length
  · have hil2 : i < T.length := by omega
    have hc1 : i < cs.length := by omega
    have hc2 : i < ds.length := by omega
    have hc1' : (i : Int) < cs.length := by omega
    obtain ⟨v, hv, hrv⟩ := hS.get hil
    obtain ⟨u, hu, hru⟩ := hT.get hil2
    have hvE : cs[i] = v := by rw [List.getElem?_eq_getElem hc1] at hv; simpa using hv
    have huE : ds[i] = u := by rw [List.getElem?_eq_getElem hc2] at hu; simpa using hu
    have e1 : S.getD i [] = S[i] := by rw [List.getD_eq_getElem?_getD, List.getElem?_eq_getElem hil]; rfl
    have e2 : T.getD i [] = T[i] := by rw [List.getD_eq_getElem?_getD, List.getElem?_eq_getElem hil2]; rfl
    rw [e1] at hrv
    rw [e2] at hru
    rw [List.drop_eq_getElem_cons hil, List.drop_eq_getElem_cons hil2] at hinv
    have ks1 := fun L => ks L v u _ _ hrv hru (hbb _ (List.getElem_mem hil))
    generalize S[i] = x at hrv hinv ks1
    generalize T[i] = y at hru hinv ks1
    by_cases hxy : x = y
    · subst hxy
      rw [decide_eq_true rfl] at ks1
      have hinv2 : S = T ↔ S.drop (i + 1) = T.drop (i + 1) := (decide_eq_decide.1 hinv).trans (by simp)
      rcases rv_noRp hrv with rfl | rfl <;> rcases rv_noRp hru with rfl | rfl
      all_goals
        simp [hb, hc1, hc1', hc2, hv, hu, hvE, huE, ks1, w, rnd_nrm]
        exact ⟨i + 1, ⟨by omega, hinv2⟩, by omega, by omega⟩
    · rw [decide_eq_false hxy] at ks1
      have : decide (S = T) = false := by rw [hinv]; simp [hxy]
      rw [this]
      rcases rv_noRp hrv with rfl | rfl <;> rcases rv_noRp hru with rfl | rfl
      all_goals simp [hb, hc1, hc1', hc2, hv, hu, hvE, huE, ks1]
  · obtain rfl : i = S.length := by omega
    rw [List.drop_length, he, List.drop_length] at hinv
    have h2 : decide (S = T) = true := by rw [hinv]; simp
    rw [h2]
    have h3 : ¬ S.length < cs.length := by omega
    simp [h3]
end Go.Proofs.Ytdmaganalpamlaa
