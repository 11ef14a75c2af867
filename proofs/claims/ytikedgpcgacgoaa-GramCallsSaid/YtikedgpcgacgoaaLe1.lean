import Derived.Test.YtikedgpcgacgoaaLd
set_option linter.unusedSimpArgs false
set_option linter.unusedVariables false
namespace Go.Proofs.Ytikedgpcgacgoaa
open Go Go.Hm

/-- Memory while the closure grows. -/
def LS (g : Gm) (H : Heap) (null : List Bool) (n : Nat) (o : List Bool) : Heap := H ++ (.cells g.cells :: .cells [.sl n (bools null)] :: .cells (rowV (H.length + 4) n n) :: .cells [.hs (H.length + 2) n 0 n 1] :: matB n o)
section
variable {g : Gm} {H : Heap} {null : List Bool} {n : Nat} {o : List Bool}
theorem LS_len : (LS g H null n o).length = H.length + 4 + n := by
  unfold LS
  rw [List.length_append]
  simp only [List.length_cons, matB_len]; omega
theorem LS_0 : (LS g H null n o)[H.length]? = some (.cells g.cells) := by unfold LS; rw [get_at0]; rfl
theorem LS_1 : (LS g H null n o)[H.length + 1]? = some (.cells [.sl n (bools null)]) := by unfold LS; rw [Hm.get_at]; rfl
theorem LS_2 : (LS g H null n o)[H.length + 2]? = some (.cells (rowV (H.length + 4) n n)) := by unfold LS; rw [Hm.get_at]; rfl
theorem LS_3 : (LS g H null n o)[H.length + 3]? = some (.cells [.hs (H.length + 2) n 0 n 1]) := by unfold LS; rw [Hm.get_at]; rfl
theorem LS_row {i : Nat} (hi : i < n) : (LS g H null n o)[H.length + 4 + i]? = some (.cells (bools (rowL n o i))) := by
  unfold LS
  rw [Nat.add_assoc, Hm.get_at, show 4 + i = i + 1 + 1 + 1 + 1 by omega]
  simp only [List.getElem?_cons_succ]
  exact matB_get hi
theorem LS_set {i k : Nat} (ho : o.length = n * n) (hi : i < n) (hk : k < n) (v : Bool) : (LS g H null n o).set (H.length + 4 + i) (.cells (bools ((rowL n o i).set k v))) = LS g H null n (o.set (i * n + k) v) := by
  unfold LS
  rw [Nat.add_assoc, set_at, show 4 + i = i + 1 + 1 + 1 + 1 by omega]
  simp only [List.set_cons_succ]
  rw [matB_set ho hi hk]
end
/-- Has it changed? -/
def chg (o o0 : List Bool) : Bool := decide (o ≠ o0)
theorem dec_step {x cur o0 : List Bool} (h : x = cur ∨ cntF x < cntF cur) (hc : cntF cur ≤ cntF o0) : cntF x ≤ cntF o0 ∧ (x = cur → chg x o0 = chg cur o0) ∧ (x ≠ cur → chg x o0 = true) := by
  rcases h with h | h
  · subst h
    exact ⟨hc, fun _ => rfl, fun h => absurd rfl h⟩
  · refine ⟨by omega, fun e => by rw [e], fun _ => ?_⟩
    unfold chg
    rw [decide_eq_true_eq]
    rintro rfl
    omega
theorem lfK_do {n l s k : Nat} {o : List Bool} {u v : Bool} (h1 : o.getD (s * n + k) false = u) (h2 : o.getD (l * n + k) false = v) : lfK n l s o k = if ((u || decide (k = s)) && !v) = true then o.set (l * n + k) true else o := by
  unfold lfK
  rw [h1, h2]
abbrev c39E (H : Heap) (n l s i k : Nat) (B : List Nat) (more : Bool) : Env := [(1, .hp (H.length + 3) 1 0), (5, Bo more), (6, .hs (H.length + 4 + l) n 0 n 1), (8, I s), (20, .sl B.length (nts B)), (21, I B.length), (22, I i), (29, .hs (H.length + 4 + s) n 0 n 1), (30, I n), (31, I k)]
set_option maxRecDepth 20000 in
theorem c39L1 {C : Orc} {Q : Ex → Kt} {env : Env} {lk L : Nat} {H : Heap} {g : Gm} {null : List Bool} {n l s i : Nat} {B : List Nat} {o o0 : List Bool} (hn : n ≤ 16) (hl : l < n) (hs : s < n) (ho : o.length = n * n) (hc : cntF o ≤ cntF o0) (hlk : lk ≤ H.length)
    (hE : restrict [1, 5, 6, 8, 20, 21, 22, 29, 30, 31] env = c39E H n l s i 0 B (chg o o0))
    (hQ : ∀ env', restrict [1, 5, 6, 20, 21, 22] env' = [(1, .hp (H.length + 3) 1 0), (5, Bo (chg (lfS n l o s) o0)), (6, .hs (H.length + 4 + l) n 0 n 1), (20, .sl B.length (nts B)), (21, I B.length), (22, I i)] → cntF (lfS n l o s) ≤ cntF o0 → Q (.exit 2) env' (LS g H null n (lfS n l o s))) :
    WB ⟨C, lk, L, [4]⟩ (.loop [1, 5, 6, 8, 20, 21, 22, 29, 30, 31] t39L1) Q env (LS g H null n o) := by
  refine wb_loop (σ := Nat × List Bool) (fun s' => c39E H n l s i s'.1 B (chg s'.2 o0)) (fun s' => LS g H null n s'.2)
    (fun s' => s'.1 ≤ n ∧ s'.2 = (List.range s'.1).foldl (lfK n l s) o ∧ s'.2.length = n * n ∧ cntF s'.2 ≤ cntF o0) (fun s' => n - s'.1) ?_ (0, o) ⟨Nat.zero_le _, rfl, ho, hc⟩ hE rfl
  rintro ⟨k, q⟩ ⟨hk, hq, hql, hqc⟩
  simp only at hk hq hql hqc
  unfold t39L1
  have w1 : IntKind.i64.wrap ((k : Int) + 1) = (k : Int) + 1 := wrap64 (by omega) (by omega)
  by_cases hkn : k < n
  case neg =>
    obtain rfl : k = n := by omega
    have e : lfS k l o s = q := hq.symm
    rw [e] at hQ
    simp
    refine hQ _ ?_ hqc
    simp
  have hnx : (List.range (k + 1)).foldl (lfK n l s) o = lfK n l s q k := by rw [List.range_succ, List.foldl_append, ← hq]; rfl
  have hgr := lfK_grows n l s k q
  obtain ⟨c1, c2, c3⟩ := dec_step hgr hqc
  simp only at c1 c2 c3
  have fin : ∀ (E : Env) (H' : Heap) (m : Bool), m = chg (lfK n l s q k) o0 → E = c39E H n l s i (k + 1) B m → H' = LS g H null n (lfK n l s q k) →
    ∃ s' : Nat × List Bool, (s'.1 ≤ n ∧ s'.2 = (List.range s'.1).foldl (lfK n l s) o ∧ s'.2.length = n * n ∧ cntF s'.2 ≤ cntF o0) ∧ n - s'.1 < n - k ∧ E = c39E H n l s i s'.1 B (chg s'.2 o0) ∧ H' = LS g H null n s'.2 :=
    fun E H' m h1 h2 h3 => ⟨(k + 1, lfK n l s q k), ⟨by simp only; omega, hnx.symm, by simp only; rw [lfK_len]; exact hql, c1⟩, by simp only; omega, by rw [h2, h1], h3⟩
  have g1 := LS_row (g := g) (H := H) (null := null) (o := q) hs
  have g2 := LS_row (g := g) (H := H) (null := null) (o := q) hl
  have r1 := rowL_len hql hs
  have r2 := rowL_len hql hl
  have s1 := rowL_get (o := q) (i := s) hkn
  have s2 := rowL_get (o := q) (i := l) hkn
  have i1 : s * n + k < q.length := by rw [hql]; exact ix_lt hs hkn
  have i2 : l * n + k < q.length := by rw [hql]; exact ix_lt hl hkn
  obtain ⟨u, hu⟩ : ∃ u, q[s * n + k] = u := ⟨_, rfl⟩
  obtain ⟨v, hv⟩ : ∃ v, q[l * n + k] = v := ⟨_, rfl⟩
  have hdo := lfK_do (n := n) (l := l) (s := s) (k := k) (o := q) (u := u) (v := v) (by rw [getD_of i1, hu]) (by rw [getD_of i2, hv])
  have hset := LS_set (g := g) (H := H) (null := null) hql hl hkn true
  rw [List.getElem?_eq_getElem i1, hu] at s1
  rw [List.getElem?_eq_getElem i2, hv] at s2
  have hne : v = false → q.set (l * n + k) true ≠ q := fun h e => by
    have := congrArg (fun l' : List Bool => l'[l * n + k]?) e
    simp only [List.getElem?_set_self i2, List.getElem?_eq_getElem i2, hv, h] at this
    simp at this
  generalize hR1 : rowL n q s = R1 at g1 r1 s1
  generalize hR2 : rowL n q l = R2 at g2 r2 s2 hset
  have k1 : k < R1.length := by omega
  have k2 : k < R2.length := by omega
  rw [List.getElem?_eq_getElem k1, Option.some.injEq] at s1
  rw [List.getElem?_eq_getElem k2, Option.some.injEq] at s2
  have b1 : (bools R1).length = n := by rw [bools_len, r1]
  have b2 : (bools R2).length = n := by rw [bools_len, r2]
  have hrp := replaceAt_one (Bo true) (show k < (bools R2).length by omega)
  rw [bools_set] at hrp
  have hlk4 : lk ≤ H.length + 4 + l := by omega
  have hkn2 : k + 1 ≤ n := hkn
  have hks : ((k : Int) == s) = decide (k = s) := by
    by_cases h : k = s
    · subst h; simp
    · simp [h]; omega
  cases hw : ((u || decide (k = s)) && !v) with
  | false =>
    rw [hw] at hdo
    have hdo : lfK n l s q k = q := hdo
    rw [hdo] at fin
    have fin := fun E H' => fin E H' _ rfl
    by_cases hk2 : k = s
    · have hv1 : v = true := by simpa [hk2] using hw
      subst hv1
      subst hk2
      cases u <;> (simp [hkn, g1, g2, k1, k2, s1, s2, b1, b2, bools_get, w1]; rw [rnd_nrm]; refine fin _ _ ?_ rfl; simp)
    · cases u with
      | false =>
        have hks3 : ((k : Int) == s) = false := by rw [hks]; simp [hk2]
        simp [hkn, g1, g2, k1, k2, s1, s2, b1, b2, bools_get, w1, hks3]
        rw [rnd_nrm]
        refine fin _ _ ?_ rfl
        simp
      | true =>
        have hv1 : v = true := by simpa using hw
        subst hv1
        simp [hkn, g1, g2, k1, k2, s1, s2, b1, b2, bools_get, w1]
        rw [rnd_nrm]
        refine fin _ _ ?_ rfl
        simp
  | true =>
    rw [hw] at hdo
    have hdo : lfK n l s q k = q.set (l * n + k) true := hdo
    have hv0 : v = false := by
      simp only [Bool.and_eq_true, Bool.not_eq_true'] at hw
      exact hw.2
    have hx := c3 (by rw [hdo]; exact hne hv0)
    rw [hx, hdo] at fin
    have fin := fun E H' => fin E H' _ rfl
    subst hv0
    have hor : (u || decide (k = s)) = true := by simpa using hw
    cases u with
    | true =>
      simp [hkn, g1, g2, k1, k2, s1, s2, b1, b2, bools_get, w1, setH, hlk4, hrp, hset, hkn2]
      rw [rnd_nrm]
      refine fin _ _ ?_ rfl
      simp
    | false =>
      have hk2 : k = s := by simpa using hor
      subst hk2
      simp [hkn, g1, g2, k1, k2, s1, s2, b1, b2, bools_get, w1, setH, hlk4, hrp, hset, hkn2]
      rw [rnd_nrm]
      refine fin _ _ ?_ rfl
      simp
abbrev c39F (H : Heap) (n l i : Nat) (B : List Nat) (more : Bool) : Env := [(1, .hp (H.length + 3) 1 0), (5, Bo more), (6, .hs (H.length + 4 + l) n 0 n 1), (20, .sl B.length (nts B)), (21, I B.length), (22, I i)]
theorem lfS_le2 (n l s : Nat) (o : List Bool) : cntF (lfS n l o s) ≤ cntF o := by
  rcases lfS_grows n l s o with h | h
  · simp only at h; rw [h]; exact Nat.le_refl _
  · simp only at h; omega
set_option maxRecDepth 20000 in
theorem c39L2 {C : Orc} {Q : Ex → Kt} {env : Env} {lk L : Nat} {H : Heap} {g : Gm} {null : List Bool} {n l : Nat} {B : List Nat} {o : List Bool} (hn : n ≤ 16) (hl : l < n) (hB : ∀ s ∈ B, s < n) (hBl : B.length ≤ 8) (ho : o.length = n * n) (hlk : lk ≤ H.length)
    (hE : restrict [1, 5, 6, 20, 21, 22] env = c39F H n l 0 B false)
    (hQ : ∀ env', restrict [5] env' = [(5, Bo (chg (B.foldl (lfS n l) o) o))] → Q (.exit 0) env' (LS g H null n (B.foldl (lfS n l) o))) :
    WB ⟨C, lk, L, [4]⟩ (.loop [1, 5, 6, 20, 21, 22] t39L2) Q env (LS g H null n o) := by
  refine wb_loop (σ := Nat × List Bool) (fun s' => c39F H n l s'.1 B (chg s'.2 o)) (fun s' => LS g H null n s'.2)
    (fun s' => s'.1 ≤ B.length ∧ s'.2 = (B.take s'.1).foldl (lfS n l) o ∧ s'.2.length = n * n ∧ cntF s'.2 ≤ cntF o) (fun s' => B.length - s'.1) ?_ (0, o) ⟨Nat.zero_le _, rfl, ho, Nat.le_refl _⟩ (by rw [hE]; simp [chg]) rfl
  rintro ⟨i, q⟩ ⟨hi, hq, hql, hqc⟩
  simp only at hi hq hql hqc
  unfold t39L2
  have w1 : IntKind.i64.wrap ((i : Int) + 1) = (i : Int) + 1 := wrap64 (by omega) (by omega)
  by_cases hil : i < B.length
  case neg =>
    obtain rfl : i = B.length := by omega
    rw [List.take_of_length_le (Nat.le_refl _)] at hq
    rw [← hq] at hQ
    simp
    refine hQ _ ?_
    simp
  have hs := hB B[i] (List.getElem_mem hil)
  have hnx : (B.take (i + 1)).foldl (lfS n l) o = lfS n l q B[i] := by
    rw [List.take_succ_eq_append_getElem hil, List.foldl_append, ← hq]; rfl
  generalize hsv : B[i] = s at hs hnx
  have g3 := LS_3 (g := g) (H := H) (null := null) (n := n) (o := q)
  have g2 := LS_2 (g := g) (H := H) (null := null) (n := n) (o := q)
  have hrl := rowV_len (H.length + 4) n n
  have hrg := rowV_get (b := H.length + 4) (n := n) hs
  have hqc2 := lfS_le2 n l s q
  simp [hil, nts_get, hsv, g3, g2, hs, hrl, rowV_ge]
  refine c39L1 (i := i) (B := B) (o0 := o) hn hl hs hql hqc hlk (by simp) (fun env' hE' hc' => ?_)
  rw [blk_exit, if_pos rfl, blk_nrm, fol_nrm, wb_regN, hE']
  simp [w1]
  rw [rnd_nrm]
  refine ⟨(i + 1, lfS n l q s), ⟨by simp only; omega, hnx.symm, by simp only; rw [lfS_len]; exact hql, hc'⟩, by simp only; omega, ?_, rfl⟩
  simp
set_option maxRecDepth 20000 in
theorem c39_code {lk lim : Nat} {H : Heap} {g : Gm} {null : List Bool} {o : List Bool} (ok : GOk g) (hnull : null.length = g.n.toNat) (ho : o.length = g.n.toNat * g.n.toNat) (hlk : lk ≤ H.length) (p : Pr) (pok : POk g p) :
    callW X A lk lim 39 [.agg p.cells, .hp (H.length + 3) 1 0, .hp H.length 4 0, .hp (H.length + 1) 1 0] (LS g H null g.n.toNat o) = some (Bo (decide (lfP g.n.toNat g.t null o p ≠ o)), LS g H null g.n.toNat (lfP g.n.toNat g.t null o p)) := by
  have kb := fun (L : Nat) => beg_code (lk := lk) (lim := L) (H := LS g H null g.n.toNat o) g ok null hnull p.r pok.len pok.s (by rw [LS_len]; omega)
  refine wb_callB [4] rfl A39 rfl rfl ?_
  unfold t39B
  have g0 := LS_0 (g := g) (H := H) (null := null) (n := g.n.toNat) (o := o)
  have g1 := LS_1 (g := g) (H := H) (null := null) (n := g.n.toNat) (o := o)
  have g2 := LS_2 (g := g) (H := H) (null := null) (n := g.n.toNat) (o := o)
  have g3 := LS_3 (g := g) (H := H) (null := null) (n := g.n.toNat) (o := o)
  have hB := bgL_lt (t := g.t) (null := null) (n := g.n.toNat) (r := p.r) (fun x hx => by have := pok.s x hx; have := ok.n1; omega)
  have hBl := bgL_len (t := g.t) (null := null) p.r
  have hpl := pok.len
  have n1 := ok.n1
  have n2 := ok.n2
  have p0 := pok.l0
  have p1 := pok.l1
  have hfold : lfP g.n.toNat g.t null o p = (bgL g.t null p.r).foldl (lfS g.n.toNat p.l.toNat) o := rfl
  rw [hfold]
  have hlen := LS_len (g := g) (H := H) (null := null) (n := g.n.toNat) (o := o)
  generalize bgL g.t null p.r = B at kb hB hBl
  generalize hn : g.n.toNat = n at *
  have hgn : g.n = n := by omega
  obtain ⟨pl, pr⟩ := p
  simp only at kb hBl p0 p1 hpl
  obtain ⟨pl, rfl⟩ := Int.eq_ofNat_of_zero_le p0
  have hln : pl < n := by omega
  have hrl := rowV_len (H.length + 4) n n
  have hrg := rowV_get (b := H.length + 4) (n := n) hln
  have hgc : g.cells.length = 4 := rfl
  simp only [Int.toNat_natCast]
  generalize callW X A = C at kb ⊢
  have hch : ∀ q : List Bool, decide (q ≠ o) = chg q o := fun q => rfl
  rw [hch]
  generalize hcl : g.cells = gc at g0 hgc
  have kb2 : ∀ L, C lk L 40 [.agg gc, .sl n (bools null), .sl pr.length (ints pr)] (LS g H null n o) = some (slvN B, LS g H null n o) := by rw [← hcl]; exact kb
  clear kb
  have hgt : gc.take 4 = gc := List.take_of_length_le (by omega)
  by_cases hB0 : B = []
  · have hsv : slvN B = .e0 := by unfold slvN; rw [if_pos hB0]
    rw [hsv] at kb2
    subst hB0
    have hc0 : chg o o = false := by simp [chg]
    simp only [List.foldl_nil, hc0]
    simp [Pr.cells, g3, g2, hln, hrl, rowV_ge, g0, g1, hgc, hgt, kb2]
    refine wb_loop0 ?_
    unfold t39L2
    simp
  · have hsv : slvN B = .sl B.length (nts B) := by unfold slvN; rw [if_neg hB0]
    rw [hsv] at kb2
    simp [Pr.cells, g3, g2, hln, hrl, rowV_ge, g0, g1, hgc, hgt, kb2]
    refine c39L2 (by omega) hln hB (by omega) ho hlk (by simp) (fun env' hE' => ?_)
    generalize chg (B.foldl (lfS n pl) o) o = c at hE' ⊢
    rw [blk_exit, if_pos rfl, fol_nrm, wb_seq, wb_regN, hE']
    have hlen2 := LS_len (g := g) (H := H) (null := null) (n := n) (o := B.foldl (lfS n pl) o)
    simp [hlen]
    rw [← hlen, hlen, ← hlen2]
    simp
end Go.Proofs.Ytikedgpcgacgoaa
