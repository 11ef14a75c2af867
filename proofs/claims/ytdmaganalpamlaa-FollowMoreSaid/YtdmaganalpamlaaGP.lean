import Derived.Test.YtdmaganalpamlaaGE
import Derived.Test.YtdmaganalpamlaaGJ
import Derived.Test.YtdmaganalpamlaaGG
import Derived.Test.YtdmaganalpamlaaNm
set_option linter.unusedSimpArgs false
set_option linter.unusedVariables false
namespace Go.Proofs.Ytdmaganalpamlaa
open Go Go.Hm

theorem row_set {α : Type} {A R : List α} {x y v : α} {i : Nat} (h : A.length = 2 * i) : (A ++ x :: y :: R).set (i * 2 + 1) v = A ++ x :: v :: R := by
  rw [List.set_append_right _ _ (by omega), show i * 2 + 1 - A.length = 1 by omega]; rfl
theorem row_get {α : Type} {A R : List α} {x y : α} {i : Nat} (h : A.length = 2 * i) : (A ++ x :: y :: R)[i * 2 + 1]? = some y := by
  rw [List.getElem?_append_right (by omega), show i * 2 + 1 - A.length = 1 by omega]; rfl
theorem psC_dropc {ps : List Pr} {i : Nat} (h : i < ps.length) : psC (ps.drop i) = I ps[i].l :: .sl ps[i].r.length (ints ps[i].r) :: psC (ps.drop (i + 1)) := by
  rw [List.drop_eq_getElem_cons h]; rfl
theorem psC_app : ∀ a b : List Pr, psC (a ++ b) = psC a ++ psC b
  | [], _ => rfl
  | p :: a, b => by simp only [List.cons_append, psC, psC_app a b, List.append_assoc]

def fz (r : List Int) : AV := if r = [] then .e0 else .sl r.length (ints r)
def psZ : List Pr → List AV
  | [] => []
  | p :: l => I p.l :: fz p.r :: psZ l
theorem psZ_len : ∀ l : List Pr, (psZ l).length = 2 * l.length
  | [] => rfl
  | x :: l => by simp only [psZ, List.length_cons, psZ_len l]; omega
theorem psZ_app : ∀ a b : List Pr, psZ (a ++ b) = psZ a ++ psZ b
  | [], _ => rfl
  | p :: a, b => by simp only [List.cons_append, psZ, psZ_app a b]
theorem psZ_take {ps : List Pr} {i : Nat} (h : i < ps.length) : psZ (ps.take (i + 1)) = psZ (ps.take i) ++ [I ps[i].l, fz ps[i].r] := by
  rw [List.take_succ_eq_append_getElem h, psZ_app]; rfl
theorem frz_fz (lim : Nat) (H : Heap) (d : Nat) (r : List Int) : frz lim H d (fz r) = some (fz r) := by
  unfold fz
  split
  · exact frz_e0 ..
  · exact frz_sl ..
theorem frz_psZ (lim : Nat) (H : Heap) (d : Nat) : ∀ l : List Pr, mapO (frz lim H d) (psZ l) = some (psZ l)
  | [] => rfl
  | x :: l => by simp only [psZ, mapO, frz_val, frz_fz, frz_psZ lim H d l]
theorem bel_psZ (lim : Nat) : ∀ l : List Pr, belowL lim (psZ l) = true
  | [] => rfl
  | x :: l => by
    have : Hm.below lim (fz x.r) = true := by
      unfold fz
      split
      · rfl
      · simp [Hm.below, bel_ints]
    simp only [psZ, belowL, Hm.below, this, bel_psZ lim l, Bool.and_self]

theorem own47_code {lk lim : Nat} {H : Heap} (r : List Int) (hr : r.length * 8 ≤ room) : callW X A lk lim 44 [.sl r.length (ints r)] H = some (fz r, H) := by
  refine wb_callB [] rfl A44 rfl rfl ?_
  unfold t44B fz
  by_cases h : r = []
  · subst h
    simp [srcCells, slCells, slN]
  · have hl : ¬ r.length = 0 := fun e => h (List.length_eq_zero_iff.1 e)
    simp [srcCells, slCells, slN, h, hr]
theorem own46_code {lk lim : Nat} {H : Heap} (ps : List Pr) (hr : ps.length * 32 ≤ room) : callW X A lk lim 43 [.sl ps.length (psC ps)] H = some (if ps = [] then (.e0, H) else (.hs H.length (2 * ps.length) 0 ps.length 2, H ++ [.cells (psC ps)])) := by
  refine wb_callB [] rfl A43 rfl rfl ?_
  unfold t43B
  have hll := psC_len ps
  by_cases h : ps = []
  · subst h
    simp [srcCells, slCells, slN, psC]
  · have hl : ¬ ps.length = 0 := fun e => h (List.length_eq_zero_iff.1 e)
    simp [srcCells, slCells, slN, h, hr, hll, Nat.mul_comm]
def ownS (ps : List Pr) (i : Nat) : List AV := psZ (ps.take i) ++ psC (ps.drop i)
def ownV (B : Nat) (ps : List Pr) : AV := if ps = [] then .e0 else .hs B (2 * ps.length) 0 ps.length 2
def ownG (ps : List Pr) : Heap := if ps = [] then [] else [.cells (psZ ps)]
set_option maxRecDepth 20000 in
theorem own20_code {lk lim : Nat} {H : Heap} (g : Gm) (hr : g.ps.length * 32 ≤ room) (hr2 : ∀ p ∈ g.ps, p.r.length * 8 ≤ room) (hlk : lk ≤ H.length) : callW X A lk lim 20 [gV g] H = some (.agg [I g.t, I g.n, I g.k, ownV H.length g.ps], H ++ ownG g.ps) := by
  have k3 := fun (K L : Nat) (H : Heap) (r : List Int) h => own47_code (lk := K) (lim := L) (H := H) r h
  have k2 := fun (L : Nat) => own46_code (lk := lk) (lim := L) (H := H) g.ps hr
  refine wb_callB [1, 2] rfl A20 rfl rfl ?_
  unfold t20B
  obtain ⟨t, n, k, ps⟩ := g
  simp only at hr hr2 k2
  have hbig : ps.length ≤ 5000000000000 := by unfold room at hr; omega
  generalize callW X A = C at k2 k3 ⊢
  by_cases h0 : ps = []
  · subst h0
    rw [if_pos rfl] at k2
    simp only [psC, List.length_nil] at k2
    simp [-wi_stL, Gm.cells, psC, k2]
    rw [wi_stL]
    simp [replaceAt]
    refine wb_loop0 ?_
    unfold t20L1
    simp [ownV, ownG, replaceAt]
  rw [if_neg h0] at k2
  simp [-wi_stL, Gm.cells, k2]
  rw [wi_stL]
  simp [replaceAt]
  let sv : AV := .hs H.length (2 * ps.length) 0 ps.length 2
  let bx : AV := .box [I t, I n, I k, sv]
  let bz : AV := .box [I 0, I 0, I 0, .e0]
  refine wb_loop (σ := Nat) (fun i => [(1, bx), (2, bz), (3, I i)]) (fun i => H ++ [.cells (ownS ps i)])
    (fun i => i ≤ ps.length) (fun i => ps.length - i) ?_ 0 (by simp) (by simp [bx, bz, sv]) (by simp [ownS, psZ])
  intro i hi
  unfold t20L1
  have w1 : IntKind.i64.wrap ((i : Int) + 1) = (i : Int) + 1 := wrap64 (by omega) (by omega)
  by_cases hil : i < ps.length
  case neg =>
    obtain rfl : i = ps.length := by omega
    have e : ownS ps ps.length = psZ ps := by
      unfold ownS
      rw [List.take_of_length_le (Nat.le_refl _), List.drop_of_length_le (Nat.le_refl _)]
      simp [psC]
    rw [e]
    simp [-wi_stL, bx, bz, sv]
    rw [wi_stL]
    simp [replaceAt, ownV, ownG, h0]
  have hpr := psC_dropc hil
  have hzt := psZ_take hil
  have hzl : (psZ (ps.take i)).length = 2 * i := by rw [psZ_len, List.length_take]; omega
  have hrl := hr2 ps[i] (List.getElem_mem hil)
  have hol : (ownS ps i).length = 2 * ps.length := by
    unfold ownS
    rw [List.length_append, psZ_len, psC_len, List.length_take, List.length_drop]; omega
  have hg : (ownS ps i)[i * 2 + 1]? = some (.sl ps[i].r.length (ints ps[i].r)) := by
    unfold ownS
    rw [hpr]
    exact row_get hzl
  have hset : (ownS ps i).set (i * 2 + 1) (fz ps[i].r) = ownS ps (i + 1) := by
    unfold ownS
    rw [hpr, row_set hzl, hzt, List.append_assoc]
    rfl
  have done : ∀ (E : Env) (H' : Heap), E = [(1, bx), (2, bz), (3, I ((i : Int) + 1))] → H' = H ++ [.cells (ownS ps (i + 1))] → ∃ i' : Nat, i' ≤ ps.length ∧ ps.length - i' < ps.length - i ∧ E = [(1, bx), (2, bz), (3, I i')] ∧ H' = H ++ [.cells (ownS ps i')] := fun E H' h1 h2 => ⟨i + 1, by omega, by omega, by rw [h1]; simp, h2⟩
  have k3 := fun K L H => k3 K L H ps[i].r hrl
  generalize ps[i].r = r at hg hset k3
  generalize ownS ps (i + 1) = o' at hset done
  generalize ownS ps i = o at hol hg hset ⊢
  have hlt : i * 2 + 1 < o.length := by omega
  have hlt2 : i * 2 + 2 ≤ 2 * ps.length := by omega
  have hrp := fun v => replaceAt_one (cs := o) (k := i * 2 + 1) v hlt
  have hfz : fz r = .e0 ∨ fz r = .sl r.length (ints r) := by unfold fz; split; exact .inl rfl; exact .inr rfl
  rcases hfz with hfz | hfz
  · rw [hfz] at hset k3
    simp [bx, bz, sv, hil, hol, hg, k3, w1, setH, hlk, hrp, hset, hlt2]
    rw [rnd_nrm]
    refine done _ _ ?_ ?_
    · simp [bx, bz, sv]
    · rfl
  · rw [hfz] at hset k3
    simp [bx, bz, sv, hil, hol, hg, k3, w1, setH, hlk, hrp, hset, hlt2]
    rw [rnd_nrm]
    refine done _ _ ?_ ?_
    · simp [bx, bz, sv]
    · rfl

end Go.Proofs.Ytdmaganalpamlaa

namespace Go.Proofs.Ytdmaganalpamlaa
open Go Go.Hm

set_option maxRecDepth 20000 in
theorem m5L1 {C : Orc} {lk : Nat} {Q : Ex → Kt} {env : Env} {G : Heap} {gc ca cb co : List AV} {w v : AV} {l m : List (List UInt8)} {i : Nat} (hw : ca[i]? = some w) (hv : cb[i]? = some v) (hwl : RV w l) (hvm : RV v m)
    (k14 : ∀ L x, C lk L 19 [v, Sg x] G = some (Bo (hasV m x), G)) (hsub : ∀ x ∈ l, x ∈ m) (hl : l.length ≤ 1000000)
    (hE : restrict [2, 6, 7, 9, 10, 11] env = [(2, .box gc), (6, .sl ca.length ca), (7, .sl cb.length cb), (9, .sl co.length co), (10, I i), (11, I 0)])
    (hQ : ∀ env', restrict [2, 6, 7, 9, 10] env' = [(2, .box gc), (6, .sl ca.length ca), (7, .sl cb.length cb), (9, .sl co.length co), (10, I i)] → Q (.exit 2) env' G) :
    WB ⟨C, lk, 0, [2, 3, 5, 8]⟩ (.loop [2, 6, 7, 9, 10, 11] t5L1) Q env G := by
  have hia : i < ca.length := (List.getElem?_eq_some_iff.1 hw).1
  have hib : i < cb.length := (List.getElem?_eq_some_iff.1 hv).1
  have hwE : ca[i] = w := by rw [List.getElem?_eq_getElem hia] at hw; simpa using hw
  have hvE : cb[i] = v := by rw [List.getElem?_eq_getElem hib] at hv; simpa using hv
  have hia' : (i : Int) < ca.length := by omega
  have hib' : (i : Int) < cb.length := by omega
  refine wb_loop (σ := Nat) (fun j => [(2, .box gc), (6, .sl ca.length ca), (7, .sl cb.length cb), (9, .sl co.length co), (10, I i), (11, I j)]) (fun _ => G) (fun j => j ≤ l.length) (fun j => l.length - j) ?_ 0 (by omega) hE rfl
  intro j hj
  unfold t5L1
  by_cases hjl : j < l.length
  · have hjl' : (j : Int) < l.length := by omega
    have w1 : IntKind.i64.wrap ((j : Int) + 1) = (j : Int) + 1 := wrap64 (by omega) (by omega)
    have hx : l[j] ∈ m := hsub _ (List.getElem_mem hjl)
    have k14 := fun L => k14 L l[j]
    rw [show hasV m l[j] = true from hasV_iff.2 hx] at k14
    have ga := rowsB_getE hjl
    have hwr : w = rowsV l := by
      rcases hwl with e | ⟨_, e⟩
      · exact e
      · subst e; simp at hjl
    have hvr : v = rowsV m := by
      rcases hvm with e | ⟨_, e⟩
      · exact e
      · subst e; simp at hx
    subst hwr; subst hvr
    generalize l[j] = x at *
    simp [hia, hia', hib, hib', hw, hwE, hv, hvE, hjl, hjl', rowsB_len, ga, k14, w1, rnd_nrm]
    exact ⟨j + 1, by omega, by omega, by omega⟩
  · obtain rfl : j = l.length := by omega
    rcases hwl with rfl | ⟨rfl, rfl⟩
    all_goals
      simp [hia, hia', hib, hib', hw, hwE]
      exact hQ _ (by simp)
set_option maxRecDepth 20000 in
theorem m5L2 {C : Orc} {lk : Nat} {Q : Ex → Kt} {env : Env} {G : Heap} {t n : Nat} {k : Int} {v4 : AV} {ca cb co : List AV} {SA SB SO : Ss} (hlk : lk ≤ G.length) (hA : SC ca SA) (hB : SC cb SB) (hO : SC co SO) (la : SA.length = n) (lb : SB.length = n) (lo : SO.length = n) (hn : n ≤ 1000000)
    (k14 : ∀ (L : Nat) (v : AV) (m : List (List UInt8)) (x : List UInt8), RV v m → m.length ≤ 1000000000 → C lk L 19 [v, Sg x] G = some (Bo (hasV m x), G))
    (k12 : ∀ (K : Nat) (_ : K ≤ G.length) (L : Nat) (v : AV) (l : List (List UInt8)), RV v l → l.length ≤ 2000000 → (∀ x ∈ l, x.length ≤ 1000000) → C K L 15 [I 1, v, rowsV [[]]] G = some (rV (cat 1 l [[]]), G))
    (k13 : ∀ (L : Nat) (v w : AV) (l m : List (List UInt8)), RV v l → RV w m → l.length ≤ 1000000000 → C lk L 21 [v, w] G = some (Bo (decide (l = m)), G))
    (hsz : ∀ i, ((SA.getD i []).length ≤ 1000000 ∧ (SB.getD i []).length ≤ 1000000) ∧ ∀ x ∈ SA.getD i [], x.length ≤ 1000000)
    (hsub : ∀ i, ∀ x ∈ SA.getD i [], x ∈ SB.getD i []) (hcut : ∀ i, cat 1 (SA.getD i []) [[]] = SO.getD i [])
    (hE : restrict [2, 6, 7, 9, 10] env = [(2, .box [I t, I n, I k, v4]), (6, .sl ca.length ca), (7, .sl cb.length cb), (9, .sl co.length co), (10, I 0)])
    (hQ : ∀ env', Q (.exit 0) env' G) :
    WB ⟨C, lk, 0, [2, 3, 5, 8]⟩ (.loop [2, 6, 7, 9, 10] t5L2) Q env G := by
  refine wb_loop (σ := Nat) (fun i => [(2, .box [I t, I n, I k, v4]), (6, .sl ca.length ca), (7, .sl cb.length cb), (9, .sl co.length co), (10, I i)]) (fun _ => G) (fun i => i ≤ n) (fun i => n - i) ?_ 0 (by omega) hE rfl
  intro i hi
  unfold t5L2
  by_cases hil : i < n
  case neg =>
    obtain rfl : i = n := by omega
    simp
    exact hQ _
  have w1 : IntKind.i64.wrap ((i : Int) + 1) = (i : Int) + 1 := wrap64 (by omega) (by omega)
  obtain ⟨w, hw, hrw⟩ := hA.get (j := i) (by omega)
  obtain ⟨v, hv, hrv⟩ := hB.get (j := i) (by omega)
  obtain ⟨u, hu, hru⟩ := hO.get (j := i) (by omega)
  have sz := hsz i
  have hsub := hsub i
  have hc := hcut i
  generalize SA.getD i [] = l at *
  generalize SB.getD i [] = m at *
  generalize SO.getD i [] = o at *
  have main := fun Q env hE hQ => m5L1 (C := C) (lk := lk) (Q := Q) (env := env) (gc := [I t, I n, I k, v4]) (co := co) hw hv hrw hrv (fun L x => k14 L v _ x hrv (by omega)) hsub sz.1.1 hE hQ
  have k12 := fun K hK L => k12 K hK L w _ hrw (by omega) sz.2
  have hcs : (cat 1 l [[]]).length ≤ 1000000000 := by
    unfold cat
    rw [if_neg (by simp)]
    exact Nat.le_trans (norm_le _) (Nat.le_trans (catL_len _ _ (by simp) _) (by simp; omega))
  have k13 := fun L => k13 L _ u _ _ (rV_rv (cat 1 l [[]])) hru hcs
  rw [decide_eq_true hc] at k13
  have hia : i < ca.length := (List.getElem?_eq_some_iff.1 hw).1
  have hio : i < co.length := (List.getElem?_eq_some_iff.1 hu).1
  have hwE : ca[i] = w := by rw [List.getElem?_eq_getElem hia] at hw; simpa using hw
  have huE : co[i] = u := by rw [List.getElem?_eq_getElem hio] at hu; simpa using hu
  have hia' : (i : Int) < ca.length := by omega
  have hio' : (i : Int) < co.length := by omega
  have hn0 := Nat.le_refl G.length
  have rvc := rv_noRp (rV_rv (cat 1 l [[]]))
  have hrv1 : rowsV [[]] = .sl 1 [Sg []] := rfl
  have hrw := rv_noRp hrw
  have hru := rv_noRp hru
  rw [hrv1] at k12
  generalize rV (cat 1 l [[]]) = cv at *
  generalize t5L1 = lp at *
  simp [hil]
  refine main _ _ (by simp) fun env' he => ?_
  rw [blk_exit, if_pos rfl, fol_nrm, wb_seq, wb_regD rfl, he]
  rcases hrw with rfl | rfl <;> rcases hru with rfl | rfl <;> rcases rvc with rfl | rfl
  all_goals
    have k12' : ∀ K, K ≤ G.length → ∀ L, C K L 15 [I 1, _, .sl 1 [.val (.string ⟨#[]⟩)]] G = _ := k12
    simp [hia, hia', hio, hio', hw, hwE, hu, huE, k12', k13, hlk, hn0, w1, rnd_nrm]
    exact ⟨i + 1, by omega, by omega, by omega⟩
end Go.Proofs.Ytdmaganalpamlaa

namespace Go.Proofs.Ytdmaganalpamlaa
open Go Go.Hm

def gMore (g : Gm) (p : Pr) : Gm := ⟨g.t, g.n, g.k, g.ps ++ [p]⟩
def gLow (g : Gm) : Gm := ⟨g.t, g.n, 1, g.ps⟩
def newC (ps : List Pr) (p : Pr) : List AV := psZ ps ++ [I p.l, .sl p.r.length (ints p.r)]
theorem newC_len (ps : List Pr) (p : Pr) : (newC ps p).length = 2 * (ps.length + 1) := by
  simp [newC, psZ_len]; omega
theorem zro_ints (d : Nat) (r : List Int) : (ints r).map (zro d) = ints r := by
  unfold ints
  rw [List.map_map]
  refine List.map_congr_left fun x _ => ?_
  cases d <;> rfl
theorem zro_sl (d : Nat) (r : List Int) : zro (d + 1) (.sl r.length (ints r)) = .sl r.length (ints r) := by
  simp [zro, zro_ints]
theorem zro_fz (d : Nat) (r : List Int) : zro (d + 1) (fz r) = .sl r.length (ints r) := by
  unfold fz
  split
  · rename_i h; subst h; rfl
  · exact zro_sl d r
theorem zro_I (d : Nat) (n : Int) : zro d (I n) = I n := by cases d <;> rfl
theorem zro_psZ (d : Nat) : ∀ ps : List Pr, (psZ ps).map (zro (d + 1)) = psC ps
  | [] => rfl
  | p :: ps => by
    simp only [psZ, List.map_cons, zro_I, zro_fz, zro_psZ d ps, psC, Pr.cells]
    rfl
theorem zro_psC (d : Nat) : ∀ ps : List Pr, (psC ps).map (zro (d + 1)) = psC ps
  | [] => rfl
  | p :: ps => by
    simp only [psC, Pr.cells, List.map_append, List.map_cons, List.map_nil, zro_I, zro_sl, zro_psC d ps]
theorem zro_new (d : Nat) (ps : List Pr) (p : Pr) : (newC ps p).map (zro (d + 1)) = psC (ps ++ [p]) := by
  simp only [newC, List.map_append, zro_psZ, psC_app, List.map_cons, List.map_nil, zro_I, zro_sl]
  rfl
theorem mapO_app2 (f : AV → Option AV) : ∀ (a b a' b' : List AV), mapO f a = some a' → mapO f b = some b' → mapO f (a ++ b) = some (a' ++ b')
  | [], b, a', b', h, h2 => by
    simp only [mapO, Option.some.injEq] at h
    subst h; exact h2
  | x :: a, b, a', b', h, h2 => by
    simp only [mapO, List.cons_append] at h ⊢
    cases hx : f x with
    | none => rw [hx] at h; cases h
    | some y =>
      cases ha : mapO f a with
      | none => rw [hx, ha] at h; cases h
      | some a'' =>
        rw [hx, ha] at h
        simp only [Option.some.injEq] at h
        subst h
        rw [mapO_app2 f a b a'' b' ha h2]
        rfl
theorem frz_new (lim : Nat) (H : Heap) (d : Nat) (ps : List Pr) (p : Pr) : mapO (frz lim H (d + 1)) (newC ps p) = some (newC ps p) := by
  have h1 := frz_psZ lim H (d + 1) ps
  have h2 : mapO (frz lim H (d + 1)) [I p.l, .sl p.r.length (ints p.r)] = some [I p.l, .sl p.r.length (ints p.r)] := by
    simp [mapO, frz]
  exact mapO_app2 _ _ _ _ _ h1 h2
theorem bel_new (lim : Nat) (ps : List Pr) (p : Pr) : belowL lim (newC ps p) = true := by
  unfold newC
  rw [belowL_append, bel_psZ]
  simp [belowL, Hm.below, bel_ints]
theorem frz_more (g : Gm) (p : Pr) (G : Heap) : frzV 0 (.cells (newC g.ps p) :: G) (.box [I g.t, I g.n, I g.k, .hs 0 (2 * (g.ps.length + 1)) 0 (g.ps.length + 1) 2]) = .box (gMore g p).cells := by
  have h1 : mapO (frz 0 (.cells (newC g.ps p) :: G) 7) (newC g.ps p) = some (newC g.ps p) := frz_new 0 (.cells (newC g.ps p) :: G) 6 g.ps p
  have h2 := bel_new 0 g.ps p
  have h6 : (g.ps.length + 1) * 2 ≤ 2 * (g.ps.length + 1) := by omega
  have h3 := zro_new 2 g.ps p
  have h4 := newC_len g.ps p
  have h5 : (newC g.ps p).take ((g.ps.length + 1) * 2) = newC g.ps p := List.take_of_length_le (by omega)
  unfold gMore Gm.cells
  generalize newC g.ps p = cs at *
  simp [frzV, mapO, frz, h4, h5, h6, h1, h2, belowL, Hm.below, zro, h3]
theorem frz_g (g : Gm) (G : Heap) : frzV 0 G (.box g.cells) = .box g.cells := by
  unfold Gm.cells
  simp [frzV, mapO, frz, belowL, Hm.below, zro, zro_psC]

theorem sub_ok {g : Gm} {p : Pr} (h : ∀ q ∈ (gMore g p).ps, q.r.length ≤ 1000000) (hl : (gMore g p).ps.length ≤ 1000000) : g.ps.length ≤ 1000000 ∧ ∀ q ∈ g.ps, q.r.length ≤ 1000000 :=
  ⟨by simp [gMore] at hl; omega, fun q hq => h q (List.mem_append_left _ hq)⟩
theorem chk_low {g : Gm} (h : chkE g = 0) : chkE (gLow g) = 0 := by
  have ok := gok_of h
  have k1 := ok.k1
  unfold chkE at h ⊢
  unfold gLow
  simp only
  split at h
  · cases h
  rename_i h1
  split at h
  · cases h
  rename_i h2
  split at h
  · cases h
  rename_i h3
  have e : (badP ⟨g.t, g.n, 1, g.ps⟩ : Pr → Bool) = badP g := rfl
  rw [if_neg (by omega), if_neg h2, if_neg (by omega), e]
  exact h
def seqA5 : Nat → AC → AC
  | n + 1, .seq _ b => seqA5 n b
  | _, a => a
def putTail5 : Nat → AC → AC → AC
  | 0, _, R => R
  | n + 1, .seq a b, R => .seq a (putTail5 n b R)
  | _, a, _ => a
def t5M : AC := seqA5 5 t5B
set_option maxRecDepth 20000 in
set_option maxHeartbeats 2000000 in
theorem more_mid (g : Gm) (p : Pr) (G : Heap) (env : Env) (hE : restrict [2, 5] env = [(2, .box g.cells), (5, .box (gMore g p).cells)]) : WB ⟨callW X A, 0, 0, [2, 3, 5, 8]⟩ t5M (FinT [.tmp 4] true [] (Bo true, [])) env G := by
  have kg := light_code (lk := 0) (lim := 0) (H := G) (gMore g p)
  unfold t5M t5B
  simp only [seqA5]
  by_cases hli : light (gMore g p) = true
  case neg =>
    have hli : light (gMore g p) = false := by simpa using hli
    rw [hli] at kg
    generalize gMore g p = h at *
    obtain ⟨t', n', k', ps'⟩ := h
    obtain ⟨t, n, k, ps⟩ := g
    simp only [gV, Gm.cells] at *
    generalize t5L2 = lp at *
    generalize callW X A = C at *
    rw [wb_seq, wb_seq, wb_regN, hE]
    simp [kg]
  rw [hli] at kg
  obtain ⟨hl, hq⟩ := light_bd hli
  obtain ⟨hl1, hq1⟩ := sub_ok hq hl
  have kc := rcheck_code (lk := 0) (lim := 0) (H := G) g hl1 hq1
  by_cases hc : chkE g = 0
  case neg =>
    have hc2 : (chkE g != 0) = true := by simpa using hc
    generalize chkE g = e at *
    generalize gMore g p = h at *
    obtain ⟨t', n', k', ps'⟩ := h
    obtain ⟨t, n, k, ps⟩ := g
    simp only [gV, Gm.cells] at *
    generalize t5L2 = lp at *
    generalize callW X A = C at *
    rw [wb_seq, wb_seq, wb_regN, hE]
    simp [kg, kc, hc2, hc]
  have kc2 := rcheck_code (lk := 0) (lim := 0) (H := G) (gMore g p) hl hq
  by_cases hc3 : chkE (gMore g p) = 0
  case neg =>
    have hc2 : (chkE (gMore g p) != 0) = true := by simpa using hc3
    rw [hc] at kc
    generalize chkE (gMore g p) = e at *
    generalize gMore g p = h at *
    obtain ⟨t', n', k', ps'⟩ := h
    obtain ⟨t, n, k, ps⟩ := g
    simp only [gV, Gm.cells] at *
    generalize t5L2 = lp at *
    generalize callW X A = C at *
    rw [wb_seq, wb_seq, wb_regN, hE]
    simp [kg, kc, kc2, hc2, hc3]
  rw [hc] at kc
  rw [hc3] at kc2
  have ok := gok_of hc
  have ok2 := gok_of hc3
  have ok3 := gok_of (chk_low hc)
  obtain ⟨v, h', ks, hh, hv⟩ := fsets_code (lk := 0) (lim := 0) (H := G) (Nat.zero_le _) g hl1 hq1
  subst hh
  rw [if_pos hc] at hv
  obtain ⟨ca, rfl, hA⟩ := hv
  obtain ⟨v, h', ks2, hh, hv⟩ := fsets_code (lk := 0) (lim := 0) (H := h') (Nat.zero_le _) (gMore g p) hl hq
  subst hh
  rw [if_pos hc3] at hv
  obtain ⟨cb, rfl, hB⟩ := hv
  obtain ⟨v, h', ks3, hh, hv⟩ := fsets_code (lk := 0) (lim := 0) (H := h') (Nat.zero_le _) (gLow g) hl1 hq1
  subst hh
  rw [if_pos (chk_low hc)] at hv
  obtain ⟨co, rfl, hO⟩ := hv
  have oA := fol_ok ok
  have oB := fol_ok ok2
  have oO := fol_ok ok3
  have la := oA.len
  have lb := oB.len
  have lo := oO.len
  have hn1 := ok.n1
  have hn2 := ok.n2
  have main := fun (Q : Ex → Kt) (env : Env) (t n : Nat) (k : Int) (v4 : AV) (e : (n : Int) = g.n) hE hQ => m5L2 (C := callW X A) (lk := 0) (Q := Q) (env := env) (G := h') (t := t) (n := n) (k := k) (v4 := v4) (Nat.zero_le _) hA hB hO (by omega) (by rw [lb]; show g.n.toNat = n; omega) (by rw [lo]; show g.n.toNat = n; omega) (by omega)
    (fun L v m x hv hm => has2_code (lk := 0) (lim := L) (H := h') hv x hm)
    (fun K hK L v l hv hl hx => cat2_code (lk := K) (lim := L) (H := h') hK 1 hv (.inl rfl) hl (by simp) hx (by simp))
    (fun L v w l m hv hw hl => same_code (lk := 0) (lim := L) (H := h') hv hw hl)
    (fun i => ⟨⟨Nat.le_trans ((oA.get i).size ok) (by decide), Nat.le_trans ((oB.get i).size ok2) (by decide)⟩, fun x hx => by have := ((oA.get i).row x hx).len; have := ok.k2; omega⟩)
    (fol_more ok ok2 rfl rfl (fun q hq => List.mem_append_left _ hq)) (fun i => fol_cut ok ok3 rfl rfl (by have := ok.k1; show (1 : Int) ≤ g.k; omega) i) hE hQ
  have t1 := ok.t1
  have c1 : (ca.length : Int) = g.n := by rw [hA.1, la]; omega
  have c2 : (cb.length : Int) = g.n := by rw [hB.1, lb]; show (g.n.toNat : Int) = g.n; omega
  have c3 : (co.length : Int) = g.n := by rw [hO.1, lo]; show (g.n.toNat : Int) = g.n; omega
  clear hA hB hO oA oB oO la lb lo ok2 ok3 ok
  unfold gMore gLow at *
  obtain ⟨t, n, k, ps⟩ := g
  simp only [gV, Gm.cells] at *
  obtain ⟨t, rfl⟩ := Int.eq_ofNat_of_zero_le (by omega : 0 ≤ t)
  obtain ⟨n, rfl⟩ := Int.eq_ofNat_of_zero_le (by omega : 0 ≤ n)
  have main := fun Q env hE hQ => main Q env t n k (.sl ps.length (psC ps)) rfl hE hQ
  generalize psC (ps ++ [p]) = cs' at *
  generalize (ps ++ [p]).length = m' at *
  generalize t5L2 = lp at *
  generalize callW X A = C at *
  rw [wb_seq, wb_seq, wb_regN, hE]
  simp [-wb_regN, -wb_seq, kg, kc, kc2]
  rw [wb_seq, wb_regD rfl]
  simp [-wb_regN, -wb_seq, ks, ks2]
  rw [wb_seq, wb_regN]
  simp [-wb_regN, -wb_seq, -wi_stL]
  rw [wi_stL]
  simp [-wb_regN, -wb_seq, replaceAt]
  rw [wb_seq, wb_regN]
  simp [-wb_regN, -wb_seq, -wi_stL]
  rw [wi_stL]
  simp [-wb_regN, -wb_seq, replaceAt]
  rw [wb_seq, wb_regN]
  simp [-wb_regN, -wb_seq, ks3]
  rw [wb_seq, wb_seq, wb_regN]
  simp [-wb_regN, -wb_seq, c1, c2, c3]
  rw [wb_seq, wb_seq, wb_regN]
  simp [-wb_regN, -wb_seq]
  refine main _ _ (by simp) fun env' => ?_
  rw [blk_exit, if_pos rfl]
  simp
set_option maxRecDepth 20000 in
set_option maxHeartbeats 2000000 in
theorem more_code (g : Gm) (p : Pr) (hr : g.ps.length * 32 + 32 ≤ room) (hr2 : ∀ q ∈ g.ps, q.r.length * 8 ≤ room) : callW X A 0 0 5 [gV g, .agg p.cells] [] = some (Bo true, []) := by
  have k10 := (lives_at : callW X A 0 0 9 [] [] = _)
  have k20 := own20_code (lk := 0) (lim := 0) (H := []) g (by omega) hr2 (Nat.le_refl _)
  refine wb_callB [2, 3, 5, 8] rfl A5 rfl rfl ?_
  rw [show t5B = putTail5 5 t5B t5M from rfl]
  simp only [t5B, putTail5]
  have mid := fun G env => more_mid g p G env
  have hfz := fun G => frz_more g p G
  have hfg := fun G => frz_g g G
  have fin : ∀ env, restrict [2, 5] env = [(2, .box g.cells), (5, .box [I g.t, I g.n, I g.k, .hs 0 (2 * (g.ps.length + 1)) 0 (g.ps.length + 1) 2])] → WB ⟨callW X A, 0, 0, [2, 3, 5, 8]⟩ .frz (Fol ⟨callW X A, 0, 0, [2, 3, 5, 8]⟩ t5M (FinT [.tmp 4] true [] (Bo true, []))) env [.cells (newC g.ps p)] := fun env hE => by
    rw [wb_frz]
    refine ⟨Nat.le_refl _, Nat.zero_le _, ?_⟩
    rw [fol_nrm]
    refine mid _ _ ?_
    rw [restrict_frzE, hE]
    simp only [List.map_cons, List.map_nil, hfz, hfg]
  clear mid hfz hfg
  have hnl := newC_len g.ps p
  have hzl := psZ_len g.ps
  obtain ⟨t, n, k, ps⟩ := g
  obtain ⟨pl, pr⟩ := p
  simp only [gV, Gm.cells, Pr.cells] at *
  generalize t5M = M at *
  generalize callW X A = C at *
  have hb : belowL 0 [I pl, .sl pr.length (ints pr)] = true := by simp [belowL, Hm.below, bel_ints]
  have hrp : replaceAt [AV.val (Value.int IntKind.i64 0), AV.e0] 0 [I pl, .sl pr.length (ints pr)] = [I pl, .sl pr.length (ints pr)] := rfl
  by_cases h0 : ps = []
  · subst h0
    have r32 : (32 : Nat) ≤ room := by decide
    simp [ownV, ownG, psC] at k20
    simp only [psC, List.length_nil] at *
    rw [wb_seq, wb_regN]
    simp [-wb_regN, -wb_seq]
    rw [wb_seq, wb_seq, wb_regN]
    simp [-wb_regN, -wb_seq, k10]
    rw [wb_seq, wb_regN]
    simp [-wb_regN, -wb_seq, -wi_stL, k20]
    rw [wi_stL]
    simp [-wb_regN, -wb_seq, replaceAt]
    rw [wb_seq, wb_regN]
    simp [-wb_regN, -wb_seq, -wi_stL, srcCells, slCells, slN, r32, hb, hrp]
    rw [wi_stL]
    simp [-wb_regN, -wb_seq, replaceAt]
    rw [wb_seq]
    exact fin _ (by simp)
  · have hov : ownV 0 ps = .hs 0 (2 * ps.length) 0 ps.length 2 := if_neg h0
    have hog : ownG ps = [.cells (psZ ps)] := if_neg h0
    simp only [List.length_nil, List.nil_append, hov, hog] at k20
    generalize psC ps = cp at *
    simp only [newC] at fin hnl
    have r33 : (ps.length + 1) * 32 ≤ room := by omega
    generalize psZ ps = cz at *
    rw [wb_seq, wb_regN]
    simp [-wb_regN, -wb_seq]
    rw [wb_seq, wb_seq, wb_regN]
    simp [-wb_regN, -wb_seq, k10]
    rw [wb_seq, wb_regN]
    simp [-wb_regN, -wb_seq, -wi_stL, k20]
    rw [wi_stL]
    simp [-wb_regN, -wb_seq, replaceAt]
    rw [wb_seq, wb_regN]
    simp [-wb_regN, -wb_seq, -wi_stL, srcCells, slCells, slN, r33, hzl, appC, appG, setH, hb, hrp, Nat.mul_comm ps.length 2]
    rw [wi_stL]
    simp [-wb_regN, -wb_seq, replaceAt]
    rw [wb_seq]
    exact fin _ (by simp; omega)
end Go.Proofs.Ytdmaganalpamlaa
