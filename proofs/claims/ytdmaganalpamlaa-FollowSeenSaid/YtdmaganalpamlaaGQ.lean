import Derived.Test.YtdmaganalpamlaaGA
import Derived.Test.YtdmaganalpamlaaGE
import Derived.Test.YtdmaganalpamlaaGG
import Derived.Test.YtdmaganalpamlaaGJ
import Derived.Test.YtdmaganalpamlaaNm
set_option linter.unusedSimpArgs false
set_option linter.unusedVariables false
namespace Go.Proofs.Ytdmaganalpamlaa
open Go Go.Hm

theorem pick_code {lk lim : Nat} {H : Heap} (n : Int) (m : Nat) (hm : m ≤ 1000000) : callW X A lk lim 18 [I n, I m] H = some (I (if m < 1 then 0 else n % m), H) := by
  refine wb_callB [] rfl A18 rfl rfl ?_
  unfold t18B
  by_cases h : m < 1
  · have h' : (m : Int) < 1 := by omega
    simp [h, h']
  have h' : ¬ (m : Int) < 1 := by omega
  have h0 : ¬ ((m : Int) = 0) := by omega
  have h00 : ¬ m = 0 := by omega
  have hnn := Int.emod_nonneg n (by omega : (m : Int) ≠ 0)
  have hmod := Int.emod_emod_of_dvd n (Int.dvd_refl m)
  by_cases hr : n.tmod m < 0
  · have e : n % m = n.tmod m + m := by
      have := Int.tmod_eq_emod (a := n) (b := m)
      split at this <;> omega
    have hlt := Int.lt_tmod_of_pos n (by omega : (0 : Int) < m)
    have w : IntKind.i64.wrap (n.tmod m + m) = n.tmod m + m := wrap64 (by omega) (by omega)
    simp [h, h', h00, hr, w, e]
  · have e : n % m = n.tmod m := by
      have := Int.tmod_eq_emod (a := n) (b := m)
      have h2 := Int.emod_lt_of_pos n (by omega : (0 : Int) < m)
      split at this <;> omega
    simp [h, h', h00, hr, e]

def FH (H : Heap) (S : List AV) (G : Heap) : Heap := H ++ .cells S :: G
theorem FH_len (H : Heap) (S : List AV) (G : Heap) : (FH H S G).length = H.length + 1 + G.length := by simp [FH]; omega
theorem FH_get (H : Heap) (S : List AV) (G : Heap) : (FH H S G)[H.length]? = some (.cells S) := by simp [FH]
theorem FH_set (H : Heap) (S T : List AV) (G : Heap) : (FH H S G).set H.length (.cells T) = FH H T G := by simp [FH]
theorem FH_app (H : Heap) (S : List AV) (G : Heap) (x : HB) : FH H S G ++ [x] = FH H S (G ++ [x]) := by simp [FH]
theorem FH_getL (H : Heap) (S : List AV) (G : Heap) (x : HB) : (FH H S (G ++ [x]))[H.length + 1 + G.length]? = some x := by
  unfold FH
  rw [List.getElem?_append_right (by omega), show H.length + 1 + G.length - H.length = G.length + 1 from by omega, List.getElem?_cons_succ, List.getElem?_append_right (Nat.le_refl _)]
  simp
theorem FH_setL (H : Heap) (S : List AV) (G : Heap) (x y : HB) : (FH H S (G ++ [x])).set (H.length + 1 + G.length) y = FH H S (G ++ [y]) := by
  unfold FH
  rw [List.set_append_right _ _ (by omega), show H.length + 1 + G.length - H.length = G.length + 1 from by omega, List.set_cons_succ, List.set_append_right _ _ (Nat.le_refl _)]
  simp
theorem FH_take (H : Heap) (S : List AV) (G : Heap) : (FH H S G).take H.length = H := by simp [FH]
theorem appC_take {n : Nat} {S : List AV} {a : AV} (h : n ≤ S.length) : (appC n S.length S [a]).take (n + 1) = S.take n ++ [a] ∧ (appC n S.length S [a]).length = appG n S.length 1 ∧ n + 1 ≤ (appC n S.length S [a]).length := by
  unfold appC appG
  split
  · rename_i e
    subst e
    refine ⟨?_, by simp, by simp⟩
    rw [List.take_of_length_le (by simp), List.take_length]
  · have hl : n < S.length := by omega
    unfold replaceAt
    refine ⟨?_, ?_, ?_⟩
    · rw [List.take_append_of_le_length (by simp; omega), List.take_of_length_le (by simp; omega)]
    · simp; omega
    · simp; omega
theorem nts_app1 (l : List Nat) (x : Nat) : nts l ++ [I (x : Int)] = nts (l ++ [x]) := by simp [nts]

def lOf (g : Gm) (x : Int) (i : Nat) : List Nat := (List.range i).filter fun k => match g.ps[k]? with | some p => decide (p.l = x) | none => false
theorem lOf_succ (g : Gm) (x : Int) (i : Nat) (p : Pr) (h : g.ps[i]? = some p) : lOf g x (i + 1) = if p.l = x then lOf g x i ++ [i] else lOf g x i := by
  unfold lOf
  rw [List.range_succ, List.filter_append]
  simp only [List.filter_cons, h, List.filter_nil]
  split <;> simp_all
theorem lOf_mem {g : Gm} {x : Int} {i k : Nat} (h : k ∈ lOf g x i) : k < i ∧ ∃ p, g.ps[k]? = some p ∧ p.l = x := by
  unfold lOf at h
  rw [List.mem_filter, List.mem_range] at h
  refine ⟨h.1, ?_⟩
  obtain ⟨_, h⟩ := h
  split at h
  · rename_i p hp
    exact ⟨p, hp, by simpa using h⟩
  · cases h
def lV (B : Nat) (l : List Nat) : AV := if l = [] then .e0 else .hs B l.length 0 l.length 1
def lG (l : List Nat) : Heap := if l = [] then [] else [.cells (nts l)]
theorem lOf_len (g : Gm) (x : Int) (i : Nat) : (lOf g x i).length ≤ i := by
  unfold lOf
  exact Nat.le_trans (List.length_filter_le ..) (by simp)
theorem lV_nil (B : Nat) : lV B [] = .e0 := rfl
theorem lG_nil : lG [] = [] := rfl
theorem lV_cons (B a : Nat) (l : List Nat) : lV B (a :: l) = .hs B (l.length + 1) 0 (l.length + 1) 1 := rfl
theorem lG_cons (a : Nat) (l : List Nat) : lG (a :: l) = [.cells (nts (a :: l))] := rfl
theorem lV_snoc (B : Nat) (l : List Nat) (a : Nat) : lV B (l ++ [a]) = .hs B (l.length + 1) 0 (l.length + 1) 1 := by
  unfold lV
  rw [if_neg (by simp)]
  simp
theorem lG_snoc (l : List Nat) (a : Nat) : lG (l ++ [a]) = [.cells (nts (l ++ [a]))] := by
  unfold lG
  rw [if_neg (by simp)]
theorem setH_1 {lk lim : Nat} {H : Heap} {b : Nat} {cs : List AV} {x : Int} (h : lk ≤ b) : setH lk lim 0 H b cs [I x] = some (H.set b (.cells cs)) := by
  unfold setH
  rw [if_pos ⟨h, .inr rfl, .inl (Nat.zero_le _)⟩]
set_option maxRecDepth 20000 in
theorem d4L1 {C : Orc} {lk : Nat} {Q : Ex → Kt} {env : Env} {H G : Heap} {S : List AV} {t n k x : Int} {ps : List Pr} {c : List Int} {m sn : Nat} {ns : Nat} {Sc : List AV} {wh se fr ta : Int} {o : List UInt8} (hlk : lk ≤ H.length) (hpl : ps.length ≤ 64) (hx : 0 ≤ x - t ∧ x - t ≤ 100)
    (hE : restrict [1, 2, 3, 7, 8, 9, 10, 11, 12, 13, 14, 15, 16] env = [(1, .sl c.length (ints c)), (2, I wh), (3, .box [I t, I n, I k, .sl ps.length (psC ps)]), (7, .sl ns Sc), (8, .hs H.length S.length 0 sn 1), (9, Sg o), (10, I se), (11, I fr), (12, I ta), (13, I m), (14, I x), (15, .e0), (16, I 0)])
    (hQ : ∀ env', restrict [1, 2, 3, 7, 8, 9, 10, 11, 12, 13, 15] env' = [(1, .sl c.length (ints c)), (2, I wh), (3, .box [I t, I n, I k, .sl ps.length (psC ps)]), (7, .sl ns Sc), (8, .hs H.length S.length 0 sn 1), (9, Sg o), (10, I se), (11, I fr), (12, I ta), (13, I m), (15, lV (H.length + 1 + G.length) (lOf ⟨t, n, k, ps⟩ (x - t) ps.length))] → Q (.exit 2) env' (FH H S (G ++ lG (lOf ⟨t, n, k, ps⟩ (x - t) ps.length)))) :
    WB ⟨C, lk, H.length, [3, 17]⟩ (.loop [1, 2, 3, 7, 8, 9, 10, 11, 12, 13, 14, 15, 16] t4L1) Q env (FH H S G) := by
  let bx : AV := .box [I t, I n, I k, .sl ps.length (psC ps)]
  let g : Gm := ⟨t, n, k, ps⟩
  refine wb_loop (σ := Nat) (fun i => [(1, .sl c.length (ints c)), (2, I wh), (3, bx), (7, .sl ns Sc), (8, .hs H.length S.length 0 sn 1), (9, Sg o), (10, I se), (11, I fr), (12, I ta), (13, I m), (14, I x), (15, lV (H.length + 1 + G.length) (lOf g (x - t) i)), (16, I i)]) (fun i => FH H S (G ++ lG (lOf g (x - t) i)))
    (fun i => i ≤ ps.length) (fun i => ps.length - i) ?_ 0 (by omega) hE (by simp [lG, lOf])
  intro i hi
  unfold t4L1
  have w1 : IntKind.i64.wrap ((i : Int) + 1) = (i : Int) + 1 := wrap64 (by omega) (by omega)
  have w2 : IntKind.i64.wrap (x - t) = x - t := wrap64 (by omega) (by omega)
  by_cases hil : i < ps.length
  case neg =>
    obtain rfl : i = ps.length := by omega
    show WB _ _ _ [(1, .sl c.length (ints c)), (2, I wh), (3, bx), (7, .sl ns Sc), (8, .hs H.length S.length 0 sn 1), (9, Sg o), (10, I se), (11, I fr), (12, I ta), (13, I m), (14, I x), (15, lV (H.length + 1 + G.length) (lOf ⟨t, n, k, ps⟩ (x - t) ps.length)), (16, I ps.length)] _
    generalize hlv : lV (H.length + 1 + G.length) (lOf ⟨t, n, k, ps⟩ (x - t) ps.length) = lv at hQ ⊢
    simp [bx]
    refine hQ _ ?_
    simp
  obtain ⟨p, hp⟩ : ∃ p, ps[i] = p := ⟨_, rfl⟩
  have hpl2 := psC_l hil
  have hll := psC_len ps
  have h2 : i * 2 + 2 ≤ 2 * ps.length := by omega
  rw [hp] at hpl2
  have hs := lOf_succ g (x - t) i p (by show ps[i]? = _; rw [List.getElem?_eq_getElem hil, hp])
  have hle := lOf_len g (x - t) i
  have hBl := FH_len H S G
  have hne : ∀ l : List Nat, ∀ a, nts l ++ [AV.val (Value.int IntKind.i64 (a : Nat))] = nts (l ++ [a]) := nts_app1
  by_cases hpx : p.l = x - t
  · rw [if_pos hpx] at hs
    have hfin : ∀ s' : Nat, s' = i + 1 → lV (H.length + 1 + G.length) (lOf g (x - t) s') = .hs (H.length + 1 + G.length) ((lOf g (x - t) i).length + 1) 0 ((lOf g (x - t) i).length + 1) 1 ∧ lG (lOf g (x - t) s') = [.cells (nts (lOf g (x - t) i ++ [i]))] := fun s' e => by
      subst e
      rw [hs, lV_snoc, lG_snoc]
      exact ⟨rfl, rfl⟩
    have hfin1 := hfin (i + 1) rfl
    generalize lOf g (x - t) i = l at hle hfin1 ⊢
    cases l with
    | nil =>
      have r1 : (8 : Nat) ≤ room := by decide
      rw [lV_nil, lG_nil]
      simp [bx, hil, hpl2, hpx, w1, w2, rnd_nrm, src_one, r1, FH_app, FH_len]
      exact ⟨i + 1, by omega, by omega, ⟨hfin1.1.symm, by omega⟩, by rw [hfin1.2]; rfl⟩
    | cons a l =>
      have r1 : (l.length + 1 + 1) * 8 ≤ room := by unfold room; simp only [List.length_cons] at hle; omega
      have hlkB : lk ≤ H.length + 1 + G.length := by omega
      rw [lV_cons, lG_cons]
      simp [bx, hil, hpl2, hpx, w1, w2, rnd_nrm, src_one, r1, FH_getL, FH_setL, setH_1, hlkB, appC, appG]
      exact ⟨i + 1, by omega, by omega, ⟨hfin1.1.symm, by omega⟩, by rw [hfin1.2, nts_app1]⟩
  · rw [if_neg hpx] at hs
    have hfin1 : lOf g (x - t) (i + 1) = lOf g (x - t) i := hs
    generalize lOf g (x - t) i = l at hle hfin1 ⊢
    cases l with
    | nil =>
      rw [lV_nil, lG_nil]
      simp [bx, hil, hpl2, hpx, w1, w2, rnd_nrm]
      exact ⟨i + 1, by omega, by omega, ⟨by rw [hfin1]; rfl, by omega⟩, by rw [hfin1]; simp [lG_nil]⟩
    | cons a l =>
      rw [lV_cons, lG_cons]
      simp [bx, hil, hpl2, hpx, w1, w2, rnd_nrm]
      exact ⟨i + 1, by omega, by omega, ⟨by rw [hfin1]; rfl, by omega⟩, by rw [hfin1]; rfl⟩

set_option maxRecDepth 20000 in
theorem d4L2 {C : Orc} {lk : Nat} {Q : Ex → Kt} {env : Env} {H G : Heap} {S : List AV} {v3 : List AV} {pl : Int} {r : List Int} {c : List Int} {m : Nat} {ns : Nat} {Sc : List AV} {wh se fr ta : Int} {o : List UInt8} {stk : List Int} (hlk : lk ≤ H.length) (hrl : r.length ≤ 100) (hsl : stk.length ≤ 10000) (hS : S.take stk.length = ints stk) (hSl : stk.length ≤ S.length)
    (hE : restrict [1, 2, 3, 7, 8, 9, 10, 11, 12, 13, 17, 18] env = [(1, .sl c.length (ints c)), (2, I wh), (3, .box v3), (7, .sl ns Sc), (8, .hs H.length S.length 0 stk.length 1), (9, Sg o), (10, I se), (11, I fr), (12, I ta), (13, I m), (17, .box [I pl, .sl r.length (ints r)]), (18, I ((r.length : Int) - 1))])
    (hQ : ∀ env' S', S'.take (stk ++ r.reverse).length = ints (stk ++ r.reverse) → (stk ++ r.reverse).length ≤ S'.length → restrict [1, 2, 3, 7, 8, 9, 10, 11, 12, 13] env' = [(1, .sl c.length (ints c)), (2, I wh), (3, .box v3), (7, .sl ns Sc), (8, .hs H.length S'.length 0 (stk ++ r.reverse).length 1), (9, Sg o), (10, I se), (11, I fr), (12, I ta), (13, I m)] → Q (.exit 4) env' (FH H S' G)) :
    WB ⟨C, lk, H.length, [3, 17]⟩ (.loop [1, 2, 3, 7, 8, 9, 10, 11, 12, 13, 17, 18] t4L2) Q env (FH H S G) := by
  refine wb_loop (σ := Nat × List AV) (fun s => [(1, .sl c.length (ints c)), (2, I wh), (3, .box v3), (7, .sl ns Sc), (8, .hs H.length s.2.length 0 (stk ++ (r.drop s.1).reverse).length 1), (9, Sg o), (10, I se), (11, I fr), (12, I ta), (13, I m), (17, .box [I pl, .sl r.length (ints r)]), (18, I ((s.1 : Int) - 1))]) (fun s => FH H s.2 G)
    (fun s => s.1 ≤ r.length ∧ s.2.take (stk ++ (r.drop s.1).reverse).length = ints (stk ++ (r.drop s.1).reverse) ∧ (stk ++ (r.drop s.1).reverse).length ≤ s.2.length) (fun s => s.1) ?_ (r.length, S) ⟨Nat.le_refl _, by simpa using hS, by simpa using hSl⟩ (by rw [hE]; simp) rfl
  rintro ⟨j, S⟩ ⟨hj, hS, hSl⟩
  simp only at hj hS hSl
  unfold t4L2
  cases j with
  | zero =>
    rw [List.drop_zero] at hS hSl
    show WB _ _ _ [(1, .sl c.length (ints c)), (2, I wh), (3, .box v3), (7, .sl ns Sc), (8, .hs H.length S.length 0 (stk ++ r.reverse).length 1), (9, Sg o), (10, I se), (11, I fr), (12, I ta), (13, I m), (17, .box [I pl, .sl r.length (ints r)]), (18, I (((0 : Nat) : Int) - 1))] (FH H S G)
    have hQ := fun env' => hQ env' S hS hSl
    generalize (stk ++ r.reverse).length = n at hQ ⊢
    simp
    refine hQ _ ?_
    simp
  | succ j =>
    have hjl : j < r.length := by omega
    have hd : (r.drop j).reverse = (r.drop (j + 1)).reverse ++ [r[j]] := by rw [List.drop_eq_getElem_cons hjl, List.reverse_cons]
    have e1 : stk ++ (r.drop j).reverse = (stk ++ (r.drop (j + 1)).reverse) ++ [r[j]] := by rw [hd, List.append_assoc]
    have hlen : (stk ++ (r.drop (j + 1)).reverse).length ≤ 10100 := by simp; omega
    show WB _ _ _ [(1, .sl c.length (ints c)), (2, I wh), (3, .box v3), (7, .sl ns Sc), (8, .hs H.length S.length 0 (stk ++ (r.drop (j + 1)).reverse).length 1), (9, Sg o), (10, I se), (11, I fr), (12, I ta), (13, I m), (17, .box [I pl, .sl r.length (ints r)]), (18, I (((j + 1 : Nat) : Int) - 1))] (FH H S G)
    generalize hq : stk ++ (r.drop (j + 1)).reverse = q at *
    obtain ⟨a1, a2, a3⟩ := appC_take (a := I r[j]) hSl
    generalize hy : r[j] = y at *
    have w1 : IntKind.i64.wrap ((j : Int) - 1) = (j : Int) - 1 := wrap64 (by omega) (by omega)
    have place : q.length = S.length ∨ q.length + 1 ≤ S.length := by omega
    have r1 : (q.length + 1) * 8 ≤ room := by unfold room; omega
    generalize hS2 : appC q.length S.length S [I y] = S2 at *
    have hnq : q.length = stk.length + (r.length - (j + 1)) := by rw [← hq]; simp
    generalize hn : q.length = nq at *
    simp [hjl, hy, src_one, FH_get, FH_set, setH_1, hlk, place, r1, hS2, w1, rnd_nrm]
    refine ⟨j, S2, ⟨by omega, ?_, by omega⟩, by omega, ⟨⟨a2.symm, by omega⟩, rfl⟩, rfl⟩
    rw [show stk.length + (r.length - j) = nq + 1 from by omega, a1, hS, e1, ints_app]
    rfl

theorem ints_last {S : List AV} {q : List Int} {x : Int} (h : S.take (q ++ [x]).length = ints (q ++ [x])) : S.take q.length = ints q ∧ S[q.length]? = some (I x) := by
  rw [List.length_append, List.length_singleton, ints_app] at h
  refine ⟨?_, ?_⟩
  · have := congrArg (List.take q.length) h
    rw [List.take_take, Nat.min_eq_left (by omega), List.take_append_of_le_length (by simp)] at this
    rw [this, List.take_of_length_le (by simp)]
  · have : (S.take (q.length + 1))[q.length]? = some (I x) := by
      rw [h, List.getElem?_append_right (by simp), ints_len, Nat.sub_self]
      rfl
    rw [List.getElem?_take, if_pos (by omega)] at this
    exact this
end Go.Proofs.Ytdmaganalpamlaa

namespace Go.Proofs.Ytdmaganalpamlaa
open Go Go.Hm

theorem drv_app {g : Gm} {l : List Int} {w : List UInt8} (d : Drv g l w) : ∀ a b : List Int, l = a ++ b → ∃ w1 w2, w = w1 ++ w2 ∧ Drv g a w1 ∧ Drv g b w2 := by
  induction d with
  | nil =>
    intro a b e
    obtain ⟨rfl, rfl⟩ := List.append_eq_nil_iff.1 e.symm
    exact ⟨[], [], rfl, .nil, .nil⟩
  | tok s r t h d ih =>
    intro a b e
    cases a with
    | nil => exact ⟨[], byteI s :: t, rfl, .nil, by rw [← (show s :: r = b from e)]; exact .tok s r t h d⟩
    | cons y a =>
      cases e
      obtain ⟨w1, w2, rfl, h1, h2⟩ := ih a b rfl
      exact ⟨byteI s :: w1, w2, rfl, .tok s a w1 h h1, h2⟩
  | non p r t h d ih =>
    intro a b e
    cases a with
    | nil => exact ⟨[], t, rfl, .nil, by rw [← (show (g.t + p.l) :: r = b from e)]; exact .non p r t h d⟩
    | cons y a =>
      cases e
      obtain ⟨w1, w2, rfl, h1, h2⟩ := ih (p.r ++ a) b (by simp)
      exact ⟨w1, w2, rfl, .non p a w1 h h1, h2⟩
def Beh (g : Gm) (s : Nat) (γ : List Int) : Prop := ∀ w, Drv g γ w → (w ++ [255]).take g.k.toNat ∈ (folM g).getD s []
def SP (g : Gm) : List Int → Prop
  | [] => True
  | a :: γ => (¬ a < g.t → Beh g (a - g.t).toNat γ) ∧ SP g γ
theorem sp_start {g : Gm} (hg : GOk g) : SP g [g.t] := by
  refine ⟨fun _ w d => ?_, trivial⟩
  cases d
  have h1 : ([255] : List UInt8).take g.k.toNat = [255] := List.take_of_length_le (by have := hg.k1; simp; omega)
  show ([255] : List UInt8).take g.k.toNat ∈ _
  rw [h1, Int.sub_self]
  exact fol_end hg
theorem sp_push {g : Gm} (hg : GOk g) {p : Pr} (hp : p ∈ g.ps) {γ : List Int} (hb : Beh g p.l.toNat γ) (hs : SP g γ) : ∀ r a : List Int, p.r = a ++ r → SP g (r ++ γ)
  | [], _, _ => hs
  | s :: r, a, e => by
    have ih := sp_push hg hp hb hs r (a ++ [s]) (by rw [e, List.append_assoc]; rfl)
    refine ⟨fun hns w d => ?_, ih⟩
    obtain ⟨w1, w2, rfl, d1, d2⟩ := drv_app d r γ rfl
    have hpl : (⟨p.l.toNat, (s - g.t).toNat, r⟩ : Pl) ∈ pls g := List.mem_flatMap.2 ⟨p, hp, mem_plsR.2 ⟨a, s, e, hns, rfl, rfl⟩⟩
    obtain ⟨u, hu, eu⟩ := drv_pick hg d1
    have h1 : u.take g.k.toNat ∈ ofM g (setsM g) r := (pick_of hg hpl _).2 ⟨u, hu, rfl⟩
    have h2 := hb w2 d2
    have h3 := fol_closed hg hpl _ (mem_cat.2 ⟨_, h1, _, h2, rfl⟩)
    rw [join_noend (of_noend hg hpl h1), eu, take_appr, take_appl, ← List.append_assoc] at h3
    exact h3
theorem drv_tail {g : Gm} {x : Int} {γ : List Int} {w : List UInt8} (hx : x < g.t) (d : Drv g γ w) : Drv g (x :: γ) (byteI x :: w) := .tok x γ w hx d

def Ph (g : Gm) (lim : Nat) (base : Nat → List Int) (γ : List Int) (o : List UInt8) (se fr ta : Int) : Prop :=
  (se = -1 ∧ ta = -1) ∨ (∃ s a : Nat, se = s ∧ (s : Int) < g.n ∧ ta = a ∧ a ≤ lim ∧ Beh g s (base a)) ∨
    ∃ s f : Nat, se = s ∧ (s : Int) < g.n ∧ ta = -2 ∧ fr = f ∧ f ≤ o.length ∧ ∀ w, Drv g γ w → (o.drop f ++ w ++ [255]).take g.k.toNat ∈ (folM g).getD s []
structure WInv (g : Gm) (stk : List Int) (S : List AV) (o : List UInt8) (m : Nat) : Prop where
  cS : S.take stk.length = ints stk
  Sl : stk.length ≤ S.length
  r : ∀ x ∈ stk, 0 ≤ x ∧ x < g.t + g.n
  sp : SP g stk.reverse
  b : m + ((121 - m) * 10 + stk.length) ≤ 1211
  o : o.length ≤ m
theorem rev_snoc (q : List Int) (x : Int) : (q ++ [x]).reverse = x :: q.reverse := by simp
theorem ph_check {g : Gm} {q : List Int} {x : Int} {o : List UInt8} {se fr ta : Int} (h : Ph g (q ++ [x]).length (fun a => ((q ++ [x]).take a).reverse) (q ++ [x]).reverse o se fr ta) :
    (ta = (q.length : Int) + 1 → Ph g q.length (fun a => (q.take a).reverse) (x :: q.reverse) o se o.length (-2)) ∧ (¬ ta = (q.length : Int) + 1 → Ph g q.length (fun a => (q.take a).reverse) (x :: q.reverse) o se fr ta) := by
  rcases h with ⟨h1, h2⟩ | ⟨s, a, h1, h2, h3, h4, h5⟩ | ⟨s, f, h1, h2, h3, h4, h5, h6⟩
  · exact ⟨fun e => by omega, fun _ => .inl ⟨h1, h2⟩⟩
  · rw [List.length_append, List.length_singleton] at h4
    refine ⟨fun e => ?_, fun e => ?_⟩
    · refine .inr (.inr ⟨s, o.length, h1, h2, rfl, rfl, Nat.le_refl _, fun w d => ?_⟩)
      have ha : a = q.length + 1 := by omega
      subst ha
      replace h5 : Beh g s ((q ++ [x]).take (q.length + 1)).reverse := h5
      rw [List.take_of_length_le (by simp), rev_snoc] at h5
      rw [List.drop_length, List.nil_append]
      exact h5 w d
    · refine .inr (.inl ⟨s, a, h1, h2, h3, by omega, ?_⟩)
      replace h5 : Beh g s ((q ++ [x]).take a).reverse := h5
      rw [List.take_append_of_le_length (by omega)] at h5
      exact h5
  · rw [rev_snoc] at h6
    exact ⟨fun e => by omega, fun _ => .inr (.inr ⟨s, f, h1, h2, h3, h4, h5, h6⟩)⟩
theorem ph_tok {g : Gm} {q : List Int} {x : Int} {o : List UInt8} {se fr ta : Int} (hx : x < g.t) (h : Ph g q.length (fun a => (q.take a).reverse) (x :: q.reverse) o se fr ta) :
    Ph g q.length (fun a => (q.take a).reverse) q.reverse (o ++ [byteI x]) se fr ta := by
  rcases h with h | h | ⟨s, f, h1, h2, h3, h4, h5, h6⟩
  · exact .inl h
  · exact .inr (.inl h)
  · refine .inr (.inr ⟨s, f, h1, h2, h3, h4, by simp; omega, fun w d => ?_⟩)
    have := h6 (byteI x :: w) (drv_tail hx d)
    rw [List.drop_append_of_le_length h5]
    simpa using this
theorem ph_choose {g : Gm} {q : List Int} {x : Int} {o : List UInt8} {fr : Int} (hx : ¬ x < g.t) (hn : x < g.t + g.n) (hb : Beh g (x - g.t).toNat q.reverse) :
    Ph g q.length (fun a => (q.take a).reverse) (x :: q.reverse) o (x - g.t) fr q.length := by
  refine .inr (.inl ⟨(x - g.t).toNat, q.length, by omega, by omega, rfl, Nat.le_refl _, ?_⟩)
  show Beh g _ (q.take q.length).reverse
  rw [List.take_length]
  exact hb
theorem ph_push {g : Gm} {q : List Int} {x : Int} {p : Pr} (hp : p ∈ g.ps) (hx : p.l = x - g.t) {o : List UInt8} {se fr ta : Int} (h : Ph g q.length (fun a => (q.take a).reverse) (x :: q.reverse) o se fr ta) :
    Ph g (q ++ p.r.reverse).length (fun a => ((q ++ p.r.reverse).take a).reverse) (q ++ p.r.reverse).reverse o se fr ta := by
  rcases h with h | ⟨s, a, h1, h2, h3, h4, h5⟩ | ⟨s, f, h1, h2, h3, h4, h5, h6⟩
  · exact .inl h
  · refine .inr (.inl ⟨s, a, h1, h2, h3, by rw [List.length_append]; omega, ?_⟩)
    show Beh g s ((q ++ p.r.reverse).take a).reverse
    rw [List.take_append_of_le_length h4]
    exact h5
  · refine .inr (.inr ⟨s, f, h1, h2, h3, h4, h5, fun w d => ?_⟩)
    rw [List.reverse_append, List.reverse_reverse] at d
    refine h6 w ?_
    rw [show x = g.t + p.l by omega]
    exact .non p _ _ hp d
theorem WInv.tok {g : Gm} {q : List Int} {x : Int} {S : List AV} {o : List UInt8} {m : Nat} (h : WInv g (q ++ [x]) S o m) : WInv g q S (o ++ [byteI x]) (m + 1) := by
  have hb := h.b
  rw [List.length_append, List.length_singleton] at hb
  have hl := h.Sl
  rw [List.length_append, List.length_singleton] at hl
  have hs := h.sp
  rw [rev_snoc] at hs
  exact ⟨(ints_last h.cS).1, by omega, fun y hy => h.r y (List.mem_append_left _ hy), hs.2, by omega, by have := h.o; simp; omega⟩
theorem WInv.non {g : Gm} (hg : GOk g) {q : List Int} {x : Int} {S S' : List AV} {o : List UInt8} {m : Nat} {p : Pr} (h : WInv g (q ++ [x]) S o m) (hm : m ≤ 120) (hp : p ∈ g.ps) (hx : p.l = x - g.t) (hS : S'.take (q ++ p.r.reverse).length = ints (q ++ p.r.reverse)) (hSl : (q ++ p.r.reverse).length ≤ S'.length) : WInv g (q ++ p.r.reverse) S' o (m + 1) := by
  have hb := h.b
  have pok := hg.p p hp
  have hrl := pok.len
  have hl0 := pok.l0
  rw [List.length_append, List.length_singleton] at hb
  have hs := h.sp
  rw [rev_snoc] at hs
  refine ⟨hS, hSl, fun y hy => ?_, ?_, by rw [List.length_append, List.length_reverse]; omega, by have := h.o; omega⟩
  · rcases List.mem_append.1 hy with hy | hy
    · exact h.r y (List.mem_append_left _ hy)
    · exact pok.s y (List.mem_reverse.1 hy)
  · rw [List.reverse_append, List.reverse_reverse]
    refine sp_push hg hp ?_ hs.2 p.r [] rfl
    have := hs.1 (by omega)
    rwa [← hx] at this
end Go.Proofs.Ytdmaganalpamlaa

namespace Go.Proofs.Ytdmaganalpamlaa
open Go Go.Hm

def seqD : Nat → AC → AC
  | n + 1, .seq _ b => seqD n b
  | _, a => a
def inBlk : AC → AC
  | .seq _ (.seq (.block _ b) _) => b
  | a => a
def t4X : AC := seqD 5 (inBlk t4L3)
def senv (H : Heap) (c : List Int) (wh : Int) (bx : List AV) (ns : Nat) (Sc : List AV) (sl n : Nat) (o : List UInt8) (se fr ta : Int) (m : Nat) (t : Env) : Env :=
  (1, .sl c.length (ints c)) :: (2, I wh) :: (3, .box bx) :: (7, .sl ns Sc) :: (8, .hs H.length sl 0 n 1) :: (9, Sg o) :: (10, I se) :: (11, I fr) :: (12, I ta) :: (13, I m) :: t
set_option maxRecDepth 20000 in
set_option maxHeartbeats 2000000 in
theorem d4X {C : Orc} {lk : Nat} {H G : Heap} {S : List AV} (hlk : lk ≤ H.length) {t n k x : Int} {ps : List Pr} (hg : GOk ⟨t, n, k, ps⟩) {c : List Int} {m ns : Nat} {Sc : List AV} {wh se fr ta : Int} {o : List UInt8} {q : List Int} {Q : Ex → Kt} {E : Env}
    (hc0 : 1 ≤ c.length) (hc : c.length ≤ 60) (hx : 0 ≤ x - t ∧ x - t ≤ 100) (hq : S.take q.length = ints q) (hSl : q.length ≤ S.length) (hm : m ≤ 2000) (hql : q.length ≤ 5000)
    (k18 : ∀ (L : Nat) (G : Heap) (n : Int) (m : Nat), m ≤ 1000000 → C lk L 18 [I n, I m] G = some (I (if m < 1 then 0 else n % m), G))
    (hret : ∀ e S G, find e 6 = .val (.bool true) → Q .ret e (FH H S G))
    (hnrm : ∀ p S' G' e, p ∈ ps → p.l = x - t → m ≤ 120 → S'.take (q ++ p.r.reverse).length = ints (q ++ p.r.reverse) → (q ++ p.r.reverse).length ≤ S'.length → restrict [1, 2, 3, 7, 8, 9, 10, 11, 12, 13] e = senv H c wh [I t, I n, I k, .sl ps.length (psC ps)] ns Sc S'.length (q ++ p.r.reverse).length o se fr ta m [] → Q .nrm e (FH H S' G'))
    (hE : restrict [1, 2, 3, 7, 8, 9, 10, 11, 12, 13, 14] E = senv H c wh [I t, I n, I k, .sl ps.length (psC ps)] ns Sc S.length q.length o se fr ta m [(14, I x)]) :
    WB ⟨C, lk, H.length, [3, 17]⟩ t4X Q E (FH H S G) := by
  obtain ⟨t1, t2, n1, n2, k1, k2, l1, l2, okp⟩ := hg
  simp only at t1 t2 n1 n2 k1 k2 l1 l2 okp
  unfold t4X t4L3
  simp only [inBlk, seqD]
  let bx : List AV := [I t, I n, I k, .sl ps.length (psC ps)]
  rw [wb_seq, wb_regN, hE]
  simp [-wb_true, -wb_false, -wb_regN, senv]
  rw [wb_regN]
  simp [-wb_true, -wb_false, -wb_regN]
  refine d4L1 (c := c) (wh := wh) (ns := ns) (Sc := Sc) (se := se) (fr := fr) (ta := ta) (m := m) (sn := q.length) (o := o) (S := S) (G := G) (t := t) (n := n) (k := k) (ps := ps) (x := x) hlk (by omega) hx rfl fun env' hE' => ?_
  rw [blk_exit, if_pos rfl]
  show WB _ _ _ _ _
  rw [wb_seq, wb_seq, wb_regN, hE']
  have hlm : ∀ j ∈ lOf ⟨t, n, k, ps⟩ (x - t) ps.length, j < ps.length ∧ ∃ p, ps[j]? = some p ∧ p.l = x - t := fun j hj => lOf_mem hj
  have hll := lOf_len ⟨t, n, k, ps⟩ (x - t) ps.length
  generalize lOf ⟨t, n, k, ps⟩ (x - t) ps.length = l at hlm hll ⊢
  cases l with
  | nil =>
    rw [lV_nil, lG_nil]
    simp [-wb_true, -wb_false, -wb_regN]
    rw [wb_true rfl]
    simp
    exact hret _ _ _ rfl
  | cons a l =>
  rw [lV_cons, lG_cons]
  have nl : (((l.length : Int) + 1) == 0) = false ∧ ¬ (l.length : Int) + 1 = 0 := ⟨by rw [beq_eq_false_iff_ne]; omega, by omega⟩
  by_cases hm120 : m ≤ 120
  case neg =>
    have hm2 : (120 : Int) < m := by omega
    simp [-wb_true, -wb_false, -wb_regN, nl.1, nl.2, hm2]
    rw [wb_true rfl]
    simp
    exact hret _ _ _ rfl
  have hm2 : ¬ (120 : Int) < m := by omega
  by_cases hq2 : 200 < q.length
  · have hq2' : (200 : Int) < q.length := by omega
    simp [-wb_true, -wb_false, -wb_regN, nl.1, nl.2, hm2, hq2']
    rw [wb_true rfl]
    simp
    exact hret _ _ _ rfl
  have hq2' : ¬ (200 : Int) < q.length := by omega
  have hcm : m % c.length < c.length := Nat.mod_lt _ (by omega)
  have hrem : (m : Int).tmod (c.length : Int) = ((m % c.length : Nat) : Int) := by
    rw [Int.tmod_eq_emod_of_nonneg (by omega)]; omega
  obtain ⟨y, hy⟩ : ∃ y, c[m % c.length] = y := ⟨_, rfl⟩
  generalize hcmq : m % c.length = cm at *
  have hc1 : ((c.length : Int) == 0) = false := by rw [beq_eq_false_iff_ne]; omega
  have hc2 : ¬ (c.length : Int) = 0 := by omega
  have hc3 : ¬ c = [] := fun e => by rw [e] at hc0; simp at hc0
  have hj0 := Int.emod_nonneg y (show (((l.length + 1 : Nat)) : Int) ≠ 0 by omega)
  have hj1 := Int.emod_lt_of_pos y (show (0 : Int) < ((l.length + 1 : Nat)) by omega)
  have k25' := fun (L : Nat) (G : Heap) => k18 L G y (l.length + 1) (by simp only [List.length_cons] at hll; omega)
  rw [if_neg (by omega)] at k25'
  obtain ⟨j, hj⟩ : ∃ j : Nat, y % ((l.length + 1 : Nat) : Int) = j := ⟨(y % ((l.length + 1 : Nat) : Int)).toNat, by omega⟩
  rw [hj] at k25' hj1
  have hjl : j < (a :: l).length := by simp only [List.length_cons]; omega
  obtain ⟨hpi, p, hp, hpx⟩ := hlm (a :: l)[j] (List.getElem_mem hjl)
  have hjc : (nts (a :: l))[j]? = some (I ((a :: l)[j] : Nat)) := by simp only [nts, List.getElem?_map, List.getElem?_eq_getElem hjl]; rfl
  have hnl : (nts (a :: l)).length = l.length + 1 := by simp
  generalize hpiq : (a :: l)[j] = pi at *
  have hjl' : (j : Int) < (l.length : Int) + 1 := by omega
  have hpp : ps[pi] = p := by rw [List.getElem?_eq_getElem hpi] at hp; simpa using hp
  have hs := psC_sub hpi
  have hlc := psC_len ps
  have h2 : pi * 2 + 2 ≤ 2 * ps.length := by omega
  rw [hpp] at hs
  simp only [Pr.cells] at hs
  generalize hN : nts (a :: l) = N at *
  have k25' : ∀ L G, C lk L 18 [I y, I ((l.length : Int) + 1)] G = some (I j, G) := fun L G => by simpa using k25' L G
  simp [-wb_true, -wb_false, -wb_regN, -wb_regD, nl.1, nl.2, hm2, hq2']
  rw [wb_false rfl, wb_skip, fol_nrm, wb_seq, wb_regD rfl]
  simp [-wb_true, -wb_false, -wb_regN, -wi_stLD, hc1, hc2, hc3, hrem, hcm, hy, k25', FH_getL, hjc, hjl', hnl, hpi, hs, hlc, h2]
  rw [wi_stLD]
  have pok := okp p (List.mem_of_getElem? hp)
  have hrl := pok.len
  have wr1 : IntKind.i64.wrap ((p.r.length : Int) - 1) = (p.r.length : Int) - 1 := wrap64 (by omega) (by omega)
  simp [-wb_true, -wb_false, -wb_regN, replaceAt]
  rw [wb_regN]
  simp [-wb_true, -wb_false, -wb_regN, wr1]
  refine d4L2 (c := c) (wh := wh) (ns := ns) (Sc := Sc) (se := se) (fr := fr) (ta := ta) (m := m) (o := o) (S := S) (G := G ++ [.cells N]) (v3 := bx) (pl := p.l) (r := p.r) (stk := q) hlk (by omega) (by omega) hq (by omega) ?_ ?_
  · simp [bx, restrict, find]
  intro env' S' hS' hSl' hE'
  rw [blk_exit, if_pos rfl]
  exact hnrm p S' _ env' (List.mem_of_getElem? hp) hpx hm120 hS' hSl' hE'
end Go.Proofs.Ytdmaganalpamlaa
