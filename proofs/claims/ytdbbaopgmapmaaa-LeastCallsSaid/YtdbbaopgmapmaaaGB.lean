import Derived.Test.YtdbbaopgmapmaaaGA
set_option linter.unusedSimpArgs false
set_option linter.unusedVariables false
namespace Go.Proofs.Ytdbbaopgmapmaaa
open Go Go.Hm

/-! ### Going on till nothing changes -/
def cntF : List Bool → Nat
  | [] => 0
  | b :: l => (if b = true then 0 else 1) + cntF l
theorem cntF_set : ∀ (o : List Bool) (i : Nat) (h : i < o.length), o[i] = false → cntF (o.set i true) + 1 = cntF o
  | [], i, h, _ => by simp at h
  | b :: o, 0, h, hb => by
    have hb : b = false := hb
    subst hb
    simp only [List.set_cons_zero, cntF]
    simp; omega
  | b :: o, i + 1, h, hb => by
    have ih := cntF_set o i (by simpa using h) (by simpa using hb)
    simp only [List.set_cons_succ, cntF]
    omega
def fixL (f : List Bool → List Bool) : Nat → List Bool → List Bool
  | 0, o => o
  | m + 1, o => if f o = o then o else fixL f m (f o)
/-- It only gets more. -/
def Grows (f : List Bool → List Bool) : Prop := ∀ o, f o = o ∨ cntF (f o) < cntF o
theorem fixL_more {f : List Bool → List Bool} (hf : Grows f) : ∀ (m : Nat) (o : List Bool), cntF o < m → fixL f m o = fixL f (cntF o + 1) o
  | 0, o, h => by omega
  | m + 1, o, h => by
    simp only [fixL]
    by_cases he : f o = o
    · rw [if_pos he, if_pos he]
    · rw [if_neg he, if_neg he]
      rcases hf o with h1 | h1
      · exact absurd h1 he
      · rw [fixL_more hf m (f o) (by omega)]
        by_cases h2 : cntF o = cntF (f o) + 1
        · rw [h2]
        · rw [fixL_more hf (cntF o) (f o) (by omega)]
def fin (f : List Bool → List Bool) (o : List Bool) : List Bool := fixL f (cntF o + 1) o
theorem fin_step {f : List Bool → List Bool} (hf : Grows f) (o : List Bool) : fin f o = if f o = o then o else fin f (f o) := by
  unfold fin
  rw [fixL]
  by_cases he : f o = o
  · rw [if_pos he, if_pos he]
  · rw [if_neg he, if_neg he]
    rcases hf o with h1 | h1
    · exact absurd h1 he
    · exact fixL_more hf _ _ h1
theorem fin_fix {f : List Bool → List Bool} (hf : Grows f) : ∀ (m : Nat) (o : List Bool), cntF o ≤ m → f (fin f o) = fin f o
  | m, o, h => by
    rw [fin_step hf]
    by_cases he : f o = o
    · rw [if_pos he]; exact he
    · rw [if_neg he]
      rcases hf o with h1 | h1
      · exact absurd h1 he
      · cases m with
        | zero => omega
        | succ m => exact fin_fix hf m (f o) (by omega)
/-- What holds at the beginning and is kept holds in the end. -/
theorem fin_ind {f : List Bool → List Bool} (hf : Grows f) (Q : List Bool → Prop) (hq : ∀ o, Q o → Q (f o)) : ∀ (m : Nat) (o : List Bool), cntF o ≤ m → Q o → Q (fin f o)
  | m, o, h, h0 => by
    rw [fin_step hf]
    by_cases he : f o = o
    · rw [if_pos he]; exact h0
    · rw [if_neg he]
      rcases hf o with h1 | h1
      · exact absurd h1 he
      · cases m with
        | zero => omega
        | succ m => exact fin_ind hf Q hq m (f o) (by omega) (hq o h0)
/-- A round, production by production. -/
def rnd {α : Type} (st : List Bool → α → List Bool) (ps : List α) (o : List Bool) : List Bool := ps.foldl st o
theorem rnd_grows {α : Type} {st : List Bool → α → List Bool} (hs : ∀ p, Grows fun o => st o p) : ∀ ps : List α, Grows (rnd st ps)
  | [], o => .inl rfl
  | p :: ps, o => by
    have h1 := rnd_grows hs ps (st o p)
    have h2 : st o p = o ∨ cntF (st o p) < cntF o := hs p o
    simp only [rnd, List.foldl_cons] at h1 ⊢
    rcases h1 with h1 | h1 <;> rcases h2 with h2 | h2
    · rw [h1]; exact .inl h2
    · rw [h1]; exact .inr h2
    · rw [h2] at h1 ⊢; exact .inr h1
    · exact .inr (by omega)
theorem rnd_le {α : Type} {st : List Bool → α → List Bool} (hs : ∀ p, Grows fun o => st o p) (ps : List α) (o : List Bool) : cntF (rnd st ps o) ≤ cntF o := by
  rcases rnd_grows hs ps o with h | h
  · rw [h]; exact Nat.le_refl _
  · omega
/-- A fixed round is one of each. -/
theorem rnd_fixed {α : Type} {st : List Bool → α → List Bool} (hs : ∀ p, Grows fun o => st o p) : ∀ (ps : List α) (o : List Bool), rnd st ps o = o → ∀ p ∈ ps, st o p = o
  | [], _, _, p, hp => by simp at hp
  | q :: ps, o, h, p, hp => by
    simp only [rnd, List.foldl_cons] at h
    have h1 : st o q = o := by
      rcases hs q o with h2 | h2
      · exact h2
      · have h3 := rnd_le hs ps (st o q)
        simp only [rnd] at h3
        rw [h] at h3
        have h2 : cntF (st o q) < cntF o := h2
        omega
    rcases List.mem_cons.1 hp with rfl | hp
    · exact h1
    · rw [h1] at h
      exact rnd_fixed hs ps o h p hp

theorem set_grows (o : List Bool) (i : Nat) (h : ¬ o.getD i false = true) : o.set i true = o ∨ cntF (o.set i true) < cntF o := by
  by_cases hi : i < o.length
  · right
    have : o[i] = false := by
      rw [List.getD_eq_getElem?_getD, List.getElem?_eq_getElem hi] at h
      simpa using h
    have := cntF_set o i hi this
    omega
  · left
    exact List.set_eq_of_length_le (by omega)
theorem rnd_take {α : Type} (st : List Bool → α → List Bool) (ps : List α) (o : List Bool) (i : Nat) (h : i < ps.length) : rnd st (ps.take (i + 1)) o = st (rnd st (ps.take i) o) ps[i] := by
  rw [List.take_succ_eq_append_getElem h]
  simp only [rnd, List.foldl_append, List.foldl_cons, List.foldl_nil]
theorem rnd_ind {α : Type} {st : List Bool → α → List Bool} (Q : List Bool → Prop) (ps : List α) (hq : ∀ o, ∀ p ∈ ps, Q o → Q (st o p)) : ∀ (l : List α), (∀ p ∈ l, p ∈ ps) → ∀ o, Q o → Q (rnd st l o)
  | [], _, _, h => h
  | p :: l, hl, o, h => rnd_ind Q ps hq l (fun q hq => hl q (List.mem_cons_of_mem _ hq)) (st o p) (hq o p (hl p (List.mem_cons_self ..)) h)
theorem bools_rep (n : Nat) : repl n [Bo false] = bools (List.replicate n false) := by
  simp [repl, bools]
theorem frz_bools (lim : Nat) (H : Heap) (d : Nat) (l : List Bool) : mapO (frz lim H d) (bools l) = some (bools l) := by
  induction l with
  | nil => rfl
  | cons a l ih =>
    simp only [bools, List.map_cons, mapO, frz_val] at ih ⊢
    rw [ih]
theorem bel_bools (lim : Nat) (l : List Bool) : belowL lim (bools l) = true := by
  induction l with
  | nil => rfl
  | cons a l ih => simp only [bools, List.map_cons, belowL, Hm.below, Bool.true_and]; exact ih
theorem getD_of {o : List Bool} {i : Nat} (h : i < o.length) : o.getD i false = o[i] := by
  rw [List.getD_eq_getElem?_getD, List.getElem?_eq_getElem h]; rfl
theorem take_setG (H : Heap) (b : Nat) (x : HB) : (H.set b x).take H.length = H.set b x := List.take_of_length_le (by simp)
theorem get_ltG {H : Heap} {b : Nat} {x : HB} (h : H[b]? = some x) : b < H.length := by
  rcases Nat.lt_or_ge b H.length with h1 | h1
  · exact h1
  · rw [List.getElem?_eq_none h1] at h; cases h
/-! ### The first that holds -/
def idxF {α : Type} (P : α → Bool) : List α → Int → Int
  | [], _ => -1
  | x :: l, i => if P x = true then i else idxF P l (i + 1)
theorem idxF_any {α : Type} (P : α → Bool) : ∀ (l : List α) (i : Int), 0 ≤ i → (decide (0 ≤ idxF P l i) = l.any P)
  | [], i, h => by simp [idxF]
  | x :: l, i, h => by
    have ih := idxF_any P l (i + 1) (by omega)
    simp only [idxF, List.any_cons]
    by_cases hp : P x = true
    · simp [hp, h]
    · simp only [hp, if_false, Bool.false_eq_true]
      rw [ih]; simp [hp]
theorem aok_val (v : Value) : argOk (.val v) = true := rfl
theorem aok_agg (c : List AV) : argOk (.agg c) = true := rfl
theorem aok_hp (b g o : Nat) : argOk (.hp b g o) = true := rfl
set_option maxRecDepth 20000 in
theorem idx45_code {lk lim : Nat} {H : Heap} {f : FuncId} {cap : List AV} (l : List Int) (P : Int → Bool) (hl : l.length ≤ 1000000) (hc : cap.all argOk = true) (hP : ∀ x ∈ l, callW X A lk H.length f (I x :: cap) H = some (Bo (P x), H)) :
    callW X A lk lim 45 [.sl l.length (ints l), .fn f cap] H = some (I (idxF P l 0), H) := by
  refine wb_callB [] rfl A45 rfl rfl ?_
  unfold t45B
  simp
  refine wb_loop (σ := Nat) (fun i => [(0, .sl l.length (ints l)), (1, .fn f cap), (7, I l.length), (8, I i)]) (fun _ => H)
    (fun i => i ≤ l.length ∧ idxF P (l.drop i) i = idxF P l 0) (fun i => l.length - i) ?_ 0 (by simp) (by simp) rfl
  rintro i ⟨hi, hinv⟩
  unfold t45L1
  have w : IntKind.i64.wrap ((i : Int) + 1) = (i : Int) + 1 := wrap64 (by omega) (by omega)
  by_cases hil : i < l.length
  · obtain ⟨x, hx⟩ : ∃ x, l[i] = x := ⟨_, rfl⟩
    have hp := hP x (hx ▸ List.getElem_mem hil)
    rw [List.drop_eq_getElem_cons hil, hx] at hinv
    simp only [idxF] at hinv
    cases hpx : P x with
    | true =>
      rw [hpx] at hp hinv
      rw [if_pos rfl] at hinv
      rw [← hinv]
      generalize callW X A = C at hp ⊢
      simp [-argOk, aok_val, hil, hx, hp, hc]
    | false =>
      rw [hpx] at hp hinv
      rw [if_neg (by simp)] at hinv
      generalize callW X A = C at hp ⊢
      simp [-argOk, aok_val, hil, hx, hp, hc, w, rnd_nrm]
      exact ⟨i + 1, ⟨by omega, hinv⟩, by omega, by simp⟩
  · obtain rfl : i = l.length := by omega
    rw [List.drop_length] at hinv
    simp only [idxF] at hinv
    rw [← hinv]
    simp
theorem has29_code {lk lim : Nat} {H : Heap} {f : FuncId} {cap : List AV} (l : List Int) (P : Int → Bool) (hl : l.length ≤ 1000000) (hc : cap.all argOk = true) (hP : ∀ x ∈ l, callW X A lk H.length f (I x :: cap) H = some (Bo (P x), H)) :
    callW X A lk lim 29 [.sl l.length (ints l), .fn f cap] H = some (Bo (l.any P), H) := by
  have k := idx45_code (lim := H.length) l P hl hc hP
  have ha := idxF_any P l 0 (Int.le_refl _)
  refine wb_callB [] rfl A29 rfl rfl ?_
  unfold t29B
  generalize callW X A = C at k ⊢
  simp [k, ha]
end Go.Proofs.Ytdbbaopgmapmaaa

namespace Go.Proofs.Ytdbbaopgmapmaaa
open Go Go.Hm

/-! ### Which states are live -/
def rowV (nx : List Int) (i : Nat) : List Int := (nx.drop (256 * i)).take 256
def liveP (o : List Bool) (t : Int) : Bool := decide (0 ≤ t) && o.getD t.toNat false
def stL (nx : List Int) (o : List Bool) (i : Nat) : List Bool := if o.getD i false = true then o else if (rowV nx i).any (liveP o) = true then o.set i true else o
def liveM (nx rl : List Int) : List Bool := fin (rnd (stL nx) (List.range rl.length)) (rl.map fun r => decide (0 ≤ r))
theorem stL_grows (nx : List Int) (i : Nat) : Grows fun o => stL nx o i := fun o => by
  simp only [stL]
  split
  · exact .inl rfl
  · split
    · rename_i h1 h2
      exact set_grows o _ h1
    · exact .inl rfl
theorem stL_len (nx : List Int) (o : List Bool) (i : Nat) : (stL nx o i).length = o.length := by
  unfold stL
  repeat' split
  all_goals simp
theorem rndL_len (nx : List Int) : ∀ (l : List Nat) (o : List Bool), (rnd (stL nx) l o).length = o.length
  | [], o => rfl
  | i :: l, o => by
    have := rndL_len nx l (stL nx o i)
    simp only [rnd, List.foldl_cons] at this ⊢
    rw [this, stL_len]
theorem rowV_len {nx : List Int} {i n : Nat} (h : nx.length = 256 * n) (hi : i < n) : (rowV nx i).length = 256 := by
  unfold rowV
  rw [List.length_take, List.length_drop]; omega
theorem c30_code {lk lim : Nat} {H : Heap} {b n : Nat} {o : List Bool} (g0 : H[b]? = some (.cells (bools o))) (g1 : H[b + 1]? = some (.cells [.hs b n 0 n 1])) (ho : o.length = n) (t : Int) (h2 : t < n) :
    callW X A lk lim 30 [I t, .hp (b + 1) 1 0] H = some (Bo (liveP o t), H) := by
  refine wb_callB [] rfl A30 rfl rfl ?_
  unfold t30B
  unfold liveP
  by_cases h : 0 ≤ t
  · obtain ⟨t, rfl⟩ := Int.eq_ofNat_of_zero_le h
    have ht : t < o.length := by omega
    have hb : t < (bools o).length := by rw [bools_len]; omega
    have hn : t < n := by omega
    rw [Int.toNat_natCast, getD_of ht]
    obtain ⟨u, hu⟩ : ∃ u, o[t] = u := ⟨_, rfl⟩
    simp [g0, g1, hn, ho, hb, hu, bools_get]
  · simp [h]
theorem posL_take (rl : List Int) (k : Nat) (h : k < rl.length) : ((rl.take k).map (fun r => decide (0 ≤ r)) ++ List.replicate (rl.length - k) false).set k (decide (0 ≤ rl[k])) = (rl.take (k + 1)).map (fun r => decide (0 ≤ r)) ++ List.replicate (rl.length - (k + 1)) false := by
  rw [List.set_append, if_neg (by simp; omega)]
  have e : rl.length - k = (rl.length - (k + 1)) + 1 := by omega
  have z : k - ((rl.take k).map fun r => decide (0 ≤ r)).length = 0 := by simp; omega
  rw [z, e, List.replicate_succ, List.set_cons_zero, List.take_succ_eq_append_getElem h, List.map_append, List.append_assoc]; rfl
def posR (rl : List Int) (k : Nat) : List Bool := (rl.take k).map (fun r => decide (0 ≤ r)) ++ List.replicate (rl.length - k) false
theorem posR_len (rl : List Int) (k : Nat) (h : k ≤ rl.length) : (posR rl k).length = rl.length := by unfold posR; simp; omega
def SL (H : Heap) (n : Nat) (o : List Bool) : Heap := H ++ [.cells (bools o), .cells [.hs H.length n 0 n 1]]
theorem SL_0 (H : Heap) (n : Nat) (o : List Bool) : (SL H n o)[H.length]? = some (.cells (bools o)) := by unfold SL; simp
theorem SL_1 (H : Heap) (n : Nat) (o : List Bool) : (SL H n o)[H.length + 1]? = some (.cells [.hs H.length n 0 n 1]) := by unfold SL; simp
theorem SL_len (H : Heap) (n : Nat) (o : List Bool) : (SL H n o).length = H.length + 2 := by unfold SL; simp
theorem SL_set (H : Heap) (n : Nat) (o o2 : List Bool) : (SL H n o).set H.length (.cells (bools o2)) = SL H n o2 := by
  unfold SL; rw [List.set_append]; simp
theorem SL_upd (H : Heap) (n : Nat) (o : List Bool) (k : Nat) (v : Bool) (h : k < o.length) : (SL H n o).set H.length (.cells (replaceAt (bools o) k [Bo v])) = SL H n (o.set k v) := by
  rw [replaceAt_one _ (by rw [bools_len]; exact h), bools_set, SL_set]
theorem SL_mk (H : Heap) (n : Nat) (o : List Bool) : H ++ [.cells (bools o)] ++ [.cells [.hs H.length n 0 n 1]] = SL H n o := by unfold SL; simp
theorem SL_take (H : Heap) (n : Nat) (o : List Bool) : (SL H n o).take H.length = H := by unfold SL; simp
theorem SL_take2 (H : Heap) (n : Nat) (o : List Bool) : (SL H n o).take (H.length + 2) = SL H n o := List.take_of_length_le (by rw [SL_len]; exact Nat.le_refl _)
set_option maxRecDepth 20000 in
theorem live_code {lk lim : Nat} {H : Heap} (nx rl : List Int) (h1 : nx.length ≤ 1000000) (h2 : rl.length ≤ 1000000) (hlk : lk ≤ H.length) :
    callW X A lk lim 13 [.agg (Dv nx rl)] H = some (if chk nx rl = true then .sl rl.length (bools (liveM nx rl)) else .e0, H) := by
  have kc := fun (L : Nat) => dcheck_code (lk := lk) (lim := L) (H := H) nx rl h1 h2
  refine wb_callB [1] rfl A13 rfl rfl ?_
  unfold t13B
  by_cases hc : chk nx rl = true
  case neg =>
    rw [if_neg hc]
    rw [chkE_neg hc] at kc
    generalize callW X A = C at kc ⊢
    simp [kc]
  rw [if_pos hc]
  rw [chkE_pos hc] at kc
  obtain ⟨⟨ok1, ok2, ok3, ok4, ok5⟩, ok6, ok7⟩ := chk_ok hc
  let bx : AV := .box (Dv nx rl)
  generalize hC : callW X A = C at kc ⊢
  have hro : (rl.length : Int) ≤ (room : Int) := by unfold room; omega
  simp [-wi_st, -wi_stL, kc, hro, bools_rep]
  rw [wi_st]
  have hlk1 : lk ≤ H.length + 1 := by omega
  simp [-wi_st, -wi_stL, setH, hlk1, set_at, Hm.get_at, get_at0]
  refine wb_loop (σ := Nat) (fun k => [(1, bx), (3, .hp (H.length + 1) 1 0), (16, .sl rl.length (ints rl)), (17, I rl.length), (18, I k)]) (fun k => SL H rl.length (posR rl k))
    (fun k => k ≤ rl.length) (fun k => rl.length - k) ?_ 0 (by simp) (by simp [bx]) (by simp [SL, posR])
  intro k hk
  unfold t13L1
  have w : IntKind.i64.wrap ((k : Int) + 1) = (k : Int) + 1 := wrap64 (by omega) (by omega)
  have g0 := SL_0 H rl.length (posR rl k)
  have g1 := SL_1 H rl.length (posR rl k)
  have hlen := SL_len H rl.length (posR rl k)
  have hbl : (bools (posR rl k)).length = rl.length := by rw [bools_len, posR_len _ _ hk]
  by_cases hkl : k < rl.length
  case pos =>
    obtain ⟨r, hr⟩ : ∃ r, rl[k] = r := ⟨_, rfl⟩
    have hk1 : k + 1 ≤ rl.length := hkl
    have hset : (posR rl k).set k (decide (0 ≤ r)) = posR rl (k + 1) := by rw [← hr]; exact posL_take rl k hkl
    simp [-wi_st, -wi_stL, hkl, hr, g0, g1, hbl, w, posR_len _ _ hk]
    rw [wi_st]
    simp [-wi_st, -wi_stL, hkl, hk1, g0, g1, hbl, w, posR_len _ _ hk, setH, hlk, SL_upd, hset]
    rw [rnd_nrm]
    exact ⟨k + 1, hk1, by omega, by simp [bx], rfl⟩
  obtain rfl : k = rl.length := by omega
  have hpos : posR rl rl.length = rl.map (fun r => decide (0 ≤ r)) := by unfold posR; simp
  rw [hpos] at g0 g1 hlen hbl ⊢
  let f := rnd (stL nx) (List.range rl.length)
  have hf : Grows f := rnd_grows (fun i => stL_grows nx i) _
  simp
  refine wb_loop (σ := List Bool × Bool) (fun s => [(1, bx), (3, .hp (H.length + 1) 1 0), (6, Bo s.2)]) (fun s => SL H rl.length s.1)
    (fun s => s.1.length = rl.length ∧ fin f s.1 = liveM nx rl ∧ (s.2 = false → f s.1 = s.1)) (fun s => cntF s.1 + if s.2 = true then 1 else 0) ?_ (rl.map (fun r => decide (0 ≤ r)), true) ⟨by simp, rfl, by simp⟩ (by simp [bx]) (by simp)
  clear w g0 g1 hlen hbl
  rintro ⟨o, more⟩ ⟨ho, hfin, hmore⟩
  simp only at ho hfin hmore
  unfold t13L3
  have g0 := SL_0 H rl.length o
  have g1 := SL_1 H rl.length o
  have htk := SL_take H rl.length o
  have hbl : (bools o).length = rl.length := by rw [bools_len]; exact ho
  cases more with
  | false =>
    have h1 : fin f o = o := by rw [fin_step hf, if_pos (hmore rfl)]
    rw [h1] at hfin
    rw [← hfin]
    have hb := frz_bools H.length (SL H rl.length o) 7 o
    have hb2 := bel_bools 0 o
    have htk2 : (bools o).take rl.length = bools o := List.take_of_length_le (by rw [bools_len]; omega)
    simp [g0, g1, hb, hb2, htk, htk2, ho]
  | true =>
    simp [g0, g1]
    refine wb_loop (σ := Nat × List Bool × Bool) (fun s => [(1, bx), (3, .hp (H.length + 1) 1 0), (6, Bo s.2.2), (31, I rl.length), (32, I s.1)]) (fun s => SL H rl.length s.2.1)
      (fun s => s.1 ≤ rl.length ∧ s.2.1 = rnd (stL nx) ((List.range rl.length).take s.1) o ∧ s.2.2 = decide (s.2.1 ≠ o)) (fun s => rl.length - s.1) ?_ (0, o, false) ⟨Nat.zero_le _, rfl, by simp⟩ (by simp [bx]) rfl
    clear g0 g1 htk hbl
    rintro ⟨i, o2, more⟩ ⟨hi, ho2, hm⟩
    simp only at hi ho2 hm
    unfold t13L2
    have w1 : IntKind.i64.wrap ((i : Int) + 1) = (i : Int) + 1 := wrap64 (by omega) (by omega)
    have hlen2 : o2.length = rl.length := by rw [ho2, rndL_len, ho]
    have g0 := SL_0 H rl.length o2
    have g1 := SL_1 H rl.length o2
    have hbl : (bools o2).length = rl.length := by rw [bools_len]; exact hlen2
    by_cases hil : i < rl.length
    case neg =>
      obtain rfl : i = rl.length := by omega
      rw [List.take_of_length_le (by simp)] at ho2
      have hfo : f o = o2 := ho2.symm
      have hstep := fin_step hf o
      rw [hfo] at hstep
      simp
      rw [rnd_nrm]
      refine ⟨(o2, more), ⟨hlen2, ?_, fun h => ?_⟩, ?_, by simp [bx], rfl⟩
      · rw [← hfin, hstep]
        by_cases he : o2 = o
        · rw [if_pos he, he, fin_step hf o, if_pos (hfo.trans he)]
        · rw [if_neg he]
      · have h : more = false := h
        rw [h] at hm
        have he : o2 = o := by simpa using hm.symm
        show f o2 = o2
        rw [he] at hfo ⊢; exact hfo
      · show cntF o2 + (if more = true then 1 else 0) < cntF o + (if true = true then 1 else 0)
        by_cases he : o2 = o
        · rw [hm]; simp [he]
        · have := hf o
          rw [hfo] at this
          rcases this with h | h
          · exact absurd h he
          · rw [hm]; simp [he]; omega
    have hil1 : i + 1 ≤ rl.length := hil
    have hil2 : i < o2.length := by omega
    have hnext : rnd (stL nx) ((List.range rl.length).take (i + 1)) o = stL nx o2 i := by rw [rnd_take _ _ _ _ (by simp; exact hil), ← ho2]; simp
    obtain ⟨v, hv⟩ : ∃ v, o2[i] = v := ⟨_, rfl⟩
    have hgD : o2.getD i false = v := by rw [getD_of hil2, hv]
    have hch : decide (stL nx o2 i ≠ o) = (decide (stL nx o2 i ≠ o2) || more) := by
      have hle := rnd_le (fun i => stL_grows nx i) ((List.range rl.length).take i) o
      rw [← ho2] at hle
      rw [hm]
      by_cases h1 : stL nx o2 i = o2
      · rw [h1]; simp
      · have h3 : cntF (stL nx o2 i) < cntF o2 := by
          rcases stL_grows nx i o2 with h | h
          · exact absurd h h1
          · exact h
        have h4 : stL nx o2 i ≠ o := fun h => by rw [h] at h3; omega
        simp [h1, h4]
    cases v with
    | true =>
      have hst : stL nx o2 i = o2 := by unfold stL; rw [if_pos hgD]
      rw [hst] at hnext hch
      simp [hil, g0, g1, hlen2, hil2, hv, w1]
      rw [rnd_nrm]
      exact ⟨(i + 1, o2, more), ⟨hil1, by simpa using hnext.symm, by simpa using hch.symm⟩, by simp only; omega, by simp [bx], rfl⟩
    | false =>
      have kr := fun L => has29_code (lk := lk) (lim := L) (H := SL H rl.length o2) (f := 30) (cap := [.hp (H.length + 1) 1 0]) (rowV nx i) (liveP o2) (by rw [rowV_len ok3 hil]; omega) rfl (fun x hx => c30_code g0 g1 hlen2 x (ok4 x (List.mem_of_mem_drop (List.mem_of_mem_take hx))).2)
      rw [rowV_len ok3 hil, hC] at kr
      have hrow : ((ints nx).drop (256 * i)).take 256 = ints (rowV nx i) := by unfold rowV; simp [ints]
      have w2 : IntKind.i64.wrap (256 * (i : Int)) = 256 * (i : Int) := wrap64 (by omega) (by omega)
      have w3 : IntKind.i64.wrap (256 * ((i : Int) + 1)) = 256 * ((i : Int) + 1) := wrap64 (by omega) (by omega)
      have e1 : (i : Int) ≤ (i : Int) + 1 := by omega
      have e2 : 256 * ((i : Int) + 1) ≤ (nx.length : Int) := by omega
      have e3 : (256 * ((i : Int) + 1)).toNat = 256 * (i + 1) := by omega
      have e4 : 0 ≤ 256 * ((i : Int) + 1) := by omega
      have e5 : 0 ≤ 256 * (i : Int) := by omega
      have e6 : (256 * (i : Int)).toNat = 256 * i := by omega
      have e7 : 256 * (i + 1) - 256 * i = 256 := by omega
      simp [-wi_st, -wi_stL, -wi_call, hil, g0, g1, hlen2, hil2, hv, w1, w2, w3, bx, bnd, e1, e2, e3, e4, e5, e6, e7]
      rw [wi_call]
      have hst : stL nx o2 i = if (rowV nx i).any (liveP o2) = true then o2.set i true else o2 := by
        unfold stL; rw [if_neg (by rw [hgD]; simp)]
      cases hany : (rowV nx i).any (liveP o2) with
      | false =>
        rw [hany] at hst kr
        rw [if_neg (by simp)] at hst
        rw [hst] at hnext hch
        simp [-wi_st, -wi_stL, aok_val, hrow, kr, w1, SL_len, SL_take2]
        rw [rnd_nrm]
        exact ⟨(i + 1, o2, more), ⟨hil1, by simpa using hnext.symm, by simpa using hch.symm⟩, by simp only; omega, by simp [bx], rfl⟩
      | true =>
        rw [hany] at hst kr
        rw [if_pos rfl] at hst
        rw [hst] at hnext hch
        have hne : o2.set i true ≠ o2 := fun h => by
          have : (o2.set i true)[i]'(by simpa using hil2) = o2[i] := by simp only [h]
          rw [List.getElem_set_self, hv] at this
          cases this
        simp [-wi_st, -wi_stL, -wb_regN, aok_val, hrow, kr, SL_len, SL_take2]
        rw [wb_regN]
        simp [-wi_st, -wi_stL, g0, g1, hil]
        rw [wi_st]
        simp [-wi_st, -wi_stL, w1, g0, g1, hil, hil1, hlen2, setH, hlk, SL_upd]
        rw [rnd_nrm]
        exact ⟨(i + 1, o2.set i true, true), ⟨hil1, by simpa using hnext.symm, by simpa [hne] using hch.symm⟩, by simp only; omega, by simp [bx], rfl⟩
end Go.Proofs.Ytdbbaopgmapmaaa

namespace Go.Proofs.Ytdbbaopgmapmaaa
open Go Go.Hm

/-! ### Keys of a map, numbered as they come -/
def kEnt : List (List Int) → Nat → List (AV × AV)
  | [], _ => []
  | k :: r, j => (.agg (ints k), I j) :: kEnt r (j + 1)
def findK (key : List Int) : List (List Int) → Nat → Option Nat
  | [], _ => none
  | k :: r, j => if key = k then some j else findK key r (j + 1)
theorem kEnt_len : ∀ (l : List (List Int)) (j : Nat), (kEnt l j).length = l.length
  | [], _ => rfl
  | k :: r, j => by simp only [kEnt, List.length_cons, kEnt_len r]
theorem eqCells_ints : ∀ (a b : List Int), a.length = b.length → eqCells (List.replicate a.length 1) (ints a) (ints b) = some (decide (a = b))
  | [], [], _ => rfl
  | x :: a, y :: b, h => by
    have ih := eqCells_ints a b (by simpa using h)
    simp only [ints, List.length_cons, List.replicate_succ, List.map_cons, eqCells, eqScalar, if_pos] at ih ⊢
    rw [ih]
    by_cases h1 : x = y <;> by_cases h2 : a = b <;> simp [h1, h2]
  | [], _ :: _, h => by simp at h
  | _ :: _, [], h => by simp at h
theorem eqKey_ints {n : Nat} {a b : List Int} (ha : a.length = n) (hb : b.length = n) : eqKey true (List.replicate n 1) (.agg (ints a)) (.agg (ints b)) = some (decide (a = b)) := by
  have := eqCells_ints a b (by omega)
  rw [ha] at this
  simp only [eqKey, if_true]
  exact this
theorem keyOk_ints {n : Nat} {a : List Int} (ha : a.length = n) : keyOk true (List.replicate n 1) (.agg (ints a)) = true := by
  unfold keyOk
  rw [eqKey_ints ha ha]; simp
theorem mget_ents {n : Nat} {key : List Int} (hk : key.length = n) : ∀ (l : List (List Int)) (j : Nat), (∀ k ∈ l, k.length = n) → mget true (List.replicate n 1) (.agg (ints key)) (kEnt l j) = some ((findK key l j).map fun i => I (i : Nat))
  | [], _, _ => rfl
  | k :: r, j, h => by
    have ih := mget_ents hk r (j + 1) (fun x hx => h x (List.mem_cons_of_mem _ hx))
    simp only [kEnt, mget, findK, eqKey_ints hk (h k (List.mem_cons_self ..))]
    by_cases he : key = k
    · rw [if_pos he, decide_eq_true he]; rfl
    · rw [if_neg he, decide_eq_false he]; exact ih
theorem mset_ents {n : Nat} {key : List Int} (hk : key.length = n) : ∀ (l : List (List Int)) (j : Nat), (∀ k ∈ l, k.length = n) → findK key l j = none → mset true (List.replicate n 1) (.agg (ints key)) (I ((j + l.length : Nat) : Int)) (kEnt l j) = some (kEnt (l ++ [key]) j)
  | [], _, _, _ => rfl
  | k :: r, j, h, hn => by
    simp only [findK] at hn
    by_cases he : key = k
    · rw [if_pos he] at hn; cases hn
    · rw [if_neg he] at hn
      have ih := mset_ents hk r (j + 1) (fun x hx => h x (List.mem_cons_of_mem _ hx)) hn
      simp only [kEnt, mset, List.cons_append, eqKey_ints hk (h k (List.mem_cons_self ..)), decide_eq_false he]
      have e : j + (k :: r).length = j + 1 + r.length := by simp only [List.length_cons]; omega
      rw [e, ih]
theorem findK_lt {key : List Int} : ∀ (l : List (List Int)) (j i : Nat), findK key l j = some i → j ≤ i ∧ i < j + l.length ∧ l[i - j]? = some key
  | [], _, _, h => by cases h
  | k :: r, j, i, h => by
    simp only [findK] at h
    split at h
    · rename_i he
      cases h
      refine ⟨Nat.le_refl _, by simp, ?_⟩
      rw [Nat.sub_self, he]; rfl
    · obtain ⟨h1, h2, h3⟩ := findK_lt r (j + 1) i h
      refine ⟨by omega, by simp only [List.length_cons]; omega, ?_⟩
      have e : i - j = (i - (j + 1)) + 1 := by omega
      rw [e, List.getElem?_cons_succ, h3]
theorem findK_none {key : List Int} : ∀ (l : List (List Int)) (j : Nat), findK key l j = none → key ∉ l
  | [], _, _ => by simp
  | k :: r, j, h => by
    simp only [findK] at h
    split at h
    · cases h
    · rename_i he
      have := findK_none r (j + 1) h
      simp [he, this]

/-! ### A round of parting -/
def keyS (nx p : List Int) (i : Nat) : List Int := p.getD i 0 :: (rowV nx i).map fun t => if 0 ≤ t then p.getD t.toNat 0 else -1
def stepR (nx p : List Int) (s : List (List Int) × List Int) (i : Nat) : List (List Int) × List Int :=
  if p.getD i 0 < 0 then (s.1, s.2 ++ [-1]) else match findK (keyS nx p i) s.1 0 with
    | some k => (s.1, s.2 ++ [(k : Int)])
    | none => (s.1 ++ [keyS nx p i], s.2 ++ [(s.1.length : Int)])
def roundK (nx p : List Int) (i : Nat) : List (List Int) × List Int := (List.range i).foldl (stepR nx p) ([], [])
theorem roundK_succ (nx p : List Int) (i : Nat) : roundK nx p (i + 1) = stepR nx p (roundK nx p i) i := by
  unfold roundK
  rw [List.range_succ, List.foldl_append]; rfl
theorem roundK_len (nx p : List Int) : ∀ i, (roundK nx p i).2.length = i ∧ (roundK nx p i).1.length ≤ i
  | 0 => ⟨rfl, Nat.le_refl _⟩
  | i + 1 => by
    obtain ⟨h1, h2⟩ := roundK_len nx p i
    rw [roundK_succ]
    unfold stepR
    split
    · simp only [List.length_append, List.length_cons, List.length_nil]; omega
    · split <;> simp only [List.length_append, List.length_cons, List.length_nil] <;> omega
theorem keyS_len {nx p : List Int} {i n : Nat} (h : nx.length = 256 * n) (hi : i < n) : (keyS nx p i).length = 257 := by
  unfold keyS
  simp only [List.length_cons, List.length_map, rowV_len h hi]
theorem roundK_keys {nx p : List Int} {n : Nat} (h : nx.length = 256 * n) : ∀ i, i ≤ n → ∀ k ∈ (roundK nx p i).1, k.length = 257
  | 0, _, k, hk => by simp [roundK] at hk
  | i + 1, hi, k, hk => by
    have ih := roundK_keys (p := p) h i (by omega)
    rw [roundK_succ] at hk
    unfold stepR at hk
    split at hk
    · exact ih k hk
    · split at hk
      · exact ih k hk
      · rcases List.mem_append.1 hk with hk | hk
        · exact ih k hk
        · obtain rfl := List.mem_singleton.1 hk
          exact keyS_len h (by omega)
/-- What a round tells: each entry is -1, or the number of its key. -/
theorem roundK_get {nx p : List Int} : ∀ i, ∀ j, j < i → ((p.getD j 0 < 0 ∧ (roundK nx p i).2[j]? = some (-1)) ∨ (0 ≤ p.getD j 0 ∧ ∃ k : Nat, (roundK nx p i).2[j]? = some (k : Int) ∧ (roundK nx p i).1[k]? = some (keyS nx p j)))
  | 0, j, h => by omega
  | i + 1, j, h => by
    obtain ⟨l1, l2⟩ := roundK_len nx p i
    rw [roundK_succ]
    by_cases hj : j < i
    · have ih := roundK_get (nx := nx) (p := p) i j hj
      have a1 : ∀ x, ((roundK nx p i).2 ++ [x])[j]? = (roundK nx p i).2[j]? := fun x => List.getElem?_append_left (by omega)
      unfold stepR
      split
      · rw [a1]; exact ih
      · split
        · rw [a1]; exact ih
        · rw [a1]
          rcases ih with ih | ⟨h1, k, h2, h3⟩
          · exact .inl ih
          · refine .inr ⟨h1, k, h2, ?_⟩
            have : k < (roundK nx p i).1.length := by
              rcases Nat.lt_or_ge k (roundK nx p i).1.length with h | h
              · exact h
              · rw [List.getElem?_eq_none h] at h3; cases h3
            simp only
            rw [List.getElem?_append_left this]; exact h3
    · obtain rfl : j = i := by omega
      have a1 : ∀ x, ((roundK nx p j).2 ++ [x])[j]? = some x := fun x => by
        rw [List.getElem?_append_right (by omega), l1]; simp
      unfold stepR
      split
      · rename_i hp
        exact .inl ⟨hp, a1 _⟩
      · rename_i hp
        split
        · rename_i k hk
          obtain ⟨_, _, h3⟩ := findK_lt _ _ _ hk
          exact .inr ⟨by omega, k, a1 _, by simpa using h3⟩
        · refine .inr ⟨by omega, (roundK nx p j).1.length, a1 _, ?_⟩
          rw [List.getElem?_append_right (Nat.le_refl _)]; simp
/-- Each key is one that some state has. -/
theorem roundK_from {nx p : List Int} : ∀ i, ∀ (k : Nat) key, (roundK nx p i).1[k]? = some key → ∃ j, j < i ∧ (roundK nx p i).2[j]? = some (k : Int) ∧ key = keyS nx p j ∧ 0 ≤ p.getD j 0
  | 0, k, key, h => by simp [roundK] at h
  | i + 1, k, key, h => by
    obtain ⟨l1, l2⟩ := roundK_len nx p i
    have ih := roundK_from (nx := nx) (p := p) i k key
    have a1 : ∀ (x : Int) (j : Nat), j < i → ((roundK nx p i).2 ++ [x])[j]? = (roundK nx p i).2[j]? := fun x j hj => List.getElem?_append_left (by omega)
    rw [roundK_succ] at h ⊢
    unfold stepR at h ⊢
    split at h
    · rename_i hp
      rw [if_pos hp]
      obtain ⟨j, h1, h2, h3⟩ := ih h
      exact ⟨j, by omega, by rw [a1 _ _ h1]; exact h2, h3⟩
    · rename_i hp
      rw [if_neg hp]
      cases hk : findK (keyS nx p i) (roundK nx p i).1 0 with
      | some k2 =>
        rw [hk] at h
        obtain ⟨j, h1, h2, h3⟩ := ih h
        exact ⟨j, by omega, by simp only; rw [a1 _ _ h1]; exact h2, h3⟩
      | none =>
        rw [hk] at h
        simp only at h ⊢
        by_cases hlt : k < (roundK nx p i).1.length
        · rw [List.getElem?_append_left hlt] at h
          obtain ⟨j, h1, h2, h3⟩ := ih h
          exact ⟨j, by omega, by rw [a1 _ _ h1]; exact h2, h3⟩
        · rw [List.getElem?_append_right (by omega)] at h
          have hz : k - (roundK nx p i).1.length = 0 := by
            rcases Nat.eq_zero_or_pos (k - (roundK nx p i).1.length) with h1 | h1
            · exact h1
            · rw [List.getElem?_eq_none (by simp; omega)] at h; cases h
          rw [hz] at h
          refine ⟨i, by omega, ?_, by simpa using h.symm, by omega⟩
          rw [List.getElem?_append_right (by omega), l1]
          have : k = (roundK nx p i).1.length := by omega
          simp [this]
end Go.Proofs.Ytdbbaopgmapmaaa

namespace Go.Proofs.Ytdbbaopgmapmaaa
open Go Go.Hm

theorem ints_set1 (l : List Int) (k : Nat) (v : Int) : (ints l).set k (I v) = ints (l.set k v) := by simp [ints, List.map_set]
/-- A row that is being filled. -/
def fillR (F : List Int) (k : Nat) : List Int := F.take k ++ List.replicate (F.length - k) 0
theorem fillR_len (F : List Int) (k : Nat) (h : k ≤ F.length) : (fillR F k).length = F.length := by unfold fillR; simp; omega
theorem fillR_set (F : List Int) (k : Nat) (h : k < F.length) : (fillR F k).set k F[k] = fillR F (k + 1) := by
  unfold fillR
  rw [List.set_append, if_neg (by simp; omega)]
  have e : F.length - k = (F.length - (k + 1)) + 1 := by omega
  have z : k - (F.take k).length = 0 := by simp; omega
  rw [z, e, List.replicate_succ, List.set_cons_zero, List.take_succ_eq_append_getElem h, List.append_assoc]; rfl
theorem fillR_0 (F : List Int) : fillR F 0 = List.replicate F.length 0 := by unfold fillR; simp
theorem fillR_all (F : List Int) : fillR F F.length = F := by unfold fillR; simp
theorem ints_rep (n : Nat) : repl n [I 0] = ints (List.replicate n 0) := by simp [repl, ints]
def GI (G : Heap) (p : List Int) : Heap := G ++ [.cells (ints p)]
theorem GI_0 (G : Heap) (p : List Int) : (GI G p)[G.length]? = some (.cells (ints p)) := by unfold GI; simp
theorem GI_len (G : Heap) (p : List Int) : (GI G p).length = G.length + 1 := by unfold GI; simp
theorem GI_upd (G : Heap) (p : List Int) (k : Nat) (v : Int) (h : k < p.length) : (GI G p).set G.length (.cells (replaceAt (ints p) k [I v])) = GI G (p.set k v) := by
  rw [replaceAt_one _ (by rw [ints_len]; exact h), ints_set1]
  unfold GI; rw [Hm.set_at0]; rfl
theorem GI_take {H G : Heap} (h : G.take H.length = H) (p : List Int) : (GI G p).take H.length = H := by
  have hl : H.length ≤ G.length := by
    have := congrArg List.length h
    rw [List.length_take] at this
    omega
  unfold GI
  rw [List.take_append_of_le_length hl, h]
/-- A round's memory: the parts, the keys that are known, the parts that come to be. -/
def RH (G : Heap) (p : List Int) (ks : List (List Int)) (q : List Int) : Heap := G ++ [.cells (ints p), .map (kEnt ks 0), .cells (ints q)]
theorem RH_0 (G : Heap) (p : List Int) (ks : List (List Int)) (q : List Int) : (RH G p ks q)[G.length]? = some (.cells (ints p)) := by unfold RH; simp
theorem RH_1 (G : Heap) (p : List Int) (ks : List (List Int)) (q : List Int) : (RH G p ks q)[G.length + 1]? = some (.map (kEnt ks 0)) := by unfold RH; simp
theorem RH_2 (G : Heap) (p : List Int) (ks : List (List Int)) (q : List Int) : (RH G p ks q)[G.length + 2]? = some (.cells (ints q)) := by unfold RH; simp
theorem RH_len (G : Heap) (p : List Int) (ks : List (List Int)) (q : List Int) : (RH G p ks q).length = G.length + 3 := by unfold RH; simp
theorem RH_upd (G : Heap) (p : List Int) (ks : List (List Int)) (q : List Int) (k : Nat) (v : Int) (h : k < q.length) : (RH G p ks q).set (G.length + 2) (.cells (replaceAt (ints q) k [I v])) = RH G p ks (q.set k v) := by
  rw [replaceAt_one _ (by rw [ints_len]; exact h), ints_set1]
  unfold RH; rw [Hm.set_at]; rfl
theorem RH_map (G : Heap) (p : List Int) (ks ks2 : List (List Int)) (q : List Int) : (RH G p ks q).set (G.length + 1) (.map (kEnt ks2 0)) = RH G p ks2 q := by
  unfold RH; rw [Hm.set_at]; rfl
theorem RH_GI (G : Heap) (p : List Int) (ks : List (List Int)) (q : List Int) : RH G p ks q = GI (G ++ [.cells (ints p), .map (kEnt ks 0)]) q := by unfold RH GI; simp
def P0 (lv : List Bool) (rl : List Int) : List Int := (List.range rl.length).map fun i => if lv.getD i false = true then rl.getD i 0 + 1 else -1
def partG (nx : List Int) : Nat → List Int → Int → List Int
  | 0, p, _ => p
  | f + 1, p, n => if ((roundK nx p p.length).1.length : Int) = n then (roundK nx p p.length).2 else partG nx f (roundK nx p p.length).2 (roundK nx p p.length).1.length
def partM (nx rl : List Int) : List Int := partG nx (rl.length + 3) (P0 (liveM nx rl) rl) (-1)
theorem roundK_take (nx p : List Int) : ∀ (n i : Nat), i ≤ n → (roundK nx p i).2 = (roundK nx p n).2.take i
  | 0, i, h => by
    obtain rfl : i = 0 := by omega
    rfl
  | n + 1, i, h => by
    obtain ⟨l1, _⟩ := roundK_len nx p n
    by_cases hi : i = n + 1
    · subst hi
      rw [List.take_of_length_le (by rw [(roundK_len nx p (n + 1)).1]; exact Nat.le_refl _)]
    · have e : ∃ v, (roundK nx p (n + 1)).2 = (roundK nx p n).2 ++ [v] := by
        rw [roundK_succ]; unfold stepR
        split
        · exact ⟨_, rfl⟩
        · split <;> exact ⟨_, rfl⟩
      obtain ⟨v, e⟩ := e
      rw [e, List.take_append_of_le_length (by omega)]
      exact roundK_take nx p n i (by omega)
theorem roundK_at {nx p : List Int} {n i : Nat} (h : i < n) {v : Int} (e : (roundK nx p (i + 1)).2 = (roundK nx p i).2 ++ [v]) : (roundK nx p n).2[i]'(by rw [(roundK_len nx p n).1]; exact h) = v := by
  have h1 := roundK_take nx p n (i + 1) h
  rw [e] at h1
  have h2 : ((roundK nx p n).2.take (i + 1))[i]? = some v := by
    rw [← h1, List.getElem?_append_right (by rw [(roundK_len nx p i).1]; exact Nat.le_refl _), (roundK_len nx p i).1]; simp
  rw [List.getElem?_take_of_lt (by omega), List.getElem?_eq_getElem (by rw [(roundK_len nx p n).1]; exact h)] at h2
  exact Option.some.inj h2
/-- No fewer parts come to be. -/
theorem round_ge {nx p : List Int} {n : Nat} (ho : ∀ k : Nat, k < n → ∃ j, j < p.length ∧ p.getD j 0 = (k : Int)) : n ≤ (roundK nx p p.length).1.length := by
  have nd : ((List.range n).map fun k : Nat => (k : Int)).Nodup := by
    rw [List.nodup_iff_pairwise_ne, List.pairwise_map]
    exact (List.nodup_iff_pairwise_ne.1 List.nodup_range).imp fun h e => h (by omega)
  have sub : ((List.range n).map fun k : Nat => (k : Int)) ⊆ (roundK nx p p.length).1.map fun k => k.headD 0 := by
    intro x hx
    obtain ⟨k, hk, rfl⟩ := List.mem_map.1 hx
    obtain ⟨j, h1, h2⟩ := ho k (List.mem_range.1 hk)
    rcases roundK_get (nx := nx) (p := p) p.length j h1 with ⟨h3, _⟩ | ⟨_, m, _, h4⟩
    · omega
    · refine List.mem_map.2 ⟨_, List.mem_of_getElem? h4, ?_⟩
      show p.getD j 0 = _
      exact h2
  have := List.Nodup.length_le_of_subset nd sub
  simpa using this
theorem round_bd {nx p : List Int} {x : Int} (h : x ∈ (roundK nx p p.length).2) : -1 ≤ x ∧ x < p.length := by
  obtain ⟨j, hj, rfl⟩ := List.getElem_of_mem h
  obtain ⟨l1, l2⟩ := roundK_len nx p p.length
  rcases roundK_get (nx := nx) (p := p) p.length j (by omega) with ⟨_, h4⟩ | ⟨_, m, h4, h5⟩
  · rw [List.getElem?_eq_getElem hj] at h4
    rw [Option.some.inj h4]; omega
  · rw [List.getElem?_eq_getElem hj] at h4
    rw [Option.some.inj h4]
    have : m < (roundK nx p p.length).1.length := by
      rcases Nat.lt_or_ge m (roundK nx p p.length).1.length with h | h
      · exact h
      · rw [List.getElem?_eq_none h] at h5; cases h5
    omega
theorem round_occ {nx p : List Int} (k : Nat) (h : k < (roundK nx p p.length).1.length) : ∃ j, j < (roundK nx p p.length).2.length ∧ (roundK nx p p.length).2.getD j 0 = (k : Int) := by
  obtain ⟨j, h1, h2, _⟩ := roundK_from (nx := nx) (p := p) p.length k _ (List.getElem?_eq_getElem h)
  refine ⟨j, by rw [(roundK_len nx p p.length).1]; exact h1, ?_⟩
  rw [List.getD_eq_getElem?_getD, h2]; rfl
end Go.Proofs.Ytdbbaopgmapmaaa
