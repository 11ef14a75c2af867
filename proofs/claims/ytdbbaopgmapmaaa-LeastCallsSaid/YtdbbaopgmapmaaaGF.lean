import Derived.Test.YtdbbaopgmapmaaaY2
set_option linter.unusedSimpArgs false
set_option linter.unusedVariables false
namespace Go.Proofs.Ytdbbaopgmapmaaa
open Go Go.Hm
/-! ### What a state does -/
def wkV (nx : List Int) (st : Int) (l : List UInt8) : Int := l.foldl (fun s b => toV nx s b.toNat) st
def rnV (nx rl : List Int) (st : Int) (l : List UInt8) : Int := rulV rl (wkV nx st l)
/-- Do two states do the same? -/
def Sim (nx1 rl1 : List Int) (a : Int) (nx2 rl2 : List Int) (b : Int) : Prop := ∀ l, rnV nx1 rl1 a l = rnV nx2 rl2 b l
def InS (rl : List Int) (a : Int) : Prop := -1 ≤ a ∧ a < rl.length
theorem rnV_nil (nx rl : List Int) (st : Int) : rnV nx rl st [] = rulV rl st := rfl
theorem rnV_cons (nx rl : List Int) (st : Int) (b : UInt8) (l : List UInt8) : rnV nx rl st (b :: l) = rnV nx rl (toV nx st b.toNat) l := rfl
theorem rnV_none (nx rl : List Int) : ∀ l, rnV nx rl (-1) l = -1 := fun l => by
  unfold rnV wkV; rw [fold_dead]; rfl
theorem run_rn {nx rl : List Int} (ok : TOk nx rl) (l : List UInt8) : runM nx rl l = rnV nx rl 0 l := run_tr ok l
theorem toV_in {nx rl : List Int} (ok : TOk nx rl) {a : Int} (h : InS rl a) (c : UInt8) : InS rl (toV nx a c.toNat) := toV_b ok h.2 c.toNat_lt
theorem toV_inN {nx rl : List Int} (ok : TOk nx rl) {a : Int} (h : InS rl a) {c : Nat} (hc : c < 256) : InS rl (toV nx a c) := toV_b ok h.2 hc
theorem Sim.refl (nx rl : List Int) (a : Int) : Sim nx rl a nx rl a := fun _ => rfl
theorem Sim.symm {nx1 rl1 nx2 rl2 : List Int} {a b : Int} (h : Sim nx1 rl1 a nx2 rl2 b) : Sim nx2 rl2 b nx1 rl1 a := fun l => (h l).symm
theorem Sim.trans {nx1 rl1 nx2 rl2 nx3 rl3 : List Int} {a b c : Int} (h : Sim nx1 rl1 a nx2 rl2 b) (k : Sim nx2 rl2 b nx3 rl3 c) : Sim nx1 rl1 a nx3 rl3 c := fun l => (h l).trans (k l)
theorem Sim.step {nx1 rl1 nx2 rl2 : List Int} {a b : Int} (h : Sim nx1 rl1 a nx2 rl2 b) (c : UInt8) : Sim nx1 rl1 (toV nx1 a c.toNat) nx2 rl2 (toV nx2 b c.toNat) := fun l => h (c :: l)
theorem Sim.stepN {nx1 rl1 nx2 rl2 : List Int} {a b : Int} (h : Sim nx1 rl1 a nx2 rl2 b) {c : Nat} (hc : c < 256) : Sim nx1 rl1 (toV nx1 a c) nx2 rl2 (toV nx2 b c) := by
  have := h.step (UInt8.ofNat c)
  rw [show (UInt8.ofNat c).toNat = c by rw [UInt8.toNat_ofNat', Nat.mod_eq_of_lt (by omega)]] at this
  exact this
theorem rowV_get {nx rl : List Int} (ok : TOk nx rl) {i c : Nat} (hi : i < rl.length) (hc : c < 256) : (rowV nx i)[c]? = some (toV nx i c) := by
  have hl := ok.len
  unfold rowV toV
  rw [if_neg (by omega), List.getElem?_take_of_lt hc, List.getElem?_drop, Int.toNat_natCast, List.getD_eq_getElem?_getD, List.getElem?_eq_getElem (by omega)]; rfl
theorem rowV_mem {nx rl : List Int} (ok : TOk nx rl) {i : Nat} (hi : i < rl.length) {t : Int} : t ∈ rowV nx i ↔ ∃ c, c < 256 ∧ t = toV nx i c := by
  constructor
  · intro h
    obtain ⟨c, hc, he⟩ := List.getElem_of_mem h
    have h256 : c < 256 := by rw [rowV_len ok.len hi] at hc; exact hc
    have := rowV_get ok hi h256
    rw [List.getElem?_eq_getElem hc, he] at this
    exact ⟨c, h256, Option.some.inj this⟩
  · rintro ⟨c, hc, rfl⟩
    exact List.mem_of_getElem? (rowV_get ok hi hc)
theorem rulV_nat {rl : List Int} {i : Nat} (h : i < rl.length) : rulV rl i = rl[i] := by
  unfold rulV
  rw [if_neg (by omega), Int.toNat_natCast, List.getD_eq_getElem?_getD, List.getElem?_eq_getElem h]; rfl
theorem rulV_ge {nx rl : List Int} (ok : TOk nx rl) {a : Int} (h : InS rl a) : -1 ≤ rulV rl a := by
  by_cases ha : a < 0
  · unfold rulV; rw [if_pos ha]; omega
  · obtain ⟨k, rfl⟩ := Int.eq_ofNat_of_zero_le (by omega : 0 ≤ a)
    have hk : k < rl.length := by have := h.2; omega
    rw [rulV_nat hk]
    exact (ok.rlb _ (List.getElem_mem hk)).1
theorem wkV_in {nx rl : List Int} (ok : TOk nx rl) : ∀ (l : List UInt8) {a : Int}, InS rl a → InS rl (wkV nx a l)
  | [], _, h => h
  | b :: l, _, h => wkV_in ok l (toV_in ok h b)
theorem rnV_ge {nx rl : List Int} (ok : TOk nx rl) {a : Int} (h : InS rl a) (l : List UInt8) : -1 ≤ rnV nx rl a l := rulV_ge ok (wkV_in ok l h)
/-! ### What is live -/
def Live (nx rl : List Int) (a : Int) : Prop := ∃ l, 0 ≤ rnV nx rl a l
theorem not_live {nx rl : List Int} (ok : TOk nx rl) {a : Int} (h : InS rl a) : ¬ Live nx rl a ↔ Sim nx rl a nx rl (-1) := by
  constructor
  · intro hn l
    rw [rnV_none]
    have := rnV_ge ok h l
    have : ¬ 0 ≤ rnV nx rl a l := fun e => hn ⟨l, e⟩
    omega
  · rintro hs ⟨l, hl⟩
    rw [hs l, rnV_none] at hl
    omega
theorem foldl_keep {α : Type} {st : List Bool → α → List Bool} {Q : List Bool → Prop} : ∀ (ps : List α) (o : List Bool), (∀ o, ∀ p ∈ ps, Q o → Q (st o p)) → Q o → Q (rnd st ps o)
  | [], _, _, h => h
  | p :: ps, o, hs, h => by
    simp only [rnd, List.foldl_cons]
    exact foldl_keep ps (st o p) (fun o q hq => hs o q (List.mem_cons_of_mem _ hq)) (hs o p (List.mem_cons_self ..) h)
theorem getD_set {o : List Bool} {i j : Nat} (h : (o.set i true).getD j false = true) : j = i ∨ o.getD j false = true := by
  by_cases e : j = i
  · exact .inl e
  · right
    rw [List.getD_eq_getElem?_getD, List.getElem?_set_ne (fun x => e x.symm), ← List.getD_eq_getElem?_getD] at h
    exact h
theorem stL_up {nx : List Int} {o : List Bool} {i j : Nat} (h : o.getD j false = true) : (stL nx o i).getD j false = true := by
  unfold stL
  split
  · exact h
  · split
    · rw [List.getD_eq_getElem?_getD, List.getElem?_set]
      split
      · split
        · rfl
        · rename_i h1 h2
          rw [List.getD_eq_getElem?_getD, List.getElem?_eq_none (by omega)] at h
          simp at h
      · rw [← List.getD_eq_getElem?_getD]; exact h
    · exact h
theorem live_iff {nx rl : List Int} (ok : TOk nx rl) {i : Nat} (hi : i < rl.length) : (liveM nx rl).getD i false = true ↔ Live nx rl i := by
  have hg : Grows (rnd (stL nx) (List.range rl.length)) := rnd_grows (stL_grows nx) _
  constructor
  · have := fin_ind hg (fun o => ∀ j, j < rl.length → o.getD j false = true → Live nx rl (j : Int)) (fun o ho => ?_) _ (rl.map fun r => decide (0 ≤ r)) (Nat.le_refl _) ?_
    · exact fun h => this i hi h
    · refine foldl_keep (Q := fun o => ∀ j, j < rl.length → o.getD j false = true → Live nx rl (j : Int)) _ _ (fun o k hk ho j hj hjt => ?_) ho
      have hk := List.mem_range.1 hk
      unfold stL at hjt
      split at hjt
      · exact ho j hj hjt
      · split at hjt
        · rename_i _ hany
          rcases getD_set hjt with rfl | h
          · rw [List.any_eq_true] at hany
            obtain ⟨t, ht, hl⟩ := hany
            obtain ⟨c, hc, rfl⟩ := (rowV_mem ok hk).1 ht
            unfold liveP at hl
            simp only [Bool.and_eq_true, decide_eq_true_eq] at hl
            have hin := toV_inN ok (a := (j : Int)) ⟨by omega, by omega⟩ hc
            obtain ⟨l, h2⟩ := ho (toV nx j c).toNat (by have := hin.2; omega) hl.2
            rw [show (((toV nx j c).toNat : Nat) : Int) = toV nx j c by omega] at h2
            refine ⟨UInt8.ofNat c :: l, ?_⟩
            rw [rnV_cons, show (UInt8.ofNat c).toNat = c by rw [UInt8.toNat_ofNat', Nat.mod_eq_of_lt (by omega)]]
            exact h2
          · exact ho j hj h
        · exact ho j hj hjt
    · intro j hj hjt
      refine ⟨[], ?_⟩
      rw [rnV_nil, rulV_nat hj]
      rw [List.getD_eq_getElem?_getD, List.getElem?_map, List.getElem?_eq_getElem hj] at hjt
      simpa using hjt
  · rintro ⟨l, hl⟩
    have hfx := fin_fix hg _ (rl.map fun r => decide (0 ≤ r)) (Nat.le_refl _)
    have hst := rnd_fixed (stL_grows nx) _ _ hfx
    have hlen : (liveM nx rl).length = rl.length := liveM_len nx rl
    have base : ∀ j, (rl.map fun r => decide (0 ≤ r)).getD j false = true → (liveM nx rl).getD j false = true := fun j h0 =>
      fin_ind hg (fun o => o.getD j false = true) (fun o ho => foldl_keep (Q := fun o => o.getD j false = true) _ _ (fun o k _ h => stL_up h) ho) _ _ (Nat.le_refl _) h0
    have main : ∀ (l : List UInt8) (j : Nat), j < rl.length → 0 ≤ rnV nx rl j l → (liveM nx rl).getD j false = true := by
      intro l
      induction l with
      | nil =>
        intro j hj h0
        rw [rnV_nil, rulV_nat hj] at h0
        refine base j ?_
        rw [List.getD_eq_getElem?_getD, List.getElem?_map, List.getElem?_eq_getElem hj]
        simpa using h0
      | cons b l ih =>
        intro j hj h0
        rw [rnV_cons] at h0
        have hin := toV_in ok (a := (j : Int)) ⟨by omega, by omega⟩ b
        have ht : 0 ≤ toV nx j b.toNat := by
          by_cases hneg : toV nx j b.toNat < 0
          · rw [show toV nx j b.toNat = -1 by have := hin.1; omega, rnV_none] at h0; omega
          · omega
        have hlt := ih (toV nx j b.toNat).toNat (by have := hin.2; omega) (by rw [show (((toV nx j b.toNat).toNat : Nat) : Int) = toV nx j b.toNat by omega]; exact h0)
        cases hc : (liveM nx rl).getD j false with
        | true => rfl
        | false =>
          exfalso
          have h1 := hst j (List.mem_range.2 hj)
          have h1 : stL nx (liveM nx rl) j = liveM nx rl := h1
          unfold stL at h1
          rw [if_neg (by rw [hc]; simp), if_pos ?_] at h1
          · rw [← h1, List.getD_eq_getElem?_getD, List.getElem?_set_self (by rw [hlen]; exact hj)] at hc
            cases hc
          · rw [List.any_eq_true]
            refine ⟨toV nx j b.toNat, (rowV_mem ok hj).2 ⟨b.toNat, b.toNat_lt, rfl⟩, ?_⟩
            unfold liveP
            simp only [Bool.and_eq_true, decide_eq_true_eq]
            exact ⟨ht, hlt⟩
    exact main l i hi hl
end Go.Proofs.Ytdbbaopgmapmaaa

namespace Go.Proofs.Ytdbbaopgmapmaaa
open Go Go.Hm
/-! ### Parts are what does the same -/
def getP (p : List Int) (a : Int) : Int := if a < 0 then -1 else p.getD a.toNat 0
structure PInv (nx rl p : List Int) : Prop where
  len : p.length = rl.length
  neg : ∀ j : Nat, j < rl.length → (p.getD j 0 < 0 ↔ ¬ Live nx rl j)
  ge : ∀ j : Nat, j < rl.length → -1 ≤ p.getD j 0
  sim : ∀ j k : Nat, j < rl.length → k < rl.length → Sim nx rl j nx rl k → p.getD j 0 = p.getD k 0
  rule : ∀ j k : Nat, j < rl.length → k < rl.length → 0 ≤ p.getD j 0 → p.getD j 0 = p.getD k 0 → rl.getD j 0 = rl.getD k 0
theorem getP_nat (p : List Int) (j : Nat) : getP p j = p.getD j 0 := by
  unfold getP; rw [if_neg (by omega), Int.toNat_natCast]
theorem PInv.getP {nx rl p : List Int} (ok : TOk nx rl) (h : PInv nx rl p) {a b : Int} (ha : InS rl a) (hb : InS rl b) (hs : Sim nx rl a nx rl b) : getP p a = getP p b := by
  have dead : ∀ {x : Int}, InS rl x → Sim nx rl x nx rl (-1) → Go.Proofs.Ytdbbaopgmapmaaa.getP p x = -1 := fun {x} hx hs => by
    by_cases hx0 : x < 0
    · unfold Go.Proofs.Ytdbbaopgmapmaaa.getP; rw [if_pos hx0]
    · obtain ⟨j, rfl⟩ := Int.eq_ofNat_of_zero_le (by omega : 0 ≤ x)
      have hj : j < rl.length := by have := hx.2; omega
      rw [getP_nat]
      have h1 := (h.neg j hj).2 ((not_live ok hx).2 hs)
      have h2 := h.ge j hj
      omega
  by_cases ha0 : a < 0
  · have e : a = -1 := by have := ha.1; omega
    subst e
    rw [dead hb hs.symm]; rfl
  · by_cases hb0 : b < 0
    · have e : b = -1 := by have := hb.1; omega
      subst e
      rw [dead ha hs]; rfl
    · obtain ⟨j, rfl⟩ := Int.eq_ofNat_of_zero_le (by omega : 0 ≤ a)
      obtain ⟨k, rfl⟩ := Int.eq_ofNat_of_zero_le (by omega : 0 ≤ b)
      rw [getP_nat, getP_nat]
      exact h.sim j k (by have := ha.2; omega) (by have := hb.2; omega) hs
theorem PInv.start {nx rl : List Int} (ok : TOk nx rl) : PInv nx rl (P0 (liveM nx rl) rl) := by
  have g : ∀ j : Nat, j < rl.length → (P0 (liveM nx rl) rl).getD j 0 = if (liveM nx rl).getD j false = true then rl.getD j 0 + 1 else -1 := fun j hj => by
    unfold P0
    rw [List.getD_eq_getElem?_getD, List.getElem?_map, List.getElem?_range hj]; rfl
  have rb : ∀ j : Nat, j < rl.length → -1 ≤ rl.getD j 0 := fun j hj => by
    rw [List.getD_eq_getElem?_getD, List.getElem?_eq_getElem hj]; exact (ok.rlb _ (List.getElem_mem hj)).1
  refine ⟨P0_len _ _, fun j hj => ?_, fun j hj => ?_, fun j k hj hk hs => ?_, fun j k hj hk h0 he => ?_⟩
  · rw [g j hj, ← live_iff ok hj]
    have := rb j hj
    split
    · rename_i h; exact ⟨fun x => by omega, fun x => absurd h x⟩
    · rename_i h; exact ⟨fun _ => h, fun _ => by omega⟩
  · rw [g j hj]
    have := rb j hj
    split <;> omega
  · have hl : (liveM nx rl).getD j false = true ↔ (liveM nx rl).getD k false = true := by
      rw [live_iff ok hj, live_iff ok hk]
      constructor
      · rintro ⟨l, h⟩; exact ⟨l, by rw [← hs l]; exact h⟩
      · rintro ⟨l, h⟩; exact ⟨l, by rw [hs l]; exact h⟩
    have hr : rl.getD j 0 = rl.getD k 0 := by
      have := hs []
      rw [rnV_nil, rnV_nil, rulV_nat hj, rulV_nat hk] at this
      rw [List.getD_eq_getElem?_getD, List.getElem?_eq_getElem hj, List.getD_eq_getElem?_getD, List.getElem?_eq_getElem hk]; exact this
    rw [g j hj, g k hk, hr]
    by_cases h : (liveM nx rl).getD j false = true
    · rw [if_pos h, if_pos (hl.1 h)]
    · rw [if_neg h, if_neg (fun x => h (hl.2 x))]
  · have := rb j hj
    have := rb k hk
    rw [g j hj] at h0 he
    rw [g k hk] at he
    split at h0
    · split at he <;> split at he <;> first | omega | (rename_i h1 h2; exact absurd h1 h2) | skip
      all_goals first | omega | contradiction
    · omega
theorem roundK_nodup (nx p : List Int) : ∀ i, (roundK nx p i).1.Nodup
  | 0 => by simp [roundK]
  | i + 1 => by
    have ih := roundK_nodup nx p i
    rw [roundK_succ]
    unfold stepR
    split
    · exact ih
    · split
      · exact ih
      · rename_i hf
        show ((roundK nx p i).1 ++ [keyS nx p i]).Nodup
        rw [List.nodup_append]
        refine ⟨ih, by simp, fun a ha b hb e => ?_⟩
        rw [e, List.mem_singleton.1 hb] at ha
        exact findK_none _ _ hf ha
theorem nodup_get {α : Type} {l : List α} (h : l.Nodup) {i j : Nat} {x : α} (hi : l[i]? = some x) (hj : l[j]? = some x) : i = j := by
  have h1 := lt_of_get hi
  have h2 := lt_of_get hj
  rw [List.getElem?_eq_getElem h1] at hi
  rw [List.getElem?_eq_getElem h2] at hj
  exact (List.getElem_inj h).1 (Option.some.inj (hi.trans hj.symm))
/-- What a round's parts are: of one key. -/
theorem round_eq {nx p : List Int} {j k : Nat} (hj : j < p.length) (hk : k < p.length) :
    (((roundK nx p p.length).2.getD j 0 < 0 ↔ p.getD j 0 < 0) ∧ -1 ≤ (roundK nx p p.length).2.getD j 0) ∧
    (0 ≤ p.getD j 0 → ((roundK nx p p.length).2.getD j 0 = (roundK nx p p.length).2.getD k 0 ↔ 0 ≤ p.getD k 0 ∧ keyS nx p j = keyS nx p k)) := by
  rcases roundK_get (nx := nx) (p := p) p.length j hj with ⟨h1, h2⟩ | ⟨h1, m, h2, h3⟩
  · refine ⟨?_, fun h => by omega⟩
    rw [List.getD_eq_getElem?_getD, h2, Option.getD_some]
    exact ⟨⟨fun _ => h1, fun _ => by omega⟩, by omega⟩
  · rw [List.getD_eq_getElem?_getD, h2, Option.getD_some]
    refine ⟨⟨⟨fun h => by omega, fun h => by omega⟩, by omega⟩, fun _ => ?_⟩
    rcases roundK_get (nx := nx) (p := p) p.length k hk with ⟨k1, k2⟩ | ⟨k1, m', k2, k3⟩
    · rw [List.getD_eq_getElem?_getD, k2, Option.getD_some]
      exact ⟨fun h => by omega, fun h => by omega⟩
    · rw [List.getD_eq_getElem?_getD, k2, Option.getD_some]
      constructor
      · intro h
        obtain rfl : m = m' := by omega
        rw [h3] at k3
        exact ⟨k1, Option.some.inj k3⟩
      · rintro ⟨_, h⟩
        rw [← h] at k3
        have := nodup_get (roundK_nodup nx p p.length) h3 k3
        rw [this]
theorem keyS_eq {nx rl p : List Int} (ok : TOk nx rl) {j k : Nat} (hj : j < rl.length) (hk : k < rl.length) : keyS nx p j = keyS nx p k ↔ p.getD j 0 = p.getD k 0 ∧ ∀ c : UInt8, getP p (toV nx j c.toNat) = getP p (toV nx k c.toNat) := by
  have gp : ∀ t : Int, (if 0 ≤ t then p.getD t.toNat 0 else -1) = getP p t := fun t => by
    unfold getP
    by_cases h : 0 ≤ t
    · rw [if_pos h, if_neg (by omega)]
    · rw [if_neg h, if_pos (by omega)]
  unfold keyS
  simp only [gp]
  constructor
  · intro h
    obtain ⟨h1, h2⟩ := List.cons.inj h
    refine ⟨h1, fun c => ?_⟩
    have := congrArg (fun l => l[c.toNat]?) h2
    simp only [List.getElem?_map, rowV_get ok hj c.toNat_lt, rowV_get ok hk c.toNat_lt, Option.map_some, Option.some.injEq] at this
    exact this
  · rintro ⟨h1, h2⟩
    rw [h1]
    congr 1
    refine List.ext_getElem? fun c => ?_
    by_cases hc : c < 256
    · have := h2 (UInt8.ofNat c)
      rw [show (UInt8.ofNat c).toNat = c by rw [UInt8.toNat_ofNat', Nat.mod_eq_of_lt (by omega)]] at this
      simp only [List.getElem?_map, rowV_get ok hj hc, rowV_get ok hk hc, Option.map_some, this]
    · rw [List.getElem?_eq_none (by simp [rowV_len ok.len hj]; omega), List.getElem?_eq_none (by simp [rowV_len ok.len hk]; omega)]
theorem PInv.next {nx rl p : List Int} (ok : TOk nx rl) (h : PInv nx rl p) : PInv nx rl (roundK nx p p.length).2 := by
  have hl := h.len
  refine ⟨by rw [(roundK_len nx p p.length).1, hl], fun j hj => ?_, fun j hj => ?_, fun j k hj hk hs => ?_, fun j k hj hk h0 he => ?_⟩
  · rw [(round_eq (j := j) (k := j) (by omega) (by omega)).1.1]; exact h.neg j hj
  · exact (round_eq (j := j) (k := j) (by omega) (by omega)).1.2
  · have e := h.sim j k hj hk hs
    by_cases h0 : p.getD j 0 < 0
    · have a1 := round_eq (nx := nx) (p := p) (j := j) (k := k) (by omega) (by omega)
      have a2 := round_eq (nx := nx) (p := p) (j := k) (k := k) (by omega) (by omega)
      have b1 := a1.1.1.2 h0
      have b2 := a2.1.1.2 (by omega)
      have := a1.1.2
      have := a2.1.2
      omega
    · refine ((round_eq (nx := nx) (p := p) (j := j) (k := k) (by omega) (by omega)).2 (by omega)).2 ⟨by omega, ?_⟩
      rw [keyS_eq ok hj hk]
      exact ⟨e, fun c => h.getP ok (toV_in ok ⟨by omega, by omega⟩ c) (toV_in ok ⟨by omega, by omega⟩ c) (hs.step c)⟩
  · have a1 := round_eq (nx := nx) (p := p) (j := j) (k := k) (by omega) (by omega)
    have b0 : 0 ≤ p.getD j 0 := by
      by_cases h : p.getD j 0 < 0
      · have := a1.1.1.2 h; omega
      · omega
    obtain ⟨_, hk2⟩ := (a1.2 b0).1 he
    rw [keyS_eq ok hj hk] at hk2
    exact h.rule j k hj hk b0 hk2.1
/-- As many parts as there were: then they are the same. -/
theorem pig {n c : Nat} {p q : Nat → Int} (hq : ∀ j, j < n → 0 ≤ q j → q j < c) (oq : ∀ k : Nat, k < c → ∃ j, j < n ∧ q j = (k : Int)) (op : ∀ k : Nat, k < c → ∃ j, j < n ∧ p j = (k : Int))
    (hpq : ∀ j k, j < n → k < n → 0 ≤ q j → q j = q k → p j = p k) (h0 : ∀ j, j < n → (0 ≤ q j ↔ 0 ≤ p j)) {j k : Nat} (hj : j < n) (hk : k < n) (hp : 0 ≤ p j) (he : p j = p k) : q j = q k := by
  obtain ⟨r, hr⟩ : ∃ r : Nat → Nat, ∀ m : Nat, m < c → r m < n ∧ q (r m) = (m : Int) := by
    refine ⟨fun m => if h : m < c then Classical.choose (oq m h) else 0, fun m hm => ?_⟩
    simp only [dif_pos hm]
    exact Classical.choose_spec (oq m hm)
  have qj := (h0 j hj).2 hp
  have qk := (h0 k hk).2 (by omega)
  obtain ⟨m, hm⟩ := Int.eq_ofNat_of_zero_le qj
  obtain ⟨m', hm'⟩ := Int.eq_ofNat_of_zero_le qk
  have hmc : m < c := by have := hq j hj qj; omega
  have hmc' : m' < c := by have := hq k hk qk; omega
  by_cases e : m = m'
  · rw [hm, hm', e]
  · exfalso
    have pr : ∀ x m : Nat, x < n → m < c → q x = (m : Int) → p (r m) = p x := fun x m hx hm hqx => hpq _ _ (hr m hm).1 hx (by rw [(hr m hm).2]; omega) (by rw [(hr m hm).2, hqx])
    have sub : ((List.range c).map fun i : Nat => (i : Int)) ⊆ ((List.range c).erase m').map fun i => p (r i) := by
      intro v hv
      obtain ⟨i, hi, rfl⟩ := List.mem_map.1 hv
      have hi := List.mem_range.1 hi
      obtain ⟨x, hx, hpx⟩ := op i hi
      have qx := (h0 x hx).2 (by omega)
      obtain ⟨w, hw⟩ := Int.eq_ofNat_of_zero_le qx
      have hwc : w < c := by have := hq x hx qx; omega
      by_cases ew : w = m'
      · refine List.mem_map.2 ⟨m, (List.Nodup.mem_erase_iff List.nodup_range).2 ⟨e, List.mem_range.2 hmc⟩, ?_⟩
        rw [pr j m hj hmc hm, he, ← pr k m' hk hmc' hm', ← ew, pr x w hx hwc hw, hpx]
      · refine List.mem_map.2 ⟨w, (List.Nodup.mem_erase_iff List.nodup_range).2 ⟨ew, List.mem_range.2 hwc⟩, ?_⟩
        rw [pr x w hx hwc hw, hpx]
    have nd : ((List.range c).map fun i : Nat => (i : Int)).Nodup := by
      rw [List.nodup_iff_pairwise_ne, List.pairwise_map]
      exact (List.nodup_iff_pairwise_ne.1 List.nodup_range).imp fun h e => h (by omega)
    have := List.Nodup.length_le_of_subset nd sub
    simp only [List.length_map, List.length_range, List.length_erase_of_mem (List.mem_range.2 hmc')] at this
    omega
/-- What parts tell. -/
structure PartOk (nx rl p : List Int) : Prop where
  iff : ∀ a b, InS rl a → InS rl b → (getP p a = getP p b ↔ Sim nx rl a nx rl b)
  ge : ∀ a, InS rl a → -1 ≤ getP p a
theorem part_stable {nx rl p : List Int} (ok : TOk nx rl) (h : PInv nx rl p) (op : ∀ k : Nat, k < (roundK nx p p.length).1.length → ∃ j, j < p.length ∧ p.getD j 0 = (k : Int)) : PartOk nx rl (roundK nx p p.length).2 := by
  have hl := h.len
  have hn := h.next ok
  obtain ⟨q, hq⟩ : ∃ q, (roundK nx p p.length).2 = q := ⟨_, rfl⟩
  have a0 : ∀ j, j < p.length → ((q.getD j 0 < 0 ↔ p.getD j 0 < 0) ∧ -1 ≤ q.getD j 0) := fun j hj => by rw [← hq]; exact (round_eq (j := j) (k := j) hj hj).1
  have a1 : ∀ j k, j < p.length → k < p.length → 0 ≤ p.getD j 0 → (q.getD j 0 = q.getD k 0 ↔ 0 ≤ p.getD k 0 ∧ keyS nx p j = keyS nx p k) := fun j k hj hk => by rw [← hq]; exact (round_eq (j := j) (k := k) hj hk).2
  have st : ∀ j k, j < p.length → k < p.length → 0 ≤ p.getD j 0 → p.getD j 0 = p.getD k 0 → q.getD j 0 = q.getD k 0 := fun j k hj hk h0 he => by
    refine pig (n := p.length) (c := (roundK nx p p.length).1.length) (p := fun j => p.getD j 0) (q := fun j => q.getD j 0) (fun j hj h0 => ?_) (fun k hk => ?_) op (fun j k hj hk h0 he => ?_) (fun j hj => ?_) hj hk h0 he
    · rcases roundK_get (nx := nx) (p := p) p.length j hj with ⟨h1, h2⟩ | ⟨h1, m, h2, h3⟩
      · have := (a0 j hj).1.2 h1; omega
      · have := lt_of_get h3
        rw [hq] at h2
        simp only [List.getD_eq_getElem?_getD, h2, Option.getD_some]; omega
    · have := round_occ (nx := nx) (p := p) k hk
      rw [hq] at this
      obtain ⟨j, h1, h2⟩ := this
      exact ⟨j, by rw [← hq, (roundK_len nx p p.length).1] at h1; exact h1, h2⟩
    · have b0 : 0 ≤ p.getD j 0 := by have := (a0 j hj).1; omega
      have := ((a1 j k hj hk b0).1 he).2
      exact ((keyS_eq ok (by omega) (by omega)).1 this).1
    · have := (a0 j hj).1; have := (a0 j hj).2; omega
  rw [hq] at hn ⊢
  have pq : ∀ a b, InS rl a → InS rl b → getP q a = getP q b → getP p a = getP p b ∧ ∀ c : UInt8, getP p (toV nx a c.toNat) = getP p (toV nx b c.toNat) := by
    intro a b ha hb he
    have neg : ∀ x, InS rl x → getP q x < 0 → Sim nx rl x nx rl (-1) := fun x hx hlt => by
      by_cases hx0 : x < 0
      · obtain rfl : x = -1 := by have := hx.1; omega
        exact fun _ => rfl
      · obtain ⟨j, rfl⟩ := Int.eq_ofNat_of_zero_le (by omega : 0 ≤ x)
        have hj : j < rl.length := by have := hx.2; omega
        rw [getP_nat] at hlt
        exact (not_live ok hx).1 ((hn.neg j hj).1 hlt)
    by_cases h0 : getP q a < 0
    · have s1 := neg a ha h0
      have s2 := neg b hb (by omega)
      have s3 := s1.trans s2.symm
      exact ⟨h.getP ok ha hb s3, fun c => h.getP ok (toV_in ok ha c) (toV_in ok hb c) (s3.step c)⟩
    · have ha0 : 0 ≤ a := by
        by_cases x : a < 0
        · exfalso; apply h0; unfold getP; rw [if_pos x]; omega
        · omega
      have hb0 : 0 ≤ b := by
        by_cases x : b < 0
        · exfalso; apply h0; rw [he]; unfold getP; rw [if_pos x]; omega
        · omega
      obtain ⟨j, rfl⟩ := Int.eq_ofNat_of_zero_le ha0
      obtain ⟨k, rfl⟩ := Int.eq_ofNat_of_zero_le hb0
      have hj : j < rl.length := by have := ha.2; omega
      have hk : k < rl.length := by have := hb.2; omega
      rw [getP_nat] at h0 he
      rw [getP_nat] at he
      have b0 : 0 ≤ p.getD j 0 := by have := (a0 j (by omega)).1; omega
      have := (keyS_eq ok hj hk).1 ((a1 j k (by omega) (by omega) b0).1 he).2
      rw [getP_nat, getP_nat]
      exact this
  have qp : ∀ a b, InS rl a → InS rl b → getP p a = getP p b → getP q a = getP q b := by
    intro a b ha hb he
    have neg : ∀ x, InS rl x → getP p x < 0 → Sim nx rl x nx rl (-1) := fun x hx hlt => by
      by_cases hx0 : x < 0
      · obtain rfl : x = -1 := by have := hx.1; omega
        exact fun _ => rfl
      · obtain ⟨j, rfl⟩ := Int.eq_ofNat_of_zero_le (by omega : 0 ≤ x)
        have hj : j < rl.length := by have := hx.2; omega
        rw [getP_nat] at hlt
        exact (not_live ok hx).1 ((h.neg j hj).1 hlt)
    by_cases h0 : getP p a < 0
    · exact hn.getP ok ha hb ((neg a ha h0).trans (neg b hb (by omega)).symm)
    · have ha0 : 0 ≤ a := by
        by_cases x : a < 0
        · exfalso; apply h0; unfold getP; rw [if_pos x]; omega
        · omega
      have hb0 : 0 ≤ b := by
        by_cases x : b < 0
        · exfalso; apply h0; rw [he]; unfold getP; rw [if_pos x]; omega
        · omega
      obtain ⟨j, rfl⟩ := Int.eq_ofNat_of_zero_le ha0
      obtain ⟨k, rfl⟩ := Int.eq_ofNat_of_zero_le hb0
      rw [getP_nat] at h0
      rw [getP_nat, getP_nat] at he ⊢
      exact st j k (by have := ha.2; omega) (by have := hb.2; omega) (by omega) he
  refine ⟨fun a b ha hb => ?_, fun a ha => ?_⟩
  case refine_2 =>
    by_cases x : a < 0
    · unfold getP; rw [if_pos x]; omega
    · obtain ⟨j, rfl⟩ := Int.eq_ofNat_of_zero_le (by omega : 0 ≤ a)
      rw [getP_nat]
      exact hn.ge j (by have := ha.2; omega)
  constructor
  · intro he l
    induction l generalizing a b with
    | nil =>
      rw [rnV_nil, rnV_nil]
      by_cases h0 : getP q a < 0
      · have neg : ∀ x, InS rl x → getP q x < 0 → rulV rl x = -1 := fun x hx hlt => by
          by_cases hx0 : x < 0
          · unfold rulV; rw [if_pos hx0]
          · obtain ⟨j, rfl⟩ := Int.eq_ofNat_of_zero_le (by omega : 0 ≤ x)
            have hj : j < rl.length := by have := hx.2; omega
            rw [getP_nat] at hlt
            have := (not_live ok hx).1 ((hn.neg j hj).1 hlt) []
            rw [rnV_nil, rnV_none] at this
            exact this
        rw [neg a ha h0, neg b hb (by omega)]
      · have ha0 : 0 ≤ a := by
          by_cases x : a < 0
          · exfalso; apply h0; unfold getP; rw [if_pos x]; omega
          · omega
        have hb0 : 0 ≤ b := by
          by_cases x : b < 0
          · exfalso; apply h0; rw [he]; unfold getP; rw [if_pos x]; omega
          · omega
        obtain ⟨j, rfl⟩ := Int.eq_ofNat_of_zero_le ha0
        obtain ⟨k, rfl⟩ := Int.eq_ofNat_of_zero_le hb0
        have hj : j < rl.length := by have := ha.2; omega
        have hk : k < rl.length := by have := hb.2; omega
        rw [getP_nat] at h0 he
        rw [getP_nat] at he
        have := hn.rule j k hj hk (by omega) he
        rw [rulV_nat hj, rulV_nat hk]
        rw [List.getD_eq_getElem?_getD, List.getElem?_eq_getElem hj, List.getD_eq_getElem?_getD, List.getElem?_eq_getElem hk] at this
        exact this
    | cons c l ih =>
      rw [rnV_cons, rnV_cons]
      exact ih _ _ (toV_in ok ha c) (toV_in ok hb c) (qp _ _ (toV_in ok ha c) (toV_in ok hb c) ((pq a b ha hb he).2 c))
  · exact fun hs => hn.getP ok ha hb hs
theorem partG_ok {nx rl : List Int} (ok : TOk nx rl) : ∀ (f : Nat) (p : List Int) (n : Int), PInv nx rl p → -1 ≤ n → n ≤ rl.length → (rl.length : Int) + 2 ≤ n + f → (∀ k : Nat, (k : Int) < n → ∃ j, j < p.length ∧ p.getD j 0 = (k : Int)) → PartOk nx rl (partG nx f p n)
  | 0, p, n, h, h1, h2, h3, _ => by omega
  | f + 1, p, n, h, h1, h2, h3, ho => by
    have hl := h.len
    have hkl := (roundK_len nx p p.length).2
    simp only [partG]
    split
    · rename_i he
      exact part_stable ok h (fun k hk => ho k (by omega))
    · rename_i he
      have hge : n ≤ ((roundK nx p p.length).1.length : Int) := by
        by_cases hn : n < 0
        · omega
        · have := round_ge (nx := nx) (p := p) (n := n.toNat) (fun k hk => ho k (by omega))
          omega
      refine partG_ok ok f _ _ (h.next ok) (by omega) (by omega) (by omega) (fun k hk => ?_)
      obtain ⟨j, h4, h5⟩ := round_occ (nx := nx) (p := p) k (by omega)
      exact ⟨j, h4, h5⟩
theorem partM_ok {nx rl : List Int} (ok : TOk nx rl) : PartOk nx rl (partM nx rl) := by
  unfold partM
  exact partG_ok ok _ _ _ (PInv.start ok) (by omega) (by have := ok.one; omega) (by omega) (fun k hk => by omega)
end Go.Proofs.Ytdbbaopgmapmaaa

namespace Go.Proofs.Ytdbbaopgmapmaaa
open Go Go.Hm
/-! ### What the least table does -/
structure Cl (nx rl : List Int) (dead : Int → Bool) (cls : Int → Int) : Prop where
  dead : ∀ t, InS rl t → (dead t = true ↔ Sim nx rl t nx rl (-1))
  cls : ∀ a b : Int, 0 ≤ a → a < rl.length → 0 ≤ b → b < rl.length → (cls a = cls b ↔ Sim nx rl a nx rl b)
theorem Cl.prog {nx rl pt : List Int} (h : PartOk nx rl pt) : Cl nx rl (deadP pt) (ptV pt) := by
  have gp : ∀ a : Int, 0 ≤ a → ptV pt a = getP pt a := fun a ha => by unfold ptV getP; rw [if_neg (by omega)]
  refine ⟨fun t ht => ?_, fun a b ha ha2 hb hb2 => ?_⟩
  · unfold deadP
    rw [Bool.or_eq_true, decide_eq_true_eq, decide_eq_true_eq]
    by_cases t0 : t < 0
    · obtain rfl : t = -1 := by have := ht.1; omega
      exact ⟨fun _ _ => rfl, fun _ => .inl t0⟩
    · rw [gp t (by omega), ← h.iff t (-1) ht ⟨by omega, by have := ht.2; omega⟩]
      have := h.ge t ht
      show _ ↔ getP pt t = -1
      constructor
      · rintro (h1 | h1) <;> omega
      · exact fun h1 => .inr (by omega)
  · rw [gp a ha, gp b hb]
    exact h.iff a b ⟨by omega, ha2⟩ ⟨by omega, hb2⟩
/-- The greatest number yet, as the law tells it; none: a number comes too early. -/
def fndF : List Int → Nat → Int → Option Int
  | [], _, f => some f
  | x :: l, i, f => if x > f + 1 ∨ (x = f + 1 ∧ ((i / 256 : Nat) : Int) > f) then none else fndF l (i + 1) (max f x)
theorem fndF_app : ∀ (l : List Int) (x : Int) (i : Nat) (f g : Int), fndF l i f = some g → ¬ (x > g + 1 ∨ (x = g + 1 ∧ (((i + l.length) / 256 : Nat) : Int) > g)) → fndF (l ++ [x]) i f = some (max g x)
  | [], x, i, f, g, h, hn => by
    simp only [fndF, Option.some.injEq] at h
    subst h
    simp only [List.nil_append, fndF]
    rw [if_neg (by simpa using hn)]
  | y :: l, x, i, f, g, h, hn => by
    simp only [fndF] at h
    simp only [List.cons_append, fndF]
    split at h
    · cases h
    · rename_i h1
      rw [if_neg h1]
      exact fndF_app l x (i + 1) _ g h (by rw [List.length_cons] at hn; rw [show i + 1 + l.length = i + (l.length + 1) by omega]; exact hn)
/-- What a way's number tells. -/
def WOk (nx rl Q : List Int) (t v : Int) : Prop := (Sim nx rl t nx rl (-1) ∧ v = -1) ∨ (¬ Sim nx rl t nx rl (-1) ∧ ∃ (k : Nat) (q : Int), Q[k]? = some q ∧ Sim nx rl t nx rl q ∧ v = (k : Int))
structure LOk (nx rl : List Int) (cls : Int → Int) (Q N : List Int) (i b : Nat) : Prop where
  sok : SOk cls rl.length Q
  len : N.length = 256 * i + b
  first : Q[0]? = some 0
  ok : ∀ k v, N[k]? = some v → ∃ q, Q[k / 256]? = some q ∧ WOk nx rl Q (toV nx q (k % 256)) v
  fnd : fndF N 0 0 = some ((Q.length : Int) - 1)
  live : ∀ k q, Q[k]? = some q → k ≠ 0 → ¬ Sim nx rl q nx rl (-1) ∧ ∃ m q' c, m < k ∧ Q[m]? = some q' ∧ c < 256 ∧ q = toV nx q' c
theorem WOk.mono {nx rl Q : List Int} {t v : Int} (h : WOk nx rl Q t v) (u : Int) : WOk nx rl (Q ++ [u]) t v := by
  rcases h with h | ⟨h, k, q, h1, h2⟩
  · exact .inl h
  · exact .inr ⟨h, k, q, by rw [List.getElem?_append_left (lt_of_get h1)]; exact h1, h2⟩
theorem idxV_hit {x : Int} {l : List Int} {k : Nat} (h : idxV x l 0 = some k) : l[k]? = some x := (idxV_some h).2.2
theorem LOk.step {nx rl : List Int} {dead : Int → Bool} {cls : Int → Int} (ok : TOk nx rl) (cl : Cl nx rl dead cls) {Q N : List Int} {i b : Nat} (h : LOk nx rl cls Q N i b) {q : Int} (hq : Q[i]? = some q) (hb : b < 256) :
    LOk nx rl cls (leS dead cls (Q, N) (toV nx q b)).1 (leS dead cls (Q, N) (toV nx q b)).2 i (b + 1) := by
  have hil := lt_of_get hq
  have hQ0 : 0 < Q.length := by omega
  have hqm : q ∈ Q := List.mem_of_getElem? hq
  have hqb := h.sok.bd q hqm
  have hin := toV_inN ok (a := q) ⟨by omega, hqb.2⟩ hb
  have hdt : dead (toV nx q b) = false → 0 ≤ toV nx q b ∧ toV nx q b < rl.length := fun hd => by
    have h1 := hin.1
    have h2 := hin.2
    refine ⟨?_, h2⟩
    by_cases e : toV nx q b = -1
    · exfalso
      have := (cl.dead _ hin).2 (by rw [e]; exact fun _ => rfl)
      rw [hd] at this; cases this
    · omega
  have hs := h.sok.step (s := (Q, N)) hdt
  have hk1 : (256 * i + b) / 256 = i := by omega
  have hk2 : (256 * i + b) % 256 = b := by omega
  have oldN : ∀ {v}, ∀ k w, (N ++ [v])[k]? = some w → (k < N.length ∧ N[k]? = some w) ∨ (k = 256 * i + b ∧ w = v) := fun {v} k w hw => by
    have hl := lt_of_get hw
    rw [List.length_append, List.length_singleton] at hl
    by_cases hk : k < N.length
    · rw [List.getElem?_append_left hk] at hw; exact .inl ⟨hk, hw⟩
    · obtain rfl : k = N.length := by omega
      rw [List.getElem?_append_right (Nat.le_refl _), Nat.sub_self] at hw
      exact .inr ⟨h.len, (Option.some.inj hw).symm⟩
  unfold leS at hs ⊢
  cases hd : dead (toV nx q b) with
  | true =>
    rw [hd, if_pos rfl] at hs
    rw [if_pos rfl]
    refine ⟨hs, by simp [h.len]; omega, h.first, fun k v hv => ?_, ?_, h.live⟩
    · rcases oldN k v hv with ⟨_, hv⟩ | ⟨rfl, rfl⟩
      · exact h.ok k v hv
      · exact ⟨q, by rw [hk1]; exact hq, .inl ⟨by rw [hk2]; exact (cl.dead _ hin).1 hd, rfl⟩⟩
    · rw [fndF_app N (-1) 0 0 _ h.fnd (by omega)]
      show some (max ((Q.length : Int) - 1) (-1)) = some ((Q.length : Int) - 1)
      congr 1; omega
  | false =>
    rw [hd, if_neg (by simp)] at hs
    rw [if_neg (by simp)]
    have hnd : ¬ Sim nx rl (toV nx q b) nx rl (-1) := fun e => by
      have := (cl.dead _ hin).2 e
      rw [hd] at this; cases this
    obtain ⟨t0, t1⟩ := hdt hd
    cases hx : idxV (cls (toV nx q b)) (Q.map cls) 0 with
    | some k =>
      simp only [hx] at hs ⊢
      have hk := idxV_hit hx
      rw [List.getElem?_map] at hk
      cases hkq : Q[k]? with
      | none => rw [hkq] at hk; cases hk
      | some p =>
        rw [hkq] at hk
        simp only [Option.map_some, Option.some.injEq] at hk
        have hkl := lt_of_get hkq
        have hpb := h.sok.bd p (List.mem_of_getElem? hkq)
        refine ⟨hs, by simp [h.len]; omega, h.first, fun k' v hv => ?_, ?_, h.live⟩
        · rcases oldN k' v hv with ⟨_, hv⟩ | ⟨rfl, rfl⟩
          · exact h.ok k' v hv
          · exact ⟨q, by rw [hk1]; exact hq, .inr ⟨by rw [hk2]; exact hnd, k, p, hkq, by rw [hk2]; exact (cl.cls _ _ t0 t1 hpb.1 hpb.2).1 hk.symm, rfl⟩⟩
        · rw [fndF_app N k 0 0 _ h.fnd (by omega)]
          show some (max ((Q.length : Int) - 1) k) = some ((Q.length : Int) - 1)
          congr 1; omega
    | none =>
      simp only [hx] at hs ⊢
      have hnew : (Q ++ [toV nx q b])[Q.length]? = some (toV nx q b) := by simp
      refine ⟨hs, by simp [h.len]; omega, by rw [List.getElem?_append_left (by omega)]; exact h.first, fun k' v hv => ?_, ?_, fun k p hk h0 => ?_⟩
      · rcases oldN k' v hv with ⟨_, hv⟩ | ⟨rfl, rfl⟩
        · obtain ⟨p, h1, h2⟩ := h.ok k' v hv
          exact ⟨p, by rw [List.getElem?_append_left (lt_of_get h1)]; exact h1, h2.mono _⟩
        · exact ⟨q, by rw [hk1, List.getElem?_append_left hil]; exact hq, .inr ⟨by rw [hk2]; exact hnd, Q.length, _, hnew, by rw [hk2]; exact Sim.refl _ _ _, rfl⟩⟩
      · rw [fndF_app N Q.length 0 0 _ h.fnd (by rw [Nat.zero_add, h.len, hk1]; omega)]
        congr 1; rw [List.length_append, List.length_singleton]; omega
      · have hl := lt_of_get hk
        rw [List.length_append, List.length_singleton] at hl
        by_cases hkQ : k < Q.length
        · rw [List.getElem?_append_left hkQ] at hk
          obtain ⟨h1, m, q', c, h2, h3, h4⟩ := h.live k p hk h0
          exact ⟨h1, m, q', c, h2, by rw [List.getElem?_append_left (by omega)]; exact h3, h4⟩
        · obtain rfl : k = Q.length := by omega
          rw [hnew] at hk
          obtain rfl := Option.some.inj hk
          exact ⟨hnd, i, q, b, hil, by rw [List.getElem?_append_left hil]; exact hq, hb, rfl⟩
theorem LOk.row {nx rl : List Int} {dead : Int → Bool} {cls : Int → Int} (ok : TOk nx rl) (cl : Cl nx rl dead cls) {Q N : List Int} {i : Nat} (h : LOk nx rl cls Q N i 0) {q : Int} (hq : Q[i]? = some q) : ∀ b, b ≤ 256 →
    LOk nx rl cls (((rowV nx q.toNat).take b).foldl (leS dead cls) (Q, N)).1 (((rowV nx q.toNat).take b).foldl (leS dead cls) (Q, N)).2 i b
  | 0, _ => h
  | b + 1, hb => by
    have ih := LOk.row ok cl h hq b (by omega)
    have hqb := h.sok.bd q (List.mem_of_getElem? hq)
    obtain ⟨q, rfl⟩ := Int.eq_ofNat_of_zero_le hqb.1
    have hqn : q < rl.length := by omega
    have hm := fold_mono (dead := dead) (cls := cls) ((rowV nx q).take b) (s := (Q, N)) hq
    have hg := rowV_get ok hqn (by omega : b < 256)
    rw [Int.toNat_natCast] at ih ⊢
    have hl := lt_of_get hg
    rw [List.take_succ_eq_append_getElem hl, List.foldl_append]
    rw [List.getElem?_eq_getElem hl] at hg
    rw [Option.some.inj hg]
    exact ih.step ok cl hm (by omega)
theorem LOk.next {nx rl : List Int} {dead : Int → Bool} {cls : Int → Int} (ok : TOk nx rl) (cl : Cl nx rl dead cls) {Q N : List Int} {i : Nat} (h : LOk nx rl cls Q N i 0) {q : Int} (hq : Q[i]? = some q) :
    LOk nx rl cls ((rowV nx q.toNat).foldl (leS dead cls) (Q, N)).1 ((rowV nx q.toNat).foldl (leS dead cls) (Q, N)).2 (i + 1) 0 := by
  have h2 := h.row ok cl hq 256 (Nat.le_refl _)
  have hqb := h.sok.bd q (List.mem_of_getElem? hq)
  rw [List.take_of_length_le (by rw [rowV_len ok.len (by omega : q.toNat < rl.length)]; exact Nat.le_refl _)] at h2
  exact ⟨h2.sok, by have := h2.len; omega, h2.first, h2.ok, h2.fnd, h2.live⟩
theorem leX_ok {nx rl : List Int} {dead : Int → Bool} {cls : Int → Int} (ok : TOk nx rl) (cl : Cl nx rl dead cls) : ∀ (f : Nat) (Q N : List Int) (i : Nat), LOk nx rl cls Q N i 0 → i ≤ Q.length → rl.length + 1 ≤ f + i →
    ∃ Q' N', leX dead cls nx f Q N i = (Q', N') ∧ LOk nx rl cls Q' N' Q'.length 0
  | 0, Q, N, i, h, hi, hf => by have := h.sok.len; omega
  | f + 1, Q, N, i, h, hi, hf => by
    simp only [leX]
    cases hq : Q[i]? with
    | none =>
      have hil : i = Q.length := by
        rcases Nat.lt_or_ge i Q.length with h2 | h2
        · rw [List.getElem?_eq_getElem h2] at hq; cases hq
        · omega
      subst hil
      exact ⟨Q, N, rfl, h⟩
    | some q =>
      exact leX_ok ok cl f _ _ (i + 1) (h.next ok cl hq) (lt_of_get (fold_mono _ hq)) (by omega)
theorem LOk.start {nx rl : List Int} {cls : Int → Int} (ok : TOk nx rl) : LOk nx rl cls [0] [] 0 0 :=
  ⟨⟨fun q hq => by obtain rfl := List.mem_singleton.1 hq; have := ok.one; omega, by simp⟩, rfl, rfl, fun k v hv => by simp at hv, rfl, fun k q hk h0 => by have := lt_of_get hk; simp at this; omega⟩
/-! ### The table that comes to be -/
theorem getD_some {l : List Int} {i : Nat} {x : Int} (h : l[i]? = some x) : l.getD i 0 = x := by rw [List.getD_eq_getElem?_getD, h]; rfl
theorem ruleL_get {rl Q : List Int} {m : Nat} {q : Int} (h : Q[m]? = some q) : (ruleL rl Q)[m]? = some (rl.getD q.toNat 0) := by
  unfold ruleL; rw [List.getElem?_map, h]; rfl
theorem LOk.sim {nx rl : List Int} {cls : Int → Int} (ok : TOk nx rl) {Q N : List Int} (h : LOk nx rl cls Q N Q.length 0) {m : Nat} {q : Int} (hm : Q[m]? = some q) : Sim N (ruleL rl Q) m nx rl q := by
  intro l
  induction l generalizing m q with
  | nil =>
    have hq := h.sok.bd q (List.mem_of_getElem? hm)
    rw [rnV_nil, rnV_nil]
    unfold rulV
    rw [if_neg (by omega), if_neg (by omega), Int.toNat_natCast, getD_some (ruleL_get hm)]
  | cons c l ih =>
    rw [rnV_cons, rnV_cons]
    have hml := lt_of_get hm
    have hc := c.toNat_lt
    have hlen := h.len
    obtain ⟨v, hv⟩ : ∃ v, N[256 * m + c.toNat]? = some v := ⟨_, List.getElem?_eq_getElem (by omega)⟩
    obtain ⟨q', h1, h2⟩ := h.ok _ _ hv
    rw [show (256 * m + c.toNat) / 256 = m by omega, hm] at h1
    obtain rfl := Option.some.inj h1
    rw [show (256 * m + c.toNat) % 256 = c.toNat by omega] at h2
    have e : toV N (m : Int) c.toNat = v := by
      unfold toV
      rw [if_neg (by omega), Int.toNat_natCast, getD_some hv]
    rw [e]
    rcases h2 with ⟨h2, rfl⟩ | ⟨_, k, p, h3, h4, rfl⟩
    · rw [rnV_none, h2 l, rnV_none]
    · rw [ih h3, h4 l]
theorem LOk.nx_bd {nx rl : List Int} {cls : Int → Int} {Q N : List Int} {i b : Nat} (h : LOk nx rl cls Q N i b) : ∀ x ∈ N, -1 ≤ x ∧ x < Q.length := by
  intro x hx
  obtain ⟨k, hk, rfl⟩ := List.getElem_of_mem hx
  obtain ⟨q, _, h2⟩ := h.ok k _ (List.getElem?_eq_getElem hk)
  rcases h2 with ⟨_, h2⟩ | ⟨_, k', p, h3, _, h4⟩
  · rw [h2]; omega
  · rw [h4]
    have := lt_of_get h3
    omega
theorem LOk.chk {nx rl : List Int} {cls : Int → Int} (hc : chk nx rl = true) {Q N : List Int} (h : LOk nx rl cls Q N Q.length 0) : Go.Proofs.Ytdbbaopgmapmaaa.chk N (ruleL rl Q) = true := by
  obtain ⟨ok, m1, m2⟩ := chk_ok hc
  have hQ := h.sok.len
  have h0 := lt_of_get h.first
  have hR : (ruleL rl Q).length = Q.length := by simp [ruleL]
  unfold Go.Proofs.Ytdbbaopgmapmaaa.chk inB
  simp only [Bool.and_eq_true, decide_eq_true_eq, List.all_eq_true, hR]
  refine ⟨⟨⟨⟨by omega, by omega⟩, by have := h.len; omega⟩, fun x hx => ?_⟩, fun x hx => h.nx_bd x hx⟩
  obtain ⟨q, hq, rfl⟩ := List.mem_map.1 hx
  have hqb := h.sok.bd q hq
  have hm : rl.getD q.toNat 0 ∈ rl := by
    rw [List.getD_eq_getElem?_getD, List.getElem?_eq_getElem (by omega : q.toNat < rl.length)]
    exact List.getElem_mem _
  exact ⟨(ok.rlb _ hm).1, m2 _ hm⟩
theorem LOk.distinct {nx rl : List Int} {dead : Int → Bool} {cls : Int → Int} (ok : TOk nx rl) (cl : Cl nx rl dead cls) {Q N : List Int} (h : LOk nx rl cls Q N Q.length 0) {m m' : Nat} (hm : m < Q.length) (hm' : m' < Q.length) (hs : Sim N (ruleL rl Q) m N (ruleL rl Q) m') : m = m' := by
  have g1 := List.getElem?_eq_getElem hm
  have g2 := List.getElem?_eq_getElem hm'
  have s := ((h.sim ok g1).symm.trans hs).trans (h.sim ok g2)
  have b1 := h.sok.bd _ (List.getElem_mem hm)
  have b2 := h.sok.bd _ (List.getElem_mem hm')
  have := (cl.cls _ _ b1.1 b1.2 b2.1 b2.2).2 s
  refine nodup_get h.sok.nodup (x := cls Q[m]) ?_ ?_
  · rw [List.getElem?_map, g1]; rfl
  · rw [List.getElem?_map, g2, this]; rfl
theorem LOk.allLive {nx rl : List Int} {cls : Int → Int} (ok : TOk nx rl) {Q N : List Int} (h : LOk nx rl cls Q N Q.length 0) (h1 : 1 < Q.length) {m : Nat} (hm : m < Q.length) : Live N (ruleL rl Q) m := by
  have g := List.getElem?_eq_getElem hm
  have hb := h.sok.bd _ (List.getElem_mem hm)
  have hl : Live nx rl Q[m] := by
    by_cases h0 : m = 0
    · subst h0
      have g1 := List.getElem?_eq_getElem h1
      obtain ⟨p1, m', q', c, p2, p3, p4, p5⟩ := h.live 1 _ g1 (by omega)
      obtain rfl : m' = 0 := by omega
      have e : q' = Q[0] := by rw [p3] at g; exact Option.some.inj g
      rw [p5, e] at p1
      have hin := toV_inN ok (a := Q[0]) ⟨by omega, hb.2⟩ p4
      have hl : Live nx rl (toV nx Q[0] c) := Classical.byContradiction fun hn => p1 ((not_live ok hin).1 hn)
      obtain ⟨l, hl⟩ := hl
      refine ⟨UInt8.ofNat c :: l, ?_⟩
      rw [rnV_cons, show (UInt8.ofNat c).toNat = c by rw [UInt8.toNat_ofNat', Nat.mod_eq_of_lt (by omega)]]
      exact hl
    · obtain ⟨p1, _⟩ := h.live m _ g h0
      exact Classical.byContradiction fun hn => p1 ((not_live ok ⟨by omega, hb.2⟩).1 hn)
  obtain ⟨l, hl⟩ := hl
  exact ⟨l, by rw [h.sim ok g]; exact hl⟩
/-! ### Two tables that do the same -/
theorem idxV_same {a b : Int} : ∀ {l m : List Int} (k : Nat), l.length = m.length → (∀ (j : Nat) (x y : Int), l[j]? = some x → m[j]? = some y → (a = x ↔ b = y)) → idxV a l k = idxV b m k
  | [], [], _, _, _ => rfl
  | [], _ :: _, _, h, _ => by simp at h
  | _ :: _, [], _, h, _ => by simp at h
  | x :: l, y :: m, k, h, hs => by
    simp only [idxV]
    have h0 := hs 0 x y rfl rfl
    have ih := idxV_same (a := a) (b := b) (l := l) (m := m) (k + 1) (by simpa using h) (fun j x y hx hy => hs (j + 1) x y hx hy)
    by_cases e : a = x
    · rw [if_pos e, if_pos (h0.1 e)]
    · rw [if_neg e, if_neg (fun e2 => e (h0.2 e2))]; exact ih
/-- Rows of states that do the same. -/
structure Row2 (nx1 rl1 nx2 rl2 : List Int) (Q1 Q2 : List Int) : Prop where
  len : Q1.length = Q2.length
  bd1 : ∀ q ∈ Q1, 0 ≤ q ∧ q < rl1.length
  bd2 : ∀ q ∈ Q2, 0 ≤ q ∧ q < rl2.length
  sim : ∀ (j : Nat) (x y : Int), Q1[j]? = some x → Q2[j]? = some y → Sim nx1 rl1 x nx2 rl2 y
theorem Row2.step {nx1 rl1 nx2 rl2 : List Int} {d1 d2 : Int → Bool} {c1 c2 : Int → Int} (cl1 : Cl nx1 rl1 d1 c1) (cl2 : Cl nx2 rl2 d2 c2) {Q1 Q2 N : List Int} (h : Row2 nx1 rl1 nx2 rl2 Q1 Q2) {t1 t2 : Int} (i1 : InS rl1 t1) (i2 : InS rl2 t2) (hs : Sim nx1 rl1 t1 nx2 rl2 t2) :
    Row2 nx1 rl1 nx2 rl2 (leS d1 c1 (Q1, N) t1).1 (leS d2 c2 (Q2, N) t2).1 ∧ (leS d1 c1 (Q1, N) t1).2 = (leS d2 c2 (Q2, N) t2).2 := by
  have none2 : Sim nx1 rl1 (-1) nx2 rl2 (-1) := fun l => by rw [rnV_none, rnV_none]
  have hd : d1 t1 = true ↔ d2 t2 = true := by
    rw [cl1.dead t1 i1, cl2.dead t2 i2]
    exact ⟨fun h => (hs.symm.trans h).trans none2, fun h => (hs.trans h).trans none2.symm⟩
  unfold leS
  by_cases h1 : d1 t1 = true
  · rw [if_pos h1, if_pos (hd.1 h1)]; exact ⟨h, rfl⟩
  · have h2 : ¬ d2 t2 = true := fun e => h1 (hd.2 e)
    rw [if_neg h1, if_neg h2]
    have t1b : 0 ≤ t1 := by
      by_cases e : t1 = -1
      · exact absurd ((cl1.dead t1 i1).2 (by rw [e]; exact fun _ => rfl)) h1
      · have := i1.1; omega
    have t2b : 0 ≤ t2 := by
      by_cases e : t2 = -1
      · exact absurd ((cl2.dead t2 i2).2 (by rw [e]; exact fun _ => rfl)) h2
      · have := i2.1; omega
    have hi : idxV (c1 t1) (Q1.map c1) 0 = idxV (c2 t2) (Q2.map c2) 0 := by
      refine idxV_same 0 (by simp [h.len]) (fun j x y hx hy => ?_)
      rw [List.getElem?_map] at hx hy
      cases g1 : Q1[j]? with
      | none => rw [g1] at hx; cases hx
      | some u =>
        cases g2 : Q2[j]? with
        | none => rw [g2] at hy; cases hy
        | some w =>
          rw [g1] at hx
          rw [g2] at hy
          obtain rfl := Option.some.inj hx
          obtain rfl := Option.some.inj hy
          have b1 := h.bd1 u (List.mem_of_getElem? g1)
          have b2 := h.bd2 w (List.mem_of_getElem? g2)
          rw [cl1.cls _ _ t1b i1.2 b1.1 b1.2, cl2.cls _ _ t2b i2.2 b2.1 b2.2]
          have s := h.sim j u w g1 g2
          exact ⟨fun e => (hs.symm.trans e).trans s, fun e => (hs.trans e).trans s.symm⟩
    simp only [hi]
    cases idxV (c2 t2) (Q2.map c2) 0 with
    | some k => exact ⟨h, rfl⟩
    | none =>
      simp only
      refine ⟨⟨by simp [h.len], fun q hq => ?_, fun q hq => ?_, fun j x y hx hy => ?_⟩, by rw [h.len]⟩
      · rcases List.mem_append.1 hq with hq | hq
        · exact h.bd1 q hq
        · obtain rfl := List.mem_singleton.1 hq; exact ⟨t1b, i1.2⟩
      · rcases List.mem_append.1 hq with hq | hq
        · exact h.bd2 q hq
        · obtain rfl := List.mem_singleton.1 hq; exact ⟨t2b, i2.2⟩
      · have hl := h.len
        by_cases hj : j < Q1.length
        · rw [List.getElem?_append_left hj] at hx
          rw [List.getElem?_append_left (by omega)] at hy
          exact h.sim j x y hx hy
        · have hjl := lt_of_get hx
          rw [List.length_append, List.length_singleton] at hjl
          obtain rfl : j = Q1.length := by omega
          rw [List.getElem?_append_right (Nat.le_refl _), Nat.sub_self] at hx
          rw [List.getElem?_append_right (by omega), hl, Nat.sub_self] at hy
          obtain rfl := Option.some.inj hx
          obtain rfl := Option.some.inj hy
          exact hs
theorem Row2.row {nx1 rl1 nx2 rl2 : List Int} {d1 d2 : Int → Bool} {c1 c2 : Int → Int} (ok1 : TOk nx1 rl1) (ok2 : TOk nx2 rl2) (cl1 : Cl nx1 rl1 d1 c1) (cl2 : Cl nx2 rl2 d2 c2) {Q1 Q2 N : List Int} (h : Row2 nx1 rl1 nx2 rl2 Q1 Q2) {q1 q2 : Nat} (i1 : q1 < rl1.length) (i2 : q2 < rl2.length) (hs : Sim nx1 rl1 q1 nx2 rl2 q2) : ∀ b, b ≤ 256 →
    Row2 nx1 rl1 nx2 rl2 (((rowV nx1 q1).take b).foldl (leS d1 c1) (Q1, N)).1 (((rowV nx2 q2).take b).foldl (leS d2 c2) (Q2, N)).1 ∧ (((rowV nx1 q1).take b).foldl (leS d1 c1) (Q1, N)).2 = (((rowV nx2 q2).take b).foldl (leS d2 c2) (Q2, N)).2
  | 0, _ => ⟨h, rfl⟩
  | b + 1, hb => by
    obtain ⟨h1, h2⟩ := Row2.row ok1 ok2 cl1 cl2 (N := N) h i1 i2 hs b (by omega)
    have g1 := rowV_get ok1 i1 (by omega : b < 256)
    have g2 := rowV_get ok2 i2 (by omega : b < 256)
    have l1 := lt_of_get g1
    have l2 := lt_of_get g2
    rw [List.getElem?_eq_getElem l1] at g1
    rw [List.getElem?_eq_getElem l2] at g2
    rw [List.take_succ_eq_append_getElem l1, List.take_succ_eq_append_getElem l2, List.foldl_append, List.foldl_append, Option.some.inj g1, Option.some.inj g2]
    obtain ⟨⟨A, B⟩, hA⟩ : ∃ s, ((rowV nx1 q1).take b).foldl (leS d1 c1) (Q1, N) = s := ⟨_, rfl⟩
    obtain ⟨⟨A', B'⟩, hA'⟩ : ∃ s, ((rowV nx2 q2).take b).foldl (leS d2 c2) (Q2, N) = s := ⟨_, rfl⟩
    rw [hA, hA'] at h1 h2 ⊢
    simp only at h1 h2
    subst h2
    exact h1.step cl1 cl2 (toV_inN ok1 ⟨by omega, by omega⟩ (by omega)) (toV_inN ok2 ⟨by omega, by omega⟩ (by omega)) (hs.stepN (by omega))
theorem leX_same {nx1 rl1 nx2 rl2 : List Int} {d1 d2 : Int → Bool} {c1 c2 : Int → Int} (ok1 : TOk nx1 rl1) (ok2 : TOk nx2 rl2) (cl1 : Cl nx1 rl1 d1 c1) (cl2 : Cl nx2 rl2 d2 c2) : ∀ (f1 f2 : Nat) (Q1 Q2 N : List Int) (i : Nat), Row2 nx1 rl1 nx2 rl2 Q1 Q2 → SOk c1 rl1.length Q1 → SOk c2 rl2.length Q2 → i ≤ Q1.length → rl1.length + 1 ≤ f1 + i → rl2.length + 1 ≤ f2 + i →
    Row2 nx1 rl1 nx2 rl2 (leX d1 c1 nx1 f1 Q1 N i).1 (leX d2 c2 nx2 f2 Q2 N i).1 ∧ (leX d1 c1 nx1 f1 Q1 N i).2 = (leX d2 c2 nx2 f2 Q2 N i).2
  | 0, _, Q1, Q2, N, i, h, s1, s2, hi, hf1, hf2 => by have := s1.len; omega
  | _ + 1, 0, Q1, Q2, N, i, h, s1, s2, hi, hf1, hf2 => by have := s2.len; have := h.len; omega
  | f1 + 1, f2 + 1, Q1, Q2, N, i, h, s1, s2, hi, hf1, hf2 => by
    have hl := h.len
    simp only [leX]
    rcases Nat.lt_or_ge i Q1.length with hil | hil
    · have hil2 : i < Q2.length := by omega
      have g1 := List.getElem?_eq_getElem hil
      have g2 := List.getElem?_eq_getElem hil2
      rw [g1, g2]
      simp only
      have b1 := s1.bd _ (List.getElem_mem hil)
      have b2 := s2.bd _ (List.getElem_mem hil2)
      have hs := h.sim i _ _ g1 g2
      obtain ⟨q1, e1⟩ := Int.eq_ofNat_of_zero_le b1.1
      obtain ⟨q2, e2⟩ := Int.eq_ofNat_of_zero_le b2.1
      have r1 : ∀ t ∈ rowV nx1 q1, d1 t = false → 0 ≤ t ∧ t < rl1.length := fun t ht hd => by
        obtain ⟨c, hc, rfl⟩ := (rowV_mem ok1 (by omega : q1 < rl1.length)).1 ht
        have hin := toV_inN ok1 (a := (q1 : Int)) ⟨by omega, by omega⟩ hc
        refine ⟨?_, hin.2⟩
        by_cases e : toV nx1 q1 c = -1
        · have := (cl1.dead _ hin).2 (by rw [e]; exact fun _ => rfl)
          rw [hd] at this; cases this
        · have := hin.1; omega
      have r2 : ∀ t ∈ rowV nx2 q2, d2 t = false → 0 ≤ t ∧ t < rl2.length := fun t ht hd => by
        obtain ⟨c, hc, rfl⟩ := (rowV_mem ok2 (by omega : q2 < rl2.length)).1 ht
        have hin := toV_inN ok2 (a := (q2 : Int)) ⟨by omega, by omega⟩ hc
        refine ⟨?_, hin.2⟩
        by_cases e : toV nx2 q2 c = -1
        · have := (cl2.dead _ hin).2 (by rw [e]; exact fun _ => rfl)
          rw [hd] at this; cases this
        · have := hin.1; omega
      have hk := h.row ok1 ok2 cl1 cl2 (N := N) (by omega : q1 < rl1.length) (by omega : q2 < rl2.length) (by rw [← e1, ← e2]; exact hs) 256 (Nat.le_refl _)
      rw [List.take_of_length_le (by rw [rowV_len ok1.len (by omega)]; exact Nat.le_refl _), List.take_of_length_le (by rw [rowV_len ok2.len (by omega)]; exact Nat.le_refl _)] at hk
      rw [e1, e2, Int.toNat_natCast, Int.toNat_natCast]
      have m1 := fold_SOk (dead := d1) (cls := c1) (n := rl1.length) (rowV nx1 q1) (s := (Q1, N)) s1 r1
      have m2 := fold_SOk (dead := d2) (cls := c2) (n := rl2.length) (rowV nx2 q2) (s := (Q2, N)) s2 r2
      have m3 := lt_of_get (fold_mono (dead := d1) (cls := c1) (rowV nx1 q1) (s := (Q1, N)) g1)
      obtain ⟨⟨A, B⟩, hA⟩ : ∃ s, (rowV nx1 q1).foldl (leS d1 c1) (Q1, N) = s := ⟨_, rfl⟩
      obtain ⟨⟨A', B'⟩, hA'⟩ : ∃ s, (rowV nx2 q2).foldl (leS d2 c2) (Q2, N) = s := ⟨_, rfl⟩
      rw [hA, hA'] at hk
      rw [hA] at m1 m3
      rw [hA'] at m2
      rw [hA, hA']
      obtain ⟨k1, k2⟩ := hk
      simp only at k1 k2 m1 m2 m3 ⊢
      subst k2
      exact leX_same ok1 ok2 cl1 cl2 f1 f2 A A' B (i + 1) k1 m1 m2 m3 (by omega) (by omega)
    · rw [List.getElem?_eq_none hil, List.getElem?_eq_none (by omega)]
      exact ⟨h, rfl⟩
theorem Row2.rule {nx1 rl1 nx2 rl2 : List Int} {Q1 Q2 : List Int} (h : Row2 nx1 rl1 nx2 rl2 Q1 Q2) : ruleL rl1 Q1 = ruleL rl2 Q2 := by
  have hl := h.len
  refine List.ext_getElem? fun j => ?_
  unfold ruleL
  rw [List.getElem?_map, List.getElem?_map]
  rcases Nat.lt_or_ge j Q1.length with hj | hj
  · have g1 := List.getElem?_eq_getElem hj
    have g2 := List.getElem?_eq_getElem (by omega : j < Q2.length)
    have s := h.sim j _ _ g1 g2 []
    have b1 := h.bd1 _ (List.getElem_mem hj)
    have b2 := h.bd2 _ (List.getElem_mem (by omega : j < Q2.length))
    rw [rnV_nil, rnV_nil] at s
    unfold rulV at s
    rw [if_neg (by omega), if_neg (by omega)] at s
    rw [g1, g2, Option.map_some, Option.map_some, s]
  · rw [List.getElem?_eq_none hj, List.getElem?_eq_none (by omega)]; rfl
theorem least_same {nx1 rl1 nx2 rl2 : List Int} {d1 d2 : Int → Bool} {c1 c2 : Int → Int} (ok1 : TOk nx1 rl1) (ok2 : TOk nx2 rl2) (cl1 : Cl nx1 rl1 d1 c1) (cl2 : Cl nx2 rl2 d2 c2) (hs : Sim nx1 rl1 0 nx2 rl2 0) :
    (leX d1 c1 nx1 (rl1.length + 1) [0] [] 0).2 = (leX d2 c2 nx2 (rl2.length + 1) [0] [] 0).2 ∧ ruleL rl1 (leX d1 c1 nx1 (rl1.length + 1) [0] [] 0).1 = ruleL rl2 (leX d2 c2 nx2 (rl2.length + 1) [0] [] 0).1 := by
  have o1 := ok1.one
  have o2 := ok2.one
  have b1 : ∀ q ∈ [(0 : Int)], 0 ≤ q ∧ q < rl1.length := fun q hq => by obtain rfl := List.mem_singleton.1 hq; omega
  have b2 : ∀ q ∈ [(0 : Int)], 0 ≤ q ∧ q < rl2.length := fun q hq => by obtain rfl := List.mem_singleton.1 hq; omega
  have h0 : Row2 nx1 rl1 nx2 rl2 [0] [0] := ⟨rfl, b1, b2, fun j x y hx hy => by
    have hj := lt_of_get hx
    simp only [List.length_singleton] at hj
    obtain rfl : j = 0 := by omega
    obtain rfl := Option.some.inj hx
    obtain rfl := Option.some.inj hy
    exact hs⟩
  have := leX_same ok1 ok2 cl1 cl2 (rl1.length + 1) (rl2.length + 1) [0] [0] [] 0 h0 ⟨b1, by simp⟩ ⟨b2, by simp⟩ (by simp) (by omega) (by omega)
  exact ⟨this.2, this.1.rule⟩
end Go.Proofs.Ytdbbaopgmapmaaa
