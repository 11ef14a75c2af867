import Derived.Test.YtdmaganalpamlaaGE
import Derived.Test.YtdmaganalpamlaaGA
set_option linter.unusedSimpArgs false
set_option linter.unusedVariables false
namespace Go.Proofs.Ytdmaganalpamlaa
open Go Go.Hm

theorem eqb_Bo (a b : Bool) : (Bo a = Bo b) = (a = b) := by cases a <;> cases b <;> simp
theorem bools_getE {l : List Bool} {i : Nat} (h : i < l.length) : (bools l)[i]'(by simpa [bools] using h) = Bo l[i] := by simp [bools]
set_option maxRecDepth 20000 in
theorem sameb_code {lk lim : Nat} {H : Heap} (a b : List Bool) (hl : a.length ≤ 1000000000) : callW X A lk lim 29 [.sl a.length (bools a), .sl b.length (bools b)] H = some (Bo (decide (a = b)), H) := by
  refine wb_callB [] rfl A29 rfl rfl ?_
  unfold t29B
  generalize callW X A = C
  by_cases hn : a.length = b.length
  case neg =>
    have hne : ((a.length : Int) != b.length) = true := bne_iff_ne.2 fun e => hn (by omega)
    have hd : a ≠ b := fun e => hn (by rw [e])
    rw [decide_eq_false hd]
    simp [-wb_true, -wb_false, -wb_regN]
    rw [wb_regN]
    simp [-wb_true, -wb_false, -wb_regN]
    rw [wb_regN]
    simp [-wb_true, -wb_false, -wb_regN, hne]
    rw [wb_true rfl]
    simp
  have hne : ((a.length : Int) != b.length) = false := by rw [hn]; simp
  simp [-wb_true, -wb_false, -wb_regN]
  rw [wb_regN]
  simp [-wb_true, -wb_false, -wb_regN]
  rw [wb_regN]
  simp [-wb_true, -wb_false, -wb_regN, hne]
  rw [wb_false rfl, wb_skip, fol_nrm, wb_seq, wb_seq, wb_regN]
  simp [-wb_true, -wb_false, -wb_regN]
  refine wb_loop (σ := Nat) (fun i => [(0, .sl a.length (bools a)), (1, .sl b.length (bools b)), (5, I i)]) (fun _ => H)
    (fun i => i ≤ a.length ∧ decide (a = b) = decide (a.drop i = b.drop i)) (fun i => a.length - i) ?_ 0 (by simp) rfl rfl
  rintro i ⟨hi, hinv⟩
  unfold t29L1
  have w : IntKind.i64.wrap ((i : Int) + 1) = (i : Int) + 1 := wrap64 (by omega) (by omega)
  by_cases hil : i < a.length
  case neg =>
    obtain rfl : i = a.length := by omega
    rw [List.drop_length, hn, List.drop_length] at hinv
    rw [hinv]
    simp [-wb_true, -wb_false, -wb_regN]
    rw [wb_regN]
    simp [-wb_true, -wb_false, -wb_regN]
    rw [wb_false rfl]
    simp
  have hil2 : i < b.length := by omega
  have hil3 : (i : Int) < a.length := by omega
  rw [List.drop_eq_getElem_cons hil, List.drop_eq_getElem_cons hil2] at hinv
  have ga := bools_getE hil
  have gb := bools_getE hil2
  generalize a[i] = x at ga hinv
  generalize b[i] = y at gb hinv
  simp [-wb_true, -wb_false, -wb_regN]
  rw [wb_regN]
  simp [-wb_true, -wb_false, -wb_regN, hil3]
  rw [wb_true rfl, wb_skip, fol_nrm, wb_seq, wb_block, wb_seq, wb_regD rfl]
  simp [-wb_true, -wb_false, -wb_regN, -wb_regD, hil, hil2, ga, gb, eqb_Bo]
  by_cases hxy : x = y
  · subst hxy
    have hinv2 : a = b ↔ a.drop (i + 1) = b.drop (i + 1) := (decide_eq_decide.1 hinv).trans (by simp)
    rw [wb_false (by simp), wb_skip]
    show WB _ _ _ _ _
    rw [wb_regN]
    simp [w]
    rw [rnd_nrm]
    exact ⟨i + 1, ⟨hil, hinv2⟩, by show a.length - (i + 1) < a.length - i; omega, rfl, rfl⟩
  · have : decide (a = b) = false := by rw [hinv]; simp [hxy]
    rw [this, wb_true (by simp [hxy])]
    simp
def bbV (ls : List (List Bool)) : List AV := ls.map fun l => .sl l.length (bools l)
def nxV (ls : List (List Bool)) : AV := if ls = [] then .e0 else .sl ls.length (bbV ls)
theorem bbV_len (ls : List (List Bool)) : (bbV ls).length = ls.length := by simp [bbV]
theorem bbV_get {ls : List (List Bool)} {i : Nat} (h : i < ls.length) : (bbV ls)[i]? = some (.sl ls[i].length (bools ls[i])) := by simp [bbV, h]
theorem bbV_getE {ls : List (List Bool)} {i : Nat} (h : i < ls.length) : (bbV ls)[i]'(by rw [bbV_len]; exact h) = .sl ls[i].length (bools ls[i]) := by simp [bbV]
set_option maxRecDepth 20000 in
theorem srowsb_code {lk lim : Nat} {H : Heap} (ls ms : List (List Bool)) (hl : ls.length ≤ 1000000000) (hb : ∀ l ∈ ls, l.length ≤ 1000000000) : callW X A lk lim 24 [nxV ls, nxV ms] H = some (Bo (decide (ls = ms)), H) := by
  have ks := fun (L : Nat) (a b : List Bool) h => sameb_code (lk := lk) (lim := L) (H := H) a b h
  have hv : ∀ ms : List (List Bool), (nxV ms = .e0 ∧ ms = []) ∨ nxV ms = .sl ms.length (bbV ms) := fun ms => by
    unfold nxV; by_cases h : ms = [] <;> simp [h]
  by_cases hn : ls.length = ms.length
  case neg =>
    have hne : ((ls.length : Int) != ms.length) = true := bne_iff_ne.2 fun e => hn (by omega)
    have hd : ls ≠ ms := fun e => hn (by rw [e])
    rw [decide_eq_false hd]
    rcases hv ls with ⟨h1, rfl⟩ | h1 <;> rcases hv ms with ⟨h2, rfl⟩ | h2
    · exact absurd rfl hn
    all_goals
      rw [h1, h2]
      try simp only [List.length_nil, Int.natCast_zero] at hne
      refine wb_callB [] rfl A24 rfl rfl ?_
      unfold t24B
      generalize callW X A = C at ks ⊢
      simp [-wb_true, -wb_false, -wb_regN]
      rw [wb_regN]
      simp [-wb_true, -wb_false, -wb_regN]
      rw [wb_regN]
      simp [-wb_true, -wb_false, -wb_regN, hne]
      rw [wb_true rfl]
      simp
  by_cases h0 : ls = []
  · subst h0
    obtain rfl : ms = [] := List.length_eq_zero_iff.1 hn.symm
    have hd : decide (([] : List (List Bool)) = []) = true := by simp
    rw [show nxV [] = .e0 from rfl, hd]
    refine wb_callB [] rfl A24 rfl rfl ?_
    unfold t24B
    generalize callW X A = C at ks ⊢
    simp [-wb_true, -wb_false, -wb_regN]
    rw [wb_regN]
    simp [-wb_true, -wb_false, -wb_regN]
    rw [wb_regN]
    simp [-wb_true, -wb_false, -wb_regN]
    rw [wb_false rfl, wb_skip, fol_nrm, wb_seq, wb_seq, wb_regN]
    simp [-wb_true, -wb_false, -wb_regN]
    refine wb_loop (σ := Unit) (fun _ => [(0, .e0), (1, .e0), (5, I 0)]) (fun _ => H) (fun _ => True) (fun _ => 0) ?_ () trivial rfl rfl
    intro _ _
    unfold t24L1
    simp [-wb_true, -wb_false, -wb_regN]
    rw [wb_regN]
    simp [-wb_true, -wb_false, -wb_regN]
    rw [wb_false rfl]
    simp
  have h0' : ms ≠ [] := fun e => h0 (List.length_eq_zero_iff.1 (by rw [hn, e]; rfl))
  have h1 : nxV ls = .sl ls.length (bbV ls) := by unfold nxV; rw [if_neg h0]
  have h2 : nxV ms = .sl ms.length (bbV ms) := by unfold nxV; rw [if_neg h0']
  rw [h1, h2]
  refine wb_callB [] rfl A24 rfl rfl ?_
  unfold t24B
  generalize callW X A = C at ks ⊢
  have hne : ((ls.length : Int) != ms.length) = false := by rw [hn]; simp
  simp [-wb_true, -wb_false, -wb_regN]
  rw [wb_regN]
  simp [-wb_true, -wb_false, -wb_regN]
  rw [wb_regN]
  simp [-wb_true, -wb_false, -wb_regN, hne]
  rw [wb_false rfl, wb_skip, fol_nrm, wb_seq, wb_seq, wb_regN]
  simp [-wb_true, -wb_false, -wb_regN]
  refine wb_loop (σ := Nat) (fun i => [(0, .sl ls.length (bbV ls)), (1, .sl ms.length (bbV ms)), (5, I i)]) (fun _ => H)
    (fun i => i ≤ ls.length ∧ decide (ls = ms) = decide (ls.drop i = ms.drop i)) (fun i => ls.length - i) ?_ 0 (by simp) rfl rfl
  rintro i ⟨hi, hinv⟩
  unfold t24L1
  have w : IntKind.i64.wrap ((i : Int) + 1) = (i : Int) + 1 := wrap64 (by omega) (by omega)
  by_cases hil : i < ls.length
  case neg =>
    obtain rfl : i = ls.length := by omega
    rw [List.drop_length, hn, List.drop_length] at hinv
    rw [hinv]
    simp [-wb_true, -wb_false, -wb_regN]
    rw [wb_regN]
    simp [-wb_true, -wb_false, -wb_regN]
    rw [wb_false rfl]
    simp
  have hil2 : i < ms.length := by omega
  have hil3 : (i : Int) < ls.length := by omega
  rw [List.drop_eq_getElem_cons hil, List.drop_eq_getElem_cons hil2] at hinv
  have ga := bbV_get hil
  have gb := bbV_get hil2
  have gaE := bbV_getE hil
  have gbE := bbV_getE hil2
  have hla := hb _ (List.getElem_mem hil)
  generalize ls[i] = x at ga gaE hinv hla
  generalize ms[i] = y at gb gbE hinv
  have ks1 := fun L => ks L x y hla
  simp [-wb_true, -wb_false, -wb_regN]
  rw [wb_regN]
  simp [-wb_true, -wb_false, -wb_regN, hil3]
  rw [wb_true rfl, wb_skip, fol_nrm, wb_seq, wb_block, wb_seq, wb_regD rfl]
  simp [-wb_true, -wb_false, -wb_regN, -wb_regD, hil, hil2, ga, gb, gaE, gbE, ks1, bbV_len]
  by_cases hxy : x = y
  · subst hxy
    have hinv2 : ls = ms ↔ ls.drop (i + 1) = ms.drop (i + 1) := (decide_eq_decide.1 hinv).trans (by simp)
    rw [wb_false (by simp), wb_skip]
    show WB _ _ _ _ _
    rw [wb_regN]
    simp [w]
    rw [rnd_nrm]
    exact ⟨i + 1, ⟨hil, hinv2⟩, by show ls.length - (i + 1) < ls.length - i; omega, rfl, rfl⟩
  · have : decide (ls = ms) = false := by rw [hinv]; simp [hxy]
    rw [this, wb_true (by simp [hxy])]
    simp
end Go.Proofs.Ytdmaganalpamlaa

namespace Go.Proofs.Ytdmaganalpamlaa
open Go Go.Hm

def nxS (t : Nat) (l : List Bool) (row : List UInt8) : List Bool := match row with
  | [] => l
  | c :: _ => l.set (min c.toNat t) true
def nxB (t : Nat) (set : List (List UInt8)) : List Bool := set.foldl (nxS t) (List.replicate (t + 1) false)
def nextM (g : Gm) : List (List Bool) := (folM g).map (nxB g.t.toNat)
theorem nxS_len (t : Nat) (l : List Bool) (row : List UInt8) : (nxS t l row).length = l.length := by
  unfold nxS; split <;> simp
theorem nxF_len (t : Nat) : ∀ (set : List (List UInt8)) (l : List Bool), (set.foldl (nxS t) l).length = l.length
  | [], _ => rfl
  | x :: set, l => by rw [List.foldl_cons, nxF_len t set, nxS_len]
theorem nxB_len (t : Nat) (set : List (List UInt8)) : (nxB t set).length = t + 1 := by unfold nxB; rw [nxF_len]; simp
theorem row_head {g : Gm} (hg : GOk g) {x : List UInt8} (h : RowF g x) : ∃ c r, x = c :: r ∧ (c = 255 ∨ (c.toNat : Int) < g.t) := by
  have hp := h.pos hg
  obtain ⟨y, hy, rfl⟩ := h
  obtain ⟨k, hk⟩ : ∃ k, g.k.toNat = k + 1 := ⟨g.k.toNat - 1, by have := hg.k1; omega⟩
  rw [hk]
  cases y with
  | nil => exact ⟨255, [], by simp, .inl rfl⟩
  | cons c y => exact ⟨c, _, rfl, .inr (hy c (List.mem_cons_self ..))⟩
theorem nxF_get (t : Nat) (j : Nat) : ∀ (set : List (List UInt8)) (l : List Bool), l.length = t + 1 → ((set.foldl (nxS t) l).getD j false = true ↔ l.getD j false = true ∨ ∃ c r, c :: r ∈ set ∧ min c.toNat t = j)
  | [], l, _ => by simp
  | x :: set, l, hl => by
    rw [List.foldl_cons, nxF_get t j set _ (by rw [nxS_len, hl])]
    cases x with
    | nil =>
      show l.getD j false = true ∨ _ ↔ _
      simp
    | cons c r =>
      show (l.set (min c.toNat t) true).getD j false = true ∨ _ ↔ _
      have : (l.set (min c.toNat t) true).getD j false = true ↔ l.getD j false = true ∨ min c.toNat t = j := by
        rw [List.getD_eq_getElem?_getD, List.getD_eq_getElem?_getD]
        by_cases e : min c.toNat t = j
        · subst e
          rw [List.getElem?_set_self (by rw [hl]; omega)]
          simp
        · rw [List.getElem?_set_ne e]
          simp [e]
      rw [this, or_assoc]
      refine or_congr_right ?_
      constructor
      · rintro (h | ⟨c', r', h1, h2⟩)
        · exact ⟨c, r, List.mem_cons_self .., h⟩
        · exact ⟨c', r', List.mem_cons_of_mem _ h1, h2⟩
      · rintro ⟨c', r', h1, h2⟩
        rcases List.mem_cons.1 h1 with e | h1
        · cases e; exact .inl h2
        · exact .inr ⟨c', r', h1, h2⟩
theorem nxB_get (t j : Nat) (set : List (List UInt8)) : (nxB t set).getD j false = true ↔ ∃ c r, c :: r ∈ set ∧ min c.toNat t = j := by
  unfold nxB
  rw [nxF_get t j set _ (by simp)]
  have : (List.replicate (t + 1) false).getD j false = false := by
    rw [List.getD_eq_getElem?_getD, List.getElem?_replicate]; split <;> rfl
  rw [this]
  simp
theorem bools_ext {a b : List Bool} (hl : a.length = b.length) (h : ∀ j, a.getD j false = true ↔ b.getD j false = true) : a = b := by
  refine List.ext_getElem hl fun i h1 h2 => ?_
  have := h i
  rw [List.getD_eq_getElem?_getD, List.getD_eq_getElem?_getD, List.getElem?_eq_getElem h1, List.getElem?_eq_getElem h2, Option.getD_some, Option.getD_some] at this
  exact Bool.eq_iff_iff.2 this
theorem next_cut {g h : Gm} (hg : GOk g) (hh : GOk h) (ht : h.t = g.t) (hn : h.n = g.n) (hp : h.ps = g.ps) (hk : h.k ≤ g.k) : nextM h = nextM g := by
  unfold nextM
  have h1 := (fol_ok hg).len
  have h2 := (fol_ok hh).len
  refine List.ext_getElem (by simp [h1, h2, hn]) fun i hi hj => ?_
  rw [List.length_map] at hi hj
  rw [List.getElem_map, List.getElem_map]
  refine Eq.trans (congrArg (fun t : Int => nxB t.toNat (folM h)[i]) ht) ?_
  show nxB g.t.toNat _ = _
  have hc := fol_cut hg hh ht hp hk i
  have e1 : (folM h).getD i [] = (folM h)[i] := by rw [List.getD_eq_getElem?_getD, List.getElem?_eq_getElem hi]; rfl
  have e2 : (folM g).getD i [] = (folM g)[i] := by rw [List.getD_eq_getElem?_getD, List.getElem?_eq_getElem hj]; rfl
  rw [e1, e2] at hc
  refine bools_ext (by rw [nxB_len, nxB_len]) fun j => ?_
  rw [nxB_get, nxB_get, ← hc]
  obtain ⟨k, hk1⟩ : ∃ k, h.k.toNat = k + 1 := ⟨h.k.toNat - 1, by have := hh.k1; omega⟩
  constructor
  · rintro ⟨c, r, hm, e⟩
    obtain ⟨x, hx, ex⟩ := mem_cut.1 hm
    rw [hk1] at ex
    cases x with
    | nil => cases ex
    | cons d x =>
      cases ex
      exact ⟨c, x, hx, e⟩
  · rintro ⟨c, r, hm, e⟩
    exact ⟨c, r.take k, mem_cut.2 ⟨_, hm, by rw [hk1]; rfl⟩, e⟩

def OutI (L : Nat) (G : Heap) (out : AV) (ls : List (List Bool)) : Prop :=
  (ls = [] ∧ out = .e0) ∨ ∃ b os, out = .hs (L + b) ls.length 0 ls.length 1 ∧ ls ≠ [] ∧ G[b]? = some (.cells os) ∧ os.length = ls.length ∧
    ∀ (j : Nat) l, ls[j]? = some l → ∃ bj, os[j]? = some (.hs (L + bj) l.length 0 l.length 1) ∧ G[bj]? = some (.cells (bools l)) ∧ bj ≠ b
theorem frz_bools (lim : Nat) (H : Heap) (d : Nat) (l : List Bool) : mapO (frz lim H d) (bools l) = some (bools l) := by
  induction l with
  | nil => rfl
  | cons a l ih => simp only [bools, List.map_cons, mapO, frz_val] at ih ⊢; rw [ih]
theorem bel_bools (lim : Nat) (l : List Bool) : belowL lim (bools l) = true := by
  induction l with
  | nil => rfl
  | cons a l ih => simp only [bools, List.map_cons, belowL, below, Bool.true_and] at ih ⊢; exact ih
theorem frz_row {H G : Heap} {b : Nat} {l : List Bool} (d : Nat) (hb : G[b]? = some (.cells (bools l))) : frz H.length (H ++ G) (d + 1) (.hs (H.length + b) l.length 0 l.length 1) = some (.sl l.length (bools l)) := by
  have h1 : ¬ H.length + b < H.length := by omega
  have h2 : slCells (H ++ G) (.hs (H.length + b) l.length 0 l.length 1) = some (bools l) := by
    have ht : List.take l.length (bools l) = bools l := List.take_of_length_le (by simp)
    simp [slCells, Hm.get_at, hb, ht]
  unfold frz
  rw [if_neg h1, h2]
  simp only [frz_bools, bel_bools, if_true]
theorem frz_out {H G : Heap} (d : Nat) {b : Nat} {os : List AV} {ls : List (List Bool)} (hlen : os.length = ls.length)
    (h : ∀ (j : Nat) l, ls[j]? = some l → ∃ bj, os[j]? = some (.hs (H.length + bj) l.length 0 l.length 1) ∧ G[bj]? = some (.cells (bools l)) ∧ bj ≠ b) : mapO (frz H.length (H ++ G) (d + 1)) os = some (bbV ls) ∧ belowL 0 (bbV ls) = true := by
  induction ls generalizing os with
  | nil =>
    obtain rfl := List.length_eq_zero_iff.1 hlen
    exact ⟨rfl, rfl⟩
  | cons l ls ih =>
    match os, hlen with
    | o :: os, hlen =>
      obtain ⟨bj, e1, e2, _⟩ := h 0 l rfl
      simp only [List.getElem?_cons_zero, Option.some.injEq] at e1
      subst e1
      obtain ⟨i1, i2⟩ := ih (os := os) (by simpa using hlen) fun j l hj => by
        obtain ⟨bj, e1, e2, e3⟩ := h (j + 1) l (by simpa using hj)
        exact ⟨bj, by simpa using e1, e2, e3⟩
      refine ⟨?_, ?_⟩
      · simp only [mapO, frz_row d e2, i1]
        rfl
      · show (Hm.below 0 (.sl l.length (bools l)) && belowL 0 (bbV ls)) = true
        rw [i2, Bool.and_true]
        simp [Hm.below]
end Go.Proofs.Ytdmaganalpamlaa
