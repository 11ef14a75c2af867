import Derived.Test.YtikedgpcgacgoaaQ
set_option linter.unusedSimpArgs false
set_option linter.unusedVariables false
namespace Go.Proofs.Ytikedgpcgacgoaa
open Go Go.Hm

/-! ### Closed, and made by steps: no program in sight -/
abbrev tr (o : List Bool) (i : Nat) : Prop := o.getD i false = true
def Le (o o' : List Bool) : Prop := ∀ i, tr o i → tr o' i
theorem tr_set {o : List Bool} {i j : Nat} (h : tr o j) : tr (o.set i true) j := by
  unfold tr at *
  rw [List.getD_eq_getElem?_getD] at *
  rw [List.getElem?_set]
  split
  · split
    · rfl
    · rename_i h1 h2
      subst h1
      rw [List.getElem?_eq_none (by omega)] at h
      simp at h
  · exact h
theorem tr_set_inv {o : List Bool} {i j : Nat} (h : tr (o.set i true) j) : j = i ∨ tr o j := by
  unfold tr at *
  rw [List.getD_eq_getElem?_getD] at *
  rw [List.getElem?_set] at h
  split at h
  · rename_i h1; exact .inl h1.symm
  · exact .inr h
theorem tr_set_self {o : List Bool} {i : Nat} (h : i < o.length) : tr (o.set i true) i := by
  unfold tr
  rw [List.getD_eq_getElem?_getD, List.getElem?_set, if_pos rfl, if_pos h]
  rfl
theorem tr_lt {o : List Bool} {i : Nat} (h : tr o i) : i < o.length := by
  rcases Nat.lt_or_ge i o.length with h1 | h1
  · exact h1
  · unfold tr at h
    rw [List.getD_eq_getElem?_getD, List.getElem?_eq_none h1] at h
    simp at h
theorem okS_le {g : Gm} {tok tok' : Bool} {o o' : List Bool} (ht : tok = true → tok' = true) (h : Le o o') {s : Int} (hs : okS g tok o s = true) : okS g tok' o' s = true := by
  unfold okS at *
  split at hs
  · rename_i h1; rw [if_pos h1]; exact ht hs
  · rename_i h1; rw [if_neg h1]; exact h _ hs
theorem all_le {g : Gm} {tok tok' : Bool} {o o' : List Bool} (ht : tok = true → tok' = true) (h : Le o o') {r : List Int} (hr : r.all (okS g tok o) = true) : r.all (okS g tok' o') = true := by
  rw [List.all_eq_true] at *
  exact fun s hs => okS_le ht h (hr s hs)
theorem derP_le (g : Gm) (tok : Bool) (o : List Bool) (p : Pr) : Le o (derP g tok o p) := fun i h => by
  unfold derP
  split
  · exact h
  · split
    · exact tr_set h
    · exact h
theorem rnd_derP_ind {g : Gm} {tok : Bool} (Q : List Bool → Prop) (hq : ∀ o, ∀ p ∈ g.ps, Q o → Q (derP g tok o p)) (h0 : Q (List.replicate g.n.toNat false)) : Q (derM g tok) :=
  fin_ind (rnd_grows (fun p => derP_grows g tok p) g.ps) Q (fun o h => rnd_ind Q g.ps hq g.ps (fun _ h => h) o h) _ _ (Nat.le_refl _) h0
theorem rep_not (n i : Nat) : ¬ tr (List.replicate n false) i := fun h => by
  unfold tr at h
  rw [List.getD_eq_getElem?_getD, List.getElem?_replicate] at h
  split at h <;> simp at h
theorem derM_fixed (g : Gm) (tok : Bool) : ∀ p ∈ g.ps, derP g tok (derM g tok) p = derM g tok :=
  rnd_fixed (fun p => derP_grows g tok p) g.ps _ (fin_fix (rnd_grows (fun p => derP_grows g tok p) g.ps) _ _ (Nat.le_refl _))
/-- Whoever has a production that holds, holds. -/
theorem derM_closed {g : Gm} (ok : GOk g) (tok : Bool) (p : Pr) (hp : p ∈ g.ps) (h : p.r.all (okS g tok (derM g tok)) = true) : tr (derM g tok) p.l.toNat := by
  have hf := derM_fixed g tok p hp
  unfold derP at hf
  split at hf
  · assumption
  · rw [← hf]
    have pok := ok.p p hp
    exact tr_set_self (by rw [derM_len]; have := pok.l0; have := pok.l1; omega)
/-- Whoever holds has a production that holds. -/
theorem derM_made (g : Gm) (tok : Bool) (i : Nat) (h : tr (derM g tok) i) : ∃ p ∈ g.ps, p.l.toNat = i ∧ p.r.all (okS g tok (derM g tok)) = true := by
  refine rnd_derP_ind (g := g) (tok := tok) (fun o => ∀ i, tr o i → ∃ p ∈ g.ps, p.l.toNat = i ∧ p.r.all (okS g tok o) = true) (fun o p hp ho i hi => ?_) (fun i hi => absurd hi (rep_not _ _)) i h
  have hle := derP_le g tok o p
  have old : tr o i → ∃ q ∈ g.ps, q.l.toNat = i ∧ q.r.all (okS g tok (derP g tok o p)) = true := fun h => by
    obtain ⟨q, h1, h2, h3⟩ := ho i h
    exact ⟨q, h1, h2, all_le (fun h => h) hle h3⟩
  by_cases hio : tr o i
  · exact old hio
  have hi2 := hi
  unfold derP at hi2
  split at hi2
  · exact old hi2
  · split at hi2
    · rename_i ha
      rcases tr_set_inv hi2 with h | h
      · exact ⟨p, hp, h.symm, all_le (fun h => h) hle ha⟩
      · exact old h
    · exact old hi2
theorem null_prod {g : Gm} (ok : GOk g) : Le (derM g false) (derM g true) := fun i h => by
  refine rnd_derP_ind (g := g) (tok := false) (fun o => Le o (derM g true)) (fun o p hp ho => ?_) (fun i hi => absurd hi (rep_not _ _)) i h
  intro i hi
  unfold derP at hi
  split at hi
  · exact ho i hi
  · split at hi
    · rename_i ha
      rcases tr_set_inv hi with h | h
      · rw [h]; exact derM_closed ok true p hp (all_le (fun h => by cases h) ho ha)
      · exact ho i h
    · exact ho i hi
/-- The productions of one: some of them holds just if it does. -/
theorem der_any {g : Gm} (ok : GOk g) (tok : Bool) (i : Nat) : ((ofN g.ps i g.ps.length).any fun k => (g.ps.getD k ⟨0, []⟩).r.all (okS g tok (derM g tok))) = (derM g tok).getD i false := by
  have gD : ∀ k (h : k < g.ps.length), g.ps.getD k ⟨0, []⟩ = g.ps[k] := fun k h => by rw [List.getD_eq_getElem?_getD, List.getElem?_eq_getElem h]; rfl
  rw [Bool.eq_iff_iff, List.any_eq_true]
  constructor
  · rintro ⟨k, hk, h⟩
    unfold ofN at hk
    rw [List.mem_filter, List.mem_range, decide_eq_true_eq] at hk
    rw [gD k hk.1] at hk h
    have := derM_closed ok tok _ (List.getElem_mem hk.1) h
    rw [hk.2, Int.toNat_natCast] at this
    exact this
  · intro h
    obtain ⟨p, hp, h1, h2⟩ := derM_made g tok i h
    obtain ⟨k, hk, rfl⟩ := List.getElem_of_mem hp
    refine ⟨k, ?_, by rw [gD k hk]; exact h2⟩
    unfold ofN
    rw [List.mem_filter, List.mem_range, decide_eq_true_eq, gD k hk]
    have := (ok.p _ hp).l0
    exact ⟨hk, by omega⟩
theorem rchS_le (g : Gm) (o : List Bool) (s : Int) : Le o (rchS g o s) := fun i h => rchS_keep g o s i h
theorem rch_zero {g : Gm} (ok : GOk g) : tr (rchM g) 0 :=
  fin_ind (rnd_grows (fun p => rchP_grows g p) g.ps) (fun o => tr o 0) (fun o h => rnd_ind (fun o => tr o 0) g.ps (fun o p _ h => by
    unfold rchP
    split
    · exact rchF_keep g p.r o 0 h
    · exact h) g.ps (fun _ h => h) o h) _ _ (Nat.le_refl _) (tr_set_self (by have := ok.n1; simp; omega))
theorem rch_closed {g : Gm} (ok : GOk g) (p : Pr) (hp : p ∈ g.ps) (h : tr (rchM g) p.l.toNat) (s : Int) (hs : s ∈ p.r) (hn : ¬ s < g.t) : tr (rchM g) (s - g.t).toNat := by
  have hf := rnd_fixed (fun p => rchP_grows g p) g.ps _ (fin_fix (rnd_grows (fun p => rchP_grows g p) g.ps) _ ((List.replicate g.n.toNat false).set 0 true) (Nat.le_refl _)) p hp
  change rchP g (rchM g) p = rchM g at hf
  unfold rchP at hf
  rw [if_pos h] at hf
  have hf2 := rnd_fixed (st := rchS g) (fun s => rchS_grows g s) p.r (rchM g) hf s hs
  unfold rchS at hf2
  rw [if_neg hn] at hf2
  split at hf2
  · assumption
  · rw [← hf2]
    have := (ok.p p hp).s s hs
    exact tr_set_self (by rw [rchM_len]; omega)
end Go.Proofs.Ytikedgpcgacgoaa
