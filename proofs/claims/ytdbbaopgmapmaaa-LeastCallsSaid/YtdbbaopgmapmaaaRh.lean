import Derived.Test.YtdbbaopgmapmaaaRg
set_option linter.unusedSimpArgs false
set_option linter.unusedVariables false
namespace Go.Proofs.Ytdbbaopgmapmaaa
open Go Go.Hm
/-! ### The document's first text with a rule: of one table, what leads nowhere left out -/
def expS (nx : List Int) (a : Int) (w : List UInt8) (Q : List P3) (c : Nat) : List P3 :=
  if toV nx a c < 0 ∨ toV nx a c ∈ Q.map (·.1) then Q else Q ++ [(toV nx a c, 0, w ++ [UInt8.ofNat c])]
def expSK (nx : List Int) (a : Int) (w : List UInt8) (Q : List P3) (n : Nat) : List P3 := (List.range n).foldl (expS nx a w) Q
theorem expSK_succ (nx : List Int) (a : Int) (w : List UInt8) (Q : List P3) (n : Nat) : expSK nx a w Q (n + 1) = expS nx a w (expSK nx a w Q n) n := by
  unfold expSK; rw [List.range_succ, List.foldl_append]; rfl
def bfsS (nx : List Int) (P : Int → Bool) : Nat → List P3 → Nat → Option (List UInt8)
  | 0, _, _ => none
  | f + 1, Q, i => match Q[i]? with
    | none => none
    | some e => if P e.1 = true then some e.2.2 else bfsS nx P f (expSK nx e.1 e.2.2 Q 256) (i + 1)
structure SQ (n : Nat) (Q : List P3) : Prop where
  sok : SOk (fun x => x) n (Q.map (·.1))
  tl : ∀ e ∈ Q, e.2.2.length ≤ Q.length ∧ e.2.1 = 0
theorem SQ.len {n : Nat} {Q : List P3} (h : SQ n Q) : Q.length ≤ n := by
  have := h.sok.len; rwa [List.length_map] at this
theorem SQ.exp {nx rl : List Int} (ok : TOk nx rl) {Q : List P3} (h : SQ rl.length Q) {a : Int} {w : List UInt8} (ha : a < rl.length) (hw : w.length ≤ Q.length) {c : Nat} (hc : c < 256) : SQ rl.length (expS nx a w Q c) := by
  unfold expS
  have ht := toV_b ok ha hc
  split
  · exact h
  · rename_i hn
    have hn0 : ¬ toV nx a c < 0 := fun e => hn (.inl e)
    have hn1 : toV nx a c ∉ Q.map (·.1) := fun e => hn (.inr e)
    refine ⟨⟨fun q hq => ?_, ?_⟩, fun e he => ?_⟩
    · rw [List.map_append] at hq
      rcases List.mem_append.1 hq with hq | hq
      · exact h.sok.bd q hq
      · obtain rfl := List.mem_singleton.1 hq
        show 0 ≤ toV nx a c ∧ toV nx a c < rl.length
        exact ⟨by omega, ht.2⟩
    · have hd := h.sok.nodup
      rw [List.map_map] at hd ⊢
      rw [List.map_append, List.nodup_append]
      refine ⟨hd, by simp, fun x hx y hy e => ?_⟩
      have hy := List.mem_singleton.1 hy
      rw [e, hy] at hx
      exact hn1 hx
    · rw [List.length_append, List.length_singleton]
      rcases List.mem_append.1 he with he | he
      · have := h.tl e he; exact ⟨by omega, this.2⟩
      · obtain rfl := List.mem_singleton.1 he
        exact ⟨by simp; omega, rfl⟩
theorem expS_mono {nx : List Int} {a : Int} {w : List UInt8} {Q : List P3} {c k : Nat} {e : P3} (h : Q[k]? = some e) : (expS nx a w Q c)[k]? = some e := by
  unfold expS
  split
  · exact h
  · rw [List.getElem?_append_left (lt_of_get h)]; exact h
theorem expSK_mono {nx : List Int} {a : Int} {w : List UInt8} {Q : List P3} {k : Nat} {e : P3} (h : Q[k]? = some e) : ∀ n, (expSK nx a w Q n)[k]? = some e
  | 0 => h
  | n + 1 => by rw [expSK_succ]; exact expS_mono (expSK_mono h n)
def gS (x : P3) : Option P3 := if x.1 < 0 then none else some (x.1, 0, x.2.2)
/-- Both ways at once. -/
structure Both (nx rl : List Int) (Q : List Stp) (S : List P3) : Prop where
  ok : QOk nx nx rl.length rl.length Q
  dg : ∀ s ∈ Q, s.a = s.b
  eq : S = (txt3 Q).filterMap gS
  sq : SQ rl.length S
theorem Both.mem {nx rl : List Int} {Q : List Stp} {S : List P3} (h : Both nx rl Q S) {x : Int} (hx : 0 ≤ x) : (x, x) ∈ Q.map pairS ↔ x ∈ S.map (·.1) := by
  rw [h.eq]
  constructor
  · intro hm
    obtain ⟨s, hs, he⟩ := List.mem_map.1 hm
    obtain ⟨k, hk, hke⟩ := List.getElem_of_mem hs
    have hg := txt3_get (show Q[k]? = some s by rw [List.getElem?_eq_getElem hk, hke])
    simp only [pairS, Prod.mk.injEq] at he
    refine List.mem_map.2 ⟨(s.a, 0, T Q k), List.mem_filterMap.2 ⟨_, List.mem_of_getElem? hg, ?_⟩, he.1⟩
    unfold gS
    simp only
    rw [if_neg (by omega)]
  · intro hm
    obtain ⟨e, he, rfl⟩ := List.mem_map.1 hm
    obtain ⟨y, hy, hg⟩ := List.mem_filterMap.1 he
    unfold gS at hg
    split at hg
    · cases hg
    · obtain rfl := Option.some.inj hg
      obtain ⟨k, hk, hke⟩ := List.getElem_of_mem hy
      rw [txt3_len] at hk
      have hg2 := List.getElem?_eq_getElem hk
      have h3 := txt3_get hg2
      rw [List.getElem?_eq_getElem (by rw [txt3_len]; exact hk), hke] at h3
      obtain rfl := Option.some.inj h3
      have hd := h.dg Q[k] (List.getElem_mem hk)
      exact List.mem_map.2 ⟨Q[k], List.getElem_mem hk, by simp only [pairS, ← hd]⟩
theorem Both.exp {nx rl : List Int} (ok : TOk nx rl) {Q : List Stp} {S : List P3} (h : Both nx rl Q S) {i : Nat} {s : Stp} (hi : Q[i]? = some s) (hs0 : 0 ≤ s.a) {c : Nat} (hc : c < 256) (hw : (T Q i).length ≤ S.length) :
    Both nx rl (exp1 nx nx s i Q c) (expS nx s.a (T Q i) S c) ∧ (∃ m, txt3 (exp1 nx nx s i Q c) = txt3 Q ++ m) ∧ T (exp1 nx nx s i Q c) i = T Q i ∧ S.length ≤ (expS nx s.a (T Q i) S c).length := by
  have hsm : s ∈ Q := List.mem_of_getElem? hi
  have hil := lt_of_get hi
  have hd := h.dg s hsm
  have hq := h.ok.exp1 ok ok hi hc
  have hsq := h.sq.exp ok (a := s.a) (w := T Q i) (h.ok.bd s hsm).2.1 hw hc
  have hp := chain_of h.ok
  have hQ0 : Q ≠ [] := by intro e; rw [e] at hil; simp at hil
  have ht := toV_b ok (h.ok.bd s hsm).2.1 hc
  unfold Go.Proofs.Ytdbbaopgmapmaaa.exp1 at hq ⊢
  unfold expS at hsq ⊢
  rw [← hd] at hq ⊢
  by_cases hm : (toV nx s.a c, toV nx s.a c) ∈ Q.map pairS
  · rw [if_pos hm] at hq ⊢
    have hS : toV nx s.a c < 0 ∨ toV nx s.a c ∈ S.map (·.1) := by
      by_cases h0 : toV nx s.a c < 0
      · exact .inl h0
      · exact .inr ((h.mem (by omega)).1 hm)
    rw [if_pos hS] at hsq ⊢
    exact ⟨h, ⟨[], by simp⟩, rfl, Nat.le_refl _⟩
  · rw [if_neg hm] at hq ⊢
    have hp2 := chain_of hq
    have htx := txt3_app hp hp2 hQ0
    have hT := T_app hp hp2 hil
    have hdg : ∀ u ∈ Q ++ [(⟨toV nx s.a c, toV nx s.a c, UInt8.ofNat c, i⟩ : Stp)], u.a = u.b := fun u hu => by
      rcases List.mem_append.1 hu with hu | hu
      · exact h.dg u hu
      · obtain rfl := List.mem_singleton.1 hu; rfl
    by_cases h0 : toV nx s.a c < 0
    · rw [if_pos (.inl h0)] at hsq ⊢
      refine ⟨⟨hq, hdg, ?_, h.sq⟩, ⟨_, htx⟩, hT, Nat.le_refl _⟩
      rw [htx, List.filterMap_append, ← h.eq]
      simp [gS, h0]
    · have hS : ¬ (toV nx s.a c < 0 ∨ toV nx s.a c ∈ S.map (·.1)) := fun e => e.elim h0 fun e => hm ((h.mem (by omega)).2 e)
      rw [if_neg hS] at hsq ⊢
      refine ⟨⟨hq, hdg, ?_, hsq⟩, ⟨_, htx⟩, hT, by simp⟩
      rw [htx, List.filterMap_append, ← h.eq]
      simp [gS, h0]
theorem Both.expK {nx rl : List Int} (ok : TOk nx rl) {Q : List Stp} {S : List P3} (h : Both nx rl Q S) {i : Nat} {s : Stp} (hi : Q[i]? = some s) (hs0 : 0 ≤ s.a) (hw : (T Q i).length ≤ S.length) : ∀ n, n ≤ 256 →
    Both nx rl (expK nx nx s i Q n) (expSK nx s.a (T Q i) S n) ∧ (∃ m, txt3 (expK nx nx s i Q n) = txt3 Q ++ m) ∧ T (expK nx nx s i Q n) i = T Q i ∧ S.length ≤ (expSK nx s.a (T Q i) S n).length
  | 0, _ => ⟨h, ⟨[], by simp [Go.Proofs.Ytdbbaopgmapmaaa.expK]⟩, rfl, Nat.le_refl _⟩
  | n + 1, hn => by
    obtain ⟨h1, ⟨m, hm⟩, h3, h4⟩ := Both.expK ok h hi hs0 hw n (by omega)
    obtain ⟨k1, ⟨m2, hm2⟩, k3, k4⟩ := h1.exp ok (exp1_get hi) hs0 (c := n) (by omega) (by rw [h3]; omega)
    rw [h3] at k1 k3 k4
    rw [expK_succ, expSK_succ]
    exact ⟨k1, ⟨m ++ m2, by rw [hm2, hm, List.append_assoc]⟩, k3, by omega⟩
theorem bfsS_eq {nx rl : List Int} (ok : TOk nx rl) {P : Int → Int → Bool} {P1 : Int → Bool} (hP : ∀ a, P a a = P1 a) (hn : P1 (-1) = false) : ∀ (f f1 : Nat) (Q : List Stp) (S : List P3) (i j : Nat), Both nx rl Q S → i ≤ Q.length → ((txt3 Q).take i).filterMap gS = S.take j → j ≤ S.length → (rl.length + 1) * (rl.length + 1) + 1 ≤ f + i → rl.length + 1 ≤ f1 + j →
    bfs nx nx P f Q i = bfsS nx P1 f1 S j
  | 0, f1, Q, S, i, j, h, hi, hj, hjl, hf, hf1 => by have := h.ok.len; omega
  | f + 1, f1, Q, S, i, j, h, hi, hj, hjl, hf, hf1 => by
    simp only [bfs]
    have hsl := h.sq.len
    cases hs : Q[i]? with
    | none =>
      have hil : i = Q.length := by
        rcases Nat.lt_or_ge i Q.length with h2 | h2
        · rw [List.getElem?_eq_getElem h2] at hs; cases hs
        · omega
      rw [hil, ← txt3_len, List.take_of_length_le (Nat.le_refl _), ← h.eq] at hj
      have hjS : S[j]? = none := by
        refine List.getElem?_eq_none ?_
        have := congrArg List.length hj
        rw [List.length_take] at this
        omega
      cases f1 with
      | zero => rfl
      | succ f1 => simp only [bfsS, hjS]
    | some s =>
      have hil := lt_of_get hs
      have hsm : s ∈ Q := List.mem_of_getElem? hs
      have hd := h.dg s hsm
      have hbd := h.ok.bd s hsm
      have hg := txt3_get hs
      have hgl : i < (txt3 Q).length := by rw [txt3_len]; exact hil
      have htk : (txt3 Q).take (i + 1) = (txt3 Q).take i ++ [(s.a, s.b, T Q i)] := by
        rw [List.take_succ_eq_append_getElem hgl]
        rw [List.getElem?_eq_getElem hgl] at hg
        rw [Option.some.inj hg]
      simp only
      by_cases hs0 : s.a < 0
      · have ea : s.a = -1 := by omega
        have hpf : P s.a s.b = false := by rw [← hd, hP, ea, hn]
        rw [hpf, if_neg (by simp)]
        have hex : ∀ n, n ≤ 256 → expK nx nx s i Q n = Q := by
          intro n
          induction n with
          | zero => intro _; rfl
          | succ n ih =>
            intro hn2
            rw [expK_succ, ih (by omega)]
            unfold exp1
            have e1 : toV nx s.a n = -1 := by rw [ea]; rfl
            have e2 : toV nx s.b n = -1 := by rw [← hd, ea]; rfl
            rw [if_pos]
            rw [e1, e2]
            exact List.mem_map.2 ⟨s, hsm, by simp only [pairS, ← hd, ea]⟩
        rw [hex 256 (Nat.le_refl _)]
        refine bfsS_eq ok hP hn f f1 Q S (i + 1) j h hil ?_ hjl (by omega) hf1
        rw [htk, List.filterMap_append, hj]
        simp [gS, hs0]
      · have hS : S[j]? = some (s.a, 0, T Q i) := by
          have e1 : S = S.take j ++ ((txt3 Q).drop i).filterMap gS := by
            have e := h.eq
            rw [← List.take_append_drop i (txt3 Q), List.filterMap_append, hj] at e
            exact e
          have e2 : (txt3 Q).drop i = (s.a, s.b, T Q i) :: (txt3 Q).drop (i + 1) := by
            rw [List.drop_eq_getElem_cons hgl]
            rw [List.getElem?_eq_getElem hgl] at hg
            rw [Option.some.inj hg]
          rw [e2, List.filterMap_cons] at e1
          simp only [gS, hs0, if_false] at e1
          rw [e1, List.getElem?_append_right (by rw [List.length_take]; omega), List.length_take, show j - min j S.length = 0 by omega]; rfl
        have hjlt := lt_of_get hS
        obtain ⟨f1, rfl⟩ : ∃ g, f1 = g + 1 := ⟨f1 - 1, by omega⟩
        simp only [bfsS, hS]
        rw [← hd, hP]
        by_cases hp : P1 s.a = true
        · rw [if_pos hp, if_pos hp]; rfl
        · rw [if_neg hp, if_neg hp]
          have hw : (T Q i).length ≤ S.length := (h.sq.tl _ (List.mem_of_getElem? hS)).1
          obtain ⟨k1, ⟨m, hm⟩, k3, k4⟩ := h.expK ok hs (by omega) hw 256 (Nat.le_refl _)
          refine bfsS_eq ok hP hn f f1 _ _ (i + 1) (j + 1) k1 (lt_of_get (exp1_get (nx1 := nx) (nx2 := nx) (s := s) (i := i) (n := 256) hs)) ?_ (by omega) (by omega) (by omega)
          rw [hm, List.take_append_of_le_length (by omega), htk, List.filterMap_append, hj]
          have hS2 : (expSK nx s.a (T Q i) S 256).take (j + 1) = S.take (j + 1) := by
            refine List.ext_getElem? fun k => ?_
            by_cases hk : k < j + 1
            · rw [List.getElem?_take_of_lt hk, List.getElem?_take_of_lt hk]
              have g := List.getElem?_eq_getElem (show k < S.length by omega)
              rw [expSK_mono g, g]
            · rw [List.getElem?_eq_none (by rw [List.length_take]; omega), List.getElem?_eq_none (by rw [List.length_take]; omega)]
          rw [hS2, List.take_succ_eq_append_getElem hjlt]
          rw [List.getElem?_eq_getElem hjlt] at hS
          rw [Option.some.inj hS]
          simp [gS, hs0]
def shortS (nx rl : List Int) (r : Int) : Option (List UInt8) := bfsS nx (fun x => decide (rulV rl x = r)) (rl.length + 1) [(0, 0, [])] 0
theorem shortS_eq {nx rl : List Int} (ok : TOk nx rl) {r : Int} (hr : 0 ≤ r) : shortM nx rl r = shortS nx rl r := by
  have o1 := ok.one
  refine bfsS_eq ok (fun _ => rfl) (decide_eq_false (by rw [show rulV rl (-1) = -1 from rfl]; omega)) _ _ _ _ 0 0 ⟨⟨rfl, by simp, fun s hs => by obtain rfl := List.mem_singleton.1 hs; simp only; omega, fun k t hk h0 => by have := lt_of_get hk; simp at this; omega⟩, fun s hs => by obtain rfl := List.mem_singleton.1 hs; rfl, rfl, ⟨⟨fun q hq => ?_, by simp⟩, fun e he => ?_⟩⟩ (by simp) rfl (by simp) (by omega) (by omega)
  · obtain rfl := List.mem_singleton.1 hq
    show (0 : Int) ≤ 0 ∧ (0 : Int) < rl.length
    omega
  · obtain rfl := List.mem_singleton.1 he; simp
end Go.Proofs.Ytdbbaopgmapmaaa
