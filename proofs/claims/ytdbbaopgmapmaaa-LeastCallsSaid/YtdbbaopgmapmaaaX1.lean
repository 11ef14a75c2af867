import Derived.Test.YtdbbaopgmapmaaaGE
set_option linter.unusedSimpArgs false
set_option linter.unusedVariables false
namespace Go.Proofs.Ytdbbaopgmapmaaa
open Go Go.Hm
/-! ### The order of texts: the shorter first, then by bytes -/
theorem less_trans : ∀ {a b c : List UInt8}, Op.bytesLess a b = true → Op.bytesLess b c = true → Op.bytesLess a c = true
  | [], [], _, h, _ => by cases h
  | [], _ :: _, [], _, h => by cases h
  | [], _ :: _, _ :: _, _, _ => rfl
  | _ :: _, [], _, h, _ => by cases h
  | _ :: _, _ :: _, [], _, h => by cases h
  | x :: a, y :: b, z :: c, h1, h2 => by
    simp only [Op.bytesLess, Bool.or_eq_true, Bool.and_eq_true, decide_eq_true_eq, beq_iff_eq] at h1 h2 ⊢
    rcases h1 with h1 | ⟨rfl, h1⟩
    · rcases h2 with h2 | ⟨rfl, h2⟩
      · exact .inl (UInt8.lt_trans h1 h2)
      · exact .inl h1
    · rcases h2 with h2 | ⟨rfl, h2⟩
      · exact .inl h2
      · exact .inr ⟨rfl, less_trans h1 h2⟩
theorem less_app : ∀ {a b : List UInt8} (s t : List UInt8), a.length = b.length → Op.bytesLess a b = true → Op.bytesLess (a ++ s) (b ++ t) = true
  | [], [], _, _, _, h => by cases h
  | [], _ :: _, _, _, h, _ => by simp at h
  | _ :: _, [], _, _, h, _ => by simp at h
  | x :: a, y :: b, s, t, hl, h => by
    simp only [List.length_cons, Nat.add_right_cancel_iff] at hl
    simp only [List.cons_append, Op.bytesLess, Bool.or_eq_true, Bool.and_eq_true, decide_eq_true_eq, beq_iff_eq] at h ⊢
    rcases h with h | ⟨h1, h⟩
    · exact .inl h
    · exact .inr ⟨h1, less_app s t hl h⟩
theorem less_last : ∀ (a : List UInt8) {x y : UInt8}, x < y → Op.bytesLess (a ++ [x]) (a ++ [y]) = true
  | [], x, y, h => by simp [Op.bytesLess, h]
  | z :: a, x, y, h => by simp [Op.bytesLess, less_last a h]
def SLt (a b : List UInt8) : Prop := a.length < b.length ∨ (a.length = b.length ∧ Op.bytesLess a b = true)
def SLe (a b : List UInt8) : Prop := SLt a b ∨ a = b
theorem SLt.trans {a b c : List UInt8} (h : SLt a b) (k : SLt b c) : SLt a c := by
  rcases h with h | ⟨h1, h2⟩ <;> rcases k with k | ⟨k1, k2⟩
  · exact .inl (by omega)
  · exact .inl (by omega)
  · exact .inl (by omega)
  · exact .inr ⟨by omega, less_trans h2 k2⟩
theorem SLe.trans {a b c : List UInt8} (h : SLe a b) (k : SLe b c) : SLe a c := by
  rcases h with h | rfl
  · rcases k with k | rfl
    · exact .inl (h.trans k)
    · exact .inl h
  · exact k
theorem SLt.app {a b : List UInt8} (h : SLt a b) (x y : UInt8) : SLt (a ++ [x]) (b ++ [y]) := by
  rcases h with h | ⟨h1, h2⟩
  · exact .inl (by simp; omega)
  · exact .inr ⟨by simp; omega, less_app _ _ h1 h2⟩
theorem SLe.app {a b : List UInt8} (h : SLe a b) (x : UInt8) : SLe (a ++ [x]) (b ++ [x]) := by
  rcases h with h | rfl
  · exact .inl (h.app x x)
  · exact .inr rfl
theorem SLe.more (a : List UInt8) (x : UInt8) : SLe a (a ++ [x]) := .inl (.inl (by simp))
/-! ### Where a text leads -/
def trV (nx : List Int) (l : List UInt8) : Int := l.foldl (fun st b => toV nx st b.toNat) 0
theorem trV_app (nx : List Int) (l : List UInt8) (c : UInt8) : trV nx (l ++ [c]) = toV nx (trV nx l) c.toNat := by
  unfold trV; rw [List.foldl_append]; rfl
theorem fold_dead (nx : List Int) : ∀ (l : List UInt8), l.foldl (fun st b => toV nx st b.toNat) (-1) = -1
  | [] => rfl
  | b :: l => by
    rw [List.foldl_cons, show toV nx (-1) b.toNat = -1 from rfl]
    exact fold_dead nx l
theorem fold_st {nx rl : List Int} (ok : TOk nx rl) : ∀ (l : List UInt8) (st : Int), 0 ≤ st → l.foldl (fun st b => toV nx st b.toNat) st = stM nx l st
  | [], _, _ => rfl
  | b :: l, st, h => by
    have h1 := nxA_ge ok st b
    have e : toV nx st b.toNat = nxA nx st b := by unfold toV nxA; rw [if_neg (by omega)]
    rw [List.foldl_cons, e]
    simp only [stM]
    split
    · rw [show nxA nx st b = -1 by omega]; exact fold_dead nx l
    · exact fold_st ok l _ (by omega)
theorem run_tr {nx rl : List Int} (ok : TOk nx rl) (l : List UInt8) : runM nx rl l = rulV rl (trV nx l) := by
  unfold runM trV rulV rlA
  rw [fold_st ok l 0 (Int.le_refl _)]
/-! ### Breadth first: the first text -/
def T (Q : List Stp) (k : Nat) : List UInt8 := (txF Q k k).reverse
theorem lt_of_get {α : Type} {l : List α} {k : Nat} {x : α} (h : l[k]? = some x) : k < l.length := by
  rcases Nat.lt_or_ge k l.length with h2 | h2
  · exact h2
  · rw [List.getElem?_eq_none h2] at h; cases h
def ParOk (Q : List Stp) : Prop := ∀ k (h : k < Q.length), k ≠ 0 → Q[k].par < k
theorem txF_app {Q : List Stp} (hp : ParOk Q) {t : Stp} (hp2 : ParOk (Q ++ [t])) : ∀ (n k : Nat), k ≤ n → k < Q.length → txF (Q ++ [t]) k k = txF Q k k
  | n, 0, _, _ => rfl
  | 0, k + 1, h, _ => by omega
  | n + 1, k + 1, h, hk => by
    rw [txF_succ Q hp (by omega) hk, txF_succ (Q ++ [t]) hp2 (by omega) (by simp; omega), List.getElem_append_left hk]
    have := hp (k + 1) hk (by omega)
    rw [txF_app hp hp2 n _ (by omega) (by omega)]
theorem T_app {Q : List Stp} (hp : ParOk Q) {t : Stp} (hp2 : ParOk (Q ++ [t])) {k : Nat} (h : k < Q.length) : T (Q ++ [t]) k = T Q k := by
  unfold T; rw [txF_app hp hp2 k k (Nat.le_refl _) h]
theorem T_succ {Q : List Stp} (hp : ParOk Q) {k : Nat} (h0 : k ≠ 0) {s : Stp} (hk : Q[k]? = some s) : T Q k = T Q s.par ++ [s.by_] := by
  have hl := lt_of_get hk
  rw [List.getElem?_eq_getElem hl] at hk
  have e := Option.some.inj hk
  unfold T
  rw [txF_succ Q hp h0 hl, e, List.reverse_cons]
theorem T_zero (Q : List Stp) : T Q 0 = [] := rfl
structure BOk (nx1 nx2 : List Int) (n1 n2 : Nat) (Q : List Stp) (i n : Nat) : Prop where
  ok : QOk nx1 nx2 n1 n2 Q
  par : ∀ k s, Q[k]? = some s → k ≠ 0 → s.par < i ∨ (s.par = i ∧ s.by_.toNat < n)
  sorted : ∀ k k', k < k' → k' < Q.length → SLt (T Q k) (T Q k')
  cl : ∀ k (c : UInt8) s, Q[k]? = some s → (k < i ∨ (k = i ∧ c.toNat < n)) → ∃ k' s', Q[k']? = some s' ∧ pairS s' = (toV nx1 s.a c.toNat, toV nx2 s.b c.toNat) ∧ SLe (T Q k') (T Q k ++ [c])
theorem BOk.below {nx1 nx2 : List Int} {n1 n2 : Nat} {Q : List Stp} {i n : Nat} (h : BOk nx1 nx2 n1 n2 Q i n) (hi : i < Q.length) (hn : n < 256) {k : Nat} (hk : k < Q.length) : SLt (T Q k) (T Q i ++ [UInt8.ofNat n]) := by
  have hp : ParOk Q := fun k hk h0 => (h.ok.from_ k _ (List.getElem?_eq_getElem hk) h0).1
  by_cases h0 : k = 0
  · subst h0
    rw [T_zero]
    exact .inl (by simp)
  · have hg := List.getElem?_eq_getElem hk
    rw [T_succ hp h0 hg]
    rcases h.par k _ hg h0 with h1 | ⟨h1, h2⟩
    · exact (h.sorted _ _ h1 hi).app _ _
    · rw [h1]
      refine .inr ⟨by simp, less_last _ ?_⟩
      rw [UInt8.lt_iff_toNat_lt, UInt8.toNat_ofNat', Nat.mod_eq_of_lt (by omega)]
      exact h2
theorem BOk.exp1 {nx1 nx2 rl1 rl2 : List Int} {Q : List Stp} (ok1 : TOk nx1 rl1) (ok2 : TOk nx2 rl2) {i n : Nat} (h : BOk nx1 nx2 rl1.length rl2.length Q i n) {s : Stp} (hi : Q[i]? = some s) (hn : n < 256) :
    BOk nx1 nx2 rl1.length rl2.length (exp1 nx1 nx2 s i Q n) i (n + 1) := by
  have hil := lt_of_get hi
  have hq := h.ok.exp1 ok1 ok2 hi hn
  have hp : ParOk Q := fun k hk h0 => (h.ok.from_ k _ (List.getElem?_eq_getElem hk) h0).1
  have hcb : (UInt8.ofNat n).toNat = n := by rw [UInt8.toNat_ofNat', Nat.mod_eq_of_lt (by omega)]
  have hc : ∀ c : UInt8, c.toNat < n + 1 → c.toNat < n ∨ c = UInt8.ofNat n := fun c h => by
    by_cases e : c.toNat = n
    · exact .inr (UInt8.toNat_inj.1 (by rw [hcb, e]))
    · exact .inl (by omega)
  unfold Go.Proofs.Ytdbbaopgmapmaaa.exp1 at hq ⊢
  split
  · rename_i hm
    rw [if_pos hm] at hq
    refine ⟨hq, fun k t ht h0 => (h.par k t ht h0).imp id (fun ⟨a, b⟩ => ⟨a, by omega⟩), h.sorted, fun k c t ht hkc => ?_⟩
    rcases hkc with hkc | ⟨rfl, hkc⟩
    · exact h.cl k c t ht (.inl hkc)
    · rcases hc c hkc with hkc | rfl
      · exact h.cl k c t ht (.inr ⟨rfl, hkc⟩)
      · obtain ⟨s', hs', he⟩ := List.mem_map.1 hm
        obtain ⟨k', hk', hke⟩ := List.getElem_of_mem hs'
        rw [hi] at ht
        obtain rfl := Option.some.inj ht
        refine ⟨k', s', by rw [List.getElem?_eq_getElem hk', hke], by rw [he, hcb], .inl (h.below hil hn hk')⟩
  · rename_i hm
    rw [if_neg hm] at hq
    have hp2 : ParOk (Q ++ [⟨toV nx1 s.a n, toV nx2 s.b n, UInt8.ofNat n, i⟩]) := fun k hk h0 => (hq.from_ k _ (List.getElem?_eq_getElem hk) h0).1
    have hT : ∀ {k}, k < Q.length → T (Q ++ [⟨toV nx1 s.a n, toV nx2 s.b n, UInt8.ofNat n, i⟩]) k = T Q k := fun hk => T_app hp hp2 hk
    have hnew : (Q ++ [⟨toV nx1 s.a n, toV nx2 s.b n, UInt8.ofNat n, i⟩])[Q.length]? = some (⟨toV nx1 s.a n, toV nx2 s.b n, UInt8.ofNat n, i⟩ : Stp) := by simp
    have hTn : T (Q ++ [⟨toV nx1 s.a n, toV nx2 s.b n, UInt8.ofNat n, i⟩]) Q.length = T Q i ++ [UInt8.ofNat n] := by
      rw [T_succ hp2 (by omega) hnew]
      simp only
      rw [hT hil]
    have hget : ∀ {k t}, (Q ++ [⟨toV nx1 s.a n, toV nx2 s.b n, UInt8.ofNat n, i⟩])[k]? = some t → (k < Q.length ∧ Q[k]? = some t) ∨ (k = Q.length ∧ t = ⟨toV nx1 s.a n, toV nx2 s.b n, UInt8.ofNat n, i⟩) := fun {k t} ht => by
      have hl := lt_of_get ht
      rw [List.length_append, List.length_singleton] at hl
      by_cases hk : k < Q.length
      · rw [List.getElem?_append_left hk] at ht
        exact .inl ⟨hk, ht⟩
      · obtain rfl : k = Q.length := by omega
        rw [hnew] at ht
        exact .inr ⟨rfl, (Option.some.inj ht).symm⟩
    refine ⟨hq, fun k t ht h0 => ?_, fun k k' hkk hk' => ?_, fun k c t ht hkc => ?_⟩
    · rcases hget ht with ⟨_, ht⟩ | ⟨_, rfl⟩
      · exact (h.par k t ht h0).imp id (fun ⟨a, b⟩ => ⟨a, by omega⟩)
      · exact .inr ⟨rfl, by simp only; rw [hcb]; omega⟩
    · rw [List.length_append, List.length_singleton] at hk'
      by_cases hkQ : k' < Q.length
      · rw [hT hkQ, hT (by omega)]; exact h.sorted k k' hkk hkQ
      · obtain rfl : k' = Q.length := by omega
        rw [hTn, hT hkk]
        exact h.below hil hn hkk
    · have old : ∀ {t}, Q[k]? = some t → (k < i ∨ (k = i ∧ c.toNat < n)) → ∃ k' s', (Q ++ [⟨toV nx1 s.a n, toV nx2 s.b n, UInt8.ofNat n, i⟩])[k']? = some s' ∧ pairS s' = (toV nx1 t.a c.toNat, toV nx2 t.b c.toNat) ∧ SLe (T (Q ++ [⟨toV nx1 s.a n, toV nx2 s.b n, UInt8.ofNat n, i⟩]) k') (T (Q ++ [⟨toV nx1 s.a n, toV nx2 s.b n, UInt8.ofNat n, i⟩]) k ++ [c]) := fun ht hx => by
        obtain ⟨k', s', q1, q2, q3⟩ := h.cl k c _ ht hx
        have l1 := lt_of_get q1
        have l2 := lt_of_get ht
        exact ⟨k', s', by rw [List.getElem?_append_left l1]; exact q1, q2, by rw [hT l1, hT l2]; exact q3⟩
      rcases hget ht with ⟨hkQ, ht2⟩ | ⟨rfl, rfl⟩
      · rcases hkc with hkc | ⟨rfl, hkc⟩
        · exact old ht2 (.inl hkc)
        · rcases hc c hkc with hkc | rfl
          · exact old ht2 (.inr ⟨rfl, hkc⟩)
          · rw [hi] at ht2
            obtain rfl := Option.some.inj ht2
            exact ⟨Q.length, _, hnew, by simp only [pairS]; rw [hcb], .inr (by rw [hTn, hT hil])⟩
      · omega
theorem exp1_get {nx1 nx2 : List Int} {s : Stp} {i : Nat} {n : Nat} {Q : List Stp} {k : Nat} {t : Stp} (h : Q[k]? = some t) : (expK nx1 nx2 s i Q n)[k]? = some t := by
  induction n with
  | zero => exact h
  | succ n ih => rw [expK_succ]; exact exp1_mono ih
theorem BOk.expK {nx1 nx2 rl1 rl2 : List Int} {Q : List Stp} (ok1 : TOk nx1 rl1) (ok2 : TOk nx2 rl2) {i : Nat} (h : BOk nx1 nx2 rl1.length rl2.length Q i 0) {s : Stp} (hi : Q[i]? = some s) : ∀ n, n ≤ 256 → BOk nx1 nx2 rl1.length rl2.length (expK nx1 nx2 s i Q n) i n
  | 0, _ => h
  | n + 1, hn => by
    rw [expK_succ]
    exact (BOk.expK ok1 ok2 h hi n (by omega)).exp1 ok1 ok2 (exp1_get hi) (by omega)
theorem BOk.next {nx1 nx2 rl1 rl2 : List Int} {Q : List Stp} (ok1 : TOk nx1 rl1) (ok2 : TOk nx2 rl2) {i : Nat} (h : BOk nx1 nx2 rl1.length rl2.length Q i 0) {s : Stp} (hi : Q[i]? = some s) : BOk nx1 nx2 rl1.length rl2.length (Go.Proofs.Ytdbbaopgmapmaaa.expK nx1 nx2 s i Q 256) (i + 1) 0 := by
  have h2 := h.expK ok1 ok2 hi 256 (Nat.le_refl _)
  refine ⟨h2.ok, fun k t ht h0 => .inl (by rcases h2.par k t ht h0 with h3 | ⟨h3, _⟩ <;> omega), h2.sorted, fun k c t ht hk => h2.cl k c t ht ?_⟩
  have := c.toNat_lt
  rcases hk with hk | ⟨_, hk⟩
  · by_cases e : k = i
    · exact .inr ⟨e, this⟩
    · exact .inl (by omega)
  · omega
/-- Each entry's text leads to it. -/
theorem tr_T {nx1 nx2 : List Int} {n1 n2 : Nat} {Q : List Stp} (ok : QOk nx1 nx2 n1 n2 Q) : ∀ (n k : Nat) (s : Stp), k ≤ n → Q[k]? = some s → trV nx1 (T Q k) = s.a ∧ trV nx2 (T Q k) = s.b
  | n, 0, s, _, hs => by
    rw [ok.first] at hs
    obtain rfl := Option.some.inj hs
    exact ⟨rfl, rfl⟩
  | 0, k + 1, _, h, _ => by omega
  | n + 1, k + 1, s, h, hs => by
    have hp : ParOk Q := fun k hk h0 => (ok.from_ k _ (List.getElem?_eq_getElem hk) h0).1
    obtain ⟨h1, p, h2, h3, h4⟩ := ok.from_ (k + 1) s hs (by omega)
    obtain ⟨i1, i2⟩ := tr_T ok n s.par p (by omega) h2
    rw [T_succ hp (by omega) hs, trV_app, trV_app, i1, i2, h3, h4]
    exact ⟨rfl, rfl⟩
/-- Each text comes to an entry that is not behind it, or to one that was not gone through yet. -/
theorem reach_T {nx1 nx2 : List Int} {n1 n2 : Nat} {Q : List Stp} {i : Nat} (h : BOk nx1 nx2 n1 n2 Q i 0) : ∀ l : List UInt8, ∃ k s, Q[k]? = some s ∧ SLe (T Q k) l ∧ ((s.a = trV nx1 l ∧ s.b = trV nx2 l) ∨ i ≤ k) := by
  suffices hr : ∀ l : List UInt8, ∃ k s, Q[k]? = some s ∧ SLe (T Q k) l.reverse ∧ ((s.a = trV nx1 l.reverse ∧ s.b = trV nx2 l.reverse) ∨ i ≤ k) by
    intro l
    have := hr l.reverse
    rwa [List.reverse_reverse] at this
  intro l
  induction l with
  | nil => exact ⟨0, _, h.ok.first, .inr rfl, .inl ⟨rfl, rfl⟩⟩
  | cons c l ih =>
    obtain ⟨k, s, h1, h2, h3⟩ := ih
    rw [List.reverse_cons]
    rcases Nat.lt_or_ge k i with hk | hk
    · rcases h3 with ⟨h3, h4⟩ | h3
      · obtain ⟨k', s', q1, q2, q3⟩ := h.cl k c s h1 (.inl hk)
        refine ⟨k', s', q1, q3.trans (h2.app c), .inl ?_⟩
        rw [trV_app, trV_app, ← h3, ← h4]
        simp only [pairS, Prod.mk.injEq] at q2
        exact q2
      · omega
    · exact ⟨k, s, h1, h2.trans (SLe.more _ _), .inr hk⟩
/-- What is told by going through breadth first. -/
def FirstOf (Pp : List UInt8 → Bool) : Option (List UInt8) → Prop
  | none => ∀ l, Pp l = false
  | some w => Pp w = true ∧ ∀ l, Pp l = true → SLe w l
theorem bfs_law {nx1 nx2 rl1 rl2 : List Int} (ok1 : TOk nx1 rl1) (ok2 : TOk nx2 rl2) (P : Int → Int → Bool) : ∀ (f : Nat) (Q : List Stp) (i : Nat), BOk nx1 nx2 rl1.length rl2.length Q i 0 → (∀ k s, k < i → Q[k]? = some s → P s.a s.b = false) → i ≤ Q.length → (rl1.length + 1) * (rl2.length + 1) + 1 ≤ f + i →
    FirstOf (fun l => P (trV nx1 l) (trV nx2 l)) (bfs nx1 nx2 P f Q i)
  | 0, Q, i, h, hP, hi, hf => by
    have := h.ok.len
    omega
  | f + 1, Q, i, h, hP, hi, hf => by
    simp only [bfs]
    cases hs : Q[i]? with
    | none =>
      have hil : i = Q.length := by
        rcases Nat.lt_or_ge i Q.length with h2 | h2
        · rw [List.getElem?_eq_getElem h2] at hs; cases hs
        · omega
      intro l
      obtain ⟨k, s, h1, h2, h3⟩ := reach_T h l
      have := lt_of_get h1
      rcases h3 with ⟨h3, h4⟩ | h3
      · show P _ _ = false
        rw [← h3, ← h4]
        exact hP k s (by omega) h1
      · omega
    | some s =>
      have hil := lt_of_get hs
      simp only
      by_cases hps : P s.a s.b = true
      · rw [if_pos hps]
        obtain ⟨t1, t2⟩ := tr_T h.ok i i s (Nat.le_refl _) hs
        refine ⟨by show P (trV nx1 (T Q i)) (trV nx2 (T Q i)) = true; rw [t1, t2]; exact hps, fun l hl => ?_⟩
        obtain ⟨k, t, h1, h2, h3⟩ := reach_T h l
        have hkl := lt_of_get h1
        rcases Nat.lt_or_ge k i with hk | hk
        · rcases h3 with ⟨h3, h4⟩ | h3
          · have := hP k t hk h1
            rw [h3, h4] at this
            simp only at hl
            rw [hl] at this
            cases this
          · omega
        · rcases Nat.lt_or_ge i k with hk2 | hk2
          · exact SLe.trans (.inl (h.sorted i k hk2 hkl)) h2
          · obtain rfl : i = k := by omega
            exact h2
      · rw [if_neg hps]
        have hps : P s.a s.b = false := by simpa using hps
        refine bfs_law ok1 ok2 P f _ (i + 1) (h.next ok1 ok2 hs) (fun k t hk ht => ?_) ?_ (by omega)
        · rcases Nat.lt_or_ge k Q.length with hkQ | hkQ
          · have hg := exp1_get (nx1 := nx1) (nx2 := nx2) (s := s) (i := i) (n := 256) (List.getElem?_eq_getElem hkQ)
            rw [ht] at hg
            obtain rfl := Option.some.inj hg
            by_cases hki : k = i
            · subst hki
              rw [List.getElem?_eq_getElem hkQ] at hs
              rw [Option.some.inj hs]; exact hps
            · exact hP k _ (by omega) (List.getElem?_eq_getElem hkQ)
          · omega
        · exact lt_of_get (exp1_get (nx1 := nx1) (nx2 := nx2) (s := s) (i := i) (n := 256) hs)
theorem bfs_first {nx1 nx2 rl1 rl2 : List Int} (ok1 : TOk nx1 rl1) (ok2 : TOk nx2 rl2) (P : Int → Int → Bool) :
    FirstOf (fun l => P (trV nx1 l) (trV nx2 l)) (bfs nx1 nx2 P ((rl1.length + 1) * (rl2.length + 1) + 1) [⟨0, 0, 0, 0⟩] 0) := by
  have o1 := ok1.one
  have o2 := ok2.one
  refine bfs_law ok1 ok2 P _ _ 0 ⟨⟨rfl, by simp, fun s hs => by obtain rfl := List.mem_singleton.1 hs; simp only; omega, fun k t hk h0 => by have := lt_of_get hk; simp at this; omega⟩, fun k s hk h0 => by have := lt_of_get hk; simp at this; omega, fun k k' h1 h2 => by simp at h2; omega, fun k c s hk h => by omega⟩ (fun k s hk _ => by omega) (by simp) (by omega)
theorem short_law {nx rl : List Int} (ok : TOk nx rl) (r : Int) : FirstOf (fun l => decide (runM nx rl l = r)) (shortM nx rl r) := by
  have := bfs_first ok ok (fun x _ => decide (rulV rl x = r))
  simp only [← run_tr ok] at this
  exact this
theorem wit_law {nx1 nx2 rl1 rl2 : List Int} (ok1 : TOk nx1 rl1) (ok2 : TOk nx2 rl2) : FirstOf (fun l => decide (runM nx1 rl1 l ≠ runM nx2 rl2 l)) (witM nx1 rl1 nx2 rl2) := by
  have := bfs_first ok1 ok2 (fun x y => decide (rulV rl1 x ≠ rulV rl2 y))
  simp only [← run_tr ok1, ← run_tr ok2] at this
  exact this
end Go.Proofs.Ytdbbaopgmapmaaa
