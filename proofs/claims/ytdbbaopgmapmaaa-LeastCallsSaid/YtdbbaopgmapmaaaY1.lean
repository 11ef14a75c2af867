import Derived.Test.YtdbbaopgmapmaaaX1
import Derived.Test.YtdbbaopgmapmaaaHmG10
set_option linter.unusedSimpArgs false
set_option linter.unusedVariables false
namespace Go.Proofs.Ytdbbaopgmapmaaa
open Go Go.Hm
/-! ### The least table: its states as they are come to -/
def idxV (x : Int) : List Int → Nat → Option Nat
  | [], _ => none
  | v :: l, k => if x = v then some k else idxV x l (k + 1)
def kEntI : List Int → Nat → List (AV × AV)
  | [], _ => []
  | v :: l, k => (I v, I k) :: kEntI l (k + 1)
theorem eqKey_i (a b : Int) : eqKey false [1] (I a) (I b) = some (decide (a = b)) := by
  simp only [eqKey, eqScalar]
  by_cases h : a = b <;> simp [h]
theorem keyOk_i (a : Int) : keyOk false [1] (I a) = true := by unfold keyOk; rw [eqKey_i]; simp
theorem mget_i (x : Int) : ∀ (l : List Int) (k : Nat), mget false [1] (I x) (kEntI l k) = some ((idxV x l k).map fun i => I (i : Nat))
  | [], _ => rfl
  | v :: l, k => by
    have ih := mget_i x l (k + 1)
    simp only [kEntI, mget, idxV, eqKey_i]
    by_cases h : x = v
    · rw [if_pos h, decide_eq_true h]; rfl
    · rw [if_neg h, decide_eq_false h]; exact ih
theorem mset_i (x : Int) : ∀ (l : List Int) (k : Nat), idxV x l k = none → mset false [1] (I x) (I ((k + l.length : Nat) : Int)) (kEntI l k) = some (kEntI (l ++ [x]) k)
  | [], _, _ => rfl
  | v :: l, k, hn => by
    simp only [idxV] at hn
    by_cases h : x = v
    · rw [if_pos h] at hn; cases hn
    · rw [if_neg h] at hn
      have ih := mset_i x l (k + 1) hn
      simp only [kEntI, mset, List.cons_append, eqKey_i, decide_eq_false h]
      have e : k + (v :: l).length = k + 1 + l.length := by simp only [List.length_cons]; omega
      rw [e, ih]
theorem idxV_none {x : Int} : ∀ {l : List Int} {k : Nat}, idxV x l k = none → x ∉ l
  | [], _, _, h => by cases h
  | v :: l, k, hn, h => by
    simp only [idxV] at hn
    by_cases e : x = v
    · rw [if_pos e] at hn; cases hn
    · rw [if_neg e] at hn
      rcases List.mem_cons.1 h with h | h
      · exact e h
      · exact idxV_none hn h
theorem idxV_some {x : Int} : ∀ {l : List Int} {k i : Nat}, idxV x l k = some i → k ≤ i ∧ i < k + l.length ∧ l[i - k]? = some x
  | [], _, _, h => by cases h
  | v :: l, k, i, h => by
    simp only [idxV] at h
    by_cases e : x = v
    · rw [if_pos e] at h
      obtain rfl := Option.some.inj h
      exact ⟨Nat.le_refl _, by simp, by rw [Nat.sub_self, e]; rfl⟩
    · rw [if_neg e] at h
      obtain ⟨h1, h2, h3⟩ := idxV_some h
      refine ⟨by omega, by simp only [List.length_cons]; omega, ?_⟩
      rw [show i - k = (i - (k + 1)) + 1 by omega]
      exact h3
/-- One byte's way is gone. -/
def leS (dead : Int → Bool) (cls : Int → Int) (s : List Int × List Int) (t : Int) : List Int × List Int :=
  if dead t = true then (s.1, s.2 ++ [-1]) else match idxV (cls t) (s.1.map cls) 0 with
  | some k => (s.1, s.2 ++ [(k : Int)])
  | none => (s.1 ++ [t], s.2 ++ [(s.1.length : Int)])
def leX (dead : Int → Bool) (cls : Int → Int) (nx : List Int) : Nat → List Int → List Int → Nat → List Int × List Int
  | 0, Q, N, _ => (Q, N)
  | f + 1, Q, N, i => match Q[i]? with
    | none => (Q, N)
    | some q => leX dead cls nx f ((rowV nx q.toNat).foldl (leS dead cls) (Q, N)).1 ((rowV nx q.toNat).foldl (leS dead cls) (Q, N)).2 (i + 1)
def ruleL (rl : List Int) (Q : List Int) : List Int := Q.map fun q => rl.getD q.toNat 0
/-- What is kept of the states that were come to. -/
structure SOk (cls : Int → Int) (n : Nat) (Q : List Int) : Prop where
  bd : ∀ q ∈ Q, 0 ≤ q ∧ q < n
  nodup : (Q.map cls).Nodup
theorem SOk.len {cls : Int → Int} {n : Nat} {Q : List Int} (h : SOk cls n Q) : Q.length ≤ n := by
  have nd : Q.Nodup := by
    have := h.nodup
    rw [List.nodup_iff_pairwise_ne, List.pairwise_map] at this
    rw [List.nodup_iff_pairwise_ne]
    exact this.imp fun h e => h (by rw [e])
  have nd2 : (Q.map Int.toNat).Nodup := by
    rw [List.nodup_iff_pairwise_ne] at nd ⊢
    rw [List.pairwise_map]
    refine List.Pairwise.imp_of_mem ?_ nd
    intro a b ha hb hne e
    have := h.bd a ha
    have := h.bd b hb
    exact hne (by omega)
  have sub : Q.map Int.toNat ⊆ List.range n := by
    intro x hx
    obtain ⟨q, hq, rfl⟩ := List.mem_map.1 hx
    have := h.bd q hq
    rw [List.mem_range]; omega
  have := List.Nodup.length_le_of_subset nd2 sub
  simpa using this
theorem SOk.step {dead : Int → Bool} {cls : Int → Int} {n : Nat} {s : List Int × List Int} (h : SOk cls n s.1) {t : Int} (ht : dead t = false → 0 ≤ t ∧ t < n) : SOk cls n (leS dead cls s t).1 := by
  unfold leS
  cases hd : dead t with
  | true => rw [if_pos rfl]; exact h
  | false =>
    rw [if_neg (by simp)]
    cases hx : idxV (cls t) (s.1.map cls) 0 with
    | some k => exact h
    | none =>
      refine ⟨fun q hq => ?_, ?_⟩
      · rcases List.mem_append.1 hq with hq | hq
        · exact h.bd q hq
        · obtain rfl := List.mem_singleton.1 hq
          exact ht hd
      · show ((s.1 ++ [t]).map cls).Nodup
        rw [List.map_append, List.nodup_append]
        refine ⟨h.nodup, by simp, fun a ha b hb e => ?_⟩
        have hb := List.mem_singleton.1 hb
        rw [e, hb] at ha
        exact idxV_none hx ha
theorem leS_mono {dead : Int → Bool} {cls : Int → Int} {s : List Int × List Int} {t : Int} {i : Nat} {q : Int} (h : s.1[i]? = some q) : (leS dead cls s t).1[i]? = some q := by
  unfold leS
  split
  · exact h
  · split
    · exact h
    · show (s.1 ++ [t])[i]? = some q
      rw [List.getElem?_append_left (lt_of_get h)]; exact h
theorem leS_len (dead : Int → Bool) (cls : Int → Int) (s : List Int × List Int) (t : Int) : (leS dead cls s t).2.length = s.2.length + 1 := by
  unfold leS
  split
  · simp
  · split <;> simp
/-! ### Its memory -/
def oneB (l : List Int) : Heap := if l = [] then [] else [.cells (ints l)]
def LH (H : Heap) (K : List Int) (Q R N : List Int) : Heap := H ++ ([.cells (ints Q), .map (kEntI K 0)] ++ (oneB R ++ oneB N))
def rV (b : Nat) (l : List Int) : AV := if l = [] then .e0 else .hs b l.length 0 l.length 1
theorem LH_0 (H : Heap) (K Q R N : List Int) : (LH H K Q R N)[H.length]? = some (.cells (ints Q)) := by unfold LH; rw [get_at0]; rfl
theorem LH_1 (H : Heap) (K Q R N : List Int) : (LH H K Q R N)[H.length + 1]? = some (.map (kEntI K 0)) := by unfold LH; rw [Hm.get_at]; rfl
theorem LH_2 (H : Heap) (K Q N : List Int) {R : List Int} (h : R ≠ []) : (LH H K Q R N)[H.length + 2]? = some (.cells (ints R)) := by
  unfold LH oneB; rw [Hm.get_at, if_neg h]; rfl
theorem LH_3 (H : Heap) (K Q : List Int) {R N : List Int} (h : R ≠ []) (h2 : N ≠ []) : (LH H K Q R N)[H.length + 3]? = some (.cells (ints N)) := by
  unfold LH oneB; rw [Hm.get_at, if_neg h, if_neg h2]; rfl
theorem LH_take (H : Heap) (K Q R N : List Int) : (LH H K Q R N).take H.length = H := by unfold LH; rw [take_at]
theorem LH_map (H : Heap) (K K2 Q R N : List Int) : (LH H K Q R N).set (H.length + 1) (.map (kEntI K2 0)) = LH H K2 Q R N := by
  unfold LH; rw [Hm.set_at]; rfl
theorem LH_st (H : Heap) (K Q R N : List Int) (v : Int) : (LH H K Q R N).set H.length (.cells (ints Q ++ [I v])) = LH H K (Q ++ [v]) R N := by
  unfold LH; rw [Hm.set_at0, ints_app]; rfl
theorem LH_len (H : Heap) (K Q R N : List Int) : H.length + 2 ≤ (LH H K Q R N).length := by unfold LH; simp
/-- What is told of a value by its head. -/
def OneOk (v : AV) : Prop := one v = true ∧ isRp v = false ∧ (∀ B d, vOk B d v = true)
theorem one_val (v : Value) : OneOk (.val v) := ⟨rfl, rfl, fun _ _ => rfl⟩
theorem one_sl (n : Nat) (c : List AV) : OneOk (.sl n c) := ⟨rfl, rfl, fun _ _ => rfl⟩
theorem one_e0 : OneOk .e0 := ⟨rfl, rfl, fun _ _ => rfl⟩
theorem one_hs (b g off n es : Nat) : OneOk (.hs b g off n es) := ⟨rfl, rfl, fun _ _ => rfl⟩
theorem one_rV (b : Nat) (l : List Int) : OneOk (rV b l) := by
  unfold rV
  split
  · exact one_e0
  · exact one_hs ..
/-- A number is appended to the rules, to the ways. -/
theorem app_R {lk lim d : Nat} {a b : AO} {env : Env} {H : Heap} {K Q R N : List Int} {v : Int} (ha : ev env a = rV (H.length + 2) R) (hb : ev env b = .sl 1 [I v]) (hN : R = [] → N = []) (hlk : lk ≤ H.length) (hr : R.length ≤ 1000000) :
    exOp lk lim 0 (some d) (.app 1 8 a b) env (LH H K Q R N) = (match put (some d) (rV (H.length + 2) (R ++ [v])) env with | some e => some (e, LH H K Q (R ++ [v]) N) | none => none) := by
  have hro : (R.length + 1) * 8 ≤ room := by unfold room; omega
  have hro1 : 8 ≤ room := by unfold room; omega
  by_cases hR : R = []
  · have hN2 := hN hR
    subst hR; subst hN2
    have hl : (LH H K Q [] []).length = H.length + 2 := by unfold LH oneB; simp
    have he : LH H K Q [] [] ++ [.cells [I v]] = LH H K Q [v] [] := by unfold LH oneB; simp [ints]
    simp only [exOp, ha, hb, srcCells, rV, List.nil_append, List.length_cons, List.length_nil, hl, he]
    simp [hro1]
    rw [he]
    cases noRp d env <;> rfl
  · have g := LH_2 H K Q N hR
    have he : (LH H K Q R N).set (H.length + 2) (.cells (ints R ++ [I v])) = LH H K Q (R ++ [v]) N := by
      unfold LH oneB; rw [Hm.set_at, if_neg hR, if_neg (show ¬ R ++ [v] = [] from fun h => by simp at h), ints_app]; rfl
    have hl : lk ≤ H.length + 2 := by omega
    simp only [exOp, ha, hb, srcCells, rV, hR, if_false, g]
    simp [hro, setH, hl, he, ints_len]
    cases noRp d env <;> rfl
theorem app_N {lk lim d : Nat} {a b : AO} {env : Env} {H : Heap} {K Q R N : List Int} {v : Int} (ha : ev env a = rV (H.length + 3) N) (hb : ev env b = .sl 1 [I v]) (hR : R ≠ []) (hlk : lk ≤ H.length) (hr : N.length ≤ 1000000) :
    exOp lk lim 0 (some d) (.app 1 8 a b) env (LH H K Q R N) = (match put (some d) (rV (H.length + 3) (N ++ [v])) env with | some e => some (e, LH H K Q R (N ++ [v])) | none => none) := by
  have hro : (N.length + 1) * 8 ≤ room := by unfold room; omega
  have hro1 : 8 ≤ room := by unfold room; omega
  by_cases hN : N = []
  · subst hN
    have hl : (LH H K Q R []).length = H.length + 3 := by unfold LH oneB; simp [hR]
    have he : LH H K Q R [] ++ [.cells [I v]] = LH H K Q R [v] := by unfold LH oneB; simp [ints]
    simp only [exOp, ha, hb, srcCells, rV, List.nil_append, List.length_cons, List.length_nil, hl, he]
    simp [hro1]
    rw [he]
    cases noRp d env <;> rfl
  · have g := LH_3 H K Q hR hN
    have he : (LH H K Q R N).set (H.length + 3) (.cells (ints N ++ [I v])) = LH H K Q R (N ++ [v]) := by
      unfold LH oneB; rw [Hm.set_at, if_neg hR, if_neg hN, if_neg (show ¬ N ++ [v] = [] from fun h => by simp at h), ints_app]; rfl
    have hl : lk ≤ H.length + 3 := by omega
    simp only [exOp, ha, hb, srcCells, rV, hN, if_false, g]
    simp [hro, setH, hl, he, ints_len]
    cases noRp d env <;> rfl
theorem rV_cases (b : Nat) (l : List Int) : (rV b l = .e0 ∧ l = []) ∨ (rV b l = .hs b l.length 0 l.length 1 ∧ l ≠ []) := by
  unfold rV
  by_cases h : l = []
  · rw [if_pos h]; exact .inl ⟨rfl, h⟩
  · rw [if_neg h]; exact .inr ⟨rfl, h⟩
theorem ev_rV {env : Env} {t b : Nat} {l : List Int} (h : find env t = rV b l) : ev env (.tmp t) = rV b l := by
  simp only [ev, h]
  rcases rV_cases b l with ⟨e, _⟩ | ⟨e, _⟩ <;> rw [e]
theorem noRp_rV (d t b : Nat) (l : List Int) (env : Env) : noRp d ((t, rV b l) :: env) = noRp d env := by
  rcases rV_cases b l with ⟨e, _⟩ | ⟨e, _⟩ <;> rw [e] <;> rfl
theorem rV_app (b : Nat) (l : List Int) (v : Int) : rV b (l ++ [v]) = .hs b (l.length + 1) 0 (l.length + 1) 1 := by
  unfold rV
  rw [if_neg (by simp)]; simp
end Go.Proofs.Ytdbbaopgmapmaaa
