import Derived.Test.YtoiolinclpiohaaK
set_option linter.unusedSimpArgs false
set_option linter.unusedVariables false
namespace Go.Proofs.Ytoiolinclpiohaa
open Go Go.Hm

/-- A slice of lexemes. -/
inductive LxD (H : Heap) : AV → List Lx → Prop
  | nil : LxD H .e0 []
  | hs (b : Nat) (cs : List AV) (off : Nat) (o : List Lx) (h : H[b]? = some (.cells cs)) (hc : ∀ i (h : i < o.length), (cs.drop (off + i * 4)).take 4 = o[i].cells ∧ off + i * 4 + 4 ≤ cs.length) : LxD H (.hs b cs.length off o.length 4) o
theorem lxD_of (H : Heap) (o : List Lx) : LxD (lxH H o) (lxV H.length o) o := by
  unfold lxH lxV
  by_cases h : o = []
  · subst h; simp only [if_true]; exact .nil
  · rw [if_neg h, if_neg h, ← lxs_len o]
    refine .hs _ _ _ _ (by simp) fun i hi => ?_
    rw [Nat.zero_add]
    exact ⟨lxs_sub hi, by rw [lxs_len]; omega⟩
theorem LxD.mono {H H' : Heap} {v : AV} {o : List Lx} (h : LxD H v o) : LxD (H ++ H') v o := by
  cases h with
  | nil => exact .nil
  | hs b cs off o hb hc =>
    refine .hs b cs off o ?_ hc
    have : b < H.length := by
      rcases Nat.lt_or_ge b H.length with h | h
      · exact h
      · rw [List.getElem?_eq_none h] at hb; cases hb
    rw [List.getElem?_append_left this]; exact hb
theorem cells_eq (x y : Lx) : eqCells [1, 1, 1, 1] x.cells y.cells = some (decide (x = y)) := by
  obtain ⟨a, b, c, d⟩ := x
  obtain ⟨a', b', c', d'⟩ := y
  simp only [Lx.cells, eqCells, eqScalar, if_true]
  congr 1
  rw [Bool.eq_iff_iff]
  simp
set_option maxRecDepth 20000 in
theorem same_code {lk lim : Nat} {H : Heap} {v1 v2 : AV} {o1 o2 : List Lx} (h1 : LxD H v1 o1) (h2 : LxD H v2 o2) (l1 : o1.length ≤ 1000000) (l2 : o2.length ≤ 1000000) :
    callW X A lk lim 16 [v1, v2] H = some (Bo (decide (o1 = o2)), H) := by
  have len_ne : ∀ {a b : List Lx}, ¬ a.length = b.length → decide (a = b) = false := fun h => by simp; intro e; subst e; exact h rfl
  cases h1 with
  | nil =>
    cases h2 with
    | nil =>
      refine wb_callB [] rfl A16 rfl rfl ?_
      unfold t16B
      simp
      refine wb_loop0 ?_
      unfold t16L1
      simp
    | hs b cs off o2 hb hc =>
      refine wb_callB [] rfl A16 rfl rfl ?_
      unfold t16B
      cases o2 with
      | nil =>
        simp
        refine wb_loop0 ?_
        unfold t16L1
        simp
      | cons x o2 =>
        have hne : ¬ (0 : Int) = (o2.length : Int) + 1 := by omega
        simp [hne]
  | hs b cs off o1 hb hc =>
    cases h2 with
    | nil =>
      refine wb_callB [] rfl A16 rfl rfl ?_
      unfold t16B
      cases o1 with
      | nil =>
        simp
        refine wb_loop0 ?_
        unfold t16L1
        simp
      | cons x o2 =>
        have hne : ¬ (o2.length : Int) + 1 = 0 := by omega
        simp [hne]
    | hs b' cs' off' o2 hb' hc' =>
      refine wb_callB [] rfl A16 rfl rfl ?_
      unfold t16B
      by_cases hl : o1.length = o2.length
      case neg =>
        have hl' : ¬ (o1.length : Int) = o2.length := by omega
        simp [hl', len_ne hl]
      have hl' : (o1.length : Int) = o2.length := by omega
      simp [hl']
      refine wb_loop (σ := Nat) (fun k => [(0, .hs b cs.length off o1.length 4), (1, .hs b' cs'.length off' o2.length 4), (5, I k)])
        (fun _ => H) (fun k => k ≤ o1.length ∧ (o1 = o2 ↔ o1.drop k = o2.drop k)) (fun k => o1.length - k) ?_ 0 (by simp) (by simp) rfl
      rintro k ⟨hk, hinv⟩
      unfold t16L1
      have hw : IntKind.i64.wrap ((k : Int) + 1) = (k : Int) + 1 := wrap64 (by omega) (by omega)
      simp
      refine wb_if (k < o1.length) (by simp) (fun hlt => ?_) (fun hge => ?_)
      · have hlt' : k < o2.length := by omega
        obtain ⟨c1, c2⟩ := hc k hlt
        obtain ⟨d1, d2⟩ := hc' k hlt'
        rw [List.drop_eq_getElem_cons hlt, List.drop_eq_getElem_cons hlt'] at hinv
        have he := cells_eq o1[k] o2[k]
        have hlt2 : (k : Int) < o1.length := by omega
        have hlt2' : (k : Int) < o2.length := by omega
        by_cases hx : o1[k] = o2[k]
        · rw [hx] at he
          simp [hlt, hlt', hlt2, hlt2', hb, hb', c1, c2, d1, d2, hx, hw, rnd_nrm]
          rw [hx] at hinv
          have hinv2 : o1 = o2 ↔ o1.drop (k + 1) = o2.drop (k + 1) := hinv.trans ⟨fun h => (List.cons.inj h).2, fun h => by rw [h]⟩
          rw [decide_eq_true rfl] at he
          simp [he, hw, rnd_nrm]
          exact ⟨k + 1, ⟨by omega, hinv2⟩, by omega, by simp⟩
        · have hf : decide (o1 = o2) = false := decide_eq_false fun h => hx (List.cons.inj (hinv.1 h)).1
          rw [decide_eq_false hx] at he
          rw [hf]
          simp [hlt, hlt', hlt2, hlt2', hb, hb', c1, c2, d1, d2, he]
      · obtain rfl : k = o1.length := by omega
        have hf : decide (o1 = o2) = true := decide_eq_true (hinv.2 (by simp [hl]))
        simp [hf]
end Go.Proofs.Ytoiolinclpiohaa
