import Derived.Test.YtikedgpcgacgoaaS
set_option linter.unusedSimpArgs false
set_option linter.unusedVariables false
namespace Go.Proofs.Ytikedgpcgacgoaa
open Go Go.Hm

/-! ### Rows in memory, or frozen -/
inductive IS (H : Heap) (r : List Int) : AV → Prop
  | e0 : r = [] → IS H r .e0
  | sl : IS H r (.sl r.length (ints r))
  | hs (b : Nat) : H[b]? = some (.cells (ints r)) → IS H r (.hs b r.length 0 r.length 1)
/-- The cells of productions. -/
structure PC (H : Heap) (ps : List Pr) (cs : List AV) : Prop where
  len : cs.length = 2 * ps.length
  row : ∀ i (h : i < ps.length), ∃ v, (cs.drop (i * 2)).take 2 = [I ps[i].l, v] ∧ IS H ps[i].r v
inductive PS (H : Heap) (ps : List Pr) : AV → Prop
  | e0 : ps = [] → PS H ps .e0
  | sl (cs : List AV) : PC H ps cs → PS H ps (.sl ps.length cs)
  | hs (b : Nat) (cs : List AV) : H[b]? = some (.cells cs) → PC H ps cs → PS H ps (.hs b (2 * ps.length) 0 ps.length 2)
theorem IS.forms {H : Heap} {r : List Int} {v : AV} (h : IS H r v) : v = .e0 ∨ v = .sl r.length (ints r) ∨ ∃ b, v = .hs b r.length 0 r.length 1 := by
  cases h with
  | e0 h => exact .inl rfl
  | sl => exact .inr (.inl rfl)
  | hs b h => exact .inr (.inr ⟨b, rfl⟩)
theorem IS.arg {H : Heap} {r : List Int} {v : AV} (h : IS H r v) : argOk v = true := by cases h <;> rfl
theorem PS.arg {H : Heap} {r : List Pr} {v : AV} (h : PS H r v) : argOk v = true := by cases h <;> rfl
theorem PC_psC (H : Heap) (ps : List Pr) : PC H ps (psC ps) := ⟨psC_len ps, fun i h => ⟨_, psC_sub h, .sl⟩⟩
theorem PS_psC (H : Heap) (ps : List Pr) : PS H ps (.sl ps.length (psC ps)) := .sl _ (PC_psC H ps)
set_option maxRecDepth 20000 in
/-- Rows are equal. -/
theorem eq48_code {lk lim : Nat} {H : Heap} (r s : List Int) (hr : r.length ≤ 1000000) (hs : s.length ≤ 1000000) (v w : AV) (hv : IS H r v) (hw : IS H s w) :
    callW X A lk lim 48 [v, w] H = some (Bo (decide (r = s)), H) := by
  refine wb_callB [] rfl A48 rfl (by cases hv <;> cases hw <;> rfl) ?_
  unfold t48B
  by_cases hnm : r.length = s.length
  case neg =>
    have hne : ¬ r = s := fun h => by rw [h] at hnm; exact hnm rfl
    have hb : ((r.length : Int) != (s.length : Int)) = true := bne_iff_ne.2 (by omega)
    cases hv with
    | e0 h1 =>
      subst h1
      have h3 : ((0 : Int) != (s.length : Int)) = true := hb
      have h4 : ¬ [] = s := hne
      cases hw with
      | e0 h2 => exact absurd h2.symm h4
      | sl => simp [h3, h4]
      | hs d hd => simp [h3, h4]
    | sl =>
      cases hw with
      | e0 h2 =>
        subst h2
        have h3 : ((r.length : Int) != (0 : Int)) = true := hb
        simp [h3, hne]
      | sl => simp [hb, hne]
      | hs d hd => simp [hb, hne]
    | hs c hc =>
      cases hw with
      | e0 h2 =>
        subst h2
        have h3 : ((r.length : Int) != (0 : Int)) = true := hb
        simp [h3, hne]
      | sl => simp [hb, hne]
      | hs d hd => simp [hb, hne]
  by_cases h0 : r.length = 0
  · have hr0 : r = [] := List.length_eq_zero_iff.1 h0
    have hs0 : s = [] := List.length_eq_zero_iff.1 (by omega)
    subst hr0
    subst hs0
    cases hv <;> cases hw <;> simp <;> (refine wb_loop0 ?_; unfold t48L1; simp)
  have hb : ((r.length : Int) != (s.length : Int)) = false := by rw [hnm]; simp
  have main : ∀ env : Env, restrict [0, 1, 12, 13] env = [(0, v), (1, w), (12, I r.length), (13, I 0)] → WB ⟨callW X A, lk, H.length, []⟩ (.loop [0, 1, 12, 13] t48L1) (BlkE 0 (Fol ⟨callW X A, lk, H.length, []⟩ (.seq (.regN [] [⟨(some 4), none, .mv (.con (.val (.bool true))), 0, false⟩]) .ret) (FinT [.tmp 4] true H (Bo (decide (r = s)), H))))
      env H := by
    intro env hE
    refine wb_loop (σ := Nat) (fun i => [(0, v), (1, w), (12, I r.length), (13, I i)]) (fun _ => H) (fun i => i ≤ r.length ∧ (r = s ↔ r.drop i = s.drop i)) (fun i => r.length - i) ?_ 0 (by simp) hE rfl
    rintro i ⟨hi, hinv⟩
    unfold t48L1
    have w1 : IntKind.i64.wrap ((i : Int) + 1) = (i : Int) + 1 := wrap64 (by omega) (by omega)
    by_cases hil : i < r.length
    case neg =>
      obtain rfl : i = r.length := by omega
      rw [List.drop_of_length_le (by omega), List.drop_of_length_le (by omega)] at hinv
      have hinv : r = s := hinv.2 rfl
      simp [hinv]
    have his : i < s.length := by omega
    rw [List.drop_eq_getElem_cons hil, List.drop_eq_getElem_cons his] at hinv
    obtain ⟨x, hx⟩ : ∃ x, r[i] = x := ⟨_, rfl⟩
    obtain ⟨y, hy⟩ : ∃ y, s[i] = y := ⟨_, rfl⟩
    rw [hx, hy] at hinv
    by_cases hxy : x = y
    · subst hxy
      have hinv2 : r = s ↔ r.drop (i + 1) = s.drop (i + 1) := by rw [hinv]; simp
      cases hv with
      | e0 h => subst h; simp at hil
      | sl =>
        cases hw with
        | e0 h => subst h; simp at his
        | sl =>
          simp [hil, his, ints_get, hx, hy, w1]
          rw [rnd_nrm]
          exact ⟨i + 1, ⟨by omega, hinv2⟩, by omega, by simp, rfl⟩
        | hs d hd =>
          simp [hil, his, ints_get, hx, hy, w1, hd]
          rw [rnd_nrm]
          exact ⟨i + 1, ⟨by omega, hinv2⟩, by omega, by simp, rfl⟩
      | hs c hc =>
        cases hw with
        | e0 h => subst h; simp at his
        | sl =>
          simp [hil, his, ints_get, hx, hy, w1, hc]
          rw [rnd_nrm]
          exact ⟨i + 1, ⟨by omega, hinv2⟩, by omega, by simp, rfl⟩
        | hs d hd =>
          simp [hil, his, ints_get, hx, hy, w1, hc, hd]
          rw [rnd_nrm]
          exact ⟨i + 1, ⟨by omega, hinv2⟩, by omega, by simp, rfl⟩
    · have hne : ¬ r = s := fun h => by have := hinv.1 h; simp [hxy] at this
      cases hv with
      | e0 h => subst h; simp at hil
      | sl =>
        cases hw with
        | e0 h => subst h; simp at his
        | sl => simp [hil, his, ints_get, hx, hy, hxy, hne]
        | hs d hd => simp [hil, his, ints_get, hx, hy, hxy, hne, hd]
      | hs c hc =>
        cases hw with
        | e0 h => subst h; simp at his
        | sl => simp [hil, his, ints_get, hx, hy, hxy, hne, hc]
        | hs d hd => simp [hil, his, ints_get, hx, hy, hxy, hne, hc, hd]
  cases hv with
  | e0 h => subst h; simp at h0
  | sl =>
    cases hw with
    | e0 h => exact absurd (by rw [hnm, h]; rfl) h0
    | sl => simp [hb]; exact main _ (by simp)
    | hs d hd => simp [hb]; exact main _ (by simp)
  | hs c hc =>
    cases hw with
    | e0 h => exact absurd (by rw [hnm, h]; rfl) h0
    | sl => simp [hb]; exact main _ (by simp)
    | hs d hd => simp [hb]; exact main _ (by simp)
theorem pr_ext (p q : Pr) : (p.l = q.l ∧ p.r = q.r) ↔ p = q := by
  obtain ⟨a, b⟩ := p
  obtain ⟨c, d⟩ := q
  simp
instance : DecidableEq Pr := fun p q => decidable_of_iff _ (pr_ext p q)
theorem gm_ext (g h : Gm) : (g.t = h.t ∧ g.n = h.n ∧ g.k = h.k ∧ g.ps = h.ps) ↔ g = h := by
  obtain ⟨a, b, c, d⟩ := g
  obtain ⟨a', b', c', d'⟩ := h
  simp
instance : DecidableEq Gm := fun p q => decidable_of_iff _ (gm_ext p q)
set_option maxRecDepth 20000 in
/-- Productions are equal. -/
theorem eq47_code {lk lim : Nat} {H : Heap} (p q : Pr) (hr : p.r.length ≤ 1000000) (hs : q.r.length ≤ 1000000) (v w : AV) (hv : IS H p.r v) (hw : IS H q.r w) :
    callW X A lk lim 47 [.agg [I p.l, v], .agg [I q.l, w]] H = some (Bo (decide (p = q)), H) := by
  have k := fun L => eq48_code (lk := lk) (lim := L) (H := H) p.r q.r hr hs v w hv hw
  refine wb_callB [2, 3] rfl A47 rfl rfl ?_
  unfold t47B
  obtain ⟨a, b⟩ := p
  obtain ⟨c, d⟩ := q
  simp only at k
  by_cases h1 : a = c
  · subst h1
    have e : decide ((⟨a, b⟩ : Pr) = ⟨a, d⟩) = decide (b = d) := by
      rw [decide_eq_decide]; simp
    rw [e]
    generalize decide (b = d) = z at k
    rcases hv.forms with rfl | rfl | ⟨x, rfl⟩ <;> rcases hw.forms with rfl | rfl | ⟨y, rfl⟩ <;> simp [k]
  · have e : decide ((⟨a, b⟩ : Pr) = ⟨c, d⟩) = false := decide_eq_false (by simp [h1])
    rw [e]
    have hb : (a == c) = false := beq_eq_false_iff_ne.2 h1
    rcases hv.forms with rfl | rfl | ⟨x, rfl⟩ <;> rcases hw.forms with rfl | rfl | ⟨y, rfl⟩ <;> simp [hb]
theorem PS.forms {H : Heap} {ps : List Pr} {v : AV} (h : PS H ps v) : (v = .e0 ∧ ps = []) ∨ (∃ cs, v = .sl ps.length cs ∧ PC H ps cs) ∨ ∃ b cs, v = .hs b (2 * ps.length) 0 ps.length 2 ∧ H[b]? = some (.cells cs) ∧ PC H ps cs := by
  cases h with
  | e0 h => exact .inl ⟨rfl, h⟩
  | sl cs h => exact .inr (.inl ⟨cs, rfl, h⟩)
  | hs b cs h1 h2 => exact .inr (.inr ⟨b, cs, rfl, h1, h2⟩)
set_option maxRecDepth 20000 in
/-- Rows of productions are equal. -/
theorem eq46_code {lk lim : Nat} {H : Heap} (ps qs : List Pr) (hr : ps.length ≤ 1000000) (hs : qs.length ≤ 1000000) (hr2 : ∀ p ∈ ps, p.r.length ≤ 1000000) (hs2 : ∀ p ∈ qs, p.r.length ≤ 1000000) (v w : AV) (hv : PS H ps v) (hw : PS H qs w) :
    callW X A lk lim 46 [v, w, .fn 47 []] H = some (Bo (decide (ps = qs)), H) := by
  have k := fun (L : Nat) (p q : Pr) hp hq v w hv hw => eq47_code (lk := lk) (lim := L) (H := H) p q hp hq v w hv hw
  refine wb_callB [8, 9] rfl A46 rfl (by cases hv <;> cases hw <;> rfl) ?_
  unfold t46B
  generalize callW X A = C at k ⊢
  by_cases hnm : ps.length = qs.length
  case neg =>
    have hne : ¬ ps = qs := fun h => by rw [h] at hnm; exact hnm rfl
    have hb : ((ps.length : Int) != (qs.length : Int)) = true := bne_iff_ne.2 (by omega)
    rcases hv.forms with ⟨rfl, h1⟩ | ⟨cs, rfl, h1⟩ | ⟨b, cs, rfl, h0, h1⟩ <;> rcases hw.forms with ⟨rfl, h2⟩ | ⟨ds, rfl, h2⟩ | ⟨d, ds, rfl, h3, h2⟩
    · exact absurd (by rw [h1, h2]) hne
    · subst h1
      have hb : ((0 : Int) != (qs.length : Int)) = true := hb
      simp [hb, hne]
    · subst h1
      have hb : ((0 : Int) != (qs.length : Int)) = true := hb
      simp [hb, hne]
    · subst h2
      have hb : ((ps.length : Int) != (0 : Int)) = true := hb
      simp [hb, hne]
    · simp [hb, hne]
    · simp [hb, hne]
    · subst h2
      have hb : ((ps.length : Int) != (0 : Int)) = true := hb
      simp [hb, hne]
    · simp [hb, hne]
    · simp [hb, hne]
  have hb : ((ps.length : Int) != (qs.length : Int)) = false := by rw [hnm]; simp
  by_cases h0 : ps.length = 0
  · have hr0 : ps = [] := List.length_eq_zero_iff.1 h0
    have hs0 : qs = [] := List.length_eq_zero_iff.1 (by omega)
    subst hr0
    subst hs0
    rcases hv.forms with ⟨rfl, h1⟩ | ⟨cs, rfl, h1⟩ | ⟨b, cs, rfl, h0, h1⟩ <;> rcases hw.forms with ⟨rfl, h2⟩ | ⟨ds, rfl, h2⟩ | ⟨d, ds, rfl, h3, h2⟩ <;> simp <;> (refine wb_loop0 ?_; unfold t46L1; simp)
  have main : ∀ env : Env, restrict [1, 2, 15, 16, 17] env = [(1, w), (2, .fn 47 []), (15, v), (16, I ps.length), (17, I 0)] → WB ⟨C, lk, H.length, [8, 9]⟩ (.loop [1, 2, 15, 16, 17] t46L1) (BlkE 0 (Fol ⟨C, lk, H.length, [8, 9]⟩ (.seq (.regN [] [⟨(some 6), none, .mv (.con (.val (.bool true))), 0, false⟩]) .ret) (FinT [.tmp 6] true H (Bo (decide (ps = qs)), H))))
      env H := by
    intro env hE
    refine wb_loop (σ := Nat) (fun i => [(1, w), (2, .fn 47 []), (15, v), (16, I ps.length), (17, I i)]) (fun _ => H) (fun i => i ≤ ps.length ∧ (ps = qs ↔ ps.drop i = qs.drop i)) (fun i => ps.length - i) ?_ 0 (by simp) hE rfl
    rintro i ⟨hi, hinv⟩
    unfold t46L1
    have w1 : IntKind.i64.wrap ((i : Int) + 1) = (i : Int) + 1 := wrap64 (by omega) (by omega)
    by_cases hil : i < ps.length
    case neg =>
      obtain rfl : i = ps.length := by omega
      rw [List.drop_of_length_le (by omega), List.drop_of_length_le (by omega)] at hinv
      have hinv : ps = qs := hinv.2 rfl
      simp [hinv]
    have his : i < qs.length := by omega
    rw [List.drop_eq_getElem_cons hil, List.drop_eq_getElem_cons his, List.cons.injEq] at hinv
    have hpl := hr2 ps[i] (List.getElem_mem hil)
    have hql := hs2 qs[i] (List.getElem_mem his)
    have fin : ∀ E : Env, ps[i] = qs[i] → E = [(1, w), (2, .fn 47 []), (15, v), (16, I ps.length), (17, I ((i : Int) + 1))] → ∃ i' : Nat, (i' ≤ ps.length ∧ (ps = qs ↔ ps.drop i' = qs.drop i')) ∧ ps.length - i' < ps.length - i ∧ E = [(1, w), (2, .fn 47 []), (15, v), (16, I ps.length), (17, I i')] ∧ H = H := fun E he h => ⟨i + 1, ⟨by omega, hinv.trans ⟨fun h => h.2, fun h => ⟨he, h⟩⟩⟩, by omega, by rw [h]; simp, rfl⟩
    have hno : ¬ ps[i] = qs[i] → ¬ ps = qs := fun hn h => hn (hinv.1 h).1
    rcases hv.forms with ⟨rfl, h1⟩ | ⟨cs, rfl, h1⟩ | ⟨b, cs, rfl, hh1, h1⟩
    · rw [h1] at hil; simp at hil
    · rcases hw.forms with ⟨rfl, h2⟩ | ⟨ds, rfl, h2⟩ | ⟨d, ds, rfl, hh2, h2⟩
      · rw [h2] at his; simp at his
      · obtain ⟨x, hx1, hx2⟩ := h1.row i hil
        obtain ⟨y, hy1, hy2⟩ := h2.row i his
        have hcl := h1.len
        have hdl := h2.len
        have kk := fun L => k L ps[i] qs[i] hpl hql x y hx2 hy2
        have hi2 : i * 2 + 2 ≤ 2 * ps.length := by omega
        have hj2 : i * 2 + 2 ≤ 2 * qs.length := by omega
        have ax := hx2.forms
        have ay := hy2.forms
        generalize ps[i] = p at hx1 hx2 kk ax fin hno
        generalize qs[i] = q at hy1 hy2 kk ay fin hno
        obtain ⟨pl, pr⟩ := p
        obtain ⟨ql, qr⟩ := q
        simp only at ax ay hx1 hy1 kk
        by_cases he : (⟨pl, pr⟩ : Pr) = ⟨ql, qr⟩
        · have fin := fun E => fin E he
          rw [decide_eq_true he] at kk
          simp [-wi_stL, hil, hx1, hcl, hi2, hil]
          rw [wi_stL]
          simp [-wi_stL, replaceAt, his, hy1, hdl, hj2, hil]
          rw [wi_stL]
          rcases ax with rfl | rfl | ⟨m, rfl⟩ <;> rcases ay with rfl | rfl | ⟨m', rfl⟩ <;> (simp [replaceAt, kk, w1]; rw [rnd_nrm]; refine fin _ ?_; simp)
        · have hno := hno he
          rw [decide_eq_false he] at kk
          rw [decide_eq_false hno]
          simp [-wi_stL, hil, hx1, hcl, hi2, hil]
          rw [wi_stL]
          simp [-wi_stL, replaceAt, his, hy1, hdl, hj2, hil]
          rw [wi_stL]
          rcases ax with rfl | rfl | ⟨m, rfl⟩ <;> rcases ay with rfl | rfl | ⟨m', rfl⟩ <;> simp [replaceAt, kk, w1]
      · obtain ⟨x, hx1, hx2⟩ := h1.row i hil
        obtain ⟨y, hy1, hy2⟩ := h2.row i his
        have hcl := h1.len
        have hdl := h2.len
        have kk := fun L => k L ps[i] qs[i] hpl hql x y hx2 hy2
        have hi2 : i * 2 + 2 ≤ 2 * ps.length := by omega
        have hj2 : i * 2 + 2 ≤ 2 * qs.length := by omega
        have ax := hx2.forms
        have ay := hy2.forms
        generalize ps[i] = p at hx1 hx2 kk ax fin hno
        generalize qs[i] = q at hy1 hy2 kk ay fin hno
        obtain ⟨pl, pr⟩ := p
        obtain ⟨ql, qr⟩ := q
        simp only at ax ay hx1 hy1 kk
        by_cases he : (⟨pl, pr⟩ : Pr) = ⟨ql, qr⟩
        · have fin := fun E => fin E he
          rw [decide_eq_true he] at kk
          simp [-wi_stL, hil, hx1, hcl, hi2, hil]
          rw [wi_stL]
          simp [-wi_stL, replaceAt, his, hy1, hdl, hj2, hh2]
          rw [wi_stL]
          rcases ax with rfl | rfl | ⟨m, rfl⟩ <;> rcases ay with rfl | rfl | ⟨m', rfl⟩ <;> (simp [replaceAt, kk, w1]; rw [rnd_nrm]; refine fin _ ?_; simp)
        · have hno := hno he
          rw [decide_eq_false he] at kk
          rw [decide_eq_false hno]
          simp [-wi_stL, hil, hx1, hcl, hi2, hil]
          rw [wi_stL]
          simp [-wi_stL, replaceAt, his, hy1, hdl, hj2, hh2]
          rw [wi_stL]
          rcases ax with rfl | rfl | ⟨m, rfl⟩ <;> rcases ay with rfl | rfl | ⟨m', rfl⟩ <;> simp [replaceAt, kk, w1]
    · rcases hw.forms with ⟨rfl, h2⟩ | ⟨ds, rfl, h2⟩ | ⟨d, ds, rfl, hh2, h2⟩
      · rw [h2] at his; simp at his
      · obtain ⟨x, hx1, hx2⟩ := h1.row i hil
        obtain ⟨y, hy1, hy2⟩ := h2.row i his
        have hcl := h1.len
        have hdl := h2.len
        have kk := fun L => k L ps[i] qs[i] hpl hql x y hx2 hy2
        have hi2 : i * 2 + 2 ≤ 2 * ps.length := by omega
        have hj2 : i * 2 + 2 ≤ 2 * qs.length := by omega
        have ax := hx2.forms
        have ay := hy2.forms
        generalize ps[i] = p at hx1 hx2 kk ax fin hno
        generalize qs[i] = q at hy1 hy2 kk ay fin hno
        obtain ⟨pl, pr⟩ := p
        obtain ⟨ql, qr⟩ := q
        simp only at ax ay hx1 hy1 kk
        by_cases he : (⟨pl, pr⟩ : Pr) = ⟨ql, qr⟩
        · have fin := fun E => fin E he
          rw [decide_eq_true he] at kk
          simp [-wi_stL, hil, hx1, hcl, hi2, hh1]
          rw [wi_stL]
          simp [-wi_stL, replaceAt, his, hy1, hdl, hj2, hil]
          rw [wi_stL]
          rcases ax with rfl | rfl | ⟨m, rfl⟩ <;> rcases ay with rfl | rfl | ⟨m', rfl⟩ <;> (simp [replaceAt, kk, w1]; rw [rnd_nrm]; refine fin _ ?_; simp)
        · have hno := hno he
          rw [decide_eq_false he] at kk
          rw [decide_eq_false hno]
          simp [-wi_stL, hil, hx1, hcl, hi2, hh1]
          rw [wi_stL]
          simp [-wi_stL, replaceAt, his, hy1, hdl, hj2, hil]
          rw [wi_stL]
          rcases ax with rfl | rfl | ⟨m, rfl⟩ <;> rcases ay with rfl | rfl | ⟨m', rfl⟩ <;> simp [replaceAt, kk, w1]
      · obtain ⟨x, hx1, hx2⟩ := h1.row i hil
        obtain ⟨y, hy1, hy2⟩ := h2.row i his
        have hcl := h1.len
        have hdl := h2.len
        have kk := fun L => k L ps[i] qs[i] hpl hql x y hx2 hy2
        have hi2 : i * 2 + 2 ≤ 2 * ps.length := by omega
        have hj2 : i * 2 + 2 ≤ 2 * qs.length := by omega
        have ax := hx2.forms
        have ay := hy2.forms
        generalize ps[i] = p at hx1 hx2 kk ax fin hno
        generalize qs[i] = q at hy1 hy2 kk ay fin hno
        obtain ⟨pl, pr⟩ := p
        obtain ⟨ql, qr⟩ := q
        simp only at ax ay hx1 hy1 kk
        by_cases he : (⟨pl, pr⟩ : Pr) = ⟨ql, qr⟩
        · have fin := fun E => fin E he
          rw [decide_eq_true he] at kk
          simp [-wi_stL, hil, hx1, hcl, hi2, hh1]
          rw [wi_stL]
          simp [-wi_stL, replaceAt, his, hy1, hdl, hj2, hh2]
          rw [wi_stL]
          rcases ax with rfl | rfl | ⟨m, rfl⟩ <;> rcases ay with rfl | rfl | ⟨m', rfl⟩ <;> (simp [replaceAt, kk, w1]; rw [rnd_nrm]; refine fin _ ?_; simp)
        · have hno := hno he
          rw [decide_eq_false he] at kk
          rw [decide_eq_false hno]
          simp [-wi_stL, hil, hx1, hcl, hi2, hh1]
          rw [wi_stL]
          simp [-wi_stL, replaceAt, his, hy1, hdl, hj2, hh2]
          rw [wi_stL]
          rcases ax with rfl | rfl | ⟨m, rfl⟩ <;> rcases ay with rfl | rfl | ⟨m', rfl⟩ <;> simp [replaceAt, kk, w1]
  rcases hv.forms with ⟨rfl, h1⟩ | ⟨cs, rfl, h1⟩ | ⟨b, cs, rfl, hh1, h1⟩ <;> rcases hw.forms with ⟨rfl, h2⟩ | ⟨ds, rfl, h2⟩ | ⟨d, ds, rfl, hh2, h2⟩
  · exact absurd (by simp [h1]) h0
  · exact absurd (by simp [h1]) h0
  · exact absurd (by simp [h1]) h0
  · exact absurd (by simp [hnm, h2]) h0
  · simp [hb]; exact main _ (by simp)
  · simp [hb]; exact main _ (by simp)
  · exact absurd (by simp [hnm, h2]) h0
  · simp [hb]; exact main _ (by simp)
  · simp [hb]; exact main _ (by simp)
end Go.Proofs.Ytikedgpcgacgoaa
