import Derived.Test.YtoiolinclpiohaaQ
set_option linter.unusedSimpArgs false
set_option linter.unusedVariables false
namespace Go.Proofs.Ytoiolinclpiohaa
open Go Go.Hm

/-! ### The plain law: parts -/
/-- What is behind the end of the looks does not matter. -/
theorem goM_cut (nx rl : List Int) (q : List UInt8) : ∀ (l : List UInt8) (i st r t : Int) (n : Nat), (goM nx rl l i st r t).2.2 = i + n → n ≤ l.length → goM nx rl (l.take n ++ q) i st r t = goM nx rl l i st r t
  | [], i, st, r, t, n, h, h2 => by
    simp only [goM] at h
    simp at h2; omega
  | b :: l, i, st, r, t, n, h, h2 => by
    cases n with
    | zero =>
      have := (goM_e nx rl (b :: l) i st r t).1
      rw [h] at this; omega
    | succ n =>
      rw [List.take_succ_cons, List.cons_append]
      simp only [goM] at h ⊢
      split
      · rfl
      · rename_i hv
        rw [if_neg hv] at h
        split
        · rename_i h3
          rw [if_pos h3] at h
          exact goM_cut nx rl q l (i + 1) _ _ _ n (by omega) (by simpa using h2)
        · rename_i h3
          rw [if_neg h3] at h
          exact goM_cut nx rl q l (i + 1) _ _ _ n (by omega) (by simpa using h2)
theorem nextM_cut (nx rl : List Int) (l q : List UInt8) (a e : Nat) (h : (nextM nx rl l a).2.2 = e) (he : e ≤ l.length) (ha : a ≤ l.length) : nextM nx rl (l.take e ++ q) a = nextM nx rl l a := by
  have h1 := (nextM_e nx rl ha).1
  rw [h] at h1
  unfold nextM at h ⊢
  have := goM_cut nx rl q (l.drop a) a 0 (-1) (a + 1) (e - a) (by rw [h]; omega) (by simp; omega)
  rw [← this]
  congr 1
  rw [List.drop_append_of_le_length (by simp; omega), List.drop_take]
/-- From lexeme i on: what is from place b on. -/
def Chain (nx rl : List Int) (l : List UInt8) (ls : List Lx) (i b : Nat) : Prop := b ≤ l.length ∧ i ≤ ls.length ∧ ∃ n, ls.drop i = allF nx rl l n b ∧ l.length ≤ b + n
theorem chain0 (nx rl : List Int) (l : List UInt8) : Chain nx rl l (allM nx rl l) 0 0 := ⟨Nat.zero_le _, Nat.zero_le _, l.length, rfl, by omega⟩
theorem chain_step {nx rl : List Int} {l : List UInt8} {ls : List Lx} {i b : Nat} (h : Chain nx rl l ls i b) (hi : i < ls.length) : b < l.length ∧ ls[i] = lexOf b (nextM nx rl l b) ∧ Chain nx rl l ls (i + 1) (nextM nx rl l b).2.1.toNat := by
  obtain ⟨h1, h2, n, h3, h4⟩ := h
  rw [List.drop_eq_getElem_cons hi] at h3
  cases n with
  | zero => simp [allF] at h3; omega
  | succ n =>
    simp only [allF] at h3
    split at h3
    · rename_i hb
      have ht := nextM_t nx rl hb
      obtain ⟨e1, e2⟩ := List.cons.inj h3
      exact ⟨hb, e1, by omega, hi, n, e2, by omega⟩
    · cases h3
theorem chain_end {nx rl : List Int} {l : List UInt8} {ls : List Lx} {b : Nat} (h : Chain nx rl l ls ls.length b) : b = l.length := by
  obtain ⟨h1, h2, n, h3, h4⟩ := h
  rw [List.drop_length] at h3
  cases n with
  | zero => omega
  | succ n =>
    simp only [allF] at h3
    split at h3
    · cases h3
    · omega

theorem Sg_app (a b : List UInt8) : (⟨⟨a⟩⟩ : ByteArray) ++ ⟨⟨b⟩⟩ = ⟨⟨a ++ b⟩⟩ := by
  apply ByteArray.ext
  simp [ByteArray.data_append]
theorem abins_app {a b : List UInt8} (h : a.length + b.length ≤ 1000000) : abins .add ⟨⟨a⟩⟩ ⟨⟨b⟩⟩ = some (Sg (a ++ b)) := by
  have hm : IntKind.i64.max = 9223372036854775807 := by decide
  show (if (((a.length + b.length : Nat) : Int)) > IntKind.i64.max then none else some (AV.val (.string (⟨⟨a⟩⟩ ++ ⟨⟨b⟩⟩)))) = _
  rw [hm, if_neg (by omega), Sg_app]
theorem lxD_get {ls : List Lx} {i : Nat} (h : i < ls.length) : ((lxs ls).drop (i * 4)).take 4 = ls[i].cells := lxs_sub h
set_option maxRecDepth 20000 in
theorem parts_code (nx rl : List Int) (l p q : List UInt8) : callW X A 0 0 6 [.agg (Dv nx rl), Sg l, Sg p, Sg q] [] = some (Bo true, []) := by
  refine wb_callB [4, 12, 14] rfl A6 rfl rfl ?_
  unfold t6B
  have k0 := lives_ok
  have k1 := light_code (lk := 0) (lim := 0) (H := []) nx rl 24 (by omega)
  rw [show ((24 : Nat) : Int) = 24 from rfl] at k1
  by_cases a1 : rl.length ≤ 24 ∧ nx.length ≤ 256 * 24
  case neg =>
    have hf : (decide (rl.length ≤ 24) && decide (nx.length ≤ 256 * 24)) = false := by
      rw [← Bool.decide_and]; exact decide_eq_false a1
    rw [hf] at k1
    generalize callW X A = C at k0 k1 ⊢
    simp [k0, k1]
  have ht : (decide (rl.length ≤ 24) && decide (nx.length ≤ 256 * 24)) = true := by
    rw [← Bool.decide_and]; exact decide_eq_true a1
  rw [ht] at k1
  obtain ⟨b1, b2⟩ := a1
  by_cases a2 : (60 : Int) < l.length
  · generalize callW X A = C at k0 k1 ⊢
    simp [k0, k1, Sg_size, a2]
  by_cases a3 : (60 : Int) < p.length
  · generalize callW X A = C at k0 k1 ⊢
    simp [k0, k1, Sg_size, a2, a3]
  by_cases a4 : (60 : Int) < q.length
  · generalize callW X A = C at k0 k1 ⊢
    simp [k0, k1, Sg_size, a2, a3, a4]
  have k2 := check_code (lk := 0) (lim := 0) (H := []) nx rl (by omega) (by omega)
  by_cases a5 : chk nx rl = true
  case neg =>
    rw [chkE_neg a5] at k2
    generalize callW X A = C at k0 k1 k2 ⊢
    simp [k0, k1, Sg_size, a2, a3, a4, k2]
  rw [chkE_pos a5] at k2
  have ok := (chk_ok a5).1
  have k3 := all_code (lk := 0) (lim := 0) (H := []) nx rl l (by omega) (by omega) (by omega) (by simp) (by simp)
  rw [if_pos a5] at k3
  have hch := chain0 nx rl l
  have hlen : (allM nx rl l).length ≤ l.length := allF_len nx rl l _ _
  by_cases hl0 : l = []
  · subst hl0
    have hm : allM nx rl [] = [] := rfl
    rw [hm] at k3
    simp only [lxV, lxH, if_true] at k3
    generalize callW X A = C at k0 k1 k2 k3 ⊢
    simp [k0, k1, Sg_size, a2, a3, a4, k2, k3]
    refine wb_loop0 ?_
    unfold t6L1
    simp [Sg_size]
  have hne := allM_ne nx rl (l := l) (List.length_pos_iff.2 hl0)
  obtain ⟨ls, hls⟩ : ∃ ls, allM nx rl l = ls := ⟨_, rfl⟩
  rw [hls] at k3 hne hch hlen
  simp only [lxV, lxH, hne, if_false, List.length_nil, List.nil_append] at k3
  simp [k0, k1, Sg_size, a2, a3, a4, k2, k3]
  let bx : AV := .box (Dv nx rl)
  refine wb_loop (σ := Nat × Nat) (fun s => [(1, Sg l), (2, Sg p), (3, Sg q), (4, bx), (9, .hs 0 (4 * ls.length) 0 ls.length 4), (10, I s.2), (11, I s.1)])
    (fun _ => [.cells (lxs ls)]) (fun s => Chain nx rl l ls s.1 s.2) (fun s => ls.length - s.1) ?_ (0, 0) hch (by simp [bx]) rfl
  rintro ⟨i, b⟩ hc
  simp only at hc
  unfold t6L1
  have w1 : IntKind.i64.wrap ((i : Int) + 1) = (i : Int) + 1 := wrap64 (by have := hc.2.1; omega) (by have := hc.2.1; omega)
  by_cases hil : i < ls.length
  case neg =>
    obtain rfl : i = ls.length := by have := hc.2.1; omega
    have hb := chain_end hc
    subst hb
    simp [bx, Sg_size]
  obtain ⟨hb, hx, hc2⟩ := chain_step hc hil
  have t1 := nextM_t nx rl hb
  have e1 := nextM_e nx rl (Nat.le_of_lt hb)
  have sh := nextM_shift nx rl (q ++ l) b q.length
  rw [show (q ++ l).drop q.length = l by simp] at sh
  have kA := fun H : Heap => mnext_code (lk := 0) (lim := 0) (H := H) nx rl (q ++ l) (b + q.length : Nat) (by omega) (by omega) (by simp; omega)
  rw [nextV_in (by simp; omega) a5, sh] at kA
  obtain ⟨⟨r, t, e⟩, hn⟩ : ∃ x, nextM nx rl l b = x := ⟨_, rfl⟩
  rw [hn] at hx t1 e1 kA hc2
  simp only at t1 e1 kA hc2
  obtain ⟨t, rfl⟩ := Int.eq_ofNat_of_zero_le (by omega : 0 ≤ t)
  obtain ⟨e, rfl⟩ := Int.eq_ofNat_of_zero_le (by omega : 0 ≤ e)
  simp only [lexC] at kA
  simp only [lexOf] at hx
  have g1 := lxs_f ls i hil
  have g2 := lxs_t ls i hil
  have g3 := lxs_e ls i hil
  have g4 := lxs_sub hil
  have hll := lxs_len ls
  rw [hx] at g1 g2 g3 g4
  simp only [Lx.cells] at g4
  have he := lex_cells_eq ⟨r, b, t, e⟩
  simp only [Lx.cells] at he
  have n1 : ¬ (t : Int) ≤ b := by omega
  have n1' : ¬ t ≤ b := by omega
  have i1 : i * 4 + 1 + 1 ≤ 4 * ls.length := by omega
  have i4 : i * 4 + 4 ≤ 4 * ls.length := by omega
  have w2 : IntKind.i64.wrap ((q.length : Int) + b) = (q.length : Int) + b := wrap64 (by omega) (by omega)
  have w3 : (q.length : Int) + b = ((b + q.length : Nat) : Int) := by omega
  have s1 := abins_app (a := q) (b := l) (by omega)
  rw [← w3] at kA
  have kA := kA [.cells (lxs ls)]
  have w4 : IntKind.i64.wrap ((q.length : Int) + b - q.length) = b := by rw [wrap64 (by omega) (by omega)]; omega
  have w5 : IntKind.i64.wrap ((t : Int) + q.length - q.length) = t := by rw [wrap64 (by omega) (by omega)]; omega
  have w6 : IntKind.i64.wrap ((e : Int) + q.length - q.length) = e := by rw [wrap64 (by omega) (by omega)]; omega
  have w4' : IntKind.i64.wrap (b : Int) = b := wrap64 (by omega) (by omega)
  have w5' : IntKind.i64.wrap (t : Int) = t := wrap64 (by omega) (by omega)
  have w6' : IntKind.i64.wrap (e : Int) = e := wrap64 (by omega) (by omega)
  have kB : e ≤ l.length → callW X A 0 0 17 [.agg (Dv nx rl), Sg (l.take e ++ p), I b] [.cells (lxs ls)] = some (.tup [.agg [I r, I b, I t, I e], Bo true], [.cells (lxs ls)]) := fun hle => by
    have h1 := mnext_code (lk := 0) (lim := 0) (H := [.cells (lxs ls)]) nx rl (l.take e ++ p) b (by omega) (by omega) (by simp; omega)
    rw [nextV_in (by simp; omega) a5, nextM_cut nx rl l p b e (by rw [hn]) hle (by omega), hn] at h1
    exact h1
  generalize callW X A = C at kA kB ⊢
  simp [-wi_stLD, bx, hil, hll, g1, g2, g3, n1, n1', Sg_size, s1, w2, kA]
  rw [wi_stLD]
  simp [-wi_stL, replaceAt, Sg_size, w4, w5, w6, w4', w5', w6']
  rw [wi_stL]
  simp [-wi_stL, replaceAt]
  rw [wi_stL]
  simp [-wi_stL, replaceAt]
  rw [wi_stL]
  by_cases hle : e ≤ l.length
  case neg =>
    simp [-wi_stLD, replaceAt, hil, hll, i4, g4, he, g3, hle, Sg_size, w1, rnd_nrm]
    exact ⟨i + 1, t, by simpa using hc2, by omega, rfl, by simp⟩
  have kB := kB hle
  have s2 := abins_app (a := l.take e) (b := p) (by simp; omega)
  simp [-wi_stLD, replaceAt, hil, hll, i4, g4, he, g1, g3, hle, Sg_size, Sg_ext, bnd, s2, kB]
  rw [wi_stLD]
  simp [replaceAt, hil, hll, i4, g4, he, w1, rnd_nrm]
  exact ⟨i + 1, t, by simpa using hc2, by omega, rfl, by simp⟩
end Go.Proofs.Ytoiolinclpiohaa
