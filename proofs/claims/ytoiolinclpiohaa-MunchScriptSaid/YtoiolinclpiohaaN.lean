import Derived.Test.YtoiolinclpiohaaM
set_option linter.unusedSimpArgs false
set_option linter.unusedVariables false
namespace Go.Proofs.Ytoiolinclpiohaa
open Go Go.Hm

theorem lxs_set1 : ∀ (o : List Lx) (k : Nat) (h : k < o.length) (v : Int), (lxs o).set (k * 4 + 1) (I v) = lxs (o.set k ⟨o[k].r, v, o[k].t, o[k].e⟩)
  | [], _, h, _ => by simp at h
  | x :: o, 0, _, v => rfl
  | x :: o, k + 1, h, v => by
    rw [show (k + 1) * 4 + 1 = (k * 4 + 1) + 1 + 1 + 1 + 1 by omega]
    have h : k < o.length := by simpa using h
    simp only [lxs, Lx.cells, List.cons_append, List.nil_append, List.set_cons_succ, List.getElem_cons_succ]
    rw [lxs_set1 o k h v]
theorem lxs_set2 : ∀ (o : List Lx) (k : Nat) (h : k < o.length) (v : Int), (lxs o).set (k * 4 + 2) (I v) = lxs (o.set k ⟨o[k].r, o[k].f, v, o[k].e⟩)
  | [], _, h, _ => by simp at h
  | x :: o, 0, _, v => rfl
  | x :: o, k + 1, h, v => by
    rw [show (k + 1) * 4 + 2 = (k * 4 + 2) + 1 + 1 + 1 + 1 by omega]
    have h : k < o.length := by simpa using h
    simp only [lxs, Lx.cells, List.cons_append, List.nil_append, List.set_cons_succ, List.getElem_cons_succ]
    rw [lxs_set2 o k h v]
theorem lxs_set3 : ∀ (o : List Lx) (k : Nat) (h : k < o.length) (v : Int), (lxs o).set (k * 4 + 3) (I v) = lxs (o.set k ⟨o[k].r, o[k].f, o[k].t, v⟩)
  | [], _, h, _ => by simp at h
  | x :: o, 0, _, v => rfl
  | x :: o, k + 1, h, v => by
    rw [show (k + 1) * 4 + 3 = (k * 4 + 3) + 1 + 1 + 1 + 1 by omega]
    have h : k < o.length := by simpa using h
    simp only [lxs, Lx.cells, List.cons_append, List.nil_append, List.set_cons_succ, List.getElem_cons_succ]
    rw [lxs_set3 o k h v]
/-- Three fields of a lexeme are moved on. -/
theorem lxs_move (o : List Lx) (k : Nat) (h : k < o.length) (d : Int) : ∃ c1 c2 : List AV, c1.length = (lxs o).length ∧ c2.length = (lxs o).length ∧
    replaceAt (lxs o) (k * 4 + 1) [I (o[k].f + d)] = c1 ∧ replaceAt c1 (k * 4 + 2) [I (o[k].t + d)] = c2 ∧ replaceAt c2 (k * 4 + 3) [I (o[k].e + d)] = lxs (o.set k (o[k].shift d)) := by
  have hl := lxs_len o
  refine ⟨_, _, ?_, ?_, rfl, rfl, ?_⟩
  · rw [replaceAt_one _ (by omega)]; simp
  · rw [replaceAt_one (cs := lxs o) _ (by omega), replaceAt_one _ (by simp; omega)]; simp
  · rw [replaceAt_one (cs := lxs o) _ (by omega), lxs_set1 o k h]
    rw [replaceAt_one (k := k * 4 + 2) _ (by rw [lxs_len]; simp; omega), lxs_set2 _ k (by simpa using h)]
    rw [replaceAt_one (k := k * 4 + 3) _ (by rw [lxs_len]; simp; omega), lxs_set3 _ k (by simpa using h)]
    simp [Lx.shift]
theorem lxs_f (o : List Lx) (k : Nat) (h : k < o.length) : (lxs o)[k * 4 + 1]? = some (I o[k].f) := lxs_get h 1 (by omega)
theorem lxs_t (o : List Lx) (k : Nat) (h : k < o.length) : (lxs o)[k * 4 + 2]? = some (I o[k].t) := lxs_get h 2 (by omega)
theorem lxs_e (o : List Lx) (k : Nat) (h : k < o.length) : (lxs o)[k * 4 + 3]? = some (I o[k].e) := lxs_get h 3 (by omega)

theorem move_inv {o ms : List Lx} {k : Nat} {x : Lx} {b : Int} (hko : k < o.length) (hlt : k < ms.length) (hx : o[k] = x) (ht1 : o.take k = (ms.take k).map (Lx.shift b)) (ht2 : o.drop k = ms.drop k) :
    (o.set k (x.shift b)).take (k + 1) = (ms.take (k + 1)).map (Lx.shift b) ∧ (o.set k (x.shift b)).drop (k + 1) = ms.drop (k + 1) := by
  rw [List.drop_eq_getElem_cons hko, List.drop_eq_getElem_cons hlt] at ht2
  obtain ⟨h1, h2⟩ := List.cons.inj ht2
  rw [hx] at h1
  constructor
  · rw [List.take_succ_eq_append_getElem (by simpa using hko), List.take_succ_eq_append_getElem hlt]
    rw [List.take_set_of_le (Nat.le_refl _), ht1, List.map_append, List.getElem_set_self, h1]
    rfl
  · rw [List.drop_set_of_lt (by omega), h2]
set_option maxRecDepth 20000 in
theorem on_code (nx rl : List Int) (l : List UInt8) (w : Int) (hw : -9223372036854775808 ≤ w ∧ w ≤ 9223372036854775807) : callW X A 0 0 3 [.agg (Dv nx rl), Sg l, I w] [] = some (Bo true, []) := by
  refine wb_callB [3] rfl A3 rfl rfl ?_
  unfold t3B
  have k1 := light_code (lk := 0) (lim := 0) (H := []) nx rl 24 (by omega)
  rw [show ((24 : Nat) : Int) = 24 from rfl] at k1
  by_cases a1 : rl.length ≤ 24 ∧ nx.length ≤ 256 * 24
  case neg =>
    have hf : (decide (rl.length ≤ 24) && decide (nx.length ≤ 256 * 24)) = false := by
      rw [← Bool.decide_and]; exact decide_eq_false a1
    rw [hf] at k1
    simp [lives_ok, k1]
  have ht : (decide (rl.length ≤ 24) && decide (nx.length ≤ 256 * 24)) = true := by
    rw [← Bool.decide_and]; exact decide_eq_true a1
  rw [ht] at k1
  obtain ⟨b1, b2⟩ := a1
  by_cases a2 : (60 : Int) < l.length
  · simp [lives_ok, k1, Sg_size, a2]
  by_cases a3 : l.length = 0
  · simp [lives_ok, k1, Sg_size, a2, a3]
  have a3' : ((l.length : Int) == 0) = false := by rw [beq_eq_false_iff_ne]; omega
  have k2 := check_code (lk := 0) (lim := 0) (H := []) nx rl (by omega) (by omega)
  by_cases a4 : chk nx rl = true
  case neg =>
    rw [chkE_neg a4] at k2
    simp [lives_ok, k1, Sg_size, a2, a3, a3', k2]
  rw [chkE_pos a4] at k2
  have k3 := all_code (lk := 0) (lim := 0) (H := []) nx rl l (by omega) (by omega) (by omega) (by simp) (by simp)
  rw [if_pos a4] at k3
  have hne := allM_ne nx rl (l := l) (by omega)
  have hall := allM_drop nx rl l
  have hlen : (allM nx rl l).length ≤ l.length := allF_len nx rl l _ _
  obtain ⟨ls, hls⟩ : ∃ ls, allM nx rl l = ls := ⟨_, rfl⟩
  rw [hls] at k3 hne hall hlen
  have hpos : 0 < ls.length := by
    cases ls with
    | nil => exact absurd rfl hne
    | cons x o => simp
  have k4 := pick_code (lk := 0) (lim := 0) (H := [.cells (lxs ls)]) w ls.length (by omega) hw
  rw [if_neg (by omega)] at k4
  have hm1 := Int.emod_nonneg w (by omega : (ls.length : Int) ≠ 0)
  have hm2 := Int.emod_lt_of_pos w (by omega : (0 : Int) < ls.length)
  obtain ⟨i, hi⟩ := Int.eq_ofNat_of_zero_le hm1
  rw [hi] at k4 hm2
  have hil : i < ls.length := by omega
  obtain ⟨b, hb1, hb2, hb3⟩ := hall i hil
  have hg : (lxs ls)[i * 4 + 1]? = some (I b) := by rw [lxs_f ls i hil, hb1]
  obtain ⟨ms, hms⟩ : ∃ ms, allM nx rl (l.drop b) = ms := ⟨_, rfl⟩
  have hmne : ms ≠ [] := by rw [← hms]; exact allM_ne nx rl (by simp; omega)
  have hmlen : ms.length ≤ (l.drop b).length := by rw [← hms]; exact allF_len nx rl _ _ _
  have hmlen2 : (l.drop b).length ≤ 60 := by simp; omega
  have hmem : ∀ x ∈ ms, 0 ≤ x.f ∧ x.f < (l.drop b).length ∧ x.f < x.t ∧ x.t ≤ (l.drop b).length ∧ x.f < x.e ∧ x.e ≤ (l.drop b).length + 1 := by rw [← hms]; exact allF_mem nx rl _ _ _
  have k5 := all_code (lk := 0) (lim := 0) (H := [.cells (lxs ls)]) nx rl (l.drop b) (by omega) (by omega) (by omega) (by simp) (by simp)
  rw [if_pos a4, hms] at k5
  rw [hms] at hb3
  have c1 : ¬ (l.length : Int) < b := by omega
  have c0 : ¬ (b : Int) < 0 := by omega
  have c2 : (b : Int) ≤ l.length := by omega
  have c3 : b ≤ l.length := by omega
  have hll := lxs_len ls
  simp [lives_ok, k1, Sg_size, a2, a3, a3', k2, k3, lxV, lxH, hne, k4, hil, hll, hg, c0, c1, c2, c3, Sg_ext, bnd, k5, hmne]
  have hlo := lxs_len
  refine wb_loop (σ := Nat × List Lx) (fun s => [(2, I i), (7, .hs 0 (4 * ls.length) 0 ls.length 4), (8, I b), (9, .hs 1 (4 * ms.length) 0 ms.length 4), (10, I s.1)])
    (fun s => [.cells (lxs ls), .cells (lxs s.2)]) (fun s => s.1 ≤ ms.length ∧ s.2.length = ms.length ∧ s.2.take s.1 = (ms.take s.1).map (Lx.shift b) ∧ s.2.drop s.1 = ms.drop s.1)
    (fun s => ms.length - s.1) ?_ (0, ms) (by simp) (by simp) rfl
  rintro ⟨k, o⟩ ⟨hk, ho, ht1, ht2⟩
  simp only at hk ho ht1 ht2
  unfold t3L1
  have hwk : IntKind.i64.wrap ((k : Int) + 1) = (k : Int) + 1 := wrap64 (by omega) (by omega)
  simp
  refine wb_if (k < ms.length) (by simp) (fun hlt => ?_) (fun hge => ?_)
  · have hko : k < o.length := by omega
    obtain ⟨x, hx⟩ : ∃ x, o[k] = x := ⟨_, rfl⟩
    have hxm : x ∈ ms := by
      have : o[k] = ms[k] := by
        rw [List.drop_eq_getElem_cons hko, List.drop_eq_getElem_cons hlt] at ht2
        exact (List.cons.inj ht2).1
      rw [← hx, this]; exact List.getElem_mem hlt
    have hxb := hmem x hxm
    obtain ⟨c1, c2, e1, e2, e3, e4, e5⟩ := lxs_move o k hko b
    have g1 := lxs_f o k hko
    have g2 := lxs_t o k hko
    have g3 := lxs_e o k hko
    rw [hx] at e3 e4 e5 g1 g2 g3
    rw [hlo, ho] at e1 e2
    have hlm := hlo o
    rw [ho] at hlm
    have w1 : IntKind.i64.wrap (x.f + b) = x.f + b := wrap64 (by omega) (by omega)
    have w2 : IntKind.i64.wrap (x.t + b) = x.t + b := wrap64 (by omega) (by omega)
    have w3 : IntKind.i64.wrap (x.e + b) = x.e + b := wrap64 (by omega) (by omega)
    have i1 : k * 4 + 1 + 1 ≤ 4 * ms.length := by omega
    have i2 : k * 4 + 2 + 1 ≤ 4 * ms.length := by omega
    have i3 : k * 4 + 3 + 1 ≤ 4 * ms.length := by omega
    simp [hlt, hlm, g1, g2, g3, w1, w2, w3, e1, e2, e3, e4, e5, i1, i2, i3, setH, hwk, rnd_nrm]
    obtain ⟨q1, q2⟩ := move_inv hko hlt hx ht1 ht2
    exact ⟨k + 1, o.set k (x.shift b), ⟨by omega, by simp [ho], by rw [q1, List.map_take], q2⟩, by omega, by simp, rfl⟩
  · obtain rfl : k = ms.length := by omega
    have ho2 : o = ls.drop i := by
      rw [List.take_of_length_le (Nat.le_of_eq ho), List.take_of_length_le (Nat.le_refl _)] at ht1
      rw [ht1, hb3]
    have hl2 : ms.length = (ls.drop i).length := by rw [← ho2, ho]
    have d1 : LxD [.cells (lxs ls), .cells (lxs o)] (.hs 1 (4 * ms.length) 0 ms.length 4) o := by
      have := LxD.hs (H := [.cells (lxs ls), .cells (lxs o)]) 1 (lxs o) 0 o rfl fun j hj => by
        rw [Nat.zero_add]
        exact ⟨lxs_sub hj, by rw [lxs_len]; omega⟩
      rw [lxs_len, ho] at this
      exact this
    have d2 : LxD [.cells (lxs ls), .cells (lxs o)] (.hs 0 (4 * ls.length) (i * 4) (ls.length - i) 4) (ls.drop i) := by
      have := LxD.hs (H := [.cells (lxs ls), .cells (lxs o)]) 0 (lxs ls) (i * 4) (ls.drop i) rfl fun j hj => by
        have hj2 : j < ls.length - i := by simpa using hj
        rw [List.getElem_drop, show i * 4 + j * 4 = (i + j) * 4 by omega]
        exact ⟨lxs_sub (by omega), by rw [lxs_len]; omega⟩
      rw [lxs_len, List.length_drop] at this
      exact this
    have ks := same_code (lk := 0) (lim := 0) d1 d2 (by omega) (by simp; omega)
    rw [decide_eq_true ho2] at ks
    have i1 : (i : Int) ≤ ls.length := by omega
    simp [bnd, i1, ks]
end Go.Proofs.Ytoiolinclpiohaa
