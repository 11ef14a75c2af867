import Derived.Test.YtmehaecclidfjaaD1
set_option linter.unusedSimpArgs false
set_option linter.unusedVariables false
namespace Go.Proofs.Ytmehaecclidfjaa
open Go Go.Hm

def EditP (H : Heap) (b : Nat) (fs cm : List UInt8) (ns : List Nd) (a d : Int) (x : List UInt8) (v : AV) (H' : Heap) : Prop :=
  v = I (editE (alls fs cm ns) a d x) ∧ Edited H b fs cm ns x (editV (alls fs cm ns) a d x) H'
set_option maxRecDepth 20000 in
theorem ed_bad {H : Heap} {b : Nat} {fs cm s : List UInt8} {v0 : AV} {a d : Int} {x : List UInt8} (tab : H[b]? = some (.cells [Sg fs, Sg cm, v0, I s.length])) (hs : s.length ≤ 65536) (hx : x.length ≤ 1000000000000000) (he : editE s a d x ≠ 0) :
    callW X A 0 0 12 [.hp b 4 0, I a, I d, Sg x] H = some (I (editE s a d x), H) := by
  by_cases g1 : a < 0
  · rw [show editE s a d x = 2 by unfold editE; rw [if_pos (by omega)]]
    refine wb_callB [] rfl A12 rfl rfl ?_
    unfold t12B
    generalize callW X A = C
    simp [eqPtr, isPtr, g1]
  by_cases g2 : d < 0
  · rw [show editE s a d x = 2 by unfold editE; rw [if_pos (by omega)]]
    refine wb_callB [] rfl A12 rfl rfl ?_
    unfold t12B
    generalize callW X A = C
    simp [eqPtr, isPtr, g1, g2]
  by_cases g3 : (s.length : Int) < a
  · rw [show editE s a d x = 2 by unfold editE; rw [if_pos (by omega)]]
    refine wb_callB [] rfl A12 rfl rfl ?_
    unfold t12B
    generalize callW X A = C
    simp [eqPtr, isPtr, g1, g2, g3, tab]
  have w1 : IntKind.i64.wrap ((s.length : Int) - a) = (s.length : Int) - a := wrap64 (by omega) (by omega)
  by_cases g4 : (s.length : Int) - a < d
  · rw [show editE s a d x = 2 by unfold editE; rw [if_pos (by omega)]]
    refine wb_callB [] rfl A12 rfl rfl ?_
    unfold t12B
    generalize callW X A = C
    simp [eqPtr, isPtr, g1, g2, g3, g4, tab, w1]
  have w2 : IntKind.i64.wrap ((s.length : Int) - d) = (s.length : Int) - d := wrap64 (by omega) (by omega)
  have w3 : IntKind.i64.wrap ((s.length : Int) - d + x.length) = (s.length : Int) - d + x.length := wrap64 (by omega) (by omega)
  by_cases g5 : 65536 < (s.length : Int) - d + x.length
  · rw [show editE s a d x = 3 by unfold editE; rw [if_neg (by omega), if_pos (by omega)]]
    refine wb_callB [] rfl A12 rfl rfl ?_
    unfold t12B
    generalize callW X A = C
    simp [eqPtr, isPtr, g1, g2, g3, g4, tab, w1, w2, w3, g5, Sg_size]
  exact (he (by unfold editE; rw [if_neg (by omega), if_neg (by omega)])).elim
theorem editE_zero {s : List UInt8} {a d : Int} {x : List UInt8} (h : editE s a d x = 0) : 0 ≤ a ∧ 0 ≤ d ∧ a ≤ s.length ∧ d ≤ s.length - a ∧ (s.length : Int) - d + x.length ≤ 65536 := by
  unfold editE at h
  split at h
  · omega
  · split at h <;> omega
theorem edit_main {H : Heap} {b : Nat} {fs cm : List UInt8} {ns : List Nd} {a d : Int} {x : List UInt8} (hz : fs.length ≤ 1000000000000000 ∧ cm.length + x.length ≤ 1000000000000000) (h : TB H b fs cm ns (alls fs cm ns).length) (hs : (alls fs cm ns).length ≤ 65536) (he : editE (alls fs cm ns) a d x = 0) :
    ∃ v h', callW X A 0 0 12 [.hp b 4 0, I a, I d, Sg x] H = some (v, h') ∧ EditP H b fs cm ns a d x v h' := by
  have tab := h.tab
  simp only [tbC] at tab
  obtain ⟨s, hse⟩ : ∃ s, alls fs cm ns = s := ⟨_, rfl⟩
  rw [hse] at tab hs he
  obtain ⟨y1, y2, y3, y4, y5⟩ := editE_zero he
  obtain ⟨a, rfl⟩ : ∃ a0 : Nat, a = a0 := ⟨a.toNat, by omega⟩
  obtain ⟨d, rfl⟩ : ∃ a0 : Nat, d = a0 := ⟨d.toNat, by omega⟩
  obtain ⟨q1, q2⟩ := edit_pos (s := s) (a := a) (d := d) (x := x) (by omega) (by omega)
  have hzz : Sz fs cm := ⟨hz.1, by omega⟩
  obtain ⟨p1, H1, kc1, l1, l2, rfl, t1, e1, e2, fr1, own1⟩ := cut_code (a := a + d) hzz (l := ns) (r := []) (k := (alls fs cm ns).length) (by rw [List.append_nil]; exact h) (by rw [hse]; omega) (by omega)
  rw [hse] at e1 e2
  simp only [List.append_nil] at t1 own1 fr1
  obtain ⟨cs1, r1, r2, r3⟩ := loc_get t1
  have w4 : IntKind.i64.wrap ((a : Int) + d) = (a : Int) + d := wrap64 (by omega) (by omega)
  rw [Int.natCast_add] at kc1
  have el2 : alls fs cm l2 = s.drop (a + d) := by
    have := e2
    rw [alls_app, e1] at this
    exact List.append_cancel_left (this.trans (List.take_append_drop (a + d) s).symm)
  have fin : ∀ {cm' : List UInt8} {ns' : List Nd} {H' : Heap} {k' : Nat}, cm'.length ≤ cm.length + x.length → TB H' b fs cm' ns' k' → k' = s.length - d + x.length → alls fs cm' ns' = (alls fs cm l1).take a ++ x ++ alls fs cm l2 → Fr H1 H' (b :: (l1 ++ l2).map (·.b)) →
      (∀ n ∈ ns', n.b ∈ (l1 ++ l2).map (·.b) ∨ H1.length ≤ n.b) → EditP H b fs cm ns a d x (I 0) H' := by
    intro cm' ns' H' k' v1 v2 v3 v4 v5 v6
    unfold EditP
    rw [hse, q1, q2]
    rw [e1, List.take_take, Nat.min_eq_left (by omega), el2] at v4
    have hown : ∀ c, c ∈ (l1 ++ l2).map (·.b) → c ∈ ns.map (·.b) ∨ H.length ≤ c := fun c hc => by
      obtain ⟨n, hn, e⟩ := List.mem_map.1 hc
      rw [← e]
      exact own1 n hn
    refine ⟨rfl, cm', ns', ?_, v4, fr_trans fr1 v5 fun c hc => ?_, fun n hn => ?_, v1⟩
    · rw [show (s.take a ++ x ++ s.drop (a + d)).length = k' by rw [v3]; simp; omega]
      exact v2
    · rcases List.mem_cons.1 hc with rfl | hc
      · exact .inl (List.mem_cons_self ..)
      · rcases hown c hc with h | h
        · exact .inl (List.mem_cons_of_mem _ h)
        · exact .inr h
    · rcases v6 n hn with h | h
      · exact hown _ h
      · have := fr1.1
        right; omega
  by_cases hx : x = []
  · subst hx
    obtain ⟨p2, H3, kc2, hc2⟩ := cut_code (a := a) hzz (l := l1) (r := l2) t1 (by rw [e1, List.length_take]; omega) (by omega)
    have hc2' := hc2
    obtain ⟨m1, m2, rfl, t3, -, -, -, -⟩ := hc2'
    obtain ⟨cs3, s1, s2, s3⟩ := loc_get t3
    have s4 : (loc b m1).2 < cs3.length := (List.getElem?_eq_some_iff.1 s3).1
    obtain ⟨ns', u1, u2, u3, u4, u5⟩ := edit_tail (N := []) t1 (lst_right t1.lst) List.nodup_nil (fun _ h => by cases h) (fun _ h => by cases h) alls_nil hc2 s1 (s.length - d)
    rw [hse] at u3
    simp only [List.nil_append] at u1 u3 u4
    simp only [tbC] at u3
    have wk := walk_nil (ptr_cases l2) (by omega) hs tab kc1 r1 r2 r3 kc2 s1 s2 s4 u3
    exact ⟨_, _, wk, fin (by simp) u1 (by simp) u2 u4 (fun n hn => by simpa using u5 n hn)⟩
  · have x1 : 0 < x.length := by
      cases x with
      | nil => exact (hx rfl).elim
      | cons _ _ => simp
    have hlt := tb_lt t1
    let N : Nd := ⟨H1.length, true, cm.length, cm.length + x.length⟩
    obtain ⟨H1', hH1'⟩ : ∃ H1', H1 ++ [HB.cells (ndC N l2)] = H1' := ⟨_, rfl⟩
    have t1' := tb_app t1 [HB.cells (ndC N l2)]
    rw [hH1'] at t1'
    obtain ⟨H2, hH2⟩ : ∃ H2, H1'.set b (.cells (tbC fs (cm ++ x) (l1 ++ l2) (alls fs cm ns).length)) = H2 := ⟨_, rfl⟩
    have t2 := tb_tab t1' x (alls fs cm ns).length
    rw [hH2] at t2
    have c1 := alls_came x (ns := l1) (fun n hn => t1.ok n (List.mem_append_left _ hn))
    have c2 := alls_came x (ns := l2) (fun n hn => t1.ok n (List.mem_append_right _ hn))
    have hl1' : H1'.length = H1.length + 1 := by rw [← hH1']; simp
    have hl2 : H2.length = H1.length + 1 := by rw [← hH2, List.length_set, hl1']
    have hNb : H2[H1.length]? = some (.cells (ndC N l2)) := by
      rw [← hH2, List.getElem?_set_ne (by omega), ← hH1']
      simp
    obtain ⟨p2, H3, kc2, hc2⟩ := cut_code (a := a) (⟨hz.1, by rw [List.length_append]; exact hz.2⟩ : Sz fs (cm ++ x)) (l := l1) (r := l2) t2 (by rw [c1, e1, List.length_take]; omega) (by omega)
    have hc2' := hc2
    obtain ⟨m1, m2, rfl, t3, -, -, -, -⟩ := hc2'
    obtain ⟨cs3, s1, s2, s3⟩ := loc_get t3
    have s4 : (loc b m1).2 < cs3.length := (List.getElem?_eq_some_iff.1 s3).1
    have hNn : ∀ n ∈ [N], n.b ∉ b :: (l1 ++ l2).map (·.b) := by
      intro n hn hm
      have hm : N.b ∈ b :: (l1 ++ l2).map (·.b) := by
        rw [List.mem_singleton.1 hn] at hm; exact hm
      rcases List.mem_cons.1 hm with e | hm
      · have : H1.length = b := e
        omega
      · obtain ⟨q, hq, e⟩ := List.mem_map.1 hm
        have : q.b = H1.length := e
        have := hlt.2 q hq
        omega
    have hNo : ∀ n ∈ [N], NdOk fs (cm ++ x) n := by
      intro n hn
      rw [List.mem_singleton.1 hn]
      refine ⟨?_, ?_⟩
      · show cm.length < cm.length + x.length; omega
      · show cm.length + x.length ≤ (cm ++ x).length; rw [List.length_append]; omega
    have hNx : alls fs (cm ++ x) [N] = x := by
      rw [alls_cons, alls_nil, List.append_nil]
      show ((cm ++ x).take (cm.length + x.length)).drop cm.length = x
      rw [List.take_of_length_le (by rw [List.length_append]; omega), List.drop_left]
    obtain ⟨ns', u1, u2, u3, u4, u5⟩ := edit_tail (N := [N]) (x := x) t2 ⟨hNb, lst_right t2.lst⟩ (by simp) hNn hNo hNx hc2 s1 (s.length - d + x.length)
    rw [hse] at u3
    simp only [tbC] at u3
    have tb1 := t1.tab
    simp only [tbC] at tb1
    rw [hse] at tb1
    have tb1' := t1'.tab
    simp only [tbC] at tb1'
    rw [hse] at tb1'
    rw [hse] at hH2
    simp only [ndC, tbC, N, Int.natCast_add] at hH1' hH2
    have hp2 : ptr ([N] ++ l2) = .hp H1.length 4 0 := rfl
    rw [hp2] at u1 u3 u4
    have wk := walk_ins (ptr_cases l2) (by omega) hs hx (by omega) hz.2 tab kc1 r1 r2 r3 tb1 hH1' tb1' hH2 kc2 s1 s2 s4 u3
    rw [c1, c2] at u2
    refine ⟨_, _, wk, fin (by simp) u1 rfl u2 (fr_trans ⟨by omega, fun c hc hs => ?_⟩ u4 fun c hc => .inl hc) fun n hn => ?_⟩
    · rw [← hH2, List.getElem?_set_ne (fun e => hs (by rw [e]; exact List.mem_cons_self ..)), ← hH1', List.getElem?_append_left hc]
    · rcases u5 n hn with h | h
      · simp only [List.map_append, List.mem_append, List.map_cons, List.map_nil, List.mem_singleton] at h ⊢
        rcases h with (h | h) | h
        · exact .inl (.inl h)
        · right; rw [h]; exact Nat.le_refl _
        · exact .inl (.inr h)
      · right; omega
theorem edit_code {H : Heap} {b : Nat} {fs cm : List UInt8} {ns : List Nd} {a d : Int} {x : List UInt8} (hz : fs.length ≤ 1000000000000000 ∧ cm.length + x.length ≤ 1000000000000000) (h : TB H b fs cm ns (alls fs cm ns).length) (hs : (alls fs cm ns).length ≤ 65536) :
    ∃ H', callW X A 0 0 12 [.hp b 4 0, I a, I d, Sg x] H = some (I (editE (alls fs cm ns) a d x), H') ∧ Edited H b fs cm ns x (editV (alls fs cm ns) a d x) H' := by
  by_cases he : editE (alls fs cm ns) a d x = 0
  · obtain ⟨v, H', h1, rfl, h2⟩ := edit_main hz h hs he
    exact ⟨H', h1, h2⟩
  · have tab := h.tab
    simp only [tbC] at tab
    refine ⟨H, ed_bad tab hs (by omega) he, ?_⟩
    unfold editV
    rw [if_neg he]
    exact edited_none h
end Go.Proofs.Ytmehaecclidfjaa
