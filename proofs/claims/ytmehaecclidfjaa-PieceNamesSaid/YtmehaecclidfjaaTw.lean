import Derived.Test.YtmehaecclidfjaaSc3
set_option linter.unusedSimpArgs false
set_option linter.unusedVariables false
namespace Go.Proofs.Ytmehaecclidfjaa
open Go Go.Hm

/-! ### Two tables beside each other -/
/-- A table that is kept in the blocks L. -/
def TL (H : Heap) (b : Nat) (s : List UInt8) (m : Nat) (L : List Nat) : Prop :=
  s.length ≤ 65536 ∧ ∃ fs cm ns, TB H b fs cm ns s.length ∧ alls fs cm ns = s ∧ fs.length ≤ 65536 ∧ cm.length ≤ m ∧ L = b :: ns.map (·.b)
theorem TL.lt {H : Heap} {b : Nat} {s : List UInt8} {m : Nat} {L : List Nat} (h : TL H b s m L) : ∀ k ∈ L, k < H.length := by
  obtain ⟨_, fs, cm, ns, h2, _, _, _, rfl⟩ := h
  intro k hk
  rcases List.mem_cons.1 hk with rfl | hk
  · exact (tb_lt h2).1
  · obtain ⟨n, hn, rfl⟩ := List.mem_map.1 hk
    exact lst_lt h2.lst n hn
theorem TL.tg {H : Heap} {b : Nat} {s : List UInt8} {m : Nat} {L : List Nat} (h : TL H b s m L) (K : List Nat) (hK : ∀ k ∈ K, k < H.length ∧ k ∉ L) : TG H b s m K := by
  obtain ⟨h1, fs, cm, ns, h2, h3, h4, h5, rfl⟩ := h
  exact ⟨h1, fs, cm, ns, h2, h3, h4, h5, hK⟩
theorem TG.tl {H : Heap} {b : Nat} {s : List UInt8} {m : Nat} {K : List Nat} (h : TG H b s m K) : ∃ L, TL H b s m L ∧ ∀ k ∈ K, k < H.length ∧ k ∉ L := by
  obtain ⟨h1, fs, cm, ns, h2, h3, h4, h5, h6⟩ := h
  exact ⟨_, ⟨h1, fs, cm, ns, h2, h3, h4, h5, rfl⟩, h6⟩
theorem TL.tx {H : Heap} {b : Nat} {s : List UInt8} {m : Nat} {L : List Nat} (h : TL H b s m L) : TX H b s m := (h.tg [] (by simp)).tx
theorem TL.keep {H h' : Heap} {b : Nat} {s : List UInt8} {m : Nat} {L : List Nat} (h : TL H b s m L) (hk : ∀ k ∈ L, h'[k]? = H[k]?) : TL h' b s m L := by
  obtain ⟨h1, fs, cm, ns, h2, h3, h4, h5, rfl⟩ := h
  refine ⟨h1, fs, cm, ns, ⟨?_, lst_same h2.lst fun n hn => hk n.b (List.mem_cons_of_mem _ (List.mem_map_of_mem hn)), h2.nd, h2.ok⟩, h3, h4, h5, rfl⟩
  rw [hk b (List.mem_cons_self ..)]
  exact h2.tab
theorem TL.app {H : Heap} {b : Nat} {s : List UInt8} {m : Nat} {L : List Nat} (h : TL H b s m L) (X : Heap) : TL (H ++ X) b s m L := h.keep fun k hk => List.getElem?_append_left (h.lt k hk)
theorem tl_clone {H : Heap} {b : Nat} {s : List UInt8} {m : Nat} {L : List Nat} (h : TL H b s m L) : ∃ H' L2, callW X A 0 0 19 [.hp b 4 0] H = some (.hp H.length 4 0, H') ∧ TL H' b s m L ∧ TL H' H.length s m L2 ∧ ∀ k ∈ L2, H.length ≤ k := by
  have hlt := h.lt
  have h0 := h
  obtain ⟨u1, fs, cm, ns, u2, rfl, u4, u5, rfl⟩ := h
  obtain ⟨v, H', k1, rfl, ns', t1, t2, t3, t4, t5, _⟩ := clone_code u2
  rw [List.append_nil] at t1 t5
  refine ⟨H', _, k1, h0.keep fun k hk => t3 k (hlt k hk), ⟨u1, fs, cm, ns', t1, t5, u4, u5, rfl⟩, fun k hk => ?_⟩
  rcases List.mem_cons.1 hk with rfl | hk
  · exact Nat.le_refl _
  · obtain ⟨n, hn, rfl⟩ := List.mem_map.1 hk
    exact t4 n hn

theorem new_code1 {H : Heap} {s : List UInt8} (h : s.length ≤ 65536) : ∃ H' ns, callW X A 0 0 11 [Sg s] H = some (.tup [.hp H.length 4 0, I 0], H') ∧ TB H' H.length s [] ns (alls s [] ns).length ∧ alls s [] ns = s ∧ (∀ n ∈ ns, H.length ≤ n.b) ∧ Fr H H' [] ∧ ns.length ≤ 1 := by
  by_cases h0 : s = []
  · subst h0
    refine ⟨_, [], new_walk0, ⟨?_, trivial, by simp, fun n hn => by cases hn⟩, rfl, (fun n hn => by cases hn), ⟨by simp, fun c hc _ => List.getElem?_append_left hc⟩, by simp⟩
    simp [tbC, ptr, alls_nil]
  · have hs : 0 < s.length := List.length_pos_iff.2 h0
    have ha : alls s [] [⟨H.length + 1, false, 0, s.length⟩] = s := by
      rw [alls_cons, alls_nil, List.append_nil]
      simp [txt, srcN]
    refine ⟨_, [⟨H.length + 1, false, 0, s.length⟩], new_walk1 h h0, ⟨?_, ⟨?_, trivial⟩, by simp, fun n hn => ?_⟩, ha, fun n hn => ?_, ⟨by simp, fun c hc _ => List.getElem?_append_left hc⟩, by simp⟩
    · rw [ha]
      simp [tbC, ptr]
    · simp [ndC, ptr]
    · rw [List.mem_singleton.1 hn]
      exact ⟨hs, by simp [srcN]⟩
    · rw [List.mem_singleton.1 hn]
      exact Nat.le_succ _
/-- A table of one piece at the most. -/
def T1 (H : Heap) (b : Nat) (s : List UInt8) (m : Nat) (L : List Nat) : Prop :=
  s.length ≤ 65536 ∧ ∃ fs cm ns, TB H b fs cm ns s.length ∧ alls fs cm ns = s ∧ fs.length ≤ 65536 ∧ cm.length ≤ m ∧ L = b :: ns.map (·.b) ∧ ns.length ≤ 1
theorem T1.tl {H : Heap} {b : Nat} {s : List UInt8} {m : Nat} {L : List Nat} (h : T1 H b s m L) : TL H b s m L := by
  obtain ⟨h1, fs, cm, ns, h2, h3, h4, h5, h6, _⟩ := h
  exact ⟨h1, fs, cm, ns, h2, h3, h4, h5, h6⟩
theorem T1.app {H : Heap} {b : Nat} {s : List UInt8} {m : Nat} {L : List Nat} (h : T1 H b s m L) (X : Heap) : T1 (H ++ X) b s m L := by
  obtain ⟨h1, fs, cm, ns, h2, h3, h4, h5, h6⟩ := h
  exact ⟨h1, fs, cm, ns, h2.app X, h3, h4, h5, h6⟩
theorem t1_it {H : Heap} {b c : Nat} {s : List UInt8} {m : Nat} {L : List Nat} (h : T1 H b s m L) (hs : s ≠ []) (hm : m ≤ 1000000000000) (hc : H[c]? = some (.cells [.hp b 4 0])) : pieceIt 29 [.hp c 1 0] H = some (itV [s]) := by
  obtain ⟨h1, fs, cm, ns, h2, rfl, h4, h5, h6, h7⟩ := h
  have hcl := cnt_le h2.ok
  have k := pieces_code (lk := 0) (lim := H.length) (Nat.zero_le _) ⟨by omega, by omega⟩ h2 (by omega)
  have hn : ns.map (txt fs cm) = [alls fs cm ns] := by
    match ns, h7 with
    | [], _ => exact (hs rfl).elim
    | [n], _ => simp [alls]
  unfold pieceIt
  rw [if_pos rfl]
  dsimp only
  rw [if_pos ⟨rfl, rfl⟩, hc]
  dsimp only
  rw [show C 0 H.length 28 [.hp b 4 0] H = _ from k]
  dsimp only
  rw [if_pos rfl, strsOf_slV _ (by simp; omega), hn]
set_option maxRecDepth 20000 in
theorem tl_pack {H : Heap} {b : Nat} {s : List UInt8} {m : Nat} {L : List Nat} (h : TL H b s m L) (hm : m ≤ 1000000000000) : ∃ H' L', callW X A 0 0 20 [.hp b 4 0] H = some (.tup [], H') ∧ T1 H' b s m L' ∧ H.length ≤ H'.length ∧ (∀ k, k < H.length → k ≠ b → H'[k]? = H[k]?) ∧ ∀ k ∈ L', k = b ∨ H.length ≤ k := by
  have k13 := tx_text (lk := 0) (lim := 0) h.tx hm (Nat.zero_le _)
  obtain ⟨u1, fs, cm, ns, u2, rfl, u4, u5, u6⟩ := h
  obtain ⟨H1, ns1, k11, t1, t2, t3, t4, t5⟩ := new_code1 (H := H) (s := alls fs cm ns) u1
  have hlt := tb_lt u2
  have tab := t1.tab
  have tabb : H1[b]? = some (.cells (tbC fs cm ns (alls fs cm ns).length)) := by rw [t4.2 b hlt.1 (by simp)]; exact u2.tab
  generalize hs : alls fs cm ns = s at *
  have hlt1 := tb_lt t1
  have hb1 : b < H1.length := by omega
  have hfin : ∀ X, X = H1.set b (.cells (tbC s [] ns1 (alls s [] ns1).length)) → T1 X b s m (b :: ns1.map (·.b)) ∧ H.length ≤ X.length ∧ (∀ k, k < H.length → k ≠ b → X[k]? = H[k]?) ∧ ∀ k ∈ b :: ns1.map (·.b), k = b ∨ H.length ≤ k := by
    rintro X rfl
    have hnb : ∀ n ∈ ns1, n.b ≠ b := fun n hn => by have := t3 n hn; have := hlt.1; omega
    refine ⟨⟨u1, s, [], ns1, ⟨by rw [List.getElem?_set_self hb1, t2], lst_same t1.lst fun n hn => List.getElem?_set_ne (fun e => hnb n hn e.symm), ?_, t1.ok⟩, t2, u1, Nat.zero_le _, rfl, t5⟩, by rw [List.length_set]; omega, fun k hk hkb => ?_, fun k hk => ?_⟩
    · refine List.nodup_cons.2 ⟨fun hm => ?_, (List.nodup_cons.1 t1.nd).2⟩
      obtain ⟨n, hn, e⟩ := List.mem_map.1 hm
      exact hnb n hn e
    · rw [List.getElem?_set_ne (fun e => hkb e.symm), t4.2 k hk (by simp)]
    · rcases List.mem_cons.1 hk with e | hk
      · exact .inl e
      · obtain ⟨n, hn, rfl⟩ := List.mem_map.1 hk
        exact .inr (t3 n hn)
  refine ⟨_, _, ?_, hfin _ rfl⟩
  refine wb_callB [] rfl A20 rfl rfl ?_
  unfold t20B
  show WB ⟨callW X A, 0, 0, []⟩ _ _ _ _
  generalize callW X A = C at k13 k11 ⊢
  simp only [tbC] at tab tabb ⊢
  generalize ptr ns = pr0 at tabb
  generalize ptr ns1 = pr at tab ⊢
  simp [-wb_regN, -wb_true, -wb_false, -wi_st]
  rw [wb_regN]
  simp [-wb_regN, -wb_true, -wb_false, -wi_st, eqPtr, isPtr]
  rw [wb_true rfl]
  simp [-wb_regN, -wb_true, -wb_false, -wi_st]
  rw [wb_regN]
  simp [-wb_regN, -wb_true, -wb_false, -wi_st, k13, k11]
  rw [wb_regN]
  simp [-wb_regN, -wb_true, -wb_false, -wi_st, tab]
  rw [wi_st]
  simp [-wb_regN, -wb_true, -wb_false, -wi_st, tabb, setH, replaceAt]
end Go.Proofs.Ytmehaecclidfjaa
