import Derived.Test.YtmehaecclidfjaaCl
set_option linter.unusedSimpArgs false
set_option linter.unusedVariables false
namespace Go.Proofs.Ytmehaecclidfjaa
open Go Go.Hm

set_option maxRecDepth 20000 in
/-- PACK: the text in one piece. -/
theorem tg_pack {H : Heap} {b : Nat} {s : List UInt8} {m : Nat} {K : List Nat} (h : TG H b s m K) (hm : m ≤ 1000000000000) : ∃ H', callW X A 0 0 20 [.hp b 4 0] H = some (.tup [], H') ∧ TG H' b s m K ∧ H.length ≤ H'.length ∧ ∀ k ∈ K, H'[k]? = H[k]? := by
  have k13 := tx_text (lk := 0) (lim := 0) h.tx hm (Nat.zero_le _)
  obtain ⟨u1, fs, cm, ns, u2, rfl, u4, u5, u6⟩ := h
  obtain ⟨H1, ns1, k11, t1, t2, t3, t4⟩ := new_code (H := H) (s := alls fs cm ns) u1
  have hlt := tb_lt u2
  have tab := t1.tab
  have tabb : H1[b]? = some (.cells (tbC fs cm ns (alls fs cm ns).length)) := by rw [t4.2 b hlt.1 (by simp)]; exact u2.tab
  generalize hs : alls fs cm ns = s at *
  have hlt1 := tb_lt t1
  have hb1 : b < H1.length := by omega
  have hfin : ∀ X, X = H1.set b (.cells (tbC s [] ns1 (alls s [] ns1).length)) → TG X b s m K ∧ H.length ≤ X.length ∧ ∀ k ∈ K, X[k]? = H[k]? := by
    rintro X rfl
    have hnb : ∀ n ∈ ns1, n.b ≠ b := fun n hn => by have := t3 n hn; have := hlt.1; omega
    refine ⟨⟨u1, s, [], ns1, ⟨by rw [List.getElem?_set_self hb1, t2], lst_same t1.lst fun n hn => List.getElem?_set_ne (fun e => hnb n hn e.symm), ?_, t1.ok⟩, t2, u1, Nat.zero_le _, fun k hk => ?_⟩, by rw [List.length_set]; omega, fun k hk => ?_⟩
    · refine List.nodup_cons.2 ⟨fun hm => ?_, (List.nodup_cons.1 t1.nd).2⟩
      obtain ⟨n, hn, e⟩ := List.mem_map.1 hm
      exact hnb n hn e
    · have hk6 := u6 k hk
      refine ⟨by rw [List.length_set]; omega, fun hm => ?_⟩
      rcases List.mem_cons.1 hm with e | hm
      · exact hk6.2 (by rw [e]; exact List.mem_cons_self ..)
      · obtain ⟨n, hn, e⟩ := List.mem_map.1 hm
        have := t3 n hn
        omega
    · have hk6 := u6 k hk
      rw [List.getElem?_set_ne (fun e => hk6.2 (by rw [e]; exact List.mem_cons_self ..)), t4.2 k hk6.1 (by simp)]
  refine ⟨_, ?_, hfin _ rfl⟩
  refine wb_callB [] rfl A20 rfl rfl ?_
  unfold t20B
  show WB ⟨callW X A, 0, 0, []⟩ _ _ _ _
  generalize callW X A = C at k13 k11 ⊢
  simp only [tbC] at tab tabb ⊢
  generalize ptr ns = pr0 at tabb
  generalize ptr ns1 = pr at tab ⊢
  simp [-wb_regN, -wb_true, -wb_false, -wi_st]
  rw [wb_regN]
  simp [-wb_regN, -wb_true, -wb_false, -wi_st, eqPtr, isPtr]
  rw [wb_true rfl]
  simp [-wb_regN, -wb_true, -wb_false, -wi_st]
  rw [wb_regN]
  simp [-wb_regN, -wb_true, -wb_false, -wi_st, k13, k11]
  rw [wb_regN]
  simp [-wb_regN, -wb_true, -wb_false, -wi_st, tab]
  rw [wi_st]
  simp [-wb_regN, -wb_true, -wb_false, -wi_st, tabb, setH, replaceAt]
end Go.Proofs.Ytmehaecclidfjaa
