import Derived.Test.YtmehaecclidfjaaD
set_option linter.unusedSimpArgs false
set_option linter.unusedVariables false
namespace Go.Proofs.Ytmehaecclidfjaa
open Go Go.Hm

set_option maxRecDepth 20000 in
theorem new_long {H : Heap} {s : List UInt8} (h : 65536 < s.length) : callW X A 0 0 11 [Sg s] H = some (.tup [.val (.pointer none), I 3], H) := by
  refine wb_callB [] rfl A11 rfl rfl ?_
  unfold t11B
  generalize callW X A = C
  have g : (65536 : Int) < s.length := by omega
  simp [Sg_size, g, h]
set_option maxRecDepth 20000 in
theorem new_walk0 {H : Heap} : callW X A 0 0 11 [Sg []] H = some (.tup [.hp H.length 4 0, I 0], H ++ [.cells [Sg [], Sg [], .val (.pointer none), I 0]]) := by
  refine wb_callB [] rfl A11 rfl rfl ?_
  unfold t11B
  generalize callW X A = C
  simp [Sg_size, sg_neqN, replaceAt]
set_option maxRecDepth 20000 in
theorem new_walk1 {H : Heap} {s : List UInt8} (h : s.length ≤ 65536) (h0 : ¬ s = []) : callW X A 0 0 11 [Sg s] H = some (.tup [.hp H.length 4 0, I 0], H ++ [.cells [Sg s, Sg [], .hp (H.length + 1) 4 0, I s.length], .cells [Bo false, I 0, I s.length, .val (.pointer none)]]) := by
  refine wb_callB [] rfl A11 rfl rfl ?_
  unfold t11B
  generalize callW X A = C
  have g : ¬ (65536 : Int) < s.length := by omega
  have g2 : ¬ 65536 < s.length := by omega
  have nx : abins .neq ⟨⟨s⟩⟩ ⟨#[]⟩ = some (.val (.bool true)) := by
    rw [sg_neqN]
    simp [h0]
  simp [-wi_st, -wb_regN, Sg_size, g, g2]
  rw [wb_regN]
  simp [-wi_st, -wb_regN, Sg_size, g, g2]
  rw [wb_regN]
  simp [-wi_st, -wb_regN, Sg_size, g, g2]
  rw [wb_regN]
  simp [-wi_st, -wb_regN, Sg_size, replaceAt]
  rw [wb_regN]
  simp [-wi_st, -wb_regN, -wb_true, -wb_false, nx]
  rw [wb_true rfl, wb_regN]
  simp [-wi_st, -wb_regN, Sg_size, replaceAt]
  rw [wi_st]
  simp [setH, replaceAt]
/-- A table that was made. -/
theorem new_code {H : Heap} {s : List UInt8} (h : s.length ≤ 65536) : ∃ H' ns, callW X A 0 0 11 [Sg s] H = some (.tup [.hp H.length 4 0, I 0], H') ∧ TB H' H.length s [] ns (alls s [] ns).length ∧ alls s [] ns = s ∧ (∀ n ∈ ns, H.length ≤ n.b) ∧ Fr H H' [] := by
  by_cases h0 : s = []
  · subst h0
    refine ⟨_, [], new_walk0, ⟨?_, trivial, by simp, fun n hn => by cases hn⟩, rfl, (fun n hn => by cases hn), ⟨by simp, fun c hc _ => List.getElem?_append_left hc⟩⟩
    simp [tbC, ptr, alls_nil]
  · have hs : 0 < s.length := List.length_pos_iff.2 h0
    have ha : alls s [] [⟨H.length + 1, false, 0, s.length⟩] = s := by
      rw [alls_cons, alls_nil, List.append_nil]
      simp [txt, srcN]
    refine ⟨_, [⟨H.length + 1, false, 0, s.length⟩], new_walk1 h h0, ⟨?_, ⟨?_, trivial⟩, by simp, fun n hn => ?_⟩, ha, fun n hn => ?_, ⟨by simp, fun c hc _ => List.getElem?_append_left hc⟩⟩
    · rw [ha]
      simp [tbC, ptr]
    · simp [ndC, ptr]
    · rw [List.mem_singleton.1 hn]
      exact ⟨hs, by simp [srcN]⟩
    · rw [List.mem_singleton.1 hn]
      exact Nat.le_succ _
set_option maxRecDepth 20000 in
theorem len_code {lk lim : Nat} {H : Heap} {b : Nat} {fs cm : List UInt8} {ns : List Nd} {k : Nat} (h : TB H b fs cm ns k) : callW X A lk lim 17 [.hp b 4 0] H = some (I k, H) := by
  refine wb_callB [] rfl A17 rfl rfl ?_
  unfold t17B
  have tab := h.tab
  simp only [tbC] at tab
  generalize callW X A = C
  simp [eqPtr, isPtr, tab]
theorem Sg_ext (l : List UInt8) (a b : Nat) : (⟨⟨l⟩⟩ : ByteArray).extract a b = ⟨⟨(l.take b).drop a⟩⟩ := by
  apply ByteArray.ext
  simp [ByteArray.data_extract, List.drop_take]

/-! ### The plain law: shifting -/
def outV (c : Nat) (l : List (List UInt8)) : AV := if l = [] then .e0 else .hs c l.length 0 l.length 1
def outH (H : Heap) (l : List (List UInt8)) : Heap := if l = [] then H else H ++ [.cells (l.map Sg)]
theorem outH_get {H : Heap} {l : List (List UInt8)} {b : Nat} (h : b < H.length) : (outH H l)[b]? = H[b]? := by
  unfold outH
  split
  · rfl
  · exact List.getElem?_append_left h
set_option maxRecDepth 20000 in
theorem pieces_loop {S : Cx} {Q : Ex → Kt} {env : Env} {H : Heap} {b : Nat} {fs cm : List UInt8} {ns : List Nd} {k : Nat} (hB : S.B = []) (hlk : S.lk ≤ H.length) (hlm : S.lim ≤ H.length) (hz : Sz fs cm) (h : TB H b fs cm ns k) (hr : ns.length ≤ 65536)
    (hE : restrict [0, 2, 3] env = [(0, .hp b 4 0), (2, .e0), (3, ptr ns)])
    (hQ : ∀ env', restrict [2] env' = [(2, outV H.length (ns.map (txt fs cm)))] → Q (.exit 0) env' (outH H (ns.map (txt fs cm)))) : WB S (.loop [0, 2, 3] t28L1) Q env H := by
  refine wb_loop (σ := List Nd × List Nd) (fun s => [(0, .hp b 4 0), (2, outV H.length (s.1.map (txt fs cm))), (3, ptr s.2)]) (fun s => outH H (s.1.map (txt fs cm))) (fun s => s.1 ++ s.2 = ns) (fun s => s.2.length) ?_ ([], ns) rfl hE rfl
  rintro ⟨pre, rest⟩ rfl
  dsimp only at *
  have hlt := tb_lt h
  have tab := h.tab
  rw [← outH_get (l := pre.map (txt fs cm)) hlt.1] at tab
  simp only [tbC] at tab
  unfold t28L1
  match rest with
  | [] =>
    have : ptr [] = .val (.pointer none) := rfl
    rw [List.append_nil] at hQ
    by_cases ho : pre.map (txt fs cm) = []
    · rw [ho] at hQ ⊢
      simp [eqPtr, isPtr, this, hB, outV]
      refine hQ _ ?_
      simp [restrict, find, outV]
    · simp only [outV, if_neg ho] at hQ ⊢
      simp [eqPtr, isPtr, this, hB]
      refine hQ _ ?_
      simp [restrict, find]
  | n :: rest =>
    have okn := h.ok n (by simp)
    have hn := (lst_right h.lst).1
    rw [← outH_get (l := pre.map (txt fs cm)) (hlt.2 n (by simp))] at hn
    simp only [ndC] at hn
    obtain ⟨z1, z2⟩ := nd_sz hz okn
    have o2 := okn.2
    have : ptr (n :: rest) = .hp n.b 4 0 := rfl
    rw [this]
    have hpv := ptr_cases rest
    generalize hpt : ptr rest = pt at hn hpv
    have hro1 : 16 ≤ room := by unfold room; omega
    have hro : ((pre.map (txt fs cm)).length + 1) * 16 ≤ room := by
      unfold room
      simp only [List.length_append, List.length_cons, List.length_map] at hr ⊢
      omega
    have hnx : ∀ env' H', restrict [0, 2, 3] env' = [(0, .hp b 4 0), (2, outV H.length (pre.map (txt fs cm) ++ [txt fs cm n])), (3, pt)] → H' = outH H (pre.map (txt fs cm) ++ [txt fs cm n]) →
        Rnd [0, 2, 3] (fun s : List Nd × List Nd => [(0, .hp b 4 0), (2, outV H.length (s.1.map (txt fs cm))), (3, ptr s.2)]) (fun s => outH H (s.1.map (txt fs cm))) (fun s => s.1 ++ s.2 = pre ++ n :: rest) (fun s => s.2.length) (pre, n :: rest) Q .nrm env' H' := by
      intro env' H' h1 h2
      rw [rnd_nrm]
      refine ⟨(pre ++ [n], rest), by simp, by simp, ?_, ?_⟩
      · rw [h1, ← hpt]; simp
      · rw [h2]; simp
    generalize Rnd [0, 2, 3] (fun s : List Nd × List Nd => [(0, .hp b 4 0), (2, outV H.length (s.1.map (txt fs cm))), (3, ptr s.2)]) (fun s => outH H (s.1.map (txt fs cm))) (fun s => s.1 ++ s.2 = pre ++ n :: rest) (fun s => s.2.length) (pre, n :: rest) Q = R at hnx ⊢
    obtain ⟨o, hoe⟩ : ∃ o, pre.map (txt fs cm) = o := ⟨_, rfl⟩
    rw [hoe] at hnx tab hn hro ⊢
    have hap : ∀ (x : HB) (c : Nat), c < H.length → (H ++ [x])[c]? = H[c]? := fun x c hc => List.getElem?_append_left hc
    have hn' := hn
    rw [outH_get (hlt.2 n (by simp))] at hn'
    cases hc : n.c with
    | true =>
      have ht : txt fs cm n = (cm.take n.t).drop n.f := by simp [txt, srcN, hc]
      have ol : n.t ≤ cm.length := by simpa [srcN, hc] using o2
      rw [hc] at hn hn'
      rw [ht] at hnx
      rcases hpv with rfl | ⟨y, rfl⟩
      all_goals
        by_cases ho : o = []
        · subst ho
          simp only [outH, if_pos] at tab hn ⊢
          simp [eqPtr, isPtr, hB, hn, tab, outV, bnd, Sg_size, Sg_ext, ol, Nat.le_of_lt z1, srcCells, hro1, hap _ _ (hlt.2 n (by simp))]
          refine hnx _ _ ?_ ?_
          · simp [restrict, find, outV]
          · simp [outH]
        · simp only [outH, outV, if_neg ho] at tab hn ⊢
          simp [eqPtr, isPtr, hB, hn, tab, bnd, Sg_size, Sg_ext, ol, Nat.le_of_lt z1, srcCells, hro, hap _ _ (hlt.2 n (by simp)), setH, hlk, hlm, hn']
          refine hnx _ _ ?_ ?_
          · simp [restrict, find, outV]
          · simp [outH]
    | false =>
      have ht : txt fs cm n = (fs.take n.t).drop n.f := by simp [txt, srcN, hc]
      have ol : n.t ≤ fs.length := by simpa [srcN, hc] using o2
      rw [hc] at hn hn'
      rw [ht] at hnx
      rcases hpv with rfl | ⟨y, rfl⟩
      all_goals
        by_cases ho : o = []
        · subst ho
          simp only [outH, if_pos] at tab hn ⊢
          simp [eqPtr, isPtr, hB, hn, tab, outV, bnd, Sg_size, Sg_ext, ol, Nat.le_of_lt z1, srcCells, hro1, hap _ _ (hlt.2 n (by simp))]
          refine hnx _ _ ?_ ?_
          · simp [restrict, find, outV]
          · simp [outH]
        · simp only [outH, outV, if_neg ho] at tab hn ⊢
          simp [eqPtr, isPtr, hB, hn, tab, bnd, Sg_size, Sg_ext, ol, Nat.le_of_lt z1, srcCells, hro, hap _ _ (hlt.2 n (by simp)), setH, hlk, hlm, hn']
          refine hnx _ _ ?_ ?_
          · simp [restrict, find, outV]
          · simp [outH]
end Go.Proofs.Ytmehaecclidfjaa
