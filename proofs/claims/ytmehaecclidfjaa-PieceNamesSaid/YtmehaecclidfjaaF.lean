import Derived.Test.YtmehaecclidfjaaE
set_option linter.unusedSimpArgs false
set_option linter.unusedVariables false
namespace Go.Proofs.Ytmehaecclidfjaa
open Go Go.Hm

def slV (l : List (List UInt8)) : AV := if l = [] then .e0 else .sl l.length (l.map Sg)
theorem frz_txts (lim : Nat) (H : Heap) (d : Nat) (l : List (List UInt8)) : mapO (frz lim H d) (l.map Sg) = some (l.map Sg) := by
  induction l with
  | nil => rfl
  | cons a l ih =>
    simp only [List.map_cons, mapO, frz_val] at ih ⊢
    rw [ih]
theorem bel_txts (lim : Nat) (l : List (List UInt8)) : belowL lim (l.map Sg) = true := by
  induction l with
  | nil => rfl
  | cons a l ih => simp only [List.map_cons, belowL, Hm.below, Bool.true_and]; exact ih
set_option maxRecDepth 20000 in
theorem pieces_code {lk lim : Nat} {H : Heap} {b : Nat} {fs cm : List UInt8} {ns : List Nd} {k : Nat} (hlk : lk ≤ H.length) (hz : Sz fs cm) (h : TB H b fs cm ns k) (hr : ns.length ≤ 65536) :
    callW X A lk lim 28 [.hp b 4 0] H = some (slV (ns.map (txt fs cm)), H) := by
  refine wb_callB [] rfl A28 rfl rfl ?_
  unfold t28B
  have tab := h.tab
  simp only [tbC] at tab
  have hpv := ptr_cases ns
  generalize callW X A = C
  have main : ∀ env, restrict [0, 2, 3] env = [(0, .hp b 4 0), (2, .e0), (3, ptr ns)] → WB ⟨C, lk, H.length, []⟩ (.loop [0, 2, 3] t28L1) (BlkE 0 (Fol ⟨C, lk, H.length, []⟩ ((AC.regN [2] [⟨some 52, none, .mv (.tmp 2), 0, false⟩, ⟨some 2, none, .mv (.tmp 52), 0, false⟩]).seq AC.ret) (FinT [.tmp 2] true H (slV (ns.map (txt fs cm)), H)))) env H := by
    intro env he
    refine pieces_loop rfl hlk (Nat.le_refl _) hz h hr he fun env' he' => ?_
    rw [blk_exit, if_pos rfl, fol_nrm, wb_seq, wb_regN, he']
    obtain ⟨l, hl⟩ : ∃ l, ns.map (txt fs cm) = l := ⟨_, rfl⟩
    rw [hl]
    by_cases ho : l = []
    · rw [ho]
      simp [outV, outH, slV]
    · have hb := frz_txts H.length (H ++ [.cells (l.map Sg)]) 7 l
      have htk : (l.map Sg).take l.length = l.map Sg := List.take_of_length_le (by simp)
      simp [outV, outH, slV, ho, htk, hb, bel_txts]
  generalize hpt : ptr ns = pt at tab hpv main
  rcases hpv with rfl | ⟨y, rfl⟩
  · simp [eqPtr, isPtr, tab]
    simpa using main _ (by simp [restrict, find])
  · simp [eqPtr, isPtr, tab]
    simpa using main _ (by simp [restrict, find])
theorem strsOf_txts : ∀ l : List (List UInt8), strsOf (l.map Sg) = some (l.map fun t => ⟨⟨t⟩⟩)
  | [] => rfl
  | t :: l => by simp only [List.map_cons, strsOf, strsOf_txts l]
theorem join_nil : ∀ l : List (List UInt8), Go.Lib.join l [] = l.flatten
  | [] => rfl
  | [t] => by simp [Go.Lib.join, List.intercalate]
  | t :: q :: l => by
    have := join_nil (q :: l)
    simp only [Go.Lib.join, List.intercalate] at this ⊢
    rw [List.intersperse_cons_cons, List.flatten_cons, List.flatten_cons, this]
    rfl
theorem join_code {lk lim : Nat} {H : Heap} {l : List (List UInt8)} (h1 : l.length ≤ 65536) (h2 : l.flatten.length ≤ 1000000) : callW X A lk lim 27 [slV l, Sg []] H = some (Sg l.flatten, H) := by
  refine callW_prim ?_
  have e : (l.map fun t => (⟨⟨t⟩⟩ : ByteArray)).map (·.data.toList) = l := by
    rw [List.map_map]
    exact List.map_id' l
  have hc : slCells H (slV l) = some (l.map Sg) := by
    unfold slV
    split
    · rename_i h; rw [h]; rfl
    · rfl
  have hn : slN (slV l) = l.length := by
    unfold slV
    split
    · rename_i h; rw [h]; rfl
    · rfl
  have j : Go.Lib.join l [] = l.flatten := join_nil l
  show joinX [slV l, Sg []] H = _
  unfold joinX
  simp only [hc, strsOf_txts, hn]
  rw [e, if_pos ⟨by simp, by simp; omega, by rw [j]; omega⟩]
  simp only [joinB, e]
  rw [show (Go.Lib.join l (({ data := { toList := [] } } : ByteArray)).data.toList) = l.flatten from j]
set_option maxRecDepth 20000 in
theorem text_code {lk lim : Nat} {H : Heap} {b : Nat} {fs cm : List UInt8} {ns : List Nd} {k : Nat} (hlk : lk ≤ H.length) (hz : Sz fs cm) (h : TB H b fs cm ns k) (hr : ns.length ≤ 65536) (ht : (alls fs cm ns).length ≤ 1000000) :
    callW X A lk lim 13 [.hp b 4 0] H = some (Sg (alls fs cm ns), H) := by
  have k1 := pieces_code (lim := H.length) hlk hz h hr
  have k2 := join_code (lk := lk) (lim := H.length) (H := H) (l := ns.map (txt fs cm)) (by simpa using hr) ht
  refine wb_callB [] rfl A13 rfl rfl ?_
  unfold t13B
  have hsv : slV (ns.map (txt fs cm)) = .e0 ∨ ∃ n c, slV (ns.map (txt fs cm)) = .sl n c := by
    unfold slV
    split
    · exact .inl rfl
    · exact .inr ⟨_, _, rfl⟩
  have ea : (ns.map (txt fs cm)).flatten = alls fs cm ns := rfl
  rw [ea] at k2
  generalize slV (ns.map (txt fs cm)) = v at k1 k2 hsv
  generalize callW X A = C at k1 k2 ⊢
  rcases hsv with rfl | ⟨n, c, rfl⟩
  · simp [k1, k2]
  · simp [k1, k2]
end Go.Proofs.Ytmehaecclidfjaa
