import Derived.Test.YtmehaecclidfjaaW
set_option linter.unusedSimpArgs false
set_option linter.unusedVariables false
namespace Go.Proofs.Ytmehaecclidfjaa
open Go Go.Hm

theorem TB.app {H : Heap} {b : Nat} {fs cm : List UInt8} {ns : List Nd} {k : Nat} (h : TB H b fs cm ns k) (X : Heap) : TB (H ++ X) b fs cm ns k := by
  have hlt := tb_lt h
  refine ⟨?_, lst_same h.lst fun n hn => List.getElem?_append_left (lst_lt h.lst n hn), h.nd, h.ok⟩
  rw [List.getElem?_append_left hlt.1]
  exact h.tab

/-- A clone under way: pre are its own pieces, rest are still the old ones. -/
def Cln (H : Heap) (fs cm : List UInt8) (ns : List Nd) (k : Nat) (pre rest : List Nd) (h : Heap) : Prop :=
  TB h H.length fs cm (pre ++ rest) k ∧ H.length ≤ h.length ∧ (∀ c, c < H.length → h[c]? = H[c]?) ∧ (∀ n ∈ pre, H.length ≤ n.b) ∧ alls fs cm (pre ++ rest) = alls fs cm ns ∧ (∀ n ∈ rest, n.b < H.length)
theorem cln_step {H : Heap} {fs cm : List UInt8} {ns : List Nd} {k : Nat} {pre rest : List Nd} {n : Nd} {h : Heap} (hc : Cln H fs cm ns k pre (n :: rest) h) {cs : List AV} (hl : h[(loc H.length pre).1]? = some (.cells cs)) :
    Cln H fs cm ns k (pre ++ [⟨h.length, n.c, n.f, n.t⟩]) rest ((h ++ [HB.cells (ndC ⟨h.length, n.c, n.f, n.t⟩ rest)]).set (loc H.length pre).1 (HB.cells (cs.set (loc H.length pre).2 (.hp h.length 4 0)))) := by
  obtain ⟨h1, h2, h3, h4, h5, h6⟩ := hc
  have hlt := lst_lt h1.lst
  have hloc : (loc H.length pre).1 < h.length := by
    rcases Nat.lt_or_ge (loc H.length pre).1 h.length with g | g
    · exact g
    · rw [List.getElem?_eq_none g] at hl; cases hl
  have t1 := h1.app [.cells (ndC ⟨h.length, n.c, n.f, n.t⟩ rest)]
  have hnd := h1.nd
  have hB : H.length < h.length := (tb_lt h1).1
  have hd : (H.length :: (pre ++ (⟨h.length, n.c, n.f, n.t⟩ :: rest)).map (·.b)).Nodup := by
    simp only [List.map_append, List.map_cons] at hnd ⊢
    have q1 := List.nodup_cons.1 hnd
    have q2 := List.nodup_append.1 q1.2
    have q3 := List.nodup_cons.1 q2.2.1
    have fresh : ∀ m ∈ pre ++ n :: rest, m.b ≠ h.length := fun m hm => by have := hlt m hm; omega
    refine List.nodup_cons.2 ⟨?_, List.nodup_append.2 ⟨q2.1, List.nodup_cons.2 ⟨?_, q3.2⟩, ?_⟩⟩
    · intro hm
      rcases List.mem_append.1 hm with g | g
      · exact q1.1 (List.mem_append_left _ g)
      · rcases List.mem_cons.1 g with g | g
        · omega
        · exact q1.1 (List.mem_append_right _ (List.mem_cons_of_mem _ g))
    · intro hm
      obtain ⟨m, hm, e⟩ := List.mem_map.1 hm
      exact fresh m (by simp [hm]) e
    · intro u hu v hv e
      rcases List.mem_cons.1 hv with g | g
      · obtain ⟨m, hm, e'⟩ := List.mem_map.1 hu
        exact fresh m (by simp [hm]) (by rw [e', e, g])
      · exact q2.2.2 u hu v (List.mem_cons_of_mem _ g) e
  have hlst : Lst (h ++ [.cells (ndC ⟨h.length, n.c, n.f, n.t⟩ rest)]) (⟨h.length, n.c, n.f, n.t⟩ :: rest) := by
    refine ⟨by simp, ?_⟩
    have := (lst_right h1.lst).2
    exact lst_same this fun m hm => List.getElem?_append_left (hlt m (by simp [hm]))
  have okn := h1.ok n (by simp)
  obtain ⟨r1, r2⟩ := loc_set (new := ⟨h.length, n.c, n.f, n.t⟩ :: rest) t1 (by rw [List.getElem?_append_left hloc]; exact hl) hlst hd (fun m hm => by
    rcases List.mem_cons.1 hm with rfl | hm
    · exact okn
    · exact h1.ok m (by simp [hm]))
  refine ⟨by rw [List.append_assoc]; exact r1, by simp; omega, fun c hc => ?_, fun m hm => ?_, ?_, fun m hm => h6 m (by simp [hm])⟩
  · have : c ∉ H.length :: pre.map (·.b) := fun hm => by
      rcases List.mem_cons.1 hm with e | hm
      · omega
      · obtain ⟨m, hm, e⟩ := List.mem_map.1 hm
        have := h4 m hm
        omega
    have e := r2 c this
    rw [List.getElem?_append_left (by omega), h3 c hc] at e
    exact e
  · rcases List.mem_append.1 hm with hm | hm
    · exact h4 m hm
    · rw [List.mem_singleton.1 hm]; exact h2
  · rw [← h5, List.append_assoc, alls_app, alls_app (p := pre) (r := n :: rest), List.singleton_append, alls_cons, alls_cons]
    rfl

set_option maxRecDepth 20000 in
theorem clone_loop {S : Cx} {Q : Ex → Kt} {env : Env} {H h : Heap} {fs cm : List UInt8} {ns : List Nd} {k : Nat} (hlk : S.lk = 0) (hlm : S.lim = 0) (hB : S.B = []) (hc : Cln H fs cm ns k [] ns h)
    (hE : restrict [3, 4] env = [(3, .hp H.length 4 0), (4, .hp H.length 4 2)])
    (hQ : ∀ env' ns' h', Cln H fs cm ns k ns' [] h' → restrict [3] env' = [(3, .hp H.length 4 0)] → Q (.exit 0) env' h') : WB S (.loop [3, 4] t19L1) Q env h := by
  refine wb_loop (σ := List Nd × List Nd × Heap) (fun t => [(3, .hp H.length 4 0), (4, .hp (loc H.length t.1).1 4 (loc H.length t.1).2)]) (fun t => t.2.2) (fun t => Cln H fs cm ns k t.1 t.2.1 t.2.2) (fun t => t.2.1.length) ?_ ([], ns, h) hc hE rfl
  rintro ⟨pre, rest, h⟩ hc
  dsimp only at *
  obtain ⟨C, lk, lim, B⟩ := S
  dsimp only at hlk hlm hB
  subst hlk hlm hB
  obtain ⟨cs, g1, g2, g3⟩ := loc_get hc.1
  unfold t19L1
  match rest with
  | [] =>
    have hp : ptr [] = .val (.pointer none) := rfl
    rw [hp] at g3
    simp [g1, g2, g3, eqPtr, isPtr, restrict, find]
    exact hQ _ _ _ hc rfl
  | n :: rest =>
    have hp : ptr (n :: rest) = .hp n.b 4 0 := rfl
    rw [hp] at g3
    have hn := (lst_right hc.1.lst).1
    have hst := cln_step hc g1
    have hnl := lst_lt hc.1.lst n (by simp)
    have hap : ∀ x : HB, (h ++ [x])[n.b]? = h[n.b]? := fun m => List.getElem?_append_left hnl
    have hll : (loc H.length pre).1 < h.length := by
      rcases Nat.lt_or_ge (loc H.length pre).1 h.length with g | g
      · exact g
      · rw [List.getElem?_eq_none g] at g1; cases g1
    have hal : ∀ x : HB, (h ++ [x])[(loc H.length pre).1]? = some (.cells cs) := fun m => by rw [List.getElem?_append_left hll]; exact g1
    have hl2 : (loc H.length pre).2 < 4 := by rw [← g2]; exact (List.getElem?_eq_some_iff.1 g3).1
    have hl3 : (cs.set (loc H.length pre).2 (.hp h.length 4 0))[(loc H.length pre).2]? = some (.hp h.length 4 0) := by simp [g2, hl2]
    simp only [ndC] at hn hst
    generalize ptr rest = pr at hn hst
    generalize loc H.length pre = lc at g1 g3 hst hll hal hl2 hl3 ⊢
    simp [-wb_regN, -wb_true, -wb_false, -wi_st]
    rw [wb_regN]
    simp [-wb_regN, -wb_true, -wb_false, -wi_st, g1, g2, g3, eqPtr, isPtr]
    rw [wb_true rfl]
    simp [-wb_regN, -wb_true, -wb_false, -wi_st]
    rw [wb_regN]
    simp [-wb_regN, -wb_true, -wb_false, -wi_st, g1, g2, g3, hn]
    rw [wi_st]
    simp [-wb_regN, -wb_true, -wb_false, -wi_st, setH, replaceAt]
    rw [wb_regN]
    simp [-wb_regN, -wb_true, -wb_false, -wi_st]
    rw [wi_st]
    have hl4 : lc.2 ≤ 3 := by omega
    have hrp : replaceAt cs lc.2 [.hp h.length 4 0] = cs.set lc.2 (.hp h.length 4 0) := replaceAt_one _ (by omega)
    have hst2 : ((h ++ [HB.cells [Bo n.c, I n.f, I n.t, pr]]).set lc.1 (.cells (cs.set lc.2 (.hp h.length 4 0))))[lc.1]? = some (.cells (cs.set lc.2 (.hp h.length 4 0))) := List.getElem?_set_self (by simp; omega)
    simp [-wb_regN, -wb_true, -wb_false, -wi_st, hal, setH, hrp, g2, hl4]
    generalize (h ++ [HB.cells [Bo n.c, I n.f, I n.t, pr]]).set lc.1 (.cells (cs.set lc.2 (.hp h.length 4 0))) = h2 at hst hst2 ⊢
    rw [wb_regN]
    simp [-wi_st, hst2, hl3, g2]
    rw [rnd_nrm]
    refine ⟨(pre ++ [⟨h.length, n.c, n.f, n.t⟩], rest, h2), hst, by simp, ?_, rfl⟩
    simp [restrict, find, loc_snoc]

theorem cln_start {H : Heap} {b : Nat} {fs cm : List UInt8} {ns : List Nd} {k : Nat} (h : TB H b fs cm ns k) : Cln H fs cm ns k [] ns (H ++ [.cells (tbC fs cm ns k)]) := by
  have hlt := lst_lt h.lst
  refine ⟨⟨by simp, lst_same h.lst fun n hn => List.getElem?_append_left (hlt n hn), ?_, h.ok⟩, by simp, fun c hc => List.getElem?_append_left hc, by simp, rfl, hlt⟩
  refine List.nodup_cons.2 ⟨fun hm => ?_, (List.nodup_cons.1 h.nd).2⟩
  obtain ⟨n, hn, e⟩ := List.mem_map.1 hm
  have := hlt n hn
  omega

set_option maxRecDepth 20000 in
theorem clone_code {H : Heap} {b : Nat} {fs cm : List UInt8} {ns : List Nd} {k : Nat} (h : TB H b fs cm ns k) : ∃ v h', callW X A 0 0 19 [.hp b 4 0] H = some (v, h') ∧ (v = .hp H.length 4 0 ∧ ∃ ns', Cln H fs cm ns k ns' [] h') := by
  refine wb_callX [] rfl A19 rfl rfl ?_
  have tab := h.tab
  have hst := cln_start h
  have main : ∀ env' Q, restrict [3, 4] env' = [(3, .hp H.length 4 0), (4, .hp H.length 4 2)] → (∀ env' ns' h', Cln H fs cm ns k ns' [] h' → restrict [3] env' = [(3, .hp H.length 4 0)] → Q (.exit 0) env' h') → WB ⟨callW X A, 0, 0, []⟩ (.loop [3, 4] t19L1) Q env' (H ++ [.cells (tbC fs cm ns k)]) :=
    fun env' Q he hQ => clone_loop rfl rfl rfl hst he hQ
  unfold t19B
  show WB ⟨callW X A, 0, 0, []⟩ _ _ _ _
  generalize callW X A = C at main ⊢
  simp only [tbC] at tab hst main
  have hpv := ptr_cases ns
  generalize ptr ns = pr at tab hst main hpv
  simp [-wb_regN, -wb_true, -wb_false, -wi_st]
  rw [wb_regN]
  simp [-wb_regN, -wb_true, -wb_false, -wi_st]
  rw [wb_regN]
  simp [-wb_regN, -wb_true, -wb_false, -wi_st, eqPtr, isPtr]
  rw [wb_false rfl]
  simp [-wb_regN, -wb_true, -wb_false, -wi_st]
  rw [wb_regN]
  simp [-wb_regN, -wb_true, -wb_false, -wi_st, tab]
  rw [wi_st]
  simp [-wb_regN, -wb_true, -wb_false, -wi_st, setH, replaceAt]
  rw [wb_regN]
  simp [-wb_regN, -wb_true, -wb_false, -wi_st]
  refine main _ _ rfl fun env' ns' h' hc he => ?_
  rw [blk_exit, if_pos rfl, fol_nrm, wb_seq, wb_regN, he]
  simp [-wi_st]
  rw [finX_ret]
  exact ⟨_, _, rfl, rfl, ns', hc⟩

/-- CLONE: a table of its own, with the same text. -/
theorem tg_clone {H : Heap} {b : Nat} {s : List UInt8} {m : Nat} {K : List Nat} (h : TG H b s m K) : ∃ H', callW X A 0 0 19 [.hp b 4 0] H = some (.hp H.length 4 0, H') ∧ (∀ c, c < H.length → H'[c]? = H[c]?) ∧
    H.length < H'.length ∧ ∃ N, TG H' b s m (N ++ K) ∧ ∀ h', H'.length ≤ h'.length → (∀ k ∈ N, h'[k]? = H'[k]?) → TG h' H.length s m K := by
  obtain ⟨u1, fs, cm, ns, u2, rfl, u4, u5, u6⟩ := h
  obtain ⟨v, H', k1, rfl, ns', t1, t2, t3, t4, t5, _⟩ := clone_code u2
  rw [List.append_nil] at t1 t5
  have hlt := tb_lt u2
  have hltn := lst_lt u2.lst
  have hlt' := tb_lt t1
  refine ⟨H', k1, t3, hlt'.1, H.length :: ns'.map (·.b), ⟨u1, fs, cm, ns, ⟨?_, lst_same u2.lst fun n hn => t3 n.b (hltn n hn), u2.nd, u2.ok⟩, rfl, u4, u5, fun k hk => ?_⟩, fun h' g1 g2 => ⟨u1, fs, cm, ns', ⟨?_, lst_same t1.lst fun n hn => g2 n.b (by simp; exact .inr ⟨n, hn, rfl⟩), t1.nd, t1.ok⟩, t5, u4, u5, fun k hk => ?_⟩⟩
  · rw [t3 b hlt.1]; exact u2.tab
  · rcases List.mem_append.1 hk with hk | hk
    · have hk2 : H.length ≤ k ∧ k < H'.length := by
        rcases List.mem_cons.1 hk with rfl | hk
        · exact ⟨Nat.le_refl _, hlt'.1⟩
        · obtain ⟨n, hn, rfl⟩ := List.mem_map.1 hk
          exact ⟨t4 n hn, lst_lt t1.lst n hn⟩
      refine ⟨hk2.2, fun hm => ?_⟩
      rcases List.mem_cons.1 hm with e | hm
      · have := hlt.1; omega
      · obtain ⟨n, hn, e⟩ := List.mem_map.1 hm
        have := hltn n hn
        omega
    · exact ⟨by have := (u6 k hk).1; omega, (u6 k hk).2⟩
  · rw [g2 _ (List.mem_cons_self ..)]; exact t1.tab
  · have hk6 := u6 k hk
    refine ⟨by omega, fun hm => ?_⟩
    rcases List.mem_cons.1 hm with e | hm
    · omega
    · obtain ⟨n, hn, e⟩ := List.mem_map.1 hm
      have := t4 n hn
      omega
end Go.Proofs.Ytmehaecclidfjaa
