import Derived.Test.YtmehaecclidfjaaSn3
set_option linter.unusedSimpArgs false
set_option linter.unusedVariables false
namespace Go.Proofs.Ytmehaecclidfjaa
open Go Go.Hm

set_option maxRecDepth 20000 in
theorem mid4 {S : Cx} {Q : Ex → Kt} {env : Env} {H : Heap} {b p7 : Nat} {early : Int} {s : List UInt8} (hC : S.C = C2) (hlk : S.lk = 0) (hlm : S.lim = 0) (hB : S.B = [])
    (hp : 1 < p7) (he : -9223372036854775808 ≤ early ∧ early ≤ 9223372036854775807) (tg : TG H b s 3600 [0, 1, p7]) (c0 : H[0]? = some (.cells [I early])) (c1 : H[1]? = some (.cells [Bo false])) (c7 : H[p7]? = some (.cells [.hp b 4 0]))
    (hE : restrict [5, 6, 7] env = [(5, .hp 0 1 0), (6, .hp 1 1 0), (7, .hp p7 1 0)])
    (hQ : ∀ env' H', find env' 6 = .hp 1 1 0 → H'[1]? = some (.cells [Bo true]) → Q .ret env' H') : WB S (srN 6 u4B) Q env H := by
  have main : ∀ env' H' l (e : Nat), l.flatten = s → l.length ≤ 65536 → Rg4 b p7 H.length (H.length + 2) (H.length + 3) e s l 0 H' → pieceIt 29 [.hp (H.length + 1) 1 0] H' = some (itV l) → restrict [5, 6, 7, 10, 11, 12, 13] env' = [(5, .hp 0 1 0), (6, .hp 1 1 0), (7, .hp p7 1 0), (10, .hp H.length 1 0), (11, .fn 29 [.hp (H.length + 1) 1 0]), (12, .hp (H.length + 2) 1 0), (13, .hp (H.length + 3) 1 0)] →
      WB S (srN 11 u4B) Q env' H' := fun env' H' l e h1 h2 h3 h4 h5 =>
    have hlt : p7 < H.length := by
      obtain ⟨_, _, _, _, _, _, _, _, h⟩ := tg
      exact (h p7 (by simp)).1
    rng4 hC hlk hlm hB ⟨hp, hlt, by omega, by omega⟩ h1 tg.1 h2 h3 h4 h5 hQ
  obtain ⟨C, lk, lim, B⟩ := S
  dsimp only at hC hlk hlm hB
  subst hC hlk hlm hB
  have hlt : p7 < H.length := by
    obtain ⟨_, _, _, _, _, _, _, _, h⟩ := tg
    exact (h p7 (by simp)).1
  have k13 : C2 0 0 13 [.hp b 4 0] H = some (Sg s, H) := up rfl (tx_text tg.tx (by omega) (Nat.zero_le _))
  have k15 : ∀ (H : Heap), C2 0 0 15 [.hp b 4 0] H = some (.fn 29 [.hp H.length 1 0], H ++ [.cells [.hp b 4 0]]) := fun H => up rfl (seq_code rfl)
  have k16 : ∀ (H : Heap), C2 0 0 16 [I early, I 8] H = some (I (early % 8), H) := fun H => up rfl (pick_code early 8 (by omega) he)
  have ee : early % 8 = (((early % 8).toNat : Nat) : Int) := by omega
  have hfin : ∀ X, X = ((H ++ [HB.cells [Sg s], HB.cells [.hp b 4 0]]).set 0 (HB.cells [I (early % 8)])) ++ [HB.cells [Sg []], HB.cells [I 0]] →
      ∃ l, l.flatten = s ∧ l.length ≤ 65536 ∧ Rg4 b p7 H.length (H.length + 2) (H.length + 3) (early % 8).toNat s l 0 X ∧ pieceIt 29 [.hp (H.length + 1) 1 0] X = some (itV l) := by
    rintro X rfl
    have t1 := tg.app [HB.cells [Sg s], HB.cells [.hp b 4 0]] [0, 1, p7, H.length] (fun k hk => by simp at hk ⊢; omega)
    have t2 := (t1.set (k := 0) (by simp) (.cells [I (early % 8)])).app [.cells [Sg []], .cells [I 0]] [0, 1, p7, H.length, H.length + 2, H.length + 3] (fun k hk => by simp at hk ⊢; omega)
    obtain ⟨l, h1, h2, h3, h4⟩ := it_tx (m := 3600) t2.tx (c := H.length + 1) (by decide) (by
      rw [List.getElem?_append_left (by simp), List.getElem?_set_ne (by omega), List.getElem?_append_right (by omega)]
      simp)
    have q0 : (((H ++ [HB.cells [Sg s], .cells [.hp b 4 0]]).set 0 (.cells [I (early % 8)])) ++ [.cells [Sg []], .cells [I 0]])[0]? = some (.cells [I (early % 8)]) := by
      rw [List.getElem?_append_left (by simp), List.getElem?_set_self (by simp)]
    refine ⟨l, h1, h3, ⟨⟨s, t2⟩, by rw [q0, ← ee], ?_, ?_, ?_, ?_, ?_⟩, h4⟩
    · rw [List.getElem?_append_left (by simp), List.getElem?_set_ne (by omega), List.getElem?_append_left (by omega)]; exact c1
    · rw [List.getElem?_append_left (by simp; omega), List.getElem?_set_ne (by omega), List.getElem?_append_left (by omega)]; exact c7
    · rw [List.getElem?_append_left (by simp), List.getElem?_set_ne (by omega), List.getElem?_append_right (by omega)]; simp
    · rw [List.getElem?_append_right (by simp)]; simp
    · rw [List.getElem?_append_right (by simp)]; simp
  unfold u4B at main ⊢
  simp only [srN, sr] at main ⊢
  generalize C2 = C at k13 k15 k16 main ⊢
  rw [wb_seq, wb_regN, hE]
  simp [-wb_regN, -wb_regD, -wb_true, -wb_false, -wi_st, c7, k13]
  rw [wi_st]
  simp [-wb_regN, -wb_regD, -wb_true, -wb_false, -wi_st, setH, replaceAt]
  rw [wb_regN]
  have c7' : (H ++ [HB.cells [Sg s]])[p7]? = some (.cells [.hp b 4 0]) := by
    rw [List.getElem?_append_left (by omega)]; exact c7
  simp [-wb_regN, -wb_regD, -wb_true, -wb_false, -wi_st, c7', k15]
  rw [wb_regN]
  simp [-wb_regN, -wb_regD, -wb_true, -wb_false, -wi_st, eqFn, isFn]
  rw [wb_false rfl]
  simp [-wb_regN, -wb_regD, -wb_true, -wb_false, -wi_st]
  rw [wb_regN]
  have c0' : (H ++ [HB.cells [Sg s], .cells [.hp b 4 0]])[0]? = some (.cells [I early]) := by
    rw [List.getElem?_append_left (by omega)]; exact c0
  have len4 : (H ++ [HB.cells [Sg s], .cells [.hp b 4 0]]).length = H.length + 2 := by simp
  generalize H ++ [HB.cells [Sg s], HB.cells [.hp b 4 0]] = H4 at hfin c0' len4 ⊢
  simp [-wb_regN, -wb_regD, -wb_true, -wb_false, -wi_st, c0', k16]
  rw [wi_st]
  simp [-wb_regN, -wb_regD, -wb_true, -wb_false, -wi_st, c0', setH, replaceAt]
  rw [wb_regN]
  simp [-wb_regN, -wb_regD, -wb_true, -wb_false, -wi_st, len4]
  rw [wi_st]
  simp [-wb_regN, -wb_regD, -wb_true, -wb_false, -wi_st, setH, replaceAt, len4]
  rw [wi_st]
  simp [-wb_regN, -wb_regD, -wb_true, -wb_false, -wi_st, setH, replaceAt, len4]
  obtain ⟨l, h1, h2, h3, h4⟩ := hfin _ rfl
  exact main _ _ l _ h1 h2 h3 h4 rfl

set_option maxRecDepth 20000 in
theorem edits4 {S : Cx} {Q : Ex → Kt} {env : Env} {H : Heap} {b p7 : Nat} {s : List UInt8} {l : List Ac} {early : Int} (hC : S.C = C2) (hlk : S.lk = 0) (hlm : S.lim = 0) (hB : S.B = []) (hl : l.length ≤ 60) (hx : ∀ x ∈ l, x.s.length ≤ 60)
    (h : TG H b s 0 [0, 1, p7]) (c0 : H[0]? = some (.cells [I early])) (c1 : H[1]? = some (.cells [Bo false])) (c7 : H[p7]? = some (.cells [.hp b 4 0]))
    (hE : restrict [1, 5, 6, 7, 9] env = [(1, .sl l.length (acC l)), (5, .hp 0 1 0), (6, .hp 1 1 0), (7, .hp p7 1 0), (9, I 0)])
    (hQ : ∀ env' s' H', TG H' b s' 3600 [0, 1, p7] → H'[0]? = some (.cells [I early]) → H'[1]? = some (.cells [Bo false]) → H'[p7]? = some (.cells [.hp b 4 0]) → restrict [5, 6, 7] env' = [(5, .hp 0 1 0), (6, .hp 1 1 0), (7, .hp p7 1 0)] → Q (.exit 0) env' H') : WB S (.loop [1, 5, 6, 7, 9] u4L1) Q env H := by
  refine wb_loop (σ := Nat × Heap × List UInt8) (fun t => [(1, .sl l.length (acC l)), (5, .hp 0 1 0), (6, .hp 1 1 0), (7, .hp p7 1 0), (9, I t.1)]) (fun t => t.2.1)
    (fun t => t.1 ≤ l.length ∧ TG t.2.1 b t.2.2 (60 * t.1) [0, 1, p7] ∧ t.2.1[0]? = some (.cells [I early]) ∧ t.2.1[1]? = some (.cells [Bo false]) ∧ t.2.1[p7]? = some (.cells [.hp b 4 0])) (fun t => l.length - t.1) ?_ (0, H, s) ⟨by omega, h, c0, c1, c7⟩ hE rfl
  rintro ⟨i, H, s⟩ ⟨hi, ht, c0, c1, c7⟩
  dsimp only at *
  obtain ⟨C, lk, lim, B⟩ := S
  dsimp only at hC hlk hlm hB
  subst hC hlk hlm hB
  unfold u4L1
  by_cases hil : i < l.length
  · have g1 := acC_1 hil
    have g2 := acC_2 hil
    have g3 := acC_3 hil
    have i4 : i * 4 + 4 ≤ 4 * l.length := by omega
    have w1 : IntKind.i64.wrap ((i : Int) + 1) = (i : Int) + 1 := wrap64 (by omega) (by omega)
    have hxs := hx l[i] (List.getElem_mem hil)
    generalize l[i] = x at g1 g2 g3 hxs
    obtain ⟨H', k, t', hl', kp⟩ := tg_edit (a := x.a) (d := x.d) (x := x.s) ht (by omega)
    have k : C2 0 0 12 _ H = _ := up rfl k
    generalize C2 = C at k ⊢
    simp [hil, acC_len, i4, g1, g2, g3, k, w1, c7, rnd_nrm]
    exact ⟨i + 1, H', ⟨by omega, ⟨_, t'.mono (by omega)⟩, by rw [kp 0 (by simp)]; exact c0, by rw [kp 1 (by simp)]; exact c1, by rw [kp p7 (by simp)]; exact c7⟩, by omega, by simp, rfl⟩
  · obtain rfl : i = l.length := by omega
    simp
    refine hQ _ s H (ht.mono (by omega)) c0 c1 c7 ?_
    simp [restrict, find]
end Go.Proofs.Ytmehaecclidfjaa
