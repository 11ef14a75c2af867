import Derived.Test.YtmehaecclidfjaaM
set_option linter.unusedSimpArgs false
set_option linter.unusedVariables false
namespace Go.Proofs.Ytmehaecclidfjaa
open Go Go.Hm

def srN : Nat → AC → AC
  | 0, c => c
  | n + 1, c => srN n (sr c)
set_option maxRecDepth 20000 in
theorem edits5 {S : Cx} {Q : Ex → Kt} {env : Env} {H : Heap} {b : Nat} {s : List UInt8} {l : List Ac} {v1 v2 v3 : AV} (hC : S.C = callW X A) (hlk : S.lk = 0) (hlm : S.lim = 0) (hB : S.B = []) (hl : l.length ≤ 60) (hx : ∀ x ∈ l, x.s.length ≤ 60) (h : TX H b s 0)
    (hE : restrict [1, 2, 3, 4, 11, 13] env = [(1, .sl l.length (acC l)), (2, v1), (3, v2), (4, v3), (11, .hp b 4 0), (13, I 0)])
    (hQ : ∀ env' s' H', TX H' b s' 3600 → restrict [2, 3, 4, 11] env' = [(2, v1), (3, v2), (4, v3), (11, .hp b 4 0)] → Q (.exit 0) env' H') : WB S (.loop [1, 2, 3, 4, 11, 13] t5L1) Q env H := by
  refine wb_loop (σ := Nat × Heap × List UInt8) (fun t => [(1, .sl l.length (acC l)), (2, v1), (3, v2), (4, v3), (11, .hp b 4 0), (13, I t.1)]) (fun t => t.2.1) (fun t => t.1 ≤ l.length ∧ TX t.2.1 b t.2.2 (60 * t.1)) (fun t => l.length - t.1) ?_ (0, H, s) ⟨by omega, h⟩ hE rfl
  rintro ⟨i, H, s⟩ ⟨hi, ht⟩
  dsimp only at *
  obtain ⟨C, lk, lim, B⟩ := S
  dsimp only at hC hlk hlm hB
  subst hC hlk hlm hB
  unfold t5L1
  by_cases hil : i < l.length
  · have g1 := acC_1 hil
    have g2 := acC_2 hil
    have g3 := acC_3 hil
    have i4 : i * 4 + 4 ≤ 4 * l.length := by omega
    have w1 : IntKind.i64.wrap ((i : Int) + 1) = (i : Int) + 1 := wrap64 (by omega) (by omega)
    have hxs := hx l[i] (List.getElem_mem hil)
    generalize l[i] = x at g1 g2 g3 hxs
    obtain ⟨H', k, t'⟩ := tx_edit (a := x.a) (d := x.d) (x := x.s) ht (by omega)
    generalize callW X A = C at k ⊢
    simp [hil, acC_len, i4, g1, g2, g3, k, w1, rnd_nrm]
    exact ⟨i + 1, H', ⟨by omega, _, tx_mono t' (by omega)⟩, by omega, by simp, rfl⟩
  · obtain rfl : i = l.length := by omega
    simp
    refine hQ _ s H (tx_mono ht (by omega)) ?_
    simp [restrict, find]
theorem bytes1 (v : UInt8) : bytesOf [AV.val (Value.int IntKind.u8 v.toNat)] = some [v] := by
  simp [bytesOf]
theorem sg_eql1 (v : UInt8) : abins .eql ⟨⟨[v]⟩⟩ ⟨#[v]⟩ = some (Bo true) := by
  rw [show (⟨#[v]⟩ : ByteArray) = ⟨⟨[v]⟩⟩ from rfl, sg_eql]
  simp
set_option maxRecDepth 20000 in
theorem fin5 {S : Cx} {Q : Ex → Kt} {env : Env} {H : Heap} {b a : Nat} {s : List UInt8} (hC : S.C = callW X A) (hlk : S.lk = 0) (hlm : S.lim = 0) (hB : S.B = []) (h : TX H b s 3600) (ha : a ≤ s.length)
    (hE : restrict [2, 11, 14] env = [(2, I a), (11, .hp b 4 0), (14, I s.length)])
    (hQ : ∀ env' H', find env' 10 = Bo true → Q .ret env' H') : WB S (srN 16 t5B) Q env H := by
  obtain ⟨C, lk, lim, B⟩ := S
  dsimp only at hC hlk hlm hB
  subst hC hlk hlm hB
  have hs := h.1
  unfold t5B
  simp only [srN, sr]
  have k1 := fun lk lim => tx_byte (lk := lk) (lim := lim) (x := a) h (by omega)
  have k2 := fun y lk lim => tx_slice (lk := lk) (lim := lim) (x := a) (y := y) h (by omega)
  have w1 : IntKind.i64.wrap ((a : Int) + 1) = (a : Int) + 1 := wrap64 (by omega) (by omega)
  by_cases hal : a < s.length
  · have e1 : byteV s a = .tup [U8 s[a], Bo true] := by
      unfold byteV
      rw [if_pos (by omega)]
      simp [hal]
    have e2 : sliceV s a ((a : Int) + 1) = .tup [Sg [s[a]], I 0] := by
      unfold sliceV
      rw [if_pos ⟨by omega, by omega, by omega⟩, show ((a : Int) + 1).toNat = a + 1 by omega, show (a : Int).toNat = a by omega]
      rw [List.take_succ_eq_append_getElem hal, List.drop_left' (by rw [List.length_take]; omega)]
    generalize s[a] = v at e1 e2
    generalize callW X A = C at k1 k2 ⊢
    simp [-wb_regN, -wb_regD]
    rw [wb_regN, hE]
    simp [-wb_regN, -wb_regD]
    rw [k1 _ _ (by omega), e1]
    simp [-wb_regN, -wb_regD]
    rw [wb_regN]
    simp [-wb_regN, -wb_regD, w1]
    rw [k2 _ _ _ (by omega), e2]
    simp [-wb_regN, -wb_regD]
    rw [wb_regN]
    simp [-wb_regN, -wb_regD, -wr_cons, -wr_nil]
    iterate 23 (rw [wr_cons]; simp [-wr_cons, -wr_nil, hal, sg_eql, bytes1, sg_eql1])
    rw [wr_nil]
    simp
    exact hQ _ _ rfl
  · have e1 : byteV s a = .tup [.val (.int .u8 0), Bo false] := by
      unfold byteV
      rw [if_pos (by omega)]
      simp [hal]
    have e2 : sliceV s a ((a : Int) + 1) = .tup [Sg [], I 2] := by
      unfold sliceV
      rw [if_neg (fun h => by have := h.2.2; omega)]
    generalize callW X A = C at k1 k2 ⊢
    simp [-wb_regN, -wb_regD]
    rw [wb_regN, hE]
    simp [-wb_regN, -wb_regD]
    rw [k1 _ _ (by omega), e1]
    simp [-wb_regN, -wb_regD]
    rw [wb_regN]
    simp [-wb_regN, -wb_regD, w1]
    rw [k2 _ _ _ (by omega), e2]
    simp [-wb_regN, -wb_regD]
    rw [wb_regN]
    simp [-wb_regN, -wb_regD, -wr_cons, -wr_nil]
    iterate 23 (rw [wr_cons]; simp [-wr_cons, -wr_nil, hal, sg_eql])
    rw [wr_nil]
    simp
    exact hQ _ _ rfl
end Go.Proofs.Ytmehaecclidfjaa
