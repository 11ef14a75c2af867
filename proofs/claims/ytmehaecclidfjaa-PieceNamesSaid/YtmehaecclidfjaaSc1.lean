import Derived.Test.YtmehaecclidfjaaRf8
set_option linter.unusedSimpArgs false
set_option linter.unusedVariables false
namespace Go.Proofs.Ytmehaecclidfjaa
open Go Go.Hm

/-- Between two acts of PieceScript: the table, the document's text beside it. -/
structure Sc (b bo : Nat) (s : List UInt8) (m : Nat) (h : Heap) : Prop where
  tg : TG h b s m [bo]
  co : h[bo]? = some (.cells [Sg s])

/-- An act: what becomes of the text. -/
def actV (s : List UInt8) (k : Int) (x : Ac) : List UInt8 := if k = 3 ∨ k = 4 then s else editV s x.a x.d x.s

set_option maxRecDepth 20000 in
/-- What is asked behind an act. -/
theorem ask7 {S : Cx} {Q : Ex → Kt} {env : Env} {H : Heap} {b bo : Nat} {s : List UInt8} {m i : Nat} {l : List Ac} {x y z : Int} (hC : S.C = C2) (hlk : S.lk = 0) (hlm : S.lim = 0) (hB : S.B = []) (h : Sc b bo s m H) (hm : m ≤ 1000000000000)
    (hE : restrict [1, 2, 3, 4, 11, 13, 15] env = [(1, .sl l.length (acC l)), (2, I x), (3, I y), (4, I z), (11, .hp b 4 0), (13, .hp bo 1 0), (15, I i)])
    (hQ : ∀ env', restrict [1, 2, 3, 4, 11, 13, 15] env' = [(1, .sl l.length (acC l)), (2, I x), (3, I y), (4, I z), (11, .hp b 4 0), (13, .hp bo 1 0), (15, I i)] → Q .nrm env' H) : WB S (sr (match sr u7L1 with | .seq (.block _ c) _ => c | c => c)) Q env H := by
  obtain ⟨C, lk, lim, B⟩ := S
  dsimp only at hC hlk hlm hB
  subst hC hlk hlm hB
  have hs := h.tg.1
  have k14 : C2 0 0 14 [.hp b 4 0, I x, I y] H = some (sliceV s x y, H) := up rfl (tx_slice h.tg.tx hm (Nat.zero_le _))
  have k24 : C2 0 0 24 [.hp bo 1 0, I x, I y] H = some (sliceV s x y, H) := up rfl (rslice_code hs h.co)
  have k18 : C2 0 0 18 [.hp b 4 0, I z] H = some (byteV s z, H) := up rfl (tx_byte h.tg.tx hm (Nat.zero_le _))
  have k25 : C2 0 0 25 [.hp bo 1 0, I z] H = some (byteV s z, H) := up rfl (rbyte_code hs h.co)
  have k21 : C2 0 0 21 [.hp b 4 0] H = some (.tup [Sg s, Bo true], H) := all_code h.tg.tx hm (Nat.zero_le _)
  have k13 : C2 H.length 0 13 [.hp b 4 0] H = some (Sg s, H) := up rfl (tx_text h.tg.tx hm (Nat.le_refl _))
  have k17 : C2 H.length 0 17 [.hp b 4 0] H = some (I s.length, H) := up rfl (tx_len h.tg.tx)
  have co := h.co
  have hbl : b < H.length := by
    obtain ⟨_, _, _, _, ht, _⟩ := h.tg
    exact (tb_lt ht).1
  obtain ⟨g, e, hsv⟩ := sliceV_ex s x y
  obtain ⟨bv, bb, hbv⟩ : ∃ bv bb, byteV s z = .tup [.val (.int .u8 bv), Bo bb] := by
    unfold byteV
    split
    · split
      · exact ⟨_, _, rfl⟩
      · exact ⟨_, _, rfl⟩
    · exact ⟨_, _, rfl⟩
  rw [hsv] at k14 k24
  rw [hbv] at k18 k25
  have n1 := sg_neq s s
  have n2 := sg_neq g g
  simp only [BEq.rfl, Bool.not_true] at n1 n2
  unfold u7L1
  simp only [sr]
  generalize C2 = C at k14 k24 k18 k25 k21 k13 k17 ⊢
  rw [wb_seq, wb_regN, hE]
  simp [-wb_regN, -wb_regD, -wb_true, -wb_false, k14]
  rw [wb_regN]
  simp [-wb_regN, -wb_regD, -wb_true, -wb_false, k24]
  rw [wb_regN]
  simp [-wb_regN, -wb_regD, -wb_true, -wb_false, k18]
  rw [wb_regN]
  simp [-wb_regN, -wb_regD, -wb_true, -wb_false, k25]
  rw [wb_regN]
  simp [-wb_regN, -wb_regD, -wb_true, -wb_false, k21]
  rw [wb_regD rfl]
  simp [-wb_regN, -wb_regD, -wb_true, -wb_false, co, k13, k17, n1, n2, hbl, Sg_size]
  rw [wb_false rfl, wb_skip]
  exact hQ _ rfl
end Go.Proofs.Ytmehaecclidfjaa
