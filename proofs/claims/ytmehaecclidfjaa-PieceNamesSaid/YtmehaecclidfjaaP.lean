import Derived.Test.YtmehaecclidfjaaO
set_option linter.unusedSimpArgs false
set_option linter.unusedVariables false
namespace Go.Proofs.Ytmehaecclidfjaa
open Go Go.Hm

set_option maxRecDepth 20000 in
theorem sort5c {S : Cx} {Q : Ex → Kt} {env : Env} {H : Heap} {t a b c : Nat} {s : List UInt8} (hC : S.C = callW X A) (hlk : S.lk = 0) (hlm : S.lim = 0) (hB : S.B = []) (h : TX H t s 3600) (hac : a ≤ c) (hbc : b ≤ c) (hcn : c ≤ s.length)
    (hE : restrict [2, 3, 4, 11, 14] env = [(2, I a), (3, I b), (4, I c), (11, .hp t 4 0), (14, I s.length)])
    (hQ : ∀ env' H', find env' 10 = Bo true → Q .ret env' H') : WB S (srN 10 t5B) Q env H := by
  have main : ∀ a b env', a ≤ b → b ≤ c → restrict [2, 3, 4, 11, 14] env' = [(2, I a), (3, I b), (4, I c), (11, .hp t 4 0), (14, I s.length)] → WB S (srN 11 t5B) Q env' H :=
    fun a b env' h1 h2 he => mid5 hC hlk hlm hB h h1 h2 hcn he hQ
  unfold t5B at main ⊢
  simp only [srN, sr] at main ⊢
  rw [wb_seq, wb_seq, wb_regN, hE]
  by_cases g : b < a
  · have g' : (b : Int) < a := by omega
    simp [-wb_regN, -wb_seq, -wb_true, -wb_false, g]
    rw [wb_true rfl, wb_regN]
    simp [-wb_regN, -wb_seq]
    exact main b a _ (by omega) hac rfl
  · have g' : ¬ (b : Int) < a := by omega
    simp [-wb_regN, -wb_seq, -wb_true, -wb_false, g]
    rw [wb_false rfl, wb_skip, fol_nrm]
    exact main a b _ (by omega) hbc rfl
set_option maxRecDepth 20000 in
theorem sort5b {S : Cx} {Q : Ex → Kt} {env : Env} {H : Heap} {t a b c : Nat} {s : List UInt8} (hC : S.C = callW X A) (hlk : S.lk = 0) (hlm : S.lim = 0) (hB : S.B = []) (h : TX H t s 3600) (hab : a ≤ b) (hb : b ≤ s.length) (hc : c ≤ s.length)
    (hE : restrict [2, 3, 4, 11, 14] env = [(2, I a), (3, I b), (4, I c), (11, .hp t 4 0), (14, I s.length)])
    (hQ : ∀ env' H', find env' 10 = Bo true → Q .ret env' H') : WB S (srN 9 t5B) Q env H := by
  have main : ∀ b c env', a ≤ c → b ≤ c → c ≤ s.length → restrict [2, 3, 4, 11, 14] env' = [(2, I a), (3, I b), (4, I c), (11, .hp t 4 0), (14, I s.length)] → WB S (srN 10 t5B) Q env' H :=
    fun b c env' h1 h2 h3 he => sort5c hC hlk hlm hB h h1 h2 h3 he hQ
  unfold t5B at main ⊢
  simp only [srN, sr] at main ⊢
  rw [wb_seq, wb_seq, wb_regN, hE]
  by_cases g : c < b
  · have g' : (c : Int) < b := by omega
    simp [-wb_regN, -wb_seq, -wb_true, -wb_false, g]
    rw [wb_true rfl, wb_regN]
    simp [-wb_regN, -wb_seq]
    exact main c b _ (by omega) (by omega) hb rfl
  · have g' : ¬ (c : Int) < b := by omega
    simp [-wb_regN, -wb_seq, -wb_true, -wb_false, g]
    rw [wb_false rfl, wb_skip, fol_nrm]
    exact main b c _ (by omega) (by omega) hc rfl
set_option maxRecDepth 20000 in
theorem sort5a {S : Cx} {Q : Ex → Kt} {env : Env} {H : Heap} {t a b c : Nat} {s : List UInt8} (hC : S.C = callW X A) (hlk : S.lk = 0) (hlm : S.lim = 0) (hB : S.B = []) (h : TX H t s 3600) (ha : a ≤ s.length) (hb : b ≤ s.length) (hc : c ≤ s.length)
    (hE : restrict [2, 3, 4, 11, 14] env = [(2, I a), (3, I b), (4, I c), (11, .hp t 4 0), (14, I s.length)])
    (hQ : ∀ env' H', find env' 10 = Bo true → Q .ret env' H') : WB S (srN 8 t5B) Q env H := by
  have main : ∀ a b env', a ≤ b → b ≤ s.length → restrict [2, 3, 4, 11, 14] env' = [(2, I a), (3, I b), (4, I c), (11, .hp t 4 0), (14, I s.length)] → WB S (srN 9 t5B) Q env' H :=
    fun a b env' h1 h2 he => sort5b hC hlk hlm hB h h1 h2 hc he hQ
  unfold t5B at main ⊢
  simp only [srN, sr] at main ⊢
  rw [wb_seq, wb_seq, wb_regN, hE]
  by_cases g : b < a
  · have g' : (b : Int) < a := by omega
    simp [-wb_regN, -wb_seq, -wb_true, -wb_false, g]
    rw [wb_true rfl, wb_regN]
    simp [-wb_regN, -wb_seq]
    exact main b a _ (by omega) ha rfl
  · have g' : ¬ (b : Int) < a := by omega
    simp [-wb_regN, -wb_seq, -wb_true, -wb_false, g]
    rw [wb_false rfl, wb_skip, fol_nrm]
    exact main a b _ (by omega) hb rfl
def pk (a : Int) (n : Nat) : Nat := (a % ((n + 1 : Nat) : Int)).toNat
theorem pk_le (a : Int) (n : Nat) : pk a n ≤ n := by
  have h1 := Int.emod_nonneg a (by omega : ((n + 1 : Nat) : Int) ≠ 0)
  have h2 := Int.emod_lt_of_pos a (by omega : (0 : Int) < ((n + 1 : Nat) : Int))
  unfold pk
  omega
theorem pick_pk {lk lim : Nat} {H : Heap} (a : Int) (n : Nat) (hm : n ≤ 100000) (hn : -9223372036854775808 ≤ a ∧ a ≤ 9223372036854775807) : callW X A lk lim 16 [I a, I ((n : Int) + 1)] H = some (I (pk a n), H) := by
  have := pick_code (lk := lk) (lim := lim) (H := H) a (n + 1) (by omega) hn
  rw [if_neg (by omega)] at this
  have h1 := Int.emod_nonneg a (by omega : ((n + 1 : Nat) : Int) ≠ 0)
  rw [show (n : Int) + 1 = ((n + 1 : Nat) : Int) by omega, this, show ((pk a n : Nat) : Int) = a % ((n + 1 : Nat) : Int) by unfold pk; omega]
def i64 (a : Int) : Prop := -9223372036854775808 ≤ a ∧ a ≤ 9223372036854775807
set_option maxRecDepth 20000 in
theorem picks5 {S : Cx} {Q : Ex → Kt} {env : Env} {H : Heap} {t : Nat} {a b c : Int} {s : List UInt8} (hC : S.C = callW X A) (hlk : S.lk = 0) (hlm : S.lim = 0) (hB : S.B = []) (h : TX H t s 3600) (ha : i64 a) (hb : i64 b) (hc : i64 c)
    (hE : restrict [2, 3, 4, 11] env = [(2, I a), (3, I b), (4, I c), (11, .hp t 4 0)])
    (hQ : ∀ env' H', find env' 10 = Bo true → Q .ret env' H') : WB S (srN 6 t5B) Q env H := by
  obtain ⟨C, lk, lim, B⟩ := S
  dsimp only at hC hlk hlm hB
  subst hC hlk hlm hB
  have main : ∀ env', restrict [2, 3, 4, 11, 14] env' = [(2, I (pk a s.length)), (3, I (pk b s.length)), (4, I (pk c s.length)), (11, .hp t 4 0), (14, I s.length)] → WB { C := callW X A, lk := 0, lim := 0, B := [] } (srN 8 t5B) Q env' H :=
    fun env' he => sort5a rfl rfl rfl rfl h (pk_le _ _) (pk_le _ _) (pk_le _ _) he hQ
  have hs := h.1
  have k0 := fun lk lim => tx_len (lk := lk) (lim := lim) h
  have k1 := fun lk lim => pick_pk (lk := lk) (lim := lim) (H := H) a s.length (by omega) ha
  have k2 := fun lk lim => pick_pk (lk := lk) (lim := lim) (H := H) b s.length (by omega) hb
  have k3 := fun lk lim => pick_pk (lk := lk) (lim := lim) (H := H) c s.length (by omega) hc
  have w1 : IntKind.i64.wrap ((s.length : Int) + 1) = (s.length : Int) + 1 := wrap64 (by omega) (by omega)
  unfold t5B at main ⊢
  simp only [srN, sr] at main ⊢
  generalize callW X A = C at k0 k1 k2 k3 main ⊢
  rw [wb_seq, wb_regN, hE]
  simp [-wb_regN, -wb_seq, k0]
  rw [wb_seq, wb_regN]
  simp [-wb_regN, -wb_seq, k1, k2, k3, w1]
  exact main _ rfl
end Go.Proofs.Ytmehaecclidfjaa
