import Derived.Test.YtmehaecclidfjaaSc1
set_option linter.unusedSimpArgs false
set_option linter.unusedVariables false
namespace Go.Proofs.Ytmehaecclidfjaa
open Go Go.Hm

def actB : AC → AC
  | .seq _ (.seq (.block _ (.seq a _)) _) => a
  | c => c

set_option maxRecDepth 20000 in
/-- An act. -/
theorem act7 {S : Cx} {Q : Ex → Kt} {env : Env} {H : Heap} {b bo : Nat} {s : List UInt8} {i : Nat} {l : List Ac} {x y z : Int} (hC : S.C = C2) (hlk : S.lk = 0) (hlm : S.lim = 0) (hB : S.B = []) (h : Sc b bo s (60 * i) H) (hl : l.length ≤ 60) (hx : ∀ x ∈ l, x.s.length ≤ 60 ∧ i64 x.k ∧ i64 x.a ∧ i64 x.d) (hil : i < l.length)
    (hE : restrict [1, 2, 3, 4, 11, 13, 15] env = [(1, .sl l.length (acC l)), (2, I x), (3, I y), (4, I z), (11, .hp b 4 0), (13, .hp bo 1 0), (15, I i)])
    (hQ : ∀ env' s' b' H', Sc b' bo s' (60 * (i + 1)) H' → restrict [1, 2, 3, 4, 11, 13, 15] env' = [(1, .sl l.length (acC l)), (2, I x), (3, I y), (4, I z), (11, .hp b' 4 0), (13, .hp bo 1 0), (15, I i)] → Q .nrm env' H') : WB S (actB u7L1) Q env H := by
  obtain ⟨C, lk, lim, B⟩ := S
  dsimp only at hC hlk hlm hB
  subst hC hlk hlm hB
  have hs := h.tg.1
  have co := h.co
  have g0 : (acC l)[i * 4]? = some (I l[i].k) := acC_get hil 0 (by omega)
  have g1 := acC_1 hil
  have g2 := acC_2 hil
  have g3 := acC_3 hil
  have i4 : i * 4 + 4 ≤ 4 * l.length := by omega
  obtain ⟨hxs, hk, ha, hd⟩ := hx l[i] (List.getElem_mem hil)
  generalize l[i] = x1 at g0 g1 g2 g3 hxs hk ha hd
  have k16 : ∀ H, C2 0 0 16 [I x1.k, I 5] H = some (I (x1.k % 5), H) := fun H => up rfl (pick_code x1.k 5 (by omega) hk)
  have hbl : b < H.length := by
    obtain ⟨_, _, _, _, ht, _⟩ := h.tg
    exact (tb_lt ht).1
  have hbo : bo < H.length := (List.getElem?_eq_some_iff.1 co).1
  by_cases q3 : x1.k % 5 = 3
  · obtain ⟨H1, k20, t1, t2, t3⟩ := tg_pack h.tg (by omega)
    have k20 : C2 0 0 20 _ H = _ := up rfl k20
    have hsc : Sc b bo s (60 * (i + 1)) H1 := ⟨t1.mono (by omega), by rw [t3 bo (by simp)]; exact co⟩
    unfold u7L1
    simp only [actB]
    generalize C2 = C at k16 k20 ⊢
    rw [wb_seq, wb_regN, hE]
    simp [-wb_regN, -wb_regD, -wb_true, -wb_false, hil, acC_len, i4, g0, k16, q3]
    rw [wb_regN]
    simp [-wb_regN, -wb_regD, -wb_true, -wb_false]
    rw [wb_true rfl, wb_regN]
    simp [-wb_regN, -wb_regD, -wb_true, -wb_false, k20]
    exact hQ _ _ _ _ hsc rfl
  by_cases q4 : x1.k % 5 = 4
  · have q3' : ((x1.k % 5) == 3) = false := by simp [q3]
    obtain ⟨H1, k19, t1, t2, N, t3, t4⟩ := tg_clone h.tg
    have k19 : C2 0 0 19 _ H = _ := up rfl k19
    have k17 : ∀ lk lim, C2 lk lim 17 [.hp b 4 0] H1 = some (I s.length, H1) := fun lk lim => up rfl (tx_len t3.tx)
    obtain ⟨H2, k12, t5, t6, t7⟩ := tg_edit (a := 0) (d := s.length) (x := [122, 122]) t3 (by simp; omega)
    have k12 : C2 0 0 12 [.hp b 4 0, I 0, I s.length, .val (.string ⟨#[122, 122]⟩)] H1 = _ := up rfl k12
    have hsc : Sc H.length bo s (60 * (i + 1)) H2 := ⟨(t4 H2 t6 (fun k hk => t7 k (by simp [hk]))).mono (by omega), by rw [t7 bo (by simp), t1 bo hbo]; exact co⟩
    unfold u7L1
    simp only [actB]
    generalize C2 = C at k16 k19 k17 k12 ⊢
    rw [wb_seq, wb_regN, hE]
    simp [-wb_regN, -wb_regD, -wb_true, -wb_false, hil, acC_len, i4, g0, k16, q4]
    rw [wb_regN]
    simp [-wb_regN, -wb_regD, -wb_true, -wb_false]
    rw [wb_false rfl]
    simp [-wb_regN, -wb_regD, -wb_true, -wb_false]
    rw [wb_regN]
    simp [-wb_regN, -wb_regD, -wb_true, -wb_false]
    rw [wb_true rfl]
    simp [-wb_regN, -wb_regD, -wb_true, -wb_false]
    rw [wb_regN]
    simp [-wb_regN, -wb_regD, -wb_true, -wb_false, k19]
    rw [wb_regN]
    simp [-wb_regN, -wb_regD, -wb_true, -wb_false, k17, k12]
    rw [wb_regN]
    simp [-wb_regN, -wb_regD, -wb_true, -wb_false]
    rw [wb_regN]
    simp [-wb_regN, -wb_regD, -wb_true, -wb_false, eqPtr, isPtr]
    rw [wb_false rfl, wb_skip]
    exact hQ _ _ _ _ hsc rfl
  · have q3' : ((x1.k % 5) == 3) = false := by simp [q3]
    have q4' : ((x1.k % 5) == 4) = false := by simp [q4]
    obtain ⟨H1, k12, t1, t2, t3⟩ := tg_edit (a := x1.a) (d := x1.d) (x := x1.s) h.tg (by omega)
    have k12 : C2 0 0 12 _ H = _ := up rfl k12
    have co1 : H1[bo]? = some (.cells [Sg s]) := by rw [t3 bo (by simp)]; exact co
    have k23 := redit_code hs (by omega) co1 ha hd (x := x1.s)
    have k23 : C2 0 0 23 _ H1 = _ := up rfl k23
    have hsc : Sc b bo (editV s x1.a x1.d x1.s) (60 * (i + 1)) (if editE s x1.a x1.d x1.s = 0 then H1.set bo (.cells [Sg (editV s x1.a x1.d x1.s)]) else H1) := by
      have hb1 : bo < H1.length := by omega
      split
      · exact ⟨(t1.set (by simp) _).mono (by omega), List.getElem?_set_self hb1⟩
      · rename_i he
        rw [editV_ne he] at t1 ⊢
        exact ⟨t1.mono (by omega), co1⟩
    generalize (if editE s x1.a x1.d x1.s = 0 then H1.set bo (.cells [Sg (editV s x1.a x1.d x1.s)]) else H1) = H2 at hsc k23
    unfold u7L1
    simp only [actB]
    generalize C2 = C at k16 k12 k23 ⊢
    rw [wb_seq, wb_regN, hE]
    simp [-wb_regN, -wb_regD, -wb_true, -wb_false, hil, acC_len, i4, g0, k16]
    rw [wb_regN]
    simp [-wb_regN, -wb_regD, -wb_true, -wb_false, q3']
    rw [wb_false rfl]
    simp [-wb_regN, -wb_regD, -wb_true, -wb_false]
    rw [wb_regN]
    simp [-wb_regN, -wb_regD, -wb_true, -wb_false, q4']
    rw [wb_false rfl]
    simp [-wb_regN, -wb_regD, -wb_true, -wb_false]
    rw [wb_regD rfl]
    simp [-wb_regN, -wb_regD, -wb_true, -wb_false, hil, acC_len, i4, g1, g2, g3, k12, k23]
    rw [wb_false rfl, wb_skip]
    exact hQ _ _ _ _ hsc rfl
end Go.Proofs.Ytmehaecclidfjaa
