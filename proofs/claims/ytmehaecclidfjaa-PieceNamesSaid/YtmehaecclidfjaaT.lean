/- The functions of a program, compiled: printed by wip/hm/tools/Gen.lean. -/
import Derived.Test.YtmehaecclidfjaaT1
namespace Go.Proofs.Ytmehaecclidfjaa
open Go Go.Hm
theorem c3 : compF Try.prog 3 ⟨[], [(5, 5), (63, 5), (65, 5), (67, 5), (75, 5), (77, 5), (79, 5), (89, 5), (93, 5), (100, 5), (105, 5), (109, 5), (116, 5), (119, 5), (123, 5), (125, 5), (134, 5), (139, 5), (141, 5)], [], 0, [], noIt, false⟩ [[0, 1, 2], [0, 1, 5], [], [0, 1, 5], [], [0, 1, 5], [1, 5, 7, 8], [], [1, 5, 7], [1, 5, 7, 9], [1, 5, 7, 9], [1, 5, 7, 9], [1, 5, 7, 9], [5, 7], [5, 7, 10], [5, 7, 10, 11], [7, 10], [5, 7, 10, 11], [5, 7, 10, 11, 13], [], [5, 7, 10, 11, 13], [], [5, 7, 10, 11], [7, 10, 14]] true = some t3 := by kernel_rfl
theorem c8 : compF Try.prog 8 ⟨[], [], [], 0, [], noIt, false⟩ [[], [], [1, 2], [], [1, 2], [1, 2, 3]] true = some t8 := by kernel_rfl
theorem c11 : compF Try.prog 11 ⟨[12, 19], [(21, 12)], [], 0, [], noIt, false⟩ [[0], [0], [], [0], [0, 4, 12], [0, 4, 12], [4, 12]] false = some t11 := by kernel_rfl
theorem c12 : compF Try.prog 12 ⟨[73], [], [], 0, [], noIt, false⟩ [[0, 1, 2, 3, 73], [0, 1, 2, 3, 73], [], [0, 1, 2, 3, 73], [], [0, 1, 2, 3, 73], [], [0, 1, 2, 3, 73], [0, 1, 2, 3, 9, 73], [0, 1, 2, 3, 9, 73], [0, 1, 2, 3, 9, 73], [0, 1, 2, 3, 9, 73], [0, 2, 3], []] false = some t12 := by kernel_rfl
theorem c26 : compF Try.prog 26 ⟨[52], [], [], 0, [], noIt, false⟩ [[0, 1], [0, 1], [1, 5], [1, 5], [1, 5], [1, 6], [1, 6], [1, 6], [6], [1, 6], [1, 6], [5]] false = some t26 := by kernel_rfl
theorem c13 : compF Try.prog 13 ⟨[], [], [], 0, [], noIt, false⟩ [[0], [0]] true = some t13 := by kernel_rfl
theorem c28 : compF Try.prog 28 ⟨[], [], [], 0, [], noIt, false⟩ [[0], [0, 2], [], [0, 2], [0, 2, 3], [0, 2, 3], [0, 2, 3], [0, 2, 3], [0, 2, 3], [0, 2, 3], [2]] true = some t28 := by kernel_rfl
theorem c17 : compF Try.prog 17 ⟨[], [], [], 0, [], noIt, false⟩ [[0], [0], [], [0]] true = some t17 := by kernel_rfl
theorem c10 : compF Try.prog 10 ⟨[], [], [], 0, [], noIt, false⟩ [[0], [0]] false = some t10 := by kernel_rfl
theorem c9 : compF Try.prog 9 ⟨[], [], [], 0, [], noIt, false⟩ [[0, 1], [0, 1], [0, 1, 5], [0, 1, 5], [0, 1, 5], [], [0, 1, 5], [0, 1]] true = some t9 := by kernel_rfl
theorem c14 : compF Try.prog 14 ⟨[], [], [], 0, [], noIt, false⟩ [[0, 1, 2], [0, 1, 2], [], [0, 1, 2], [], [0, 1, 2]] true = some t14 := by kernel_rfl
theorem c5 : compF Try.prog 5 ⟨[], [], [], 0, [], noIt, false⟩ [[0, 1, 2, 3, 4], [0, 1, 2, 3, 4], [], [0, 1, 2, 3, 4], [], [0, 1, 2, 3, 4], [1, 2, 3, 4, 11, 12], [], [1, 2, 3, 4, 11], [1, 2, 3, 4, 11, 13], [1, 2, 3, 4, 11, 13], [1, 2, 3, 4, 11, 13], [1, 2, 3, 4, 11, 13], [2, 3, 4, 11], [2, 3, 4, 11, 14], [2, 3, 4, 11, 14], [2, 3, 4, 11, 14], [2, 3, 4, 11, 14], [2, 3, 4, 11, 14], [2, 3, 4, 11, 14], [2, 3, 4, 11, 14], [2, 3, 4, 11, 14], [2, 3, 4, 11, 14, 15, 16], [2, 3, 4, 11, 14, 15, 16, 17, 18], [2, 3, 11, 14, 15, 16, 17, 18, 19, 20], [2, 3, 11, 14, 15, 16, 17, 18, 19, 20, 21, 22], [], [2, 11, 14], [2, 11, 14, 23, 24], [2, 14, 23, 24, 25, 26]] true = some t5 := by kernel_rfl
theorem c16 : compF Try.prog 16 ⟨[], [], [], 0, [], noIt, false⟩ [[0, 1], [0, 1], [], [0, 1], [1, 5], [1, 5], [5]] true = some t16 := by kernel_rfl
theorem c18 : compF Try.prog 18 ⟨[], [], [], 0, [], noIt, false⟩ [[0, 1], [0, 1], [], [0, 1], [1, 17, 18, 19], [1, 17, 18, 19], [1, 17, 18, 19], [1, 7, 17, 18, 19], [1, 7], [1, 7, 17, 18, 19], [1, 17, 18, 19], []] true = some t18 := by kernel_rfl
theorem c4 : compF Try.prog 4 ⟨[5, 6, 7, 10, 12, 13], [(6, 6), (7, 7), (10, 10), (5, 5), (12, 12), (13, 13)], [15], 0, [], noIt, false⟩ [[0, 1, 2], [0, 1, 5, 6], [6], [0, 1, 5, 6], [6], [0, 1, 5, 6], [1, 5, 6, 7, 8], [6], [1, 5, 6, 7], [1, 5, 6, 7, 9], [1, 5, 6, 7, 9], [1, 5, 6, 7, 9], [1, 5, 6, 7, 9], [5, 6, 7], [5, 6, 7, 10], [5, 6, 7, 10, 11], [6], [5, 6, 7, 10, 11], [5, 6, 7, 10, 11], [5, 6, 7, 10, 11, 12, 13], [5, 6, 7, 10, 12, 13, 63], [5, 6, 7, 10, 12, 13, 64], [5, 6, 7, 10, 12, 13, 14], [6, 7, 10, 12, 13, 14], [6, 7, 10, 12, 13], [6, 7, 10, 12], [6, 10, 12], [6], [5, 6, 10, 12, 13]] true = some t4 := by kernel_rfl
theorem c1008 : compF Try.prog 8 ⟨[], [], [], 0, [], noIt, false⟩ [[], [], [1, 2], [], [1, 2], [1, 2, 3]] false = some t1008 := by kernel_rfl
theorem c15 : compF Try.prog 15 ⟨[1], [], [], 0, [], noIt, false⟩ [[0], [1]] false = some t15 := by kernel_rfl
theorem c29 : compF Try.prog 29 ⟨[], [], [], 0, [], noIt, false⟩ [[0, 1], [0, 6, 7, 8], [0, 6, 7, 8], [0, 6, 7, 8], [0, 4, 6, 7, 8], [0, 6, 7, 8]] true = some t29 := by kernel_rfl
theorem c6 : compF Try.prog 6 ⟨[18, 29, 39], [(18, 18)], [], 0, [], noIt, false⟩ [[], [0], [], [0], [0, 1], [0, 1, 4], [0, 1, 4, 5], [0, 1, 4, 5, 6], [0, 1, 4, 5, 6, 7], [0, 1, 4, 5, 6, 7, 8], [0, 1, 4, 5, 6, 7, 8, 9], [0, 1, 4, 5, 6, 7, 8, 9], [0, 1, 4, 5, 6, 7, 8, 9, 10, 11], [0, 1, 4, 5, 6, 7, 8, 9, 10, 11, 13], [0, 1, 4, 5, 6, 7, 8, 9, 10, 11, 13, 14, 15], [0, 1, 4, 5, 6, 7, 8, 9, 10, 11, 13, 14, 15, 17], [0, 1, 4, 5, 6, 7, 8, 9, 10, 11, 13, 14, 15, 17], [0, 1, 4, 5, 6, 7, 8, 9, 10, 11, 13, 14, 15, 17, 18], [0, 1, 4, 5, 6, 7, 8, 9, 10, 11, 13, 14, 15, 17, 18, 19], [], [0, 1, 4, 5, 6, 7, 8, 9, 10, 11, 13, 14, 15, 17, 18, 19], [0, 1, 4, 5, 6, 7, 8, 9, 10, 11, 13, 14, 15, 17, 18, 74], [18], [1, 4, 5, 6, 7, 8, 9, 10, 11, 13, 14, 15, 17, 18], [1, 4, 5, 6, 7, 8, 9, 10, 11, 13, 14, 15, 17, 18, 20, 21]] true = some t6 := by kernel_rfl
theorem c19 : compF Try.prog 19 ⟨[3, 5], [(3, 3), (13, 3), (22, 3), (5, 5), (27, 3), (17, 3)], [], 0, [], noIt, false⟩ [[0], [0], [], [0], [3], [3, 4], [3, 4], [3, 4], [3, 4, 5], [3, 4], [3]] false = some t19 := by kernel_rfl
theorem c20 : compF Try.prog 20 ⟨[], [], [], 0, [], noIt, false⟩ [[0], [0], [0, 2]] false = some t20 := by kernel_rfl
theorem c21 : compF Try.prog 21 ⟨[2, 3, 5, 6], [(2, 2), (3, 3), (5, 5), (6, 6)], [], 0, [], noIt, false⟩ [[0], [0, 2, 3], [2, 3, 4], [2, 3], [2, 3, 4], [2, 3, 4, 5, 6], [2, 3, 5, 6, 12], [2, 3, 5, 6, 13], [2, 3, 5, 6, 7], [2, 3, 5, 6, 7], [2, 3], [5, 7], [2, 3, 5]] true = some t21 := by kernel_rfl
theorem c7 : compF Try.prog 7 ⟨[], [], [], 0, [82], noIt, false⟩ [[0, 1, 2, 3, 4], [0, 1, 2, 3, 4], [], [0, 1, 2, 3, 4], [], [0, 1, 2, 3, 4], [0, 1, 2, 3, 4, 11, 12], [1, 2, 3, 4, 11, 12, 13, 14], [], [1, 2, 3, 4, 11, 13], [1, 2, 3, 4, 11, 13, 15], [1, 2, 3, 4, 11, 13, 15], [1, 2, 3, 4, 11, 13, 15], [1, 2, 3, 4, 11, 13, 15, 65], [1, 2, 3, 4, 11, 13, 15], [1, 2, 3, 4, 11, 13, 15, 65], [1, 2, 3, 4, 11, 13, 15], [1, 2, 3, 4, 11, 13, 15, 16], [1, 2, 3, 4, 13, 15, 16], [1, 2, 3, 4, 11, 13, 15], [], [1, 2, 3, 4, 11, 13, 15], [], [1, 2, 3, 4, 11, 13, 15], [1, 2, 3, 4, 11, 13, 15, 17, 18], [1, 2, 3, 4, 11, 13, 15, 17, 18, 19, 20], [1, 2, 3, 4, 11, 13, 15, 17, 18, 19, 20, 21, 22], [1, 2, 3, 4, 11, 13, 15, 17, 18, 19, 20, 21, 22, 23, 24], [1, 2, 3, 4, 11, 13, 15, 17, 18, 19, 20, 21, 22, 23, 24, 25, 26], [], [1, 2, 3, 4, 11, 13, 15], []] true = some t7 := by kernel_rfl
theorem c22 : compF Try.prog 22 ⟨[9], [], [], 0, [], noIt, false⟩ [[0], [0], [], [0]] false = some t22 := by kernel_rfl
theorem c23 : compF Try.prog 23 ⟨[], [], [], 0, [], noIt, false⟩ [[0, 1, 2, 3], [0, 1, 2, 3], [], [0, 1, 2, 3], [], [0, 1, 2, 3], []] true = some t23 := by kernel_rfl
theorem c24 : compF Try.prog 24 ⟨[], [], [], 0, [], noIt, false⟩ [[0, 1, 2], [0, 1, 2], [], [0, 1, 2]] true = some t24 := by kernel_rfl
theorem c25 : compF Try.prog 25 ⟨[], [], [], 0, [], noIt, false⟩ [[0, 1], [0, 1], [], [0, 1]] true = some t25 := by kernel_rfl
def tab : List (Nat × AFn) := [(3, t3), (8, t8), (11, t11), (12, t12), (26, t26), (13, t13), (28, t28), (17, t17), (10, t10), (9, t9), (14, t14), (5, t5), (16, t16), (18, t18), (4, t4), (1008, t1008), (15, t15), (29, t29), (6, t6), (19, t19), (20, t20), (21, t21), (7, t7), (22, t22), (23, t23), (24, t24), (25, t25)]
def A : FuncId → Option AFn := assoc tab
theorem fnsOk : FnsOk Try.prog A := assoc_ok (mem_cons_ok ⟨_, _, c3, noIt_ok⟩ (mem_cons_ok ⟨_, _, c8, noIt_ok⟩ (mem_cons_ok ⟨_, _, c11, noIt_ok⟩ (mem_cons_ok ⟨_, _, c12, noIt_ok⟩ (mem_cons_ok ⟨_, _, c26, noIt_ok⟩ (mem_cons_ok ⟨_, _, c13, noIt_ok⟩ (mem_cons_ok ⟨_, _, c28, noIt_ok⟩ (mem_cons_ok ⟨_, _, c17, noIt_ok⟩ (mem_cons_ok ⟨_, _, c10, noIt_ok⟩ (mem_cons_ok ⟨_, _, c9, noIt_ok⟩ (mem_cons_ok ⟨_, _, c14, noIt_ok⟩ (mem_cons_ok ⟨_, _, c5, noIt_ok⟩ (mem_cons_ok ⟨_, _, c16, noIt_ok⟩ (mem_cons_ok ⟨_, _, c18, noIt_ok⟩ (mem_cons_ok ⟨_, _, c4, noIt_ok⟩ (mem_cons_ok ⟨_, _, c1008, noIt_ok⟩ (mem_cons_ok ⟨_, _, c15, noIt_ok⟩ (mem_cons_ok ⟨_, _, c29, noIt_ok⟩ (mem_cons_ok ⟨_, _, c6, noIt_ok⟩ (mem_cons_ok ⟨_, _, c19, noIt_ok⟩ (mem_cons_ok ⟨_, _, c20, noIt_ok⟩ (mem_cons_ok ⟨_, _, c21, noIt_ok⟩ (mem_cons_ok ⟨_, _, c7, noIt_ok⟩ (mem_cons_ok ⟨_, _, c22, noIt_ok⟩ (mem_cons_ok ⟨_, _, c23, noIt_ok⟩ (mem_cons_ok ⟨_, _, c24, noIt_ok⟩ (mem_cons_ok ⟨_, _, c25, noIt_ok⟩ (mem_nil_ok))))))))))))))))))))))))))))
def prims : List (Nat × Nat × Nat) := []
theorem primsOk : ∀ p ∈ prims, IsClone Try.prog p := fun _ h => by cases h
abbrev X : Orc := withJoin 27 (primX prims)
noncomputable abbrev C : Orc := callW X A
theorem orcOk : OrcOk Try.prog C := callW_ok (by kernel_rfl) (withJoin_ok (by decide) laysJoin extraJoin rfl (primX_ok (by kernel_rfl) primsOk)) (withJoin_fr (primX_fr _)) fnsOk
theorem laidOut : laidOutB Try.prog = true := by kernel_rfl
theorem own : ownKnob Try.prog.godebug = none := by kernel_rfl
theorem A3 : A 3 = some t3 := rfl
theorem A8 : A 8 = some t8 := rfl
theorem A11 : A 11 = some t11 := rfl
theorem A12 : A 12 = some t12 := rfl
theorem A26 : A 26 = some t26 := rfl
theorem A13 : A 13 = some t13 := rfl
theorem A28 : A 28 = some t28 := rfl
theorem A17 : A 17 = some t17 := rfl
theorem A10 : A 10 = some t10 := rfl
theorem A9 : A 9 = some t9 := rfl
theorem A14 : A 14 = some t14 := rfl
theorem A5 : A 5 = some t5 := rfl
theorem A16 : A 16 = some t16 := rfl
theorem A18 : A 18 = some t18 := rfl
theorem A4 : A 4 = some t4 := rfl
theorem A1008 : A 1008 = some t1008 := rfl
theorem A15 : A 15 = some t15 := rfl
theorem A29 : A 29 = some t29 := rfl
theorem A6 : A 6 = some t6 := rfl
theorem A19 : A 19 = some t19 := rfl
theorem A20 : A 20 = some t20 := rfl
theorem A21 : A 21 = some t21 := rfl
theorem A7 : A 7 = some t7 := rfl
theorem A22 : A 22 = some t22 := rfl
theorem A23 : A 23 = some t23 := rfl
theorem A24 : A 24 = some t24 := rfl
theorem A25 : A 25 = some t25 := rfl
end Go.Proofs.Ytmehaecclidfjaa
