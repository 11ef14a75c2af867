/- The functions of a program, compiled: printed by wip/hm/tools/Gen.lean. -/
import Derived.Test.YtgbpioccaenjaaaT1
namespace Go.Proofs.Ytgbpioccaenjaaa
open Go Go.Hm
theorem c3 : compF Try.prog 3 ⟨[], [(2, 2), (7, 7), (8, 8), (46, 8), (50, 8), (52, 2), (58, 8), (63, 8), (65, 2), (70, 2), (72, 8), (76, 2), (78, 8), (10, 10), (11, 11), (82, 2), (86, 10), (90, 10), (95, 2), (99, 11), (103, 11), (111, 8), (113, 8), (118, 10), (120, 8), (125, 11), (127, 8), (133, 8), (139, 8), (144, 7), (150, 2), (156, 2), (162, 2), (18, 18), (167, 18), (172, 2), (176, 18), (203, 2)], [], 0, [], backIt, false, none⟩ [[0, 1], [1, 2], [], [1, 2], [], [1, 2], [1, 2, 5, 6], [1, 2, 5, 6, 7, 8, 9], [2, 5, 6, 7, 8, 9], [], [2, 5, 6, 7, 8, 9], [2, 5, 6, 7, 8, 9, 10, 11], [2, 5, 6, 7, 8, 9, 10, 11, 12], [7, 8, 9, 10, 11, 12, 13], [1, 2, 5, 6, 7], [1, 2, 5, 6, 7, 14], [1, 2, 5, 6, 7, 14], [1, 2, 5, 6, 7, 14], [1, 2, 5, 6, 7, 14, 15, 16], [1, 2, 5, 6, 7, 14, 15, 16, 17], [1, 2, 5, 6, 7, 14, 15, 16, 17], [1, 2, 5, 6, 7, 14, 15, 16, 17], [1, 2, 5, 6, 7, 14, 15, 16, 17, 18], [1, 2, 5, 6, 7, 14, 16, 17], [1, 2, 5, 6, 7, 14, 15, 16, 17], [1, 2, 5, 6, 7, 14, 15, 16], [], [1, 2, 5, 6, 7, 14], [1, 2, 7]] true = some t3 := by kernel_rfl
theorem c8 : compF Try.prog 8 ⟨[], [(1, 1), (2, 2), (4, 4), (5, 5)], [], 0, [], backIt, false, none⟩ [[], [], [2, 3], [2, 3, 4, 6]] true = some t8 := by kernel_rfl
theorem c23 : compF Try.prog 23 ⟨[], [(2, 2)], [], 0, [], backIt, false, none⟩ [[0], [0, 2]] true = some t23 := by kernel_rfl
theorem c13 : compF Try.prog 13 ⟨[], [(1, 1), (2, 2), (3, 3), (6, 6)], [], 0, [], backIt, false, none⟩ [[0], [1, 2, 3], [1, 2, 3, 5], [2, 3, 5], [1, 2, 3], [1, 2, 3], [2, 3, 6, 7], [2, 3, 6], [2, 3]] true = some t13 := by kernel_rfl
theorem c28 : compF Try.prog 28 ⟨[1], [(5, 1), (9, 1), (14, 1), (19, 1), (24, 1), (27, 1), (29, 1), (31, 1), (33, 1), (38, 1), (4, 4), (45, 4), (49, 4), (51, 1), (56, 4)], [], 0, [], backIt, false, none⟩ [[0], [1], [], [1], [], [1], [], [1], [1, 39, 40, 41], [1, 39, 40, 41], [1, 39, 40, 41], [1, 4, 39, 40, 41], [], [1, 39, 40, 41], []] true = some t28 := by kernel_rfl
theorem c45 : compF Try.prog 45 ⟨[], [], [], 0, [], backIt, false, none⟩ [[0, 1], [0, 1]] true = some t45 := by kernel_rfl
theorem c63 : compF Try.prog 63 ⟨[], [], [], 0, [], backIt, false, none⟩ [[0, 1], [0, 1], [0, 1, 7, 8], [0, 1, 7, 8], [0, 1, 7, 8], [0, 1, 5, 7, 8], [5], [0, 1, 7, 8], []] true = some t63 := by kernel_rfl
theorem c46 : compF Try.prog 46 ⟨[], [(3, 1)], [], 0, [], backIt, false, none⟩ [[0], [1]] true = some t46 := by kernel_rfl
theorem c48 : compF Try.prog 48 ⟨[], [], [], 0, [], backIt, false, none⟩ [[0, 1], [0, 1]] true = some t48 := by kernel_rfl
theorem c47 : compF Try.prog 47 ⟨[], [], [], 0, [], backIt, false, none⟩ [[0, 1], [0, 1]] true = some t47 := by kernel_rfl
theorem c64 : compF Try.prog 64 ⟨[], [], [], 0, [], backIt, false, none⟩ [[0, 1], [0, 1], [0, 1, 7, 8], [0, 1, 7, 8], [0, 1, 7, 8], [0, 1, 5, 7, 8], [5], [0, 1, 7, 8], []] true = some t64 := by kernel_rfl
theorem c29 : compF Try.prog 29 ⟨[], [(1, 1), (11, 1), (6, 6), (18, 2), (20, 1), (24, 6), (28, 6), (35, 2), (2, 2)], [], 0, [], backIt, false, none⟩ [[0], [1, 2], [1, 2, 3, 4], [1, 2, 3, 4, 12, 13, 14], [1, 2, 3, 4, 12, 13, 14], [1, 2, 3, 4, 12, 13, 14], [1, 2, 3, 4, 6, 12, 13, 14], [1, 2, 3, 4, 12, 13, 14], [2]] true = some t29 := by kernel_rfl
theorem c49 : compF Try.prog 49 ⟨[13], [(1, 1), (11, 1), (15, 1), (6, 6), (23, 6), (29, 6), (38, 6), (46, 6)], [], 0, [], backIt, false, none⟩ [[0], [1], [], [1], [1, 3], [1, 3, 4], [1, 3, 4], [1, 3], [1, 3, 4], [1, 3, 4, 16, 17, 18], [1, 3, 4, 16, 17, 18], [1, 3, 4, 16, 17, 18], [1, 3, 4, 6, 16, 17, 18], [1, 3, 4, 6, 7, 16, 17, 18], [1, 3, 4, 6, 7, 16, 17, 18], [1, 3, 4, 16, 17, 18], [3]] true = some t49 := by kernel_rfl
theorem c66 : compF Try.prog 66 ⟨[], [(24, 3), (29, 3), (34, 3)], [], 0, [], backIt, false, none⟩ [[0, 1, 2], [1, 2, 3], [1, 2, 3, 7], [1, 3, 7, 12, 13, 14], [1, 3, 7, 12, 13, 14], [1, 3, 7, 12, 13, 14], [1, 3, 7, 9, 12, 13, 14], [1, 3, 7, 9, 10, 12, 13, 14], [1, 3, 7, 9, 12, 13, 14], [1, 3, 7, 10, 12, 13, 14], [1, 3, 7, 12, 13, 14], [7]] true = some t66 := by kernel_rfl
theorem c51 : compF Try.prog 51 ⟨[18], [], [], 0, [], backIt, false, none⟩ [[0, 1, 2], [0, 1, 2], [], [0, 1, 2], [0, 1, 2], [0, 1, 2, 7], [0, 2, 7, 19, 20, 21], [0, 2, 7, 19, 20, 21], [0, 2, 7, 19, 20, 21], [0, 2, 7, 9, 19, 20, 21], [0, 2, 7, 9, 19, 20, 21], [0, 2, 7, 9, 19, 20, 21], [0, 2, 7, 9, 19, 20, 21, 37, 38, 39], [0, 2, 7, 9, 19, 20, 21, 37, 38, 39], [0, 2, 7, 9, 19, 20, 21, 37, 38, 39], [0, 2, 7, 9, 11, 19, 20, 21, 37, 38, 39], [0, 2, 7, 9, 12, 19, 20, 21, 37, 38, 39], [0, 2, 7, 9, 19, 20, 21, 37, 38, 39], [0, 2, 7, 19, 20, 21], [7]] true = some t51 := by kernel_rfl
theorem c70 : compF Try.prog 70 ⟨[], [], [], 0, [], backIt, false, none⟩ [[0, 1], [0, 1]] true = some t70 := by kernel_rfl
theorem c71 : compF Try.prog 71 ⟨[], [], [], 0, [], backIt, false, none⟩ [[0, 1], [0, 6, 7, 8], [0, 6, 7, 8], [0, 6, 7, 8], [0, 5, 6, 7, 8], [0, 6, 7, 8]] true = some t71 := by kernel_rfl
theorem c50 : compF Try.prog 50 ⟨[1, 3, 4, 5, 6, 10, 22], [(1, 1), (3, 3), (20, 1), (4, 4), (6, 6), (44, 1), (10, 10), (55, 1), (59, 1), (66, 1)], [], 0, [], backIt, false, none⟩ [[0], [1, 2], [], [1, 2], [1, 2, 3], [1, 2, 3, 4], [1, 2, 3, 4], [1, 2, 3, 4, 5], [1, 2, 3, 4, 5], [1, 2, 3, 4, 5, 6, 7], [1, 2, 3, 4, 5, 6, 7], [1, 2, 3, 4, 5, 6], [1, 2, 3, 4, 5, 6, 38, 39, 40], [1, 2, 3, 4, 5, 6, 38, 39, 40], [1, 2, 3, 4, 5, 6, 38, 39, 40], [1, 2, 3, 4, 5, 6, 9, 38, 39, 40], [1, 2, 3, 4, 5, 6, 10, 38, 39, 40], [1, 2, 3, 4, 5, 6, 10, 38, 39, 40, 51], [1, 3, 4, 5, 6, 10, 52, 53], [1, 3, 4, 5, 6, 10, 11, 53], [1, 3, 4, 5, 6, 10, 11, 12], [1, 3, 4, 5, 6, 10, 11, 12], [1, 3, 4, 5, 6, 10, 11, 13], [4, 5, 13, 14], [4, 5, 13, 14], [5, 13], [1, 2, 3, 4, 5, 6, 38, 39, 40], [1, 2, 3, 4, 5, 6], [1, 2, 3, 4, 5, 96], [1, 2, 3, 4, 5, 6], [4]] true = some t50 := by kernel_rfl
theorem c67 : compF Try.prog 67 ⟨[], [], [], 0, [], backIt, false, none⟩ [[0, 1], [0, 1], [0, 1]] false = some t67 := by kernel_rfl
theorem c68 : compF Try.prog 68 ⟨[], [], [], 0, [], backIt, false, none⟩ [[0], [0], [], [0], [0, 4], [4]] false = some t68 := by kernel_rfl
theorem c34 : compF Try.prog 34 ⟨[], [(2, 2), (10, 2), (6, 6), (18, 6)], [], 0, [], backIt, false, none⟩ [[0, 1], [1, 2, 4], [], [1, 2, 4], [1, 4, 11, 12, 13], [1, 4, 11, 12, 13], [1, 4, 11, 12, 13], [1, 4, 5, 6, 11, 12, 13], [1, 4, 5, 11, 12, 13], [1, 4, 11, 12, 13], [4]] true = some t34 := by kernel_rfl
theorem c69 : compF Try.prog 69 ⟨[1], [], [], 0, [], backIt, false, none⟩ [[0], [1]] true = some t69 := by kernel_rfl
theorem c82 : compF Try.prog 82 ⟨[], [], [], 0, [], backIt, false, none⟩ [[0, 1], [0, 1, 3], [0, 1, 3], [0, 1, 3], [0, 1, 3]] true = some t82 := by kernel_rfl
theorem c52 : compF Try.prog 52 ⟨[3], [(3, 3), (13, 3)], [], 0, [], backIt, false, none⟩ [[0, 1, 2], [1, 2, 3], [], [1, 2, 3]] true = some t52 := by kernel_rfl
theorem c73 : compF Try.prog 73 ⟨[], [], [], 0, [], backIt, false, none⟩ [[0, 1], [0, 1]] true = some t73 := by kernel_rfl
theorem c17 : compF Try.prog 17 ⟨[], [(11, 5), (14, 4), (4, 4), (26, 5)], [], 0, [], backIt, false, none⟩ [[0, 1, 2, 3], [2, 3, 4, 5], [], [2, 3, 4, 5], [3, 5, 20, 21, 22], [3, 5, 20, 21, 22], [3, 5, 20, 21, 22], [3, 5, 10, 20, 21, 22], [10], [3, 5, 20, 21, 22], []] true = some t17 := by kernel_rfl
theorem c35 : compF Try.prog 35 ⟨[], [], [], 0, [], backIt, false, none⟩ [[0, 1], [0, 1]] true = some t35 := by kernel_rfl
theorem c55 : compF Try.prog 55 ⟨[], [], [], 0, [], backIt, false, none⟩ [[0, 1], [0, 1]] true = some t55 := by kernel_rfl
theorem c75 : compF Try.prog 75 ⟨[], [], [], 0, [], backIt, false, none⟩ [[0, 1], [0, 1], [0, 1, 7, 8], [0, 1, 7, 8], [0, 1, 7, 8], [0, 1, 5, 7, 8], [5], [0, 1, 7, 8], []] true = some t75 := by kernel_rfl
theorem c9 : compF Try.prog 9 ⟨[], [(4, 1), (9, 1), (15, 1), (24, 1), (34, 1), (43, 1), (47, 1), (52, 1), (57, 1), (62, 1), (66, 1), (71, 1), (77, 1), (81, 1)], [], 0, [], backIt, false, none⟩ [[0], [1], [], [1], [1, 3], [1, 3], [1, 3], [], [1, 3], [1], [], [1]] true = some t9 := by kernel_rfl
theorem c10 : compF Try.prog 10 ⟨[], [(7, 1), (11, 1), (16, 1), (21, 1), (27, 1), (33, 1), (41, 1), (45, 1), (50, 1), (55, 1), (61, 1), (67, 1), (5, 5), (72, 5), (76, 5), (78, 1), (83, 5), (89, 5), (96, 5), (101, 1), (103, 1)], [], 0, [], backIt, false, none⟩ [[0], [1], [], [1], [1, 3], [1, 3], [1, 3], [], [1, 3], [1], [], [1], [1, 4], [1, 4], [1, 4], [1, 4, 5], [], [1, 4, 5], [1, 4, 5, 6], [1, 4, 5, 6], [1, 4, 5, 6], [], [1, 4, 5, 6], [1, 4], []] true = some t10 := by kernel_rfl
theorem c11 : compF Try.prog 11 ⟨[13], [(1, 1), (11, 1), (16, 1), (22, 1), (6, 6), (28, 6), (34, 6), (43, 6), (51, 6)], [], 0, [], backIt, false, none⟩ [[0], [1], [], [1], [1, 3], [1, 3, 4], [1, 3, 4], [1, 3], [1, 3, 4], [1, 3, 4, 5], [1, 3, 4, 5], [1, 3, 4, 5], [1, 3, 4, 5, 6], [1, 3, 4, 5, 6, 7], [1, 3, 4, 5, 6, 7], [1, 3, 4, 5], [3]] true = some t11 := by kernel_rfl
theorem c27 : compF Try.prog 27 ⟨[], [(20, 3), (23, 3), (35, 3), (43, 3)], [], 0, [], backIt, false, none⟩ [[0, 1, 2], [1, 2, 3], [1, 2, 3, 7], [1, 2, 3, 7, 8], [1, 2, 3, 7, 8], [1, 2, 3, 7, 8], [1, 2, 3, 7, 8], [1, 2, 3, 7, 8], [1, 2, 3, 7, 8], [7]] true = some t27 := by kernel_rfl
theorem c14 : compF Try.prog 14 ⟨[14], [], [], 0, [], backIt, false, some 5⟩ [[0, 1, 2], [0, 1, 2], [0, 1, 2], [0, 1, 2, 7], [0, 1, 2, 7, 8], [0, 1, 2, 7, 8, 9], [0, 1, 2, 7, 8, 9], [0, 1, 2, 7, 8, 9], [0, 1, 2, 7, 8, 9, 10], [0, 1, 2, 7, 8, 9, 10], [0, 1, 2, 7, 8, 9, 10], [0, 1, 2, 7, 8, 9, 10, 11], [0, 1, 2, 7, 8, 9, 10, 11], [0, 1, 2, 7, 8, 9, 10, 11], [0, 1, 2, 7, 8, 9, 10, 11], [0, 1, 2, 7, 8, 9], [8]] true = some t14 := by kernel_rfl
theorem c32 : compF Try.prog 32 ⟨[], [], [], 0, [], backIt, false, none⟩ [[0, 1, 2], [0, 1, 2], [0, 1, 2], [0, 1], [0, 1], [1]] true = some t32 := by kernel_rfl
theorem c31 : compF Try.prog 31 ⟨[], [], [], 0, [], backIt, false, none⟩ [[0, 1, 2], [0, 1, 2], [0], [0, 1, 2], [0, 2]] false = some t31 := by kernel_rfl
theorem c33 : compF Try.prog 33 ⟨[], [], [], 0, [], backIt, false, none⟩ [[0], [0], [0], [0], [3, 4], [3, 4, 5], [3, 4, 5], [3, 4, 5], [3, 4, 5], [3, 4, 5], [3, 4, 5]] true = some t33 := by kernel_rfl
theorem c26 : compF Try.prog 26 ⟨[9], [], [], 0, [], backIt, false, some 5⟩ [[0, 1], [0, 1], [0, 1, 5], [0, 1, 5, 6], [0, 1, 5, 6, 7], [0, 1, 5, 6, 7], [0, 1, 5, 6, 7], [0, 1, 5, 6, 7], [1, 5, 6], [1, 5, 6, 8], [1, 5, 6, 8], [1, 5, 6, 8], [1, 5, 6, 8], [6]] true = some t26 := by kernel_rfl
theorem c12 : compF Try.prog 12 ⟨[19], [(1, 1), (17, 1), (27, 1), (33, 1), (7, 7), (39, 7), (45, 7), (50, 1), (57, 7), (67, 1), (71, 7)], [], 0, [], backIt, false, none⟩ [[0], [1], [], [1], [1, 3], [1, 3, 4], [1, 3, 4], [1, 3, 4, 5], [1, 3, 4, 5], [1, 3, 4], [1, 3, 4, 5], [1, 3, 4, 5, 6], [1, 3, 4, 5, 6], [1, 3, 4, 5, 6], [1, 3, 4, 5, 6, 7], [1, 3, 4, 5, 6, 7, 8], [1, 3, 4, 5, 6, 7, 8], [1, 3, 4, 5, 6, 7, 8], [1, 3, 4, 5, 6, 7, 8, 9], [1, 3, 4, 5, 6, 7, 8, 9], [1, 3, 4, 5, 6, 7, 8, 9, 10], [1, 3, 4, 5, 6, 7, 8, 9, 11], [1, 3, 4, 5, 6, 7, 8, 9, 11], [1, 3, 4, 5, 6, 7, 8], [1, 3, 4, 5, 6], [4]] true = some t12 := by kernel_rfl
theorem c15 : compF Try.prog 15 ⟨[], [(3, 3), (14, 3), (34, 3), (36, 3)], [], 0, [], backIt, false, none⟩ [[0, 1, 2], [1, 2, 3], [], [1, 2, 3], [1, 2, 3, 7], [1, 2, 3, 7], [1, 2, 3, 7], [], [1, 2, 3, 7], [1, 2, 3]] true = some t15 := by kernel_rfl
theorem c16 : compF Try.prog 16 ⟨[], [], [], 0, [], backIt, false, none⟩ [[0, 1], [0, 1], [0, 1, 5], [0, 1, 5], [0, 1, 5], [], [0, 1, 5], []] true = some t16 := by kernel_rfl
theorem c74 : compF Try.prog 74 ⟨[], [], [], 0, [], backIt, false, none⟩ [[0, 1], [0, 1, 4], [0, 1, 4], [0, 1, 4], [0, 1, 4, 6], [0], [0, 1, 4, 6], [0, 1, 4], [0, 1, 4], [4]] true = some t74 := by kernel_rfl
theorem c84 : compF Try.prog 84 ⟨[], [], [], 0, [], backIt, false, none⟩ [[0, 1], [0, 1], [0, 1, 5], [0, 1, 5, 6], [6], [], [], [0, 1, 6], [], [0, 1], [], [0, 1], [], []] true = some t84 := by kernel_rfl
theorem c92 : compF Try.prog 92 ⟨[], [], [], 0, [], backIt, false, none⟩ [[0], [0]] true = some t92 := by kernel_rfl
def tab : List (Nat × AFn) := [(3, t3), (8, t8), (23, t23), (13, t13), (28, t28), (45, t45), (63, t63), (46, t46), (48, t48), (47, t47), (64, t64), (29, t29), (49, t49), (66, t66), (51, t51), (70, t70), (71, t71), (50, t50), (67, t67), (68, t68), (34, t34), (69, t69), (82, t82), (52, t52), (73, t73), (17, t17), (35, t35), (55, t55), (75, t75), (9, t9), (10, t10), (11, t11), (27, t27), (14, t14), (32, t32), (31, t31), (33, t33), (26, t26), (12, t12), (15, t15), (16, t16), (74, t74), (84, t84), (92, t92)]
def A : FuncId → Option AFn := assoc tab
theorem fnsOk : FnsOk Try.prog A := assoc_ok (mem_cons_ok ⟨_, _, c3, backIt_ok⟩ (mem_cons_ok ⟨_, _, c8, backIt_ok⟩ (mem_cons_ok ⟨_, _, c23, backIt_ok⟩ (mem_cons_ok ⟨_, _, c13, backIt_ok⟩ (mem_cons_ok ⟨_, _, c28, backIt_ok⟩ (mem_cons_ok ⟨_, _, c45, backIt_ok⟩ (mem_cons_ok ⟨_, _, c63, backIt_ok⟩ (mem_cons_ok ⟨_, _, c46, backIt_ok⟩ (mem_cons_ok ⟨_, _, c48, backIt_ok⟩ (mem_cons_ok ⟨_, _, c47, backIt_ok⟩ (mem_cons_ok ⟨_, _, c64, backIt_ok⟩ (mem_cons_ok ⟨_, _, c29, backIt_ok⟩ (mem_cons_ok ⟨_, _, c49, backIt_ok⟩ (mem_cons_ok ⟨_, _, c66, backIt_ok⟩ (mem_cons_ok ⟨_, _, c51, backIt_ok⟩ (mem_cons_ok ⟨_, _, c70, backIt_ok⟩ (mem_cons_ok ⟨_, _, c71, backIt_ok⟩ (mem_cons_ok ⟨_, _, c50, backIt_ok⟩ (mem_cons_ok ⟨_, _, c67, backIt_ok⟩ (mem_cons_ok ⟨_, _, c68, backIt_ok⟩ (mem_cons_ok ⟨_, _, c34, backIt_ok⟩ (mem_cons_ok ⟨_, _, c69, backIt_ok⟩ (mem_cons_ok ⟨_, _, c82, backIt_ok⟩ (mem_cons_ok ⟨_, _, c52, backIt_ok⟩ (mem_cons_ok ⟨_, _, c73, backIt_ok⟩ (mem_cons_ok ⟨_, _, c17, backIt_ok⟩ (mem_cons_ok ⟨_, _, c35, backIt_ok⟩ (mem_cons_ok ⟨_, _, c55, backIt_ok⟩ (mem_cons_ok ⟨_, _, c75, backIt_ok⟩ (mem_cons_ok ⟨_, _, c9, backIt_ok⟩ (mem_cons_ok ⟨_, _, c10, backIt_ok⟩ (mem_cons_ok ⟨_, _, c11, backIt_ok⟩ (mem_cons_ok ⟨_, _, c27, backIt_ok⟩ (mem_cons_ok ⟨_, _, c14, backIt_ok⟩ (mem_cons_ok ⟨_, _, c32, backIt_ok⟩ (mem_cons_ok ⟨_, _, c31, backIt_ok⟩ (mem_cons_ok ⟨_, _, c33, backIt_ok⟩ (mem_cons_ok ⟨_, _, c26, backIt_ok⟩ (mem_cons_ok ⟨_, _, c12, backIt_ok⟩ (mem_cons_ok ⟨_, _, c15, backIt_ok⟩ (mem_cons_ok ⟨_, _, c16, backIt_ok⟩ (mem_cons_ok ⟨_, _, c74, backIt_ok⟩ (mem_cons_ok ⟨_, _, c84, backIt_ok⟩ (mem_cons_ok ⟨_, _, c92, backIt_ok⟩ (mem_nil_ok)))))))))))))))))))))))))))))))))))))))))))))
def prims : List (Nat × Nat × Nat) := []
theorem primsOk : ∀ p ∈ prims, IsClone Try.prog p := fun _ h => by cases h
abbrev X0 : Orc := withRows 72 65 (primX prims)
noncomputable abbrev C0 : Orc := callW X0 A
theorem x0Ok : OrcOk Try.prog X0 := withRows_ok (by decide) (by decide) sortsKeys unites (primX_ok (by kernel_rfl) primsOk)
theorem x0Fr : OrcFr X0 := withRows_fr (primX_fr _)
theorem orcOk0 : OrcOk Try.prog C0 := callW_ok (by kernel_rfl) x0Ok x0Fr fnsOk
abbrev X1 : Orc := withFun 30 conflictG <| X0
abbrev X : Orc := withConst 8 (.bool true) X1
noncomputable abbrev C : Orc := callW X A
theorem laidOut : laidOutB Try.prog = true := by kernel_rfl
theorem own : ownKnob Try.prog.godebug = none := by kernel_rfl
theorem A3 : A 3 = some t3 := rfl
theorem A13 : A 13 = some t13 := rfl
theorem A28 : A 28 = some t28 := rfl
theorem A45 : A 45 = some t45 := rfl
theorem A63 : A 63 = some t63 := rfl
theorem A46 : A 46 = some t46 := rfl
theorem A48 : A 48 = some t48 := rfl
theorem A47 : A 47 = some t47 := rfl
theorem A64 : A 64 = some t64 := rfl
theorem A29 : A 29 = some t29 := rfl
theorem A49 : A 49 = some t49 := rfl
theorem A66 : A 66 = some t66 := rfl
theorem A51 : A 51 = some t51 := rfl
theorem A70 : A 70 = some t70 := rfl
theorem A71 : A 71 = some t71 := rfl
theorem A50 : A 50 = some t50 := rfl
theorem A67 : A 67 = some t67 := rfl
theorem A68 : A 68 = some t68 := rfl
theorem A34 : A 34 = some t34 := rfl
theorem A69 : A 69 = some t69 := rfl
theorem A52 : A 52 = some t52 := rfl
theorem A73 : A 73 = some t73 := rfl
theorem A17 : A 17 = some t17 := rfl
theorem A35 : A 35 = some t35 := rfl
theorem A55 : A 55 = some t55 := rfl
theorem A75 : A 75 = some t75 := rfl
theorem A9 : A 9 = some t9 := rfl
theorem A10 : A 10 = some t10 := rfl
theorem A11 : A 11 = some t11 := rfl
theorem A27 : A 27 = some t27 := rfl
theorem A14 : A 14 = some t14 := rfl
theorem A32 : A 32 = some t32 := rfl
theorem A31 : A 31 = some t31 := rfl
theorem A33 : A 33 = some t33 := rfl
theorem A26 : A 26 = some t26 := rfl
theorem A12 : A 12 = some t12 := rfl
theorem A15 : A 15 = some t15 := rfl
theorem A16 : A 16 = some t16 := rfl
theorem A74 : A 74 = some t74 := rfl
theorem A84 : A 84 = some t84 := rfl
theorem A92 : A 92 = some t92 := rfl
end Go.Proofs.Ytgbpioccaenjaaa
