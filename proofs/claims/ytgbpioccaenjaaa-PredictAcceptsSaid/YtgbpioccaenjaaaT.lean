/- The functions of a program, compiled: printed by wip/hm/tools/Gen.lean. -/
import Derived.Test.YtgbpioccaenjaaaT1
namespace Go.Proofs.Ytgbpioccaenjaaa
open Go Go.Hm
theorem c6 : compF Try.prog 6 ⟨[], [(1, 1), (8, 8)], [], 0, [], backIt, false, none⟩ [[0], [1], [], [1], [], [1], [1, 3], [1, 3], [1, 3], [1, 3, 5], [1, 3, 5, 7], [3, 5, 7, 9], [3], [3, 7, 9], [3], [3, 9], [3], [3]] true = some t6 := by kernel_rfl
theorem c8 : compF Try.prog 8 ⟨[], [(1, 1), (2, 2), (4, 4), (5, 5)], [], 0, [], backIt, false, none⟩ [[], [], [2, 3], [2, 3, 4, 6]] true = some t8 := by kernel_rfl
theorem c23 : compF Try.prog 23 ⟨[], [(2, 2)], [], 0, [], backIt, false, none⟩ [[0], [0, 2]] true = some t23 := by kernel_rfl
theorem c13 : compF Try.prog 13 ⟨[], [(1, 1), (2, 2), (3, 3), (6, 6)], [], 0, [], backIt, false, none⟩ [[0], [1, 2, 3], [1, 2, 3, 5], [2, 3, 5], [1, 2, 3], [1, 2, 3], [2, 3, 6, 7], [2, 3, 6], [2, 3]] true = some t13 := by kernel_rfl
theorem c28 : compF Try.prog 28 ⟨[1], [(5, 1), (9, 1), (14, 1), (19, 1), (24, 1), (27, 1), (29, 1), (31, 1), (33, 1), (38, 1), (4, 4), (45, 4), (49, 4), (51, 1), (56, 4)], [], 0, [], backIt, false, none⟩ [[0], [1], [], [1], [], [1], [], [1], [1, 39, 40, 41], [1, 39, 40, 41], [1, 39, 40, 41], [1, 4, 39, 40, 41], [], [1, 39, 40, 41], []] true = some t28 := by kernel_rfl
theorem c45 : compF Try.prog 45 ⟨[], [], [], 0, [], backIt, false, none⟩ [[0, 1], [0, 1]] true = some t45 := by kernel_rfl
theorem c63 : compF Try.prog 63 ⟨[], [], [], 0, [], backIt, false, none⟩ [[0, 1], [0, 1], [0, 1, 7, 8], [0, 1, 7, 8], [0, 1, 7, 8], [0, 1, 5, 7, 8], [5], [0, 1, 7, 8], []] true = some t63 := by kernel_rfl
theorem c46 : compF Try.prog 46 ⟨[], [(3, 1)], [], 0, [], backIt, false, none⟩ [[0], [1]] true = some t46 := by kernel_rfl
theorem c48 : compF Try.prog 48 ⟨[], [], [], 0, [], backIt, false, none⟩ [[0, 1], [0, 1]] true = some t48 := by kernel_rfl
theorem c47 : compF Try.prog 47 ⟨[], [], [], 0, [], backIt, false, none⟩ [[0, 1], [0, 1]] true = some t47 := by kernel_rfl
theorem c64 : compF Try.prog 64 ⟨[], [], [], 0, [], backIt, false, none⟩ [[0, 1], [0, 1], [0, 1, 7, 8], [0, 1, 7, 8], [0, 1, 7, 8], [0, 1, 5, 7, 8], [5], [0, 1, 7, 8], []] true = some t64 := by kernel_rfl
theorem c29 : compF Try.prog 29 ⟨[], [(1, 1), (11, 1), (6, 6), (18, 2), (20, 1), (24, 6), (28, 6), (35, 2), (2, 2)], [], 0, [], backIt, false, none⟩ [[0], [1, 2], [1, 2, 3, 4], [1, 2, 3, 4, 12, 13, 14], [1, 2, 3, 4, 12, 13, 14], [1, 2, 3, 4, 12, 13, 14], [1, 2, 3, 4, 6, 12, 13, 14], [1, 2, 3, 4, 12, 13, 14], [2]] true = some t29 := by kernel_rfl
theorem c49 : compF Try.prog 49 ⟨[13], [(1, 1), (11, 1), (15, 1), (6, 6), (23, 6), (29, 6), (38, 6), (46, 6)], [], 0, [], backIt, false, none⟩ [[0], [1], [], [1], [1, 3], [1, 3, 4], [1, 3, 4], [1, 3], [1, 3, 4], [1, 3, 4, 16, 17, 18], [1, 3, 4, 16, 17, 18], [1, 3, 4, 16, 17, 18], [1, 3, 4, 6, 16, 17, 18], [1, 3, 4, 6, 7, 16, 17, 18], [1, 3, 4, 6, 7, 16, 17, 18], [1, 3, 4, 16, 17, 18], [3]] true = some t49 := by kernel_rfl
theorem c66 : compF Try.prog 66 ⟨[], [(24, 3), (29, 3), (34, 3)], [], 0, [], backIt, false, none⟩ [[0, 1, 2], [1, 2, 3], [1, 2, 3, 7], [1, 3, 7, 12, 13, 14], [1, 3, 7, 12, 13, 14], [1, 3, 7, 12, 13, 14], [1, 3, 7, 9, 12, 13, 14], [1, 3, 7, 9, 10, 12, 13, 14], [1, 3, 7, 9, 12, 13, 14], [1, 3, 7, 10, 12, 13, 14], [1, 3, 7, 12, 13, 14], [7]] true = some t66 := by kernel_rfl
theorem c51 : compF Try.prog 51 ⟨[18], [], [], 0, [], backIt, false, none⟩ [[0, 1, 2], [0, 1, 2], [], [0, 1, 2], [0, 1, 2], [0, 1, 2, 7], [0, 2, 7, 19, 20, 21], [0, 2, 7, 19, 20, 21], [0, 2, 7, 19, 20, 21], [0, 2, 7, 9, 19, 20, 21], [0, 2, 7, 9, 19, 20, 21], [0, 2, 7, 9, 19, 20, 21], [0, 2, 7, 9, 19, 20, 21, 37, 38, 39], [0, 2, 7, 9, 19, 20, 21, 37, 38, 39], [0, 2, 7, 9, 19, 20, 21, 37, 38, 39], [0, 2, 7, 9, 11, 19, 20, 21, 37, 38, 39], [0, 2, 7, 9, 12, 19, 20, 21, 37, 38, 39], [0, 2, 7, 9, 19, 20, 21, 37, 38, 39], [0, 2, 7, 19, 20, 21], [7]] true = some t51 := by kernel_rfl
theorem c70 : compF Try.prog 70 ⟨[], [], [], 0, [], backIt, false, none⟩ [[0, 1], [0, 1]] true = some t70 := by kernel_rfl
theorem c71 : compF Try.prog 71 ⟨[], [], [], 0, [], backIt, false, none⟩ [[0, 1], [0, 6, 7, 8], [0, 6, 7, 8], [0, 6, 7, 8], [0, 5, 6, 7, 8], [0, 6, 7, 8]] true = some t71 := by kernel_rfl
theorem c50 : compF Try.prog 50 ⟨[1, 3, 4, 5, 6, 10, 22], [(1, 1), (3, 3), (20, 1), (4, 4), (6, 6), (44, 1), (10, 10), (55, 1), (59, 1), (66, 1)], [], 0, [], backIt, false, none⟩ [[0], [1, 2], [], [1, 2], [1, 2, 3], [1, 2, 3, 4], [1, 2, 3, 4], [1, 2, 3, 4, 5], [1, 2, 3, 4, 5], [1, 2, 3, 4, 5, 6, 7], [1, 2, 3, 4, 5, 6, 7], [1, 2, 3, 4, 5, 6], [1, 2, 3, 4, 5, 6, 38, 39, 40], [1, 2, 3, 4, 5, 6, 38, 39, 40], [1, 2, 3, 4, 5, 6, 38, 39, 40], [1, 2, 3, 4, 5, 6, 9, 38, 39, 40], [1, 2, 3, 4, 5, 6, 10, 38, 39, 40], [1, 2, 3, 4, 5, 6, 10, 38, 39, 40, 51], [1, 3, 4, 5, 6, 10, 52, 53], [1, 3, 4, 5, 6, 10, 11, 53], [1, 3, 4, 5, 6, 10, 11, 12], [1, 3, 4, 5, 6, 10, 11, 12], [1, 3, 4, 5, 6, 10, 11, 13], [4, 5, 13, 14], [4, 5, 13, 14], [5, 13], [1, 2, 3, 4, 5, 6, 38, 39, 40], [1, 2, 3, 4, 5, 6], [1, 2, 3, 4, 5, 96], [1, 2, 3, 4, 5, 6], [4]] true = some t50 := by kernel_rfl
theorem c67 : compF Try.prog 67 ⟨[], [], [], 0, [], backIt, false, none⟩ [[0, 1], [0, 1], [0, 1]] false = some t67 := by kernel_rfl
theorem c68 : compF Try.prog 68 ⟨[], [], [], 0, [], backIt, false, none⟩ [[0], [0], [], [0], [0, 4], [4]] false = some t68 := by kernel_rfl
theorem c34 : compF Try.prog 34 ⟨[], [(2, 2), (10, 2), (6, 6), (18, 6)], [], 0, [], backIt, false, none⟩ [[0, 1], [1, 2, 4], [], [1, 2, 4], [1, 4, 11, 12, 13], [1, 4, 11, 12, 13], [1, 4, 11, 12, 13], [1, 4, 5, 6, 11, 12, 13], [1, 4, 5, 11, 12, 13], [1, 4, 11, 12, 13], [4]] true = some t34 := by kernel_rfl
theorem c69 : compF Try.prog 69 ⟨[1], [], [], 0, [], backIt, false, none⟩ [[0], [1]] true = some t69 := by kernel_rfl
theorem c82 : compF Try.prog 82 ⟨[], [], [], 0, [], backIt, false, none⟩ [[0, 1], [0, 1, 3], [0, 1, 3], [0, 1, 3], [0, 1, 3]] true = some t82 := by kernel_rfl
theorem c52 : compF Try.prog 52 ⟨[3], [(3, 3), (13, 3)], [], 0, [], backIt, false, none⟩ [[0, 1, 2], [1, 2, 3], [], [1, 2, 3]] true = some t52 := by kernel_rfl
theorem c73 : compF Try.prog 73 ⟨[], [], [], 0, [], backIt, false, none⟩ [[0, 1], [0, 1]] true = some t73 := by kernel_rfl
theorem c17 : compF Try.prog 17 ⟨[], [(11, 5), (14, 4), (4, 4), (26, 5)], [], 0, [], backIt, false, none⟩ [[0, 1, 2, 3], [2, 3, 4, 5], [], [2, 3, 4, 5], [3, 5, 20, 21, 22], [3, 5, 20, 21, 22], [3, 5, 20, 21, 22], [3, 5, 10, 20, 21, 22], [10], [3, 5, 20, 21, 22], []] true = some t17 := by kernel_rfl
theorem c35 : compF Try.prog 35 ⟨[], [], [], 0, [], backIt, false, none⟩ [[0, 1], [0, 1]] true = some t35 := by kernel_rfl
theorem c55 : compF Try.prog 55 ⟨[], [], [], 0, [], backIt, false, none⟩ [[0, 1], [0, 1]] true = some t55 := by kernel_rfl
theorem c75 : compF Try.prog 75 ⟨[], [], [], 0, [], backIt, false, none⟩ [[0, 1], [0, 1], [0, 1, 7, 8], [0, 1, 7, 8], [0, 1, 7, 8], [0, 1, 5, 7, 8], [5], [0, 1, 7, 8], []] true = some t75 := by kernel_rfl
theorem c9 : compF Try.prog 9 ⟨[], [(4, 1), (9, 1), (15, 1), (24, 1), (34, 1), (43, 1), (47, 1), (52, 1), (57, 1), (62, 1), (66, 1), (71, 1), (77, 1), (81, 1)], [], 0, [], backIt, false, none⟩ [[0], [1], [], [1], [1, 3], [1, 3], [1, 3], [], [1, 3], [1], [], [1]] true = some t9 := by kernel_rfl
theorem c19 : compF Try.prog 19 ⟨[], [(1, 1), (8, 8), (9, 9)], [], 0, [], backIt, false, none⟩ [[0], [1], [1, 3], [3], [1], [1, 5], [], [1], [1, 7], [], [1], [10]] true = some t19 := by kernel_rfl
theorem c37 : compF Try.prog 37 ⟨[], [(1, 1), (14, 1)], [], 0, [], backIt, false, none⟩ [[0], [1], [], [1], [1, 4, 5], [4, 5, 15, 16], [4, 5, 15, 16], [4, 5, 15, 16], [4, 5, 6, 15, 16], [6], [4, 5, 15, 16], []] true = some t37 := by kernel_rfl
theorem c56 : compF Try.prog 56 ⟨[], [(1, 1)], [], 0, [], backIt, false, none⟩ [[0], [1]] true = some t56 := by kernel_rfl
theorem c76 : compF Try.prog 76 ⟨[6, 5, 3, 2, 12], [(2, 2), (10, 2), (5, 5), (6, 6), (14, 2)], [], 0, [], backIt, false, none⟩ [[0, 1], [2, 3], [], [2, 3], [2, 3, 5], [2, 5, 6], [5]] true = some t76 := by kernel_rfl
theorem c85 : compF Try.prog 85 ⟨[], [], [], 0, [], backIt, false, none⟩ [[0, 1, 2, 3], [0, 1, 2, 3]] true = some t85 := by kernel_rfl
theorem c86 : compF Try.prog 86 ⟨[], [(6, 3), (11, 3), (17, 3)], [], 0, [], backIt, false, none⟩ [[0, 1, 2], [1, 2, 3], [], [1, 3], []] true = some t86 := by kernel_rfl
theorem c59 : compF Try.prog 59 ⟨[], [(6, 6)], [], 0, [], backIt, false, none⟩ [[0, 1], [0, 1, 4], [0, 1, 4], [0, 1], [0, 1, 4], [0, 1, 4, 8, 9, 10], [0, 1, 4, 8, 9, 10], [0, 1, 4, 8, 9, 10], [0, 1, 4, 6, 8, 9, 10], [0, 1, 4, 8, 9, 10]] true = some t59 := by kernel_rfl
theorem c57 : compF Try.prog 57 ⟨[1, 3, 9], [(1, 1), (7, 1), (3, 3), (12, 1)], [], 0, [], backIt, false, none⟩ [[0], [1], [], [1], [1, 3], [1, 3], [3]] true = some t57 := by kernel_rfl
theorem c77 : compF Try.prog 77 ⟨[], [(8, 3), (13, 3)], [], 0, [], backIt, false, none⟩ [[0, 1, 2], [1, 2, 3, 4], [], [1, 2, 3, 4], [1, 2, 4, 14, 15, 16], [1, 2, 4, 14, 15, 16], [1, 2, 4, 14, 15, 16], [1, 2, 4, 6, 14, 15, 16], [1, 2, 6, 14, 15, 16], [1, 2, 4, 14, 15, 16], [4]] true = some t77 := by kernel_rfl
theorem c38 : compF Try.prog 38 ⟨[4, 1, 5, 15, 25], [(1, 1), (4, 4), (13, 1), (5, 5), (23, 1), (28, 1), (32, 1)], [], 0, [], backIt, false, none⟩ [[0], [1], [], [1], [1, 4], [1, 4, 5], [1, 4, 5, 17, 18], [1, 4, 5, 17, 18], [1, 4, 5, 17, 18], [1, 4, 5, 6, 17, 18], [1, 4, 5, 17, 18], [1, 4, 5], [1, 5], [5, 33, 34], [5, 33, 34], [5, 33, 34], [5, 7, 33, 34], [7], [5, 33, 34], []] true = some t38 := by kernel_rfl
theorem c58 : compF Try.prog 58 ⟨[], [(1, 1)], [], 0, [], backIt, false, none⟩ [[0], [1]] true = some t58 := by kernel_rfl
theorem c60 : compF Try.prog 60 ⟨[], [(12, 4), (18, 4)], [], 0, [], backIt, false, none⟩ [[0, 1, 2, 3], [1, 2, 3, 4, 5], [1, 2, 3, 4, 5, 6], [1, 5, 6, 20, 21, 22], [1, 5, 6, 20, 21, 22], [1, 5, 6, 20, 21, 22], [1, 5, 6, 8, 20, 21, 22], [1, 5, 6, 8, 20, 21, 22, 29, 30, 31], [1, 5, 6, 8, 20, 21, 22, 29, 30, 31], [1, 5, 6, 8, 20, 21, 22, 29, 30, 31], [1, 5, 6, 8, 9, 10, 20, 21, 22, 29, 30, 31], [1, 6, 8, 9, 20, 21, 22, 29, 30, 31], [1, 5, 6, 8, 20, 21, 22, 29, 30, 31], [1, 5, 6, 20, 21, 22], [5]] true = some t60 := by kernel_rfl
theorem c61 : compF Try.prog 61 ⟨[], [(16, 3), (21, 3), (28, 3)], [], 0, [], backIt, false, none⟩ [[0, 1, 2], [1, 2, 3, 6], [1, 3, 6, 9, 10, 11], [1, 3, 6, 9, 10, 11], [1, 3, 6, 9, 10, 11], [1, 3, 6, 8, 9, 10, 11], [1, 3, 6, 8, 9, 10, 11], [1, 3, 6, 8, 9, 10, 11], [1, 3, 6, 9, 10, 11], [6]] true = some t61 := by kernel_rfl
theorem c10 : compF Try.prog 10 ⟨[], [(7, 1), (11, 1), (16, 1), (21, 1), (27, 1), (33, 1), (41, 1), (45, 1), (50, 1), (55, 1), (61, 1), (67, 1), (5, 5), (72, 5), (76, 5), (78, 1), (83, 5), (89, 5), (96, 5), (101, 1), (103, 1)], [], 0, [], backIt, false, none⟩ [[0], [1], [], [1], [1, 3], [1, 3], [1, 3], [], [1, 3], [1], [], [1], [1, 4], [1, 4], [1, 4], [1, 4, 5], [], [1, 4, 5], [1, 4, 5, 6], [1, 4, 5, 6], [1, 4, 5, 6], [], [1, 4, 5, 6], [1, 4], []] true = some t10 := by kernel_rfl
theorem c20 : compF Try.prog 20 ⟨[], [(1, 1), (15, 1)], [], 0, [], backIt, false, none⟩ [[0], [1], [], [1], [1, 4, 5], [1, 4, 5, 6], [1, 4, 5, 6], [1, 4, 5, 6], [6], [1, 4, 5, 6], []] true = some t20 := by kernel_rfl
theorem c39 : compF Try.prog 39 ⟨[], [(1, 1)], [], 0, [], backIt, false, none⟩ [[0], [1]] true = some t39 := by kernel_rfl
theorem c62 : compF Try.prog 62 ⟨[17], [(2, 2), (15, 2), (20, 2), (26, 2), (8, 8), (32, 8), (38, 8), (47, 8), (53, 2), (61, 2), (67, 2), (76, 8)], [], 0, [], backIt, false, none⟩ [[0, 1], [1, 2], [], [1, 2], [1, 2, 5], [1, 2, 5, 6], [1, 2, 5, 6], [1, 2, 5], [1, 2, 5, 6], [1, 2, 5, 6, 7], [1, 2, 5, 6, 7], [1, 2, 5, 6, 7], [1, 2, 5, 6, 7, 8], [1, 2, 5, 6, 7, 8, 9], [1, 2, 5, 6, 7, 8, 9, 10], [1, 2, 5, 6, 7, 8, 9, 10], [1, 2, 5, 6, 7, 8, 10], [1, 2, 5, 6, 7, 8, 10, 11], [1, 2, 5, 6, 7, 8, 9, 10], [1, 2, 5, 6, 7, 8, 9], [1, 2, 5, 7, 8], [1, 2, 5, 6, 7], [5]] true = some t62 := by kernel_rfl
theorem c40 : compF Try.prog 40 ⟨[14], [(1, 1), (12, 1), (19, 1), (25, 1), (6, 6), (31, 6), (37, 6), (44, 6), (49, 1)], [], 0, [], backIt, false, none⟩ [[0], [1], [], [1], [1, 3], [1, 3], [1, 3, 4], [1, 3, 4], [1, 3], [1, 3, 4], [1, 3, 4, 5], [1, 3, 4, 5], [1, 3, 4, 5], [1, 3, 4, 5, 6], [1, 3, 4, 5, 6, 7], [1, 3, 4, 5, 6, 7], [1, 3, 4, 5, 6, 7], [1, 3, 4, 5, 6, 7, 8], [1, 3, 5, 6, 7, 8], [1, 3, 4, 5, 6, 7], [1, 3, 4, 5], [3]] true = some t40 := by kernel_rfl
theorem c21 : compF Try.prog 21 ⟨[22, 33], [(1, 1), (20, 1), (24, 1), (31, 1), (36, 1), (42, 1), (8, 8), (48, 8), (53, 8), (58, 1), (64, 8), (69, 1), (73, 8), (85, 1), (91, 1), (97, 1), (134, 1)], [], 0, [], backIt, false, none⟩ [[0], [1], [], [1], [1, 4], [1, 4, 5], [1, 4, 5, 6], [1, 4, 5, 6], [1, 4, 5, 6], [1, 4, 5, 6], [1, 4, 5], [1, 4, 5, 7], [1, 4, 5, 7], [1, 4, 5, 7], [1, 4, 5, 7, 8], [1, 4, 5, 7, 8, 9], [1, 4, 5, 7, 8, 9], [1, 4, 5, 7, 8, 9], [1, 4, 5, 7, 8, 9, 10], [1, 4, 5, 7, 8, 9, 10], [1, 4, 5, 7, 8, 9], [1, 4, 5, 7], [1, 5], [1, 5, 11], [1, 5, 11], [1, 5, 11], [1, 5, 11, 12], [1, 5, 11, 12], [1, 5, 11, 12], [1, 5, 11, 12, 13], [1, 5, 11, 12, 13], [1, 5, 11, 12, 13], [1, 5, 11, 12, 13], [1, 5, 11, 12], [1, 5, 11], [1, 5], [1, 5, 14], [1, 5, 14], [1, 5, 14], [14], [1, 5, 14], []] true = some t21 := by kernel_rfl
theorem c41 : compF Try.prog 41 ⟨[], [(1, 1)], [], 0, [], backIt, false, none⟩ [[0], [1]] true = some t41 := by kernel_rfl
theorem c22 : compF Try.prog 22 ⟨[], [(1, 1), (4, 4), (2, 2)], [], 0, [], backIt, false, none⟩ [[0], [1, 2], [2, 5]] true = some t22 := by kernel_rfl
theorem c74 : compF Try.prog 74 ⟨[], [], [], 0, [], backIt, false, none⟩ [[0, 1], [0, 1, 4], [0, 1, 4], [0, 1, 4], [0, 1, 4, 6], [0], [0, 1, 4, 6], [0, 1, 4], [0, 1, 4], [4]] true = some t74 := by kernel_rfl
theorem c84 : compF Try.prog 84 ⟨[], [], [], 0, [], backIt, false, none⟩ [[0, 1], [0, 1], [0, 1, 5], [0, 1, 5, 6], [6], [], [], [0, 1, 6], [], [0, 1], [], [0, 1], [], []] true = some t84 := by kernel_rfl
theorem c92 : compF Try.prog 92 ⟨[], [], [], 0, [], backIt, false, none⟩ [[0], [0]] true = some t92 := by kernel_rfl
def tab : List (Nat × AFn) := [(6, t6), (8, t8), (23, t23), (13, t13), (28, t28), (45, t45), (63, t63), (46, t46), (48, t48), (47, t47), (64, t64), (29, t29), (49, t49), (66, t66), (51, t51), (70, t70), (71, t71), (50, t50), (67, t67), (68, t68), (34, t34), (69, t69), (82, t82), (52, t52), (73, t73), (17, t17), (35, t35), (55, t55), (75, t75), (9, t9), (19, t19), (37, t37), (56, t56), (76, t76), (85, t85), (86, t86), (59, t59), (57, t57), (77, t77), (38, t38), (58, t58), (60, t60), (61, t61), (10, t10), (20, t20), (39, t39), (62, t62), (40, t40), (21, t21), (41, t41), (22, t22), (74, t74), (84, t84), (92, t92)]
def A : FuncId → Option AFn := assoc tab
theorem fnsOk : FnsOk Try.prog A := assoc_ok (mem_cons_ok ⟨_, _, c6, backIt_ok⟩ (mem_cons_ok ⟨_, _, c8, backIt_ok⟩ (mem_cons_ok ⟨_, _, c23, backIt_ok⟩ (mem_cons_ok ⟨_, _, c13, backIt_ok⟩ (mem_cons_ok ⟨_, _, c28, backIt_ok⟩ (mem_cons_ok ⟨_, _, c45, backIt_ok⟩ (mem_cons_ok ⟨_, _, c63, backIt_ok⟩ (mem_cons_ok ⟨_, _, c46, backIt_ok⟩ (mem_cons_ok ⟨_, _, c48, backIt_ok⟩ (mem_cons_ok ⟨_, _, c47, backIt_ok⟩ (mem_cons_ok ⟨_, _, c64, backIt_ok⟩ (mem_cons_ok ⟨_, _, c29, backIt_ok⟩ (mem_cons_ok ⟨_, _, c49, backIt_ok⟩ (mem_cons_ok ⟨_, _, c66, backIt_ok⟩ (mem_cons_ok ⟨_, _, c51, backIt_ok⟩ (mem_cons_ok ⟨_, _, c70, backIt_ok⟩ (mem_cons_ok ⟨_, _, c71, backIt_ok⟩ (mem_cons_ok ⟨_, _, c50, backIt_ok⟩ (mem_cons_ok ⟨_, _, c67, backIt_ok⟩ (mem_cons_ok ⟨_, _, c68, backIt_ok⟩ (mem_cons_ok ⟨_, _, c34, backIt_ok⟩ (mem_cons_ok ⟨_, _, c69, backIt_ok⟩ (mem_cons_ok ⟨_, _, c82, backIt_ok⟩ (mem_cons_ok ⟨_, _, c52, backIt_ok⟩ (mem_cons_ok ⟨_, _, c73, backIt_ok⟩ (mem_cons_ok ⟨_, _, c17, backIt_ok⟩ (mem_cons_ok ⟨_, _, c35, backIt_ok⟩ (mem_cons_ok ⟨_, _, c55, backIt_ok⟩ (mem_cons_ok ⟨_, _, c75, backIt_ok⟩ (mem_cons_ok ⟨_, _, c9, backIt_ok⟩ (mem_cons_ok ⟨_, _, c19, backIt_ok⟩ (mem_cons_ok ⟨_, _, c37, backIt_ok⟩ (mem_cons_ok ⟨_, _, c56, backIt_ok⟩ (mem_cons_ok ⟨_, _, c76, backIt_ok⟩ (mem_cons_ok ⟨_, _, c85, backIt_ok⟩ (mem_cons_ok ⟨_, _, c86, backIt_ok⟩ (mem_cons_ok ⟨_, _, c59, backIt_ok⟩ (mem_cons_ok ⟨_, _, c57, backIt_ok⟩ (mem_cons_ok ⟨_, _, c77, backIt_ok⟩ (mem_cons_ok ⟨_, _, c38, backIt_ok⟩ (mem_cons_ok ⟨_, _, c58, backIt_ok⟩ (mem_cons_ok ⟨_, _, c60, backIt_ok⟩ (mem_cons_ok ⟨_, _, c61, backIt_ok⟩ (mem_cons_ok ⟨_, _, c10, backIt_ok⟩ (mem_cons_ok ⟨_, _, c20, backIt_ok⟩ (mem_cons_ok ⟨_, _, c39, backIt_ok⟩ (mem_cons_ok ⟨_, _, c62, backIt_ok⟩ (mem_cons_ok ⟨_, _, c40, backIt_ok⟩ (mem_cons_ok ⟨_, _, c21, backIt_ok⟩ (mem_cons_ok ⟨_, _, c41, backIt_ok⟩ (mem_cons_ok ⟨_, _, c22, backIt_ok⟩ (mem_cons_ok ⟨_, _, c74, backIt_ok⟩ (mem_cons_ok ⟨_, _, c84, backIt_ok⟩ (mem_cons_ok ⟨_, _, c92, backIt_ok⟩ (mem_nil_ok)))))))))))))))))))))))))))))))))))))))))))))))))))))))
def prims : List (Nat × Nat × Nat) := []
theorem primsOk : ∀ p ∈ prims, IsClone Try.prog p := fun _ h => by cases h
abbrev X0 : Orc := withRows 72 65 (primX prims)
noncomputable abbrev C0 : Orc := callW X0 A
theorem x0Ok : OrcOk Try.prog X0 := withRows_ok (by decide) (by decide) sortsKeys unites (primX_ok (by kernel_rfl) primsOk)
theorem x0Fr : OrcFr X0 := withRows_fr (primX_fr _)
theorem orcOk0 : OrcOk Try.prog C0 := callW_ok (by kernel_rfl) x0Ok x0Fr fnsOk
abbrev X1 : Orc := withFun 30 conflictG <| X0
abbrev X : Orc := withConst 8 (.bool true) X1
noncomputable abbrev C : Orc := callW X A
theorem laidOut : laidOutB Try.prog = true := by kernel_rfl
theorem own : ownKnob Try.prog.godebug = none := by kernel_rfl
theorem A6 : A 6 = some t6 := rfl
theorem A13 : A 13 = some t13 := rfl
theorem A28 : A 28 = some t28 := rfl
theorem A45 : A 45 = some t45 := rfl
theorem A63 : A 63 = some t63 := rfl
theorem A46 : A 46 = some t46 := rfl
theorem A48 : A 48 = some t48 := rfl
theorem A47 : A 47 = some t47 := rfl
theorem A64 : A 64 = some t64 := rfl
theorem A29 : A 29 = some t29 := rfl
theorem A49 : A 49 = some t49 := rfl
theorem A66 : A 66 = some t66 := rfl
theorem A51 : A 51 = some t51 := rfl
theorem A70 : A 70 = some t70 := rfl
theorem A71 : A 71 = some t71 := rfl
theorem A50 : A 50 = some t50 := rfl
theorem A67 : A 67 = some t67 := rfl
theorem A68 : A 68 = some t68 := rfl
theorem A34 : A 34 = some t34 := rfl
theorem A69 : A 69 = some t69 := rfl
theorem A52 : A 52 = some t52 := rfl
theorem A73 : A 73 = some t73 := rfl
theorem A9 : A 9 = some t9 := rfl
theorem A19 : A 19 = some t19 := rfl
theorem A37 : A 37 = some t37 := rfl
theorem A56 : A 56 = some t56 := rfl
theorem A76 : A 76 = some t76 := rfl
theorem A85 : A 85 = some t85 := rfl
theorem A86 : A 86 = some t86 := rfl
theorem A59 : A 59 = some t59 := rfl
theorem A57 : A 57 = some t57 := rfl
theorem A77 : A 77 = some t77 := rfl
theorem A38 : A 38 = some t38 := rfl
theorem A58 : A 58 = some t58 := rfl
theorem A60 : A 60 = some t60 := rfl
theorem A61 : A 61 = some t61 := rfl
theorem A10 : A 10 = some t10 := rfl
theorem A20 : A 20 = some t20 := rfl
theorem A39 : A 39 = some t39 := rfl
theorem A62 : A 62 = some t62 := rfl
theorem A40 : A 40 = some t40 := rfl
theorem A21 : A 21 = some t21 := rfl
theorem A41 : A 41 = some t41 := rfl
theorem A22 : A 22 = some t22 := rfl
theorem A74 : A 74 = some t74 := rfl
theorem A84 : A 84 = some t84 := rfl
theorem A92 : A 92 = some t92 := rfl
end Go.Proofs.Ytgbpioccaenjaaa
