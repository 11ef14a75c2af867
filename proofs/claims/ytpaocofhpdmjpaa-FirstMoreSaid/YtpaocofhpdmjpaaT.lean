/- The functions of a program, compiled: printed by wip/hm/tools/Gen.lean. -/
import Derived.Test.YtpaocofhpdmjpaaT2
namespace Go.Proofs.Ytpaocofhpdmjpaa
open Go Go.Hm
theorem c3 : compF Try.prog 3 ⟨[], [], [], 0, [], rowsIt, false, none⟩ [[0, 1, 2, 3], [0, 1, 2, 3], [], [0, 1, 2, 3], [], [0, 1, 2, 3], [0, 1, 2, 3, 9], [0, 1, 2, 3, 9, 10], [], [0, 1, 2, 3], [0, 1, 2, 3, 11], [0, 1, 2, 3, 11, 12], [0, 1, 2, 3, 11, 12], [0, 1, 2, 3, 11, 12], [], [0, 1, 2, 3, 11, 12], [0, 1, 2, 3, 11], [0, 1, 2, 3, 11, 13], [0, 1, 2, 3, 11, 13], [0, 1, 2, 3, 11, 13], [], [0, 1, 2, 3, 11, 13], [0, 1, 2, 3, 11]] true = some t3 := by kernel_rfl
theorem c10 : compF Try.prog 10 ⟨[], [], [], 0, [], rowsIt, false, none⟩ [[], []] true = some t10 := by kernel_rfl
theorem c27 : compF Try.prog 27 ⟨[], [(0, 0)], [], 0, [], rowsIt, false, none⟩ [[], [0]] true = some t27 := by kernel_rfl
theorem c19 : compF Try.prog 19 ⟨[13], [(1, 1), (11, 1), (15, 1), (6, 6), (23, 6), (29, 6), (38, 6), (46, 6)], [], 0, [], rowsIt, false, none⟩ [[0], [1], [], [1], [1, 3], [1, 3, 4], [1, 3, 4], [1, 3], [1, 3, 4], [1, 3, 4, 16, 17, 18], [1, 3, 4, 16, 17, 18], [1, 3, 4, 16, 17, 18], [1, 3, 4, 6, 16, 17, 18], [1, 3, 4, 6, 7, 16, 17, 18], [1, 3, 4, 6, 7, 16, 17, 18], [1, 3, 4, 16, 17, 18], [3]] true = some t19 := by kernel_rfl
theorem c44 : compF Try.prog 44 ⟨[1], [(5, 1), (9, 1), (14, 1), (19, 1), (24, 1), (27, 1), (29, 1), (31, 1), (33, 1), (38, 1), (4, 4), (45, 4), (49, 4), (51, 1), (56, 4)], [], 0, [], rowsIt, false, none⟩ [[0], [1], [], [1], [], [1], [], [1], [1, 39, 40, 41], [1, 39, 40, 41], [1, 39, 40, 41], [1, 4, 39, 40, 41], [], [1, 39, 40, 41], []] true = some t44 := by kernel_rfl
theorem c63 : compF Try.prog 63 ⟨[], [], [], 0, [], rowsIt, false, none⟩ [[0, 1], [0, 1]] true = some t63 := by kernel_rfl
theorem c71 : compF Try.prog 71 ⟨[], [], [], 0, [], rowsIt, false, none⟩ [[0, 1], [0, 1], [0, 1, 7, 8], [0, 1, 7, 8], [0, 1, 7, 8], [0, 1, 5, 7, 8], [5], [0, 1, 7, 8], []] true = some t71 := by kernel_rfl
theorem c64 : compF Try.prog 64 ⟨[], [(3, 1)], [], 0, [], rowsIt, false, none⟩ [[0], [1]] true = some t64 := by kernel_rfl
theorem c65 : compF Try.prog 65 ⟨[], [], [], 0, [], rowsIt, false, none⟩ [[0, 1], [0, 1]] true = some t65 := by kernel_rfl
theorem c49 : compF Try.prog 49 ⟨[], [], [], 0, [], rowsIt, false, none⟩ [[0, 1], [0, 1]] true = some t49 := by kernel_rfl
theorem c66 : compF Try.prog 66 ⟨[], [], [], 0, [], rowsIt, false, none⟩ [[0, 1], [0, 1], [0, 1, 7, 8], [0, 1, 7, 8], [0, 1, 7, 8], [0, 1, 5, 7, 8], [5], [0, 1, 7, 8], []] true = some t66 := by kernel_rfl
theorem c45 : compF Try.prog 45 ⟨[], [(24, 3), (29, 3), (34, 3)], [], 0, [], rowsIt, false, none⟩ [[0, 1, 2], [1, 2, 3], [1, 2, 3, 7], [1, 3, 7, 12, 13, 14], [1, 3, 7, 12, 13, 14], [1, 3, 7, 12, 13, 14], [1, 3, 7, 9, 12, 13, 14], [1, 3, 7, 9, 10, 12, 13, 14], [1, 3, 7, 9, 12, 13, 14], [1, 3, 7, 10, 12, 13, 14], [1, 3, 7, 12, 13, 14], [7]] true = some t45 := by kernel_rfl
theorem c12 : compF Try.prog 12 ⟨[18], [], [], 0, [], rowsIt, false, none⟩ [[0, 1, 2], [0, 1, 2], [], [0, 1, 2], [0, 1, 2], [0, 1, 2, 7], [0, 2, 7, 19, 20, 21], [0, 2, 7, 19, 20, 21], [0, 2, 7, 19, 20, 21], [0, 2, 7, 9, 19, 20, 21], [0, 2, 7, 9, 19, 20, 21], [0, 2, 7, 9, 19, 20, 21], [0, 2, 7, 9, 19, 20, 21, 37, 38, 39], [0, 2, 7, 9, 19, 20, 21, 37, 38, 39], [0, 2, 7, 9, 19, 20, 21, 37, 38, 39], [0, 2, 7, 9, 11, 19, 20, 21, 37, 38, 39], [0, 2, 7, 9, 12, 19, 20, 21, 37, 38, 39], [0, 2, 7, 9, 19, 20, 21, 37, 38, 39], [0, 2, 7, 19, 20, 21], [7]] true = some t12 := by kernel_rfl
theorem c36 : compF Try.prog 36 ⟨[], [], [], 0, [], rowsIt, false, none⟩ [[0, 1], [0, 1]] true = some t36 := by kernel_rfl
theorem c37 : compF Try.prog 37 ⟨[], [], [], 0, [], rowsIt, false, none⟩ [[0, 1], [0, 6, 7, 8], [0, 6, 7, 8], [0, 6, 7, 8], [0, 5, 6, 7, 8], [0, 6, 7, 8]] true = some t37 := by kernel_rfl
theorem c34 : compF Try.prog 34 ⟨[], [], [], 0, [], rowsIt, false, none⟩ [[0, 1], [0, 1], [], [0, 1], [0, 1, 5], [0, 1, 5], [0, 1, 5], [], [0, 1, 5], []] true = some t34 := by kernel_rfl
theorem c13 : compF Try.prog 13 ⟨[], [], [], 0, [], rowsIt, false, none⟩ [[0, 1], [0, 1], [], [0, 1], [0, 1, 5], [0, 1, 5], [0, 1, 5], [], [0, 1, 5], []] true = some t13 := by kernel_rfl
theorem c11 : compF Try.prog 11 ⟨[], [], [], 0, [], rowsIt, false, none⟩ [[0], [0], [0, 3], [0, 3], [0, 3], [0, 3, 4], [0, 3, 4], [0, 3, 4], [], [0, 3, 4], [0, 3], [0]] true = some t11 := by kernel_rfl
theorem c28 : compF Try.prog 28 ⟨[], [], [], 0, [], rowsIt, false, none⟩ [[0, 1], [0, 1], [0, 1, 5], [0, 1, 5], [0, 1, 5], [], [0, 1, 5], [0, 1]] true = some t28 := by kernel_rfl
theorem c14 : compF Try.prog 14 ⟨[], [], [], 0, [], rowsIt, false, none⟩ [[0, 1], [0, 1]] true = some t14 := by kernel_rfl
theorem c39 : compF Try.prog 39 ⟨[], [], [], 0, [], rowsIt, false, none⟩ [[0, 1], [0, 1]] true = some t39 := by kernel_rfl
theorem c58 : compF Try.prog 58 ⟨[], [], [], 0, [], rowsIt, false, none⟩ [[0, 1], [0, 1], [0, 1, 7, 8], [0, 1, 7, 8], [0, 1, 7, 8], [0, 1, 5, 7, 8], [5], [0, 1, 7, 8], []] true = some t58 := by kernel_rfl
theorem c4 : compF Try.prog 4 ⟨[], [(2, 2), (33, 2), (44, 2)], [], 0, [], rowsIt, false, none⟩ [[0, 1], [1, 2], [], [1, 2], [], [1, 2], [2, 5, 6], [2, 5, 6, 7]] true = some t4 := by kernel_rfl
theorem c16 : compF Try.prog 16 ⟨[], [(4, 1), (9, 1), (15, 1), (24, 1), (34, 1), (43, 1), (47, 1), (52, 1), (57, 1), (62, 1), (66, 1), (71, 1), (77, 1), (81, 1)], [], 0, [], rowsIt, false, none⟩ [[0], [1], [], [1], [1, 3], [1, 3], [1, 3], [], [1, 3], [1], [], [1]] true = some t16 := by kernel_rfl
theorem c17 : compF Try.prog 17 ⟨[], [(7, 1), (11, 1), (16, 1), (21, 1), (27, 1), (33, 1), (41, 1), (45, 1), (50, 1), (55, 1), (61, 1), (67, 1), (5, 5), (72, 5), (76, 5), (78, 1), (83, 5), (89, 5), (96, 5), (101, 1), (103, 1)], [], 0, [], rowsIt, false, none⟩ [[0], [1], [], [1], [1, 3], [1, 3], [1, 3], [], [1, 3], [1], [], [1], [1, 4], [1, 4], [1, 4], [1, 4, 5], [], [1, 4, 5], [1, 4, 5, 6], [1, 4, 5, 6], [1, 4, 5, 6], [], [1, 4, 5, 6], [1, 4], []] true = some t17 := by kernel_rfl
theorem c18 : compF Try.prog 18 ⟨[18], [(16, 3), (36, 3), (46, 3), (52, 3), (59, 3), (86, 3), (14, 14), (103, 14), (112, 14)], [], 0, [], rowsIt, false, none⟩ [[0, 1, 2], [1, 2, 3], [1, 2, 3, 8], [1, 2, 3, 8, 9], [1, 2, 3, 8, 9, 10], [1, 2, 3, 8, 9, 10], [1, 2, 3, 8, 9, 10], [1, 2, 3, 8, 9, 10, 11], [1, 2, 3, 8, 9, 10, 11], [1, 2, 3, 8, 9, 10, 11], [1, 2, 3, 8, 9, 10, 11], [1, 2, 3, 8, 9, 10, 11, 12], [1, 2, 3, 8, 9, 10, 11, 12, 13], [1, 2, 3, 8, 9, 10, 11, 12, 13], [1, 2, 3, 8, 9, 10, 11, 12, 13], [1, 2, 3, 8, 9, 10, 11, 12, 13], [1, 2, 3, 8, 9, 10, 11, 12, 13], [1, 2, 3, 8, 9, 10, 12], [], [1, 2, 3, 8, 9, 10, 12], [1, 2, 3, 8, 9, 10, 12], [1, 2, 3, 8, 9, 10, 14], [1, 2, 3, 8, 9, 10, 14, 15], [1, 2, 3, 8, 9, 10, 14, 15], [1, 2, 3, 8, 9, 10, 14, 15], [1, 2, 3, 8, 9, 10, 14, 15], [1, 2, 3, 8, 9, 10], [9]] true = some t18 := by kernel_rfl
theorem c25 : compF Try.prog 25 ⟨[], [], [], 0, [], rowsIt, false, none⟩ [[0, 1], [0, 1], [], [0, 1], [1, 5], [1, 5], [5]] true = some t25 := by kernel_rfl
theorem c5 : compF Try.prog 5 ⟨[], [(2, 2), (5, 5), (16, 5), (3, 3), (21, 5), (8, 8), (40, 8), (45, 2), (51, 2), (58, 2), (63, 2)], [], 0, [], rowsIt, false, some 4⟩ [[0, 1], [2, 3], [], [2, 3], [2, 3, 5], [2, 5], [], [2, 5], [2, 6, 7], [2, 6, 7, 8], [2, 6, 7, 8], [2, 6, 7, 9], [], [2, 6, 7, 9], [2, 6, 7, 9, 10], [2, 6, 7, 9, 10], [2, 6, 7, 9, 10], [2, 6, 7, 9, 10, 11], [2, 6, 7, 9, 10, 11], [2, 6, 7, 9, 10, 11], [], [2, 6, 7, 9, 10, 11], [2, 6, 7, 9, 10], [], [2, 6, 7, 9, 10], []] true = some t5 := by kernel_rfl
theorem c20 : compF Try.prog 20 ⟨[], [(4, 1), (7, 1), (9, 1), (15, 1), (18, 1), (1, 1), (2, 2)], [], 0, [], rowsIt, false, none⟩ [[0], [1, 2], [1, 2], [1, 2, 3], [1, 2, 3], [1, 2, 3], [1, 2, 3], [1, 2]] false = some t20 := by kernel_rfl
theorem c46 : compF Try.prog 46 ⟨[], [], [], 0, [], rowsIt, false, none⟩ [[0], [0]] false = some t46 := by kernel_rfl
theorem c47 : compF Try.prog 47 ⟨[], [], [], 0, [], rowsIt, false, none⟩ [[0], [0]] true = some t47 := by kernel_rfl
theorem c6 : compF Try.prog 6 ⟨[], [(1, 1), (24, 1), (32, 1), (38, 1), (44, 1), (55, 1), (112, 1)], [], 0, [], rowsIt, false, none⟩ [[0], [1], [], [1], [], [1], [1, 3], [], [1, 3], [1, 3, 4, 5], [1, 3, 4, 5, 6], [1, 3, 4, 5, 6], [1, 3, 4, 5, 6], [1, 3, 4, 5, 6, 7], [1, 3, 4, 5, 6, 7, 8], [1, 3, 4, 5, 6, 7, 8], [1, 3, 4, 5, 6, 7, 8], [1, 3, 4, 5, 6, 7, 8], [1, 3, 4, 5, 6, 7, 8], [1, 3, 4, 5, 6, 7], [], [1, 3, 4, 5, 6], [1, 3, 4, 5, 6, 9], [1, 3, 4, 5, 6, 9], [1, 3, 4, 5, 6, 9], [], [1, 3, 4, 5, 6, 9], [1, 3, 4, 5, 6], []] true = some t6 := by kernel_rfl
theorem c21 : compF Try.prog 21 ⟨[], [(1, 1)], [], 0, [], rowsIt, false, none⟩ [[0], [1]] true = some t21 := by kernel_rfl
theorem c48 : compF Try.prog 48 ⟨[17], [(2, 2), (15, 2), (20, 2), (26, 2), (8, 8), (32, 8), (38, 8), (47, 8), (53, 2), (61, 2), (67, 2), (76, 8)], [], 0, [], rowsIt, false, none⟩ [[0, 1], [1, 2], [], [1, 2], [1, 2, 5], [1, 2, 5, 6], [1, 2, 5, 6], [1, 2, 5], [1, 2, 5, 6], [1, 2, 5, 6, 7], [1, 2, 5, 6, 7], [1, 2, 5, 6, 7], [1, 2, 5, 6, 7, 8], [1, 2, 5, 6, 7, 8, 9], [1, 2, 5, 6, 7, 8, 9, 10], [1, 2, 5, 6, 7, 8, 9, 10], [1, 2, 5, 6, 7, 8, 10], [1, 2, 5, 6, 7, 8, 10, 11], [1, 2, 5, 6, 7, 8, 9, 10], [1, 2, 5, 6, 7, 8, 9], [1, 2, 5, 7, 8], [1, 2, 5, 6, 7], [5]] true = some t48 := by kernel_rfl
theorem c22 : compF Try.prog 22 ⟨[], [(1, 1)], [], 0, [], rowsIt, false, none⟩ [[0], [1]] true = some t22 := by kernel_rfl
theorem c23 : compF Try.prog 23 ⟨[3], [(3, 3), (13, 3)], [], 0, [], rowsIt, false, none⟩ [[0, 1, 2], [1, 2, 3], [], [1, 2, 3]] true = some t23 := by kernel_rfl
theorem c50 : compF Try.prog 50 ⟨[], [], [], 0, [], rowsIt, false, none⟩ [[0, 1], [0, 1]] true = some t50 := by kernel_rfl
theorem c7 : compF Try.prog 7 ⟨[5, 6, 7, 15], [(6, 6), (7, 7), (5, 5), (15, 15)], [], 0, [], rowsIt, false, none⟩ [[0, 1, 2], [0, 1, 5, 6], [6], [0, 1, 5, 6], [6], [0, 1, 5, 6], [0, 1, 5, 6, 7, 8], [0, 1, 5, 6, 7, 8, 9, 10], [0, 1, 5, 6, 7, 8, 9, 10, 11], [0, 1, 5, 6, 7, 8, 9, 10, 11], [0, 1, 5, 6, 7, 8, 9, 10, 11], [0, 1, 5, 6, 7, 8, 9, 10, 11], [0, 1, 5, 6, 7, 8, 9, 10, 11], [0, 1, 5, 6, 7, 8, 9, 10], [6], [0, 1, 5, 6, 7], [0, 1, 5, 6, 7, 12], [0, 1, 5, 6, 7, 12], [0, 1, 5, 6, 7, 12], [0, 1, 5, 6, 7, 12, 13], [6], [0, 1, 5, 6, 7, 12, 13], [0, 1, 5, 6, 7, 12, 13, 14], [0, 1, 5, 6, 7, 12, 13, 14], [0, 1, 5, 6, 7, 12, 13, 14], [6], [0, 1, 5, 6, 7, 12, 13, 14], [0, 1, 5, 6, 7, 12], [0, 1, 5, 6, 7], [0, 1, 5, 6, 7], [0, 1, 5, 6, 7, 15], [5, 6, 7, 15, 16], [6], [5, 6, 7, 15, 16], [5, 6, 7, 15, 140], [5, 6, 7, 15, 141], [5, 6, 7, 15, 17], [6, 7, 15, 17], [6], [15], [5, 6, 15]] true = some t7 := by kernel_rfl
theorem c24 : compF Try.prog 24 ⟨[4, 5, 7], [(4, 4), (5, 5), (7, 7)], [], 0, [], rowsIt, false, none⟩ [[0, 1], [0, 1, 4, 5], [4, 5, 6], [4, 5], [4, 5, 6], [4, 5, 6, 7], [4, 5, 7, 14], [4, 5, 7, 15], [4, 5, 7, 8], [4, 5], [7, 8], [4, 5, 7]] true = some t24 := by kernel_rfl
theorem c26 : compF Try.prog 26 ⟨[3, 2], [], [], 0, [], rowsIt, false, none⟩ [[0, 1], [2, 3]] false = some t26 := by kernel_rfl
theorem c51 : compF Try.prog 51 ⟨[], [], [], 0, [], rowsIt, false, none⟩ [[0, 1, 2], [0, 1, 2]] true = some t51 := by kernel_rfl
theorem c52 : compF Try.prog 52 ⟨[], [], [], 0, [], rowsIt, false, none⟩ [[0, 1, 2, 3], [0, 1, 2, 3], [0, 3], [0, 1, 2, 3], [0, 1, 2, 3, 17, 18], [0, 1, 2, 3, 17, 18], [0, 1, 2, 3, 17, 18], [0, 1, 2, 3, 9, 17, 18], [], [0, 1, 2, 3, 17, 18], [0, 3]] true = some t52 := by kernel_rfl
theorem c8 : compF Try.prog 8 ⟨[], [], [], 0, [], rowsIt, false, none⟩ [[], [], [], [], [1, 2], [1, 2, 3, 4], [1, 2, 3, 4, 5, 6]] true = some t8 := by kernel_rfl
theorem c9 : compF Try.prog 9 ⟨[], [(7, 7)], [], 0, [], rowsIt, false, none⟩ [[0, 1, 2, 3, 4, 5, 6], [1, 2, 3, 4, 5, 6, 7], [], [1, 2, 3, 4, 5, 6, 7], [], [1, 2, 3, 4, 5, 6, 7], [1, 2, 3, 4, 5, 6, 7, 15], [1, 2, 3, 4, 5, 6, 7, 15], [1, 2, 3, 4, 5, 6, 7, 15], [], [1, 2, 3, 4, 5, 6, 7, 15], [1, 2, 3, 4, 5, 6, 7], [1, 2, 3, 4, 5, 6, 7, 16, 17], [1, 2, 3, 4, 5, 6, 7, 16, 17, 18], [1, 2, 3, 4, 5, 6, 7, 16, 17, 18, 19], [1, 2, 3, 4, 5, 6, 7, 16, 17, 18], [1, 2, 3, 4, 5, 6, 7, 16, 17, 18, 19]] true = some t9 := by kernel_rfl
theorem c29 : compF Try.prog 29 ⟨[], [], [], 0, [], rowsIt, false, none⟩ [[0, 1], [0, 1], [], [0, 1], [0, 1, 5], [0, 1, 5, 6], [0, 1, 5, 6, 7], [0, 1, 5, 6, 7], [0, 1, 5, 6, 7], [0, 1, 5, 6, 7, 8], [0, 1, 5, 6, 7, 8, 9], [0, 1, 5, 6, 7, 8, 9], [0, 1, 5, 6, 7, 8, 9], [0, 1, 5, 6, 7, 8, 9], [0, 1, 5, 6, 7, 8, 9, 10], [0, 1, 5, 6, 7, 8, 9, 10], [0, 1, 5, 6, 7, 8, 9, 10], [0, 1, 5, 6, 7, 8, 9, 10], [0, 1, 5, 6, 7, 8, 9], [0, 1, 6, 7, 8], [0, 1, 5, 6, 7], [5, 6]] true = some t29 := by kernel_rfl
theorem c53 : compF Try.prog 53 ⟨[], [], [], 0, [], rowsIt, false, none⟩ [[0], [0], [0], [0], [3, 4], [3, 4, 5], [3, 4, 5], [3, 4, 5], [3, 4, 5], [3, 4, 5], [3, 4, 5]] true = some t53 := by kernel_rfl
theorem c30 : compF Try.prog 30 ⟨[14], [], [], 0, [], rowsIt, false, some 5⟩ [[0, 1, 2], [0, 1, 2], [0, 1, 2], [0, 1, 2, 7], [0, 1, 2, 7, 8], [0, 1, 2, 7, 8, 9], [0, 1, 2, 7, 8, 9], [0, 1, 2, 7, 8, 9], [0, 1, 2, 7, 8, 9, 10], [0, 1, 2, 7, 8, 9, 10], [0, 1, 2, 7, 8, 9, 10], [0, 1, 2, 7, 8, 9, 10, 11], [0, 1, 2, 7, 8, 9, 10, 11], [0, 1, 2, 7, 8, 9, 10, 11], [0, 1, 2, 7, 8, 9, 10, 11], [0, 1, 2, 7, 8, 9], [8]] true = some t30 := by kernel_rfl
theorem c55 : compF Try.prog 55 ⟨[], [], [], 0, [], rowsIt, false, none⟩ [[0, 1, 2], [0, 1, 2], [0, 1, 2], [0, 1], [0, 1], [1]] true = some t55 := by kernel_rfl
theorem c54 : compF Try.prog 54 ⟨[], [], [], 0, [], rowsIt, false, none⟩ [[0, 1, 2], [0, 1, 2], [0], [0, 1, 2], [0, 2]] false = some t54 := by kernel_rfl
theorem c31 : compF Try.prog 31 ⟨[9], [], [], 0, [], rowsIt, false, some 5⟩ [[0, 1], [0, 1], [0, 1, 5], [0, 1, 5, 6], [0, 1, 5, 6, 7], [0, 1, 5, 6, 7], [0, 1, 5, 6, 7], [0, 1, 5, 6, 7], [1, 5, 6], [1, 5, 6, 8], [1, 5, 6, 8], [1, 5, 6, 8], [1, 5, 6, 8], [6]] true = some t31 := by kernel_rfl
theorem c32 : compF Try.prog 32 ⟨[], [], [], 0, [], rowsIt, false, none⟩ [[0, 1], [0, 1], [0, 1, 5], [0, 1, 5], [0, 1, 5], [], [0, 1, 5], []] true = some t32 := by kernel_rfl
theorem c33 : compF Try.prog 33 ⟨[], [(3, 3), (14, 3), (34, 3), (36, 3)], [], 0, [], rowsIt, false, none⟩ [[0, 1, 2], [1, 2, 3], [], [1, 2, 3], [1, 2, 3, 7], [1, 2, 3, 7], [1, 2, 3, 7], [], [1, 2, 3, 7], [1, 2, 3]] true = some t33 := by kernel_rfl
theorem c56 : compF Try.prog 56 ⟨[], [(20, 3), (23, 3), (35, 3), (43, 3)], [], 0, [], rowsIt, false, none⟩ [[0, 1, 2], [1, 2, 3], [1, 2, 3, 7], [1, 2, 3, 7, 8], [1, 2, 3, 7, 8], [1, 2, 3, 7, 8], [1, 2, 3, 7, 8], [1, 2, 3, 7, 8], [1, 2, 3, 7, 8], [7]] true = some t56 := by kernel_rfl
theorem c35 : compF Try.prog 35 ⟨[13], [(1, 1), (11, 1), (16, 1), (22, 1), (6, 6), (28, 6), (34, 6), (43, 6), (51, 6)], [], 0, [], rowsIt, false, none⟩ [[0], [1], [], [1], [1, 3], [1, 3, 4], [1, 3, 4], [1, 3], [1, 3, 4], [1, 3, 4, 5], [1, 3, 4, 5], [1, 3, 4, 5], [1, 3, 4, 5, 6], [1, 3, 4, 5, 6, 7], [1, 3, 4, 5, 6, 7], [1, 3, 4, 5], [3]] true = some t35 := by kernel_rfl
def tab : List (Nat × AFn) := [(3, t3), (10, t10), (27, t27), (19, t19), (44, t44), (63, t63), (71, t71), (64, t64), (65, t65), (49, t49), (66, t66), (45, t45), (12, t12), (36, t36), (37, t37), (34, t34), (13, t13), (11, t11), (28, t28), (14, t14), (39, t39), (58, t58), (4, t4), (16, t16), (17, t17), (18, t18), (25, t25), (5, t5), (20, t20), (46, t46), (47, t47), (6, t6), (21, t21), (48, t48), (22, t22), (23, t23), (50, t50), (7, t7), (24, t24), (26, t26), (51, t51), (52, t52), (8, t8), (9, t9), (29, t29), (53, t53), (30, t30), (55, t55), (54, t54), (31, t31), (32, t32), (33, t33), (56, t56), (35, t35)]
def A : FuncId → Option AFn := assoc tab
theorem fnsOk : FnsOk Try.prog A := assoc_ok (mem_cons_ok ⟨_, _, c3, rowsIt_ok⟩ (mem_cons_ok ⟨_, _, c10, rowsIt_ok⟩ (mem_cons_ok ⟨_, _, c27, rowsIt_ok⟩ (mem_cons_ok ⟨_, _, c19, rowsIt_ok⟩ (mem_cons_ok ⟨_, _, c44, rowsIt_ok⟩ (mem_cons_ok ⟨_, _, c63, rowsIt_ok⟩ (mem_cons_ok ⟨_, _, c71, rowsIt_ok⟩ (mem_cons_ok ⟨_, _, c64, rowsIt_ok⟩ (mem_cons_ok ⟨_, _, c65, rowsIt_ok⟩ (mem_cons_ok ⟨_, _, c49, rowsIt_ok⟩ (mem_cons_ok ⟨_, _, c66, rowsIt_ok⟩ (mem_cons_ok ⟨_, _, c45, rowsIt_ok⟩ (mem_cons_ok ⟨_, _, c12, rowsIt_ok⟩ (mem_cons_ok ⟨_, _, c36, rowsIt_ok⟩ (mem_cons_ok ⟨_, _, c37, rowsIt_ok⟩ (mem_cons_ok ⟨_, _, c34, rowsIt_ok⟩ (mem_cons_ok ⟨_, _, c13, rowsIt_ok⟩ (mem_cons_ok ⟨_, _, c11, rowsIt_ok⟩ (mem_cons_ok ⟨_, _, c28, rowsIt_ok⟩ (mem_cons_ok ⟨_, _, c14, rowsIt_ok⟩ (mem_cons_ok ⟨_, _, c39, rowsIt_ok⟩ (mem_cons_ok ⟨_, _, c58, rowsIt_ok⟩ (mem_cons_ok ⟨_, _, c4, rowsIt_ok⟩ (mem_cons_ok ⟨_, _, c16, rowsIt_ok⟩ (mem_cons_ok ⟨_, _, c17, rowsIt_ok⟩ (mem_cons_ok ⟨_, _, c18, rowsIt_ok⟩ (mem_cons_ok ⟨_, _, c25, rowsIt_ok⟩ (mem_cons_ok ⟨_, _, c5, rowsIt_ok⟩ (mem_cons_ok ⟨_, _, c20, rowsIt_ok⟩ (mem_cons_ok ⟨_, _, c46, rowsIt_ok⟩ (mem_cons_ok ⟨_, _, c47, rowsIt_ok⟩ (mem_cons_ok ⟨_, _, c6, rowsIt_ok⟩ (mem_cons_ok ⟨_, _, c21, rowsIt_ok⟩ (mem_cons_ok ⟨_, _, c48, rowsIt_ok⟩ (mem_cons_ok ⟨_, _, c22, rowsIt_ok⟩ (mem_cons_ok ⟨_, _, c23, rowsIt_ok⟩ (mem_cons_ok ⟨_, _, c50, rowsIt_ok⟩ (mem_cons_ok ⟨_, _, c7, rowsIt_ok⟩ (mem_cons_ok ⟨_, _, c24, rowsIt_ok⟩ (mem_cons_ok ⟨_, _, c26, rowsIt_ok⟩ (mem_cons_ok ⟨_, _, c51, rowsIt_ok⟩ (mem_cons_ok ⟨_, _, c52, rowsIt_ok⟩ (mem_cons_ok ⟨_, _, c8, rowsIt_ok⟩ (mem_cons_ok ⟨_, _, c9, rowsIt_ok⟩ (mem_cons_ok ⟨_, _, c29, rowsIt_ok⟩ (mem_cons_ok ⟨_, _, c53, rowsIt_ok⟩ (mem_cons_ok ⟨_, _, c30, rowsIt_ok⟩ (mem_cons_ok ⟨_, _, c55, rowsIt_ok⟩ (mem_cons_ok ⟨_, _, c54, rowsIt_ok⟩ (mem_cons_ok ⟨_, _, c31, rowsIt_ok⟩ (mem_cons_ok ⟨_, _, c32, rowsIt_ok⟩ (mem_cons_ok ⟨_, _, c33, rowsIt_ok⟩ (mem_cons_ok ⟨_, _, c56, rowsIt_ok⟩ (mem_cons_ok ⟨_, _, c35, rowsIt_ok⟩ (mem_nil_ok)))))))))))))))))))))))))))))))))))))))))))))))))))))))
def prims : List (Nat × Nat × Nat) := []
theorem primsOk : ∀ p ∈ prims, IsClone Try.prog p := fun _ h => by cases h
abbrev X0 : Orc := withRows 38 15 (primX prims)
noncomputable abbrev C0 : Orc := callW X0 A
theorem x0Ok : OrcOk Try.prog X0 := withRows_ok (by decide) (by decide) sortsKeys unites (primX_ok (by kernel_rfl) primsOk)
theorem x0Fr : OrcFr X0 := withRows_fr (primX_fr _)
theorem orcOk0 : OrcOk Try.prog C0 := callW_ok (by kernel_rfl) x0Ok x0Fr fnsOk
abbrev X : Orc := withConst 10 (.bool true) X0
noncomputable abbrev C : Orc := callW X A
theorem laidOut : laidOutB Try.prog = true := by kernel_rfl
theorem own : ownKnob Try.prog.godebug = none := by kernel_rfl
theorem A3 : A 3 = some t3 := rfl
theorem A10 : A 10 = some t10 := rfl
theorem A27 : A 27 = some t27 := rfl
theorem A19 : A 19 = some t19 := rfl
theorem A44 : A 44 = some t44 := rfl
theorem A63 : A 63 = some t63 := rfl
theorem A71 : A 71 = some t71 := rfl
theorem A64 : A 64 = some t64 := rfl
theorem A65 : A 65 = some t65 := rfl
theorem A49 : A 49 = some t49 := rfl
theorem A66 : A 66 = some t66 := rfl
theorem A45 : A 45 = some t45 := rfl
theorem A12 : A 12 = some t12 := rfl
theorem A36 : A 36 = some t36 := rfl
theorem A37 : A 37 = some t37 := rfl
theorem A34 : A 34 = some t34 := rfl
theorem A13 : A 13 = some t13 := rfl
theorem A11 : A 11 = some t11 := rfl
theorem A28 : A 28 = some t28 := rfl
theorem A14 : A 14 = some t14 := rfl
theorem A39 : A 39 = some t39 := rfl
theorem A58 : A 58 = some t58 := rfl
theorem A4 : A 4 = some t4 := rfl
theorem A16 : A 16 = some t16 := rfl
theorem A17 : A 17 = some t17 := rfl
theorem A18 : A 18 = some t18 := rfl
theorem A25 : A 25 = some t25 := rfl
theorem A5 : A 5 = some t5 := rfl
theorem A20 : A 20 = some t20 := rfl
theorem A46 : A 46 = some t46 := rfl
theorem A47 : A 47 = some t47 := rfl
theorem A6 : A 6 = some t6 := rfl
theorem A21 : A 21 = some t21 := rfl
theorem A48 : A 48 = some t48 := rfl
theorem A22 : A 22 = some t22 := rfl
theorem A23 : A 23 = some t23 := rfl
theorem A50 : A 50 = some t50 := rfl
theorem A7 : A 7 = some t7 := rfl
theorem A24 : A 24 = some t24 := rfl
theorem A26 : A 26 = some t26 := rfl
theorem A51 : A 51 = some t51 := rfl
theorem A52 : A 52 = some t52 := rfl
theorem A8 : A 8 = some t8 := rfl
theorem A9 : A 9 = some t9 := rfl
theorem A29 : A 29 = some t29 := rfl
theorem A53 : A 53 = some t53 := rfl
theorem A30 : A 30 = some t30 := rfl
theorem A55 : A 55 = some t55 := rfl
theorem A54 : A 54 = some t54 := rfl
theorem A31 : A 31 = some t31 := rfl
theorem A32 : A 32 = some t32 := rfl
theorem A33 : A 33 = some t33 := rfl
theorem A56 : A 56 = some t56 := rfl
theorem A35 : A 35 = some t35 := rfl
end Go.Proofs.Ytpaocofhpdmjpaa
