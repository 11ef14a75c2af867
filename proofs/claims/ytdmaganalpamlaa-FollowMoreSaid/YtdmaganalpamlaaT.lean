/- The functions of a program, compiled: printed by wip/hm/tools/Gen.lean. -/
import Derived.Test.YtdmaganalpamlaaT2
namespace Go.Proofs.Ytdmaganalpamlaa
open Go Go.Hm
theorem c3 : compF Try.prog 3 ⟨[34], [(1, 1), (29, 1), (32, 1), (39, 1), (45, 1), (7, 7), (51, 7), (57, 7), (62, 1), (65, 7), (70, 1), (79, 1), (83, 7), (90, 7), (98, 1), (125, 1), (132, 1)], [], 0, [], backIt, false, none⟩ [[0], [1], [], [1], [], [1], [1, 3, 4], [], [1, 3, 4], [1, 3, 4, 5], [1, 3, 4, 5], [1, 3, 4, 5, 6], [1, 3, 4, 5, 6], [1, 3, 4, 5, 6], [1, 3, 4, 5, 6, 7], [1, 3, 4, 5, 6, 7, 8], [1, 3, 4, 5, 6, 7, 8], [1, 3, 4, 5, 6, 7, 8], [1, 3, 4, 5, 6, 7, 8], [1, 3, 4, 5, 6, 7, 8, 9], [1, 3, 4, 5, 6, 7, 8], [1, 3, 4, 5, 6], [1, 3, 5], [1, 3, 5, 10], [1, 3, 5, 10], [1, 3, 5, 10], [1, 3, 5, 10, 11], [1, 3, 5, 10, 11], [1, 3, 5, 10, 11], [1, 3, 5, 10, 11, 12], [], [1, 3, 5, 10, 11], [1, 3, 5, 10], [3, 5]] true = some t3 := by kernel_rfl
theorem c9 : compF Try.prog 9 ⟨[], [], [], 0, [], backIt, false, none⟩ [[], []] true = some t9 := by kernel_rfl
theorem c22 : compF Try.prog 22 ⟨[], [(0, 0)], [], 0, [], backIt, false, none⟩ [[], [0]] true = some t22 := by kernel_rfl
theorem c12 : compF Try.prog 12 ⟨[1, 3, 4, 5, 6, 10, 22], [(1, 1), (3, 3), (20, 1), (4, 4), (6, 6), (44, 1), (10, 10), (55, 1), (59, 1), (66, 1)], [], 0, [], backIt, false, none⟩ [[0], [1, 2], [], [1, 2], [1, 2, 3], [1, 2, 3, 4], [1, 2, 3, 4], [1, 2, 3, 4, 5], [1, 2, 3, 4, 5], [1, 2, 3, 4, 5, 6, 7], [1, 2, 3, 4, 5, 6, 7], [1, 2, 3, 4, 5, 6], [1, 2, 3, 4, 5, 6, 38, 39, 40], [1, 2, 3, 4, 5, 6, 38, 39, 40], [1, 2, 3, 4, 5, 6, 38, 39, 40], [1, 2, 3, 4, 5, 6, 9, 38, 39, 40], [1, 2, 3, 4, 5, 6, 10, 38, 39, 40], [1, 2, 3, 4, 5, 6, 10, 38, 39, 40, 51], [1, 3, 4, 5, 6, 10, 52, 53], [1, 3, 4, 5, 6, 10, 11, 53], [1, 3, 4, 5, 6, 10, 11, 12], [1, 3, 4, 5, 6, 10, 11, 12], [1, 3, 4, 5, 6, 10, 11, 13], [4, 5, 13, 14], [4, 5, 13, 14], [5, 13], [1, 2, 3, 4, 5, 6, 38, 39, 40], [1, 2, 3, 4, 5, 6], [1, 2, 3, 4, 5, 96], [1, 2, 3, 4, 5, 6], [4]] true = some t12 := by kernel_rfl
theorem c30 : compF Try.prog 30 ⟨[1], [(5, 1), (9, 1), (14, 1), (19, 1), (24, 1), (27, 1), (29, 1), (31, 1), (33, 1), (38, 1), (4, 4), (45, 4), (49, 4), (51, 1), (56, 4)], [], 0, [], backIt, false, none⟩ [[0], [1], [], [1], [], [1], [], [1], [1, 39, 40, 41], [1, 39, 40, 41], [1, 39, 40, 41], [1, 4, 39, 40, 41], [], [1, 39, 40, 41], []] true = some t30 := by kernel_rfl
theorem c46 : compF Try.prog 46 ⟨[], [], [], 0, [], backIt, false, none⟩ [[0, 1], [0, 1]] true = some t46 := by kernel_rfl
theorem c61 : compF Try.prog 61 ⟨[], [], [], 0, [], backIt, false, none⟩ [[0, 1], [0, 1], [0, 1, 7, 8], [0, 1, 7, 8], [0, 1, 7, 8], [0, 1, 5, 7, 8], [5], [0, 1, 7, 8], []] true = some t61 := by kernel_rfl
theorem c47 : compF Try.prog 47 ⟨[], [(3, 1)], [], 0, [], backIt, false, none⟩ [[0], [1]] true = some t47 := by kernel_rfl
theorem c49 : compF Try.prog 49 ⟨[], [], [], 0, [], backIt, false, none⟩ [[0, 1], [0, 1]] true = some t49 := by kernel_rfl
theorem c48 : compF Try.prog 48 ⟨[], [], [], 0, [], backIt, false, none⟩ [[0, 1], [0, 1]] true = some t48 := by kernel_rfl
theorem c62 : compF Try.prog 62 ⟨[], [], [], 0, [], backIt, false, none⟩ [[0, 1], [0, 1], [0, 1, 7, 8], [0, 1, 7, 8], [0, 1, 7, 8], [0, 1, 5, 7, 8], [5], [0, 1, 7, 8], []] true = some t62 := by kernel_rfl
theorem c31 : compF Try.prog 31 ⟨[13], [(1, 1), (11, 1), (15, 1), (6, 6), (23, 6), (29, 6), (38, 6), (46, 6)], [], 0, [], backIt, false, none⟩ [[0], [1], [], [1], [1, 3], [1, 3, 4], [1, 3, 4], [1, 3], [1, 3, 4], [1, 3, 4, 16, 17, 18], [1, 3, 4, 16, 17, 18], [1, 3, 4, 16, 17, 18], [1, 3, 4, 6, 16, 17, 18], [1, 3, 4, 6, 7, 16, 17, 18], [1, 3, 4, 6, 7, 16, 17, 18], [1, 3, 4, 16, 17, 18], [3]] true = some t31 := by kernel_rfl
theorem c50 : compF Try.prog 50 ⟨[], [(24, 3), (29, 3), (34, 3)], [], 0, [], backIt, false, none⟩ [[0, 1, 2], [1, 2, 3], [1, 2, 3, 7], [1, 3, 7, 12, 13, 14], [1, 3, 7, 12, 13, 14], [1, 3, 7, 12, 13, 14], [1, 3, 7, 9, 12, 13, 14], [1, 3, 7, 9, 10, 12, 13, 14], [1, 3, 7, 9, 12, 13, 14], [1, 3, 7, 10, 12, 13, 14], [1, 3, 7, 12, 13, 14], [7]] true = some t50 := by kernel_rfl
theorem c37 : compF Try.prog 37 ⟨[18], [], [], 0, [], backIt, false, none⟩ [[0, 1, 2], [0, 1, 2], [], [0, 1, 2], [0, 1, 2], [0, 1, 2, 7], [0, 2, 7, 19, 20, 21], [0, 2, 7, 19, 20, 21], [0, 2, 7, 19, 20, 21], [0, 2, 7, 9, 19, 20, 21], [0, 2, 7, 9, 19, 20, 21], [0, 2, 7, 9, 19, 20, 21], [0, 2, 7, 9, 19, 20, 21, 37, 38, 39], [0, 2, 7, 9, 19, 20, 21, 37, 38, 39], [0, 2, 7, 9, 19, 20, 21, 37, 38, 39], [0, 2, 7, 9, 11, 19, 20, 21, 37, 38, 39], [0, 2, 7, 9, 12, 19, 20, 21, 37, 38, 39], [0, 2, 7, 9, 19, 20, 21, 37, 38, 39], [0, 2, 7, 19, 20, 21], [7]] true = some t37 := by kernel_rfl
theorem c56 : compF Try.prog 56 ⟨[], [], [], 0, [], backIt, false, none⟩ [[0, 1], [0, 1]] true = some t56 := by kernel_rfl
theorem c57 : compF Try.prog 57 ⟨[], [], [], 0, [], backIt, false, none⟩ [[0, 1], [0, 6, 7, 8], [0, 6, 7, 8], [0, 6, 7, 8], [0, 5, 6, 7, 8], [0, 6, 7, 8]] true = some t57 := by kernel_rfl
theorem c32 : compF Try.prog 32 ⟨[], [], [], 0, [], backIt, false, none⟩ [[0, 1], [0, 1], [0, 1]] false = some t32 := by kernel_rfl
theorem c33 : compF Try.prog 33 ⟨[], [], [], 0, [], backIt, false, none⟩ [[0], [0], [], [0], [0, 4], [4]] false = some t33 := by kernel_rfl
theorem c34 : compF Try.prog 34 ⟨[], [(2, 2), (10, 2), (6, 6), (18, 6)], [], 0, [], backIt, false, none⟩ [[0, 1], [1, 2, 4], [], [1, 2, 4], [1, 4, 11, 12, 13], [1, 4, 11, 12, 13], [1, 4, 11, 12, 13], [1, 4, 5, 6, 11, 12, 13], [1, 4, 5, 11, 12, 13], [1, 4, 11, 12, 13], [4]] true = some t34 := by kernel_rfl
theorem c35 : compF Try.prog 35 ⟨[1], [], [], 0, [], backIt, false, none⟩ [[0], [1]] true = some t35 := by kernel_rfl
theorem c51 : compF Try.prog 51 ⟨[], [], [], 0, [], backIt, false, none⟩ [[0, 1], [0, 1, 3], [0, 1, 3], [0, 1, 3], [0, 1, 3]] true = some t51 := by kernel_rfl
theorem c38 : compF Try.prog 38 ⟨[3], [(3, 3), (13, 3)], [], 0, [], backIt, false, none⟩ [[0, 1, 2], [1, 2, 3], [], [1, 2, 3]] true = some t38 := by kernel_rfl
theorem c59 : compF Try.prog 59 ⟨[], [], [], 0, [], backIt, false, none⟩ [[0, 1], [0, 1]] true = some t59 := by kernel_rfl
theorem c17 : compF Try.prog 17 ⟨[], [], [], 0, [], backIt, false, none⟩ [[0, 1], [0, 1], [], [0, 1], [0, 1, 5], [0, 1, 5], [0, 1, 5], [], [0, 1, 5], []] true = some t17 := by kernel_rfl
theorem c21 : compF Try.prog 21 ⟨[], [], [], 0, [], backIt, false, none⟩ [[0, 1], [0, 1], [], [0, 1], [0, 1, 5], [0, 1, 5], [0, 1, 5], [], [0, 1, 5], []] true = some t21 := by kernel_rfl
theorem c10 : compF Try.prog 10 ⟨[], [(4, 1), (9, 1), (15, 1), (24, 1), (34, 1), (43, 1), (47, 1), (52, 1), (57, 1), (62, 1), (66, 1), (71, 1), (77, 1), (81, 1)], [], 0, [], backIt, false, none⟩ [[0], [1], [], [1], [1, 3], [1, 3], [1, 3], [], [1, 3], [1], [], [1]] true = some t10 := by kernel_rfl
theorem c11 : compF Try.prog 11 ⟨[], [(7, 1), (11, 1), (16, 1), (21, 1), (27, 1), (33, 1), (41, 1), (45, 1), (50, 1), (55, 1), (61, 1), (67, 1), (5, 5), (72, 5), (76, 5), (78, 1), (83, 5), (89, 5), (96, 5), (101, 1), (103, 1)], [], 0, [], backIt, false, none⟩ [[0], [1], [], [1], [1, 3], [1, 3], [1, 3], [], [1, 3], [1], [], [1], [1, 4], [1, 4], [1, 4], [1, 4, 5], [], [1, 4, 5], [1, 4, 5, 6], [1, 4, 5, 6], [1, 4, 5, 6], [], [1, 4, 5, 6], [1, 4], []] true = some t11 := by kernel_rfl
theorem c13 : compF Try.prog 13 ⟨[13], [(1, 1), (11, 1), (16, 1), (22, 1), (6, 6), (28, 6), (34, 6), (43, 6), (51, 6)], [], 0, [], backIt, false, none⟩ [[0], [1], [], [1], [1, 3], [1, 3, 4], [1, 3, 4], [1, 3], [1, 3, 4], [1, 3, 4, 5], [1, 3, 4, 5], [1, 3, 4, 5], [1, 3, 4, 5, 6], [1, 3, 4, 5, 6, 7], [1, 3, 4, 5, 6, 7], [1, 3, 4, 5], [3]] true = some t13 := by kernel_rfl
theorem c39 : compF Try.prog 39 ⟨[], [(20, 3), (23, 3), (35, 3), (43, 3)], [], 0, [], backIt, false, none⟩ [[0, 1, 2], [1, 2, 3], [1, 2, 3, 7], [1, 2, 3, 7, 8], [1, 2, 3, 7, 8], [1, 2, 3, 7, 8], [1, 2, 3, 7, 8], [1, 2, 3, 7, 8], [1, 2, 3, 7, 8], [7]] true = some t39 := by kernel_rfl
theorem c15 : compF Try.prog 15 ⟨[14], [], [], 0, [], backIt, false, some 5⟩ [[0, 1, 2], [0, 1, 2], [0, 1, 2], [0, 1, 2, 7], [0, 1, 2, 7, 8], [0, 1, 2, 7, 8, 9], [0, 1, 2, 7, 8, 9], [0, 1, 2, 7, 8, 9], [0, 1, 2, 7, 8, 9, 10], [0, 1, 2, 7, 8, 9, 10], [0, 1, 2, 7, 8, 9, 10], [0, 1, 2, 7, 8, 9, 10, 11], [0, 1, 2, 7, 8, 9, 10, 11], [0, 1, 2, 7, 8, 9, 10, 11], [0, 1, 2, 7, 8, 9, 10, 11], [0, 1, 2, 7, 8, 9], [8]] true = some t15 := by kernel_rfl
theorem c42 : compF Try.prog 42 ⟨[], [], [], 0, [], backIt, false, none⟩ [[0, 1, 2], [0, 1, 2], [0, 1, 2], [0, 1], [0, 1], [1]] true = some t42 := by kernel_rfl
theorem c40 : compF Try.prog 40 ⟨[], [], [], 0, [], backIt, false, none⟩ [[0, 1, 2], [0, 1, 2], [0], [0, 1, 2], [0, 2]] false = some t40 := by kernel_rfl
theorem c41 : compF Try.prog 41 ⟨[], [], [], 0, [], backIt, false, none⟩ [[0], [0], [0], [0], [3, 4], [3, 4, 5], [3, 4, 5], [3, 4, 5], [3, 4, 5], [3, 4, 5], [3, 4, 5]] true = some t41 := by kernel_rfl
theorem c14 : compF Try.prog 14 ⟨[9], [], [], 0, [], backIt, false, some 5⟩ [[0, 1], [0, 1], [0, 1, 5], [0, 1, 5, 6], [0, 1, 5, 6, 7], [0, 1, 5, 6, 7], [0, 1, 5, 6, 7], [0, 1, 5, 6, 7], [1, 5, 6], [1, 5, 6, 8], [1, 5, 6, 8], [1, 5, 6, 8], [1, 5, 6, 8], [6]] true = some t14 := by kernel_rfl
theorem c16 : compF Try.prog 16 ⟨[], [(3, 3), (14, 3), (34, 3), (36, 3)], [], 0, [], backIt, false, none⟩ [[0, 1, 2], [1, 2, 3], [], [1, 2, 3], [1, 2, 3, 7], [1, 2, 3, 7], [1, 2, 3, 7], [], [1, 2, 3, 7], [1, 2, 3]] true = some t16 := by kernel_rfl
theorem c4 : compF Try.prog 4 ⟨[51], [(3, 3), (44, 3), (49, 3), (75, 3), (92, 3), (98, 3), (104, 3), (111, 3), (131, 3), (17, 17), (148, 17), (157, 17), (179, 3)], [], 0, [], backIt, false, none⟩ [[0, 1, 2], [1, 2, 3], [], [1, 2, 3], [], [1, 2, 3], [1, 2, 3, 7], [], [1, 2, 3, 7], [1, 2, 3, 7], [1, 2, 3, 7, 8], [1, 2, 3, 7, 8, 9, 10, 11, 12], [1, 2, 3, 7, 8, 9, 10, 11, 12, 13], [1, 2, 3, 7, 8, 9, 10, 11, 12, 13], [1, 2, 3, 7, 8, 9, 10, 11, 12, 13], [1, 2, 3, 7, 8, 9, 10, 13], [1, 2, 3, 7, 8, 9, 10, 11, 12, 13], [1, 2, 3, 7, 8, 9, 10, 11, 12, 13, 14], [1, 2, 3, 7, 8, 9, 10, 11, 12, 13, 14], [1, 2, 3, 7, 8, 9, 10, 11, 12, 13, 14], [1, 2, 3, 7, 8, 9, 10, 11, 12, 13, 14], [1, 2, 3, 7, 8, 9, 11, 13, 14], [1, 2, 3, 7, 8, 9, 10, 11, 12, 13, 14], [1, 2, 3, 7, 8, 9, 10, 11, 12, 13, 14, 15], [1, 2, 3, 7, 8, 9, 10, 11, 12, 13, 14, 15, 16], [1, 2, 3, 7, 8, 9, 10, 11, 12, 13, 14, 15, 16], [1, 2, 3, 7, 8, 9, 10, 11, 12, 13, 14, 15, 16], [1, 2, 3, 7, 8, 9, 10, 11, 12, 13, 14, 15, 16], [1, 2, 3, 7, 8, 9, 10, 11, 12, 13, 14, 15, 16], [1, 2, 3, 7, 8, 9, 10, 11, 12, 13, 15], [], [1, 2, 3, 7, 8, 9, 10, 11, 12, 13, 15], [1, 2, 3, 7, 8, 9, 10, 11, 12, 13, 17], [1, 2, 3, 7, 8, 9, 10, 11, 12, 13, 17, 18], [1, 2, 3, 7, 8, 9, 10, 11, 12, 13, 17, 18], [1, 2, 3, 7, 8, 9, 10, 11, 12, 13, 17, 18], [1, 2, 3, 7, 8, 9, 10, 11, 12, 13, 17, 18], [1, 2, 3, 7, 8, 9, 10, 11, 12, 13], [3, 7, 9, 10, 11, 12], [], [3, 7, 9, 10, 11, 12], [3, 7, 9, 10], [3, 7, 9, 10, 11], [3, 7, 10, 19]] true = some t4 := by kernel_rfl
theorem c18 : compF Try.prog 18 ⟨[], [], [], 0, [], backIt, false, none⟩ [[0, 1], [0, 1], [], [0, 1], [1, 5], [1, 5], [5]] true = some t18 := by kernel_rfl
theorem c19 : compF Try.prog 19 ⟨[], [], [], 0, [], backIt, false, none⟩ [[0, 1], [0, 1], [0, 1, 5], [0, 1, 5], [0, 1, 5], [], [0, 1, 5], []] true = some t19 := by kernel_rfl
theorem c5 : compF Try.prog 5 ⟨[], [(2, 2), (5, 5), (16, 5), (3, 3), (21, 5), (8, 8), (40, 8), (45, 2), (51, 2), (58, 2), (63, 2)], [], 0, [], backIt, false, some 4⟩ [[0, 1], [2, 3], [], [2, 3], [2, 3, 5], [2, 5], [], [2, 5], [2, 6, 7], [2, 6, 7, 8], [2, 6, 7, 8], [2, 6, 7, 9], [], [2, 6, 7, 9], [2, 6, 7, 9, 10], [2, 6, 7, 9, 10], [2, 6, 7, 9, 10], [2, 6, 7, 9, 10, 11], [2, 6, 7, 9, 10, 11], [2, 6, 7, 9, 10, 11], [], [2, 6, 7, 9, 10, 11], [2, 6, 7, 9, 10], [], [2, 6, 7, 9, 10], []] true = some t5 := by kernel_rfl
theorem c20 : compF Try.prog 20 ⟨[], [(4, 1), (7, 1), (9, 1), (15, 1), (18, 1), (1, 1), (2, 2)], [], 0, [], backIt, false, none⟩ [[0], [1, 2], [1, 2], [1, 2, 3], [1, 2, 3], [1, 2, 3], [1, 2, 3], [1, 2]] false = some t20 := by kernel_rfl
theorem c43 : compF Try.prog 43 ⟨[], [], [], 0, [], backIt, false, none⟩ [[0], [0]] false = some t43 := by kernel_rfl
theorem c44 : compF Try.prog 44 ⟨[], [], [], 0, [], backIt, false, none⟩ [[0], [0]] true = some t44 := by kernel_rfl
theorem c6 : compF Try.prog 6 ⟨[], [(1, 1), (6, 1), (2, 2)], [], 0, [], backIt, false, none⟩ [[], [], [], [], [1], [1], [1, 2]] true = some t6 := by kernel_rfl
theorem c23 : compF Try.prog 23 ⟨[], [(2, 2)], [], 0, [], backIt, false, none⟩ [[0, 1], [1, 2], [1, 5]] true = some t23 := by kernel_rfl
theorem c45 : compF Try.prog 45 ⟨[], [], [], 0, [], backIt, false, none⟩ [[0, 1], [0, 1]] true = some t45 := by kernel_rfl
theorem c60 : compF Try.prog 60 ⟨[], [], [], 0, [], backIt, false, none⟩ [[0, 1], [0, 1]] true = some t60 := by kernel_rfl
theorem c68 : compF Try.prog 68 ⟨[], [], [], 0, [], backIt, false, none⟩ [[0, 1], [0, 1], [0, 1, 7, 8], [0, 1, 7, 8], [0, 1, 7, 8], [0, 1, 5, 7, 8], [5], [0, 1, 7, 8], []] true = some t68 := by kernel_rfl
theorem c25 : compF Try.prog 25 ⟨[19, 39], [(1, 1), (16, 1), (32, 1)], [], 0, [], backIt, false, none⟩ [[0], [1], [1, 3], [1, 3, 10, 11, 12], [1, 3, 10, 11, 12], [1, 3, 10, 11, 12], [1, 3, 5, 10, 11, 12], [1, 3, 5, 6, 10, 11, 12], [1, 3, 6, 10, 11, 12, 20, 21, 22], [1, 3, 6, 10, 11, 12, 20, 21, 22], [1, 3, 6, 10, 11, 12, 20, 21, 22], [1, 3, 6, 8, 10, 11, 12, 20, 21, 22], [1, 3, 6, 8, 10, 11, 12, 20, 21, 22], [1, 3, 6, 10, 11, 12, 20, 21, 22], [1, 3, 6, 10, 11, 12], [1, 3, 10, 11, 12], [3]] true = some t25 := by kernel_rfl
theorem c24 : compF Try.prog 24 ⟨[], [], [], 0, [], backIt, false, none⟩ [[0, 1], [0, 1], [], [0, 1], [0, 1, 5], [0, 1, 5], [0, 1, 5], [], [0, 1, 5], []] true = some t24 := by kernel_rfl
theorem c29 : compF Try.prog 29 ⟨[], [], [], 0, [], backIt, false, none⟩ [[0, 1], [0, 1], [], [0, 1], [0, 1, 5], [0, 1, 5], [0, 1, 5], [], [0, 1, 5], []] true = some t29 := by kernel_rfl
theorem c7 : compF Try.prog 7 ⟨[], [(2, 2)], [], 0, [], backIt, false, none⟩ [[0, 1], [1, 2], [], [1, 2], [], [1, 2]] true = some t7 := by kernel_rfl
theorem c26 : compF Try.prog 26 ⟨[19], [(1, 1), (17, 1), (27, 1), (33, 1), (7, 7), (39, 7), (45, 7), (50, 1), (57, 7), (67, 1), (71, 7)], [], 0, [], backIt, false, none⟩ [[0], [1], [], [1], [1, 3], [1, 3, 4], [1, 3, 4], [1, 3, 4, 5], [1, 3, 4, 5], [1, 3, 4], [1, 3, 4, 5], [1, 3, 4, 5, 6], [1, 3, 4, 5, 6], [1, 3, 4, 5, 6], [1, 3, 4, 5, 6, 7], [1, 3, 4, 5, 6, 7, 8], [1, 3, 4, 5, 6, 7, 8], [1, 3, 4, 5, 6, 7, 8], [1, 3, 4, 5, 6, 7, 8, 9], [1, 3, 4, 5, 6, 7, 8, 9], [1, 3, 4, 5, 6, 7, 8, 9, 10], [1, 3, 4, 5, 6, 7, 8, 9, 11], [1, 3, 4, 5, 6, 7, 8, 9, 11], [1, 3, 4, 5, 6, 7, 8], [1, 3, 4, 5, 6], [4]] true = some t26 := by kernel_rfl
theorem c27 : compF Try.prog 27 ⟨[], [(2, 2)], [], 0, [], backIt, false, none⟩ [[0, 1], [1, 2], [1, 5]] true = some t27 := by kernel_rfl
theorem c28 : compF Try.prog 28 ⟨[20, 58], [(1, 1), (17, 1), (43, 1), (49, 1)], [], 0, [], backIt, false, none⟩ [[0], [1], [1, 3], [1, 3, 4], [1, 3, 4, 5], [1, 3, 4, 5], [1, 3, 4, 5], [1, 3, 4, 5, 6], [1, 3, 4, 5, 6, 7], [1, 3, 4, 5, 6, 7], [1, 3, 4, 5, 6, 7], [1, 3, 4, 5, 6, 7, 8], [1, 3, 4, 5, 6, 7, 8], [1, 3, 4, 5, 6, 7], [1, 3, 4, 5, 6, 7, 8], [1, 3, 4, 5, 6, 7, 8], [1, 3, 4, 5, 6, 7], [1, 3, 4, 5, 6], [1, 3, 4, 5], [3]] true = some t28 := by kernel_rfl
theorem c8 : compF Try.prog 8 ⟨[55], [(1, 1), (5, 5), (25, 5), (30, 1), (36, 1), (47, 1), (52, 1), (93, 1), (108, 1), (133, 1)], [], 0, [], backIt, false, none⟩ [[0], [1], [], [1], [], [1], [1, 3, 4], [1, 3, 4, 5], [1, 3, 4, 5], [1, 3, 4, 6], [], [1, 3, 4], [1, 3, 4, 7], [1, 3, 4, 7], [1, 3, 4, 7], [1, 3, 4, 7, 8], [1, 3, 4, 7, 8, 9], [1, 3, 4, 7, 8, 9], [1, 3, 4, 7, 8, 9], [], [1, 3, 4, 7, 8, 9], [1, 3, 4, 7, 8, 9], [1, 3, 4, 7, 8, 9], [1, 3, 4, 7, 8, 9], [1, 3, 4, 7, 8], [], [1, 3, 4, 7], []] true = some t8 := by kernel_rfl
def tab : List (Nat × AFn) := [(3, t3), (9, t9), (22, t22), (12, t12), (30, t30), (46, t46), (61, t61), (47, t47), (49, t49), (48, t48), (62, t62), (31, t31), (50, t50), (37, t37), (56, t56), (57, t57), (32, t32), (33, t33), (34, t34), (35, t35), (51, t51), (38, t38), (59, t59), (17, t17), (21, t21), (10, t10), (11, t11), (13, t13), (39, t39), (15, t15), (42, t42), (40, t40), (41, t41), (14, t14), (16, t16), (4, t4), (18, t18), (19, t19), (5, t5), (20, t20), (43, t43), (44, t44), (6, t6), (23, t23), (45, t45), (60, t60), (68, t68), (25, t25), (24, t24), (29, t29), (7, t7), (26, t26), (27, t27), (28, t28), (8, t8)]
def A : FuncId → Option AFn := assoc tab
theorem fnsOk : FnsOk Try.prog A := assoc_ok (mem_cons_ok ⟨_, _, c3, backIt_ok⟩ (mem_cons_ok ⟨_, _, c9, backIt_ok⟩ (mem_cons_ok ⟨_, _, c22, backIt_ok⟩ (mem_cons_ok ⟨_, _, c12, backIt_ok⟩ (mem_cons_ok ⟨_, _, c30, backIt_ok⟩ (mem_cons_ok ⟨_, _, c46, backIt_ok⟩ (mem_cons_ok ⟨_, _, c61, backIt_ok⟩ (mem_cons_ok ⟨_, _, c47, backIt_ok⟩ (mem_cons_ok ⟨_, _, c49, backIt_ok⟩ (mem_cons_ok ⟨_, _, c48, backIt_ok⟩ (mem_cons_ok ⟨_, _, c62, backIt_ok⟩ (mem_cons_ok ⟨_, _, c31, backIt_ok⟩ (mem_cons_ok ⟨_, _, c50, backIt_ok⟩ (mem_cons_ok ⟨_, _, c37, backIt_ok⟩ (mem_cons_ok ⟨_, _, c56, backIt_ok⟩ (mem_cons_ok ⟨_, _, c57, backIt_ok⟩ (mem_cons_ok ⟨_, _, c32, backIt_ok⟩ (mem_cons_ok ⟨_, _, c33, backIt_ok⟩ (mem_cons_ok ⟨_, _, c34, backIt_ok⟩ (mem_cons_ok ⟨_, _, c35, backIt_ok⟩ (mem_cons_ok ⟨_, _, c51, backIt_ok⟩ (mem_cons_ok ⟨_, _, c38, backIt_ok⟩ (mem_cons_ok ⟨_, _, c59, backIt_ok⟩ (mem_cons_ok ⟨_, _, c17, backIt_ok⟩ (mem_cons_ok ⟨_, _, c21, backIt_ok⟩ (mem_cons_ok ⟨_, _, c10, backIt_ok⟩ (mem_cons_ok ⟨_, _, c11, backIt_ok⟩ (mem_cons_ok ⟨_, _, c13, backIt_ok⟩ (mem_cons_ok ⟨_, _, c39, backIt_ok⟩ (mem_cons_ok ⟨_, _, c15, backIt_ok⟩ (mem_cons_ok ⟨_, _, c42, backIt_ok⟩ (mem_cons_ok ⟨_, _, c40, backIt_ok⟩ (mem_cons_ok ⟨_, _, c41, backIt_ok⟩ (mem_cons_ok ⟨_, _, c14, backIt_ok⟩ (mem_cons_ok ⟨_, _, c16, backIt_ok⟩ (mem_cons_ok ⟨_, _, c4, backIt_ok⟩ (mem_cons_ok ⟨_, _, c18, backIt_ok⟩ (mem_cons_ok ⟨_, _, c19, backIt_ok⟩ (mem_cons_ok ⟨_, _, c5, backIt_ok⟩ (mem_cons_ok ⟨_, _, c20, backIt_ok⟩ (mem_cons_ok ⟨_, _, c43, backIt_ok⟩ (mem_cons_ok ⟨_, _, c44, backIt_ok⟩ (mem_cons_ok ⟨_, _, c6, backIt_ok⟩ (mem_cons_ok ⟨_, _, c23, backIt_ok⟩ (mem_cons_ok ⟨_, _, c45, backIt_ok⟩ (mem_cons_ok ⟨_, _, c60, backIt_ok⟩ (mem_cons_ok ⟨_, _, c68, backIt_ok⟩ (mem_cons_ok ⟨_, _, c25, backIt_ok⟩ (mem_cons_ok ⟨_, _, c24, backIt_ok⟩ (mem_cons_ok ⟨_, _, c29, backIt_ok⟩ (mem_cons_ok ⟨_, _, c7, backIt_ok⟩ (mem_cons_ok ⟨_, _, c26, backIt_ok⟩ (mem_cons_ok ⟨_, _, c27, backIt_ok⟩ (mem_cons_ok ⟨_, _, c28, backIt_ok⟩ (mem_cons_ok ⟨_, _, c8, backIt_ok⟩ (mem_nil_ok))))))))))))))))))))))))))))))))))))))))))))))))))))))))
def prims : List (Nat × Nat × Nat) := []
theorem primsOk : ∀ p ∈ prims, IsClone Try.prog p := fun _ h => by cases h
abbrev X0 : Orc := withRows 58 36 (primX prims)
noncomputable abbrev C0 : Orc := callW X0 A
theorem x0Ok : OrcOk Try.prog X0 := withRows_ok (by decide) (by decide) sortsKeys unites (primX_ok (by kernel_rfl) primsOk)
theorem x0Fr : OrcFr X0 := withRows_fr (primX_fr _)
theorem orcOk0 : OrcOk Try.prog C0 := callW_ok (by kernel_rfl) x0Ok x0Fr fnsOk
abbrev X : Orc := withConst 9 (.bool true) X0
noncomputable abbrev C : Orc := callW X A
theorem laidOut : laidOutB Try.prog = true := by kernel_rfl
theorem own : ownKnob Try.prog.godebug = none := by kernel_rfl
theorem A12 : A 12 = some t12 := rfl
theorem A30 : A 30 = some t30 := rfl
theorem A46 : A 46 = some t46 := rfl
theorem A61 : A 61 = some t61 := rfl
theorem A47 : A 47 = some t47 := rfl
theorem A49 : A 49 = some t49 := rfl
theorem A48 : A 48 = some t48 := rfl
theorem A62 : A 62 = some t62 := rfl
theorem A31 : A 31 = some t31 := rfl
theorem A50 : A 50 = some t50 := rfl
theorem A37 : A 37 = some t37 := rfl
theorem A56 : A 56 = some t56 := rfl
theorem A57 : A 57 = some t57 := rfl
theorem A32 : A 32 = some t32 := rfl
theorem A33 : A 33 = some t33 := rfl
theorem A34 : A 34 = some t34 := rfl
theorem A35 : A 35 = some t35 := rfl
theorem A38 : A 38 = some t38 := rfl
theorem A59 : A 59 = some t59 := rfl
theorem A21 : A 21 = some t21 := rfl
theorem A10 : A 10 = some t10 := rfl
theorem A11 : A 11 = some t11 := rfl
theorem A15 : A 15 = some t15 := rfl
theorem A42 : A 42 = some t42 := rfl
theorem A40 : A 40 = some t40 := rfl
theorem A41 : A 41 = some t41 := rfl
theorem A19 : A 19 = some t19 := rfl
theorem A5 : A 5 = some t5 := rfl
theorem A20 : A 20 = some t20 := rfl
theorem A43 : A 43 = some t43 := rfl
theorem A44 : A 44 = some t44 := rfl
end Go.Proofs.Ytdmaganalpamlaa
