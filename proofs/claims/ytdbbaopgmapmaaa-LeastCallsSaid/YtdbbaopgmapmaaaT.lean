/- The functions of a program, compiled: printed by wip/hm/tools/Gen.lean. -/
import Derived.Test.YtdbbaopgmapmaaaT2
namespace Go.Proofs.Ytdbbaopgmapmaaa
open Go Go.Hm
theorem c8 : compF Try.prog 8 ⟨[], [(3, 3), (4, 4), (7, 7), (9, 9)], [], 0, [], noIt, false⟩ [[0, 1, 2], [2, 3, 4], [], [2, 3, 4], [], [2, 3, 4], [2, 3, 4, 7, 8], [2, 3, 4, 7, 8, 9, 10], [2, 3, 4, 7, 8, 9, 10, 11, 12], [2, 3, 4, 7, 8, 9, 10, 11, 12, 13, 14], [2, 3, 4, 7, 8, 9, 10, 11, 12, 13, 14, 15, 16], [3, 4, 7, 8, 9, 10, 11, 12, 13, 14, 15, 16, 17, 18]] true = some t8 := by kernel_rfl
theorem c9 : compF Try.prog 9 ⟨[], [(1, 1), (3, 3), (35, 1)], [], 0, [], noIt, false⟩ [[], [], [1, 2], [1, 2, 3, 4], [1, 2, 3, 4, 5, 6]] true = some t9 := by kernel_rfl
theorem c20 : compF Try.prog 20 ⟨[], [(6, 6), (8, 8), (2, 2)], [], 0, [], noIt, false⟩ [[0], [0, 2], [2, 3], [2, 6], [2, 8]] true = some t20 := by kernel_rfl
theorem c36 : compF Try.prog 36 ⟨[11], [(19, 11), (24, 11), (29, 11), (33, 11), (37, 11)], [], 0, [], noIt, false⟩ [[0], [0], [], [0], [0, 5, 11], [0, 5, 11], [0, 5, 11], [0, 5, 11], [5, 11], [0, 5, 11]] true = some t36 := by kernel_rfl
theorem c48 : compF Try.prog 48 ⟨[6], [], [], 0, [], noIt, false⟩ [[0], [0], [0, 3], [0, 3], [0, 3], [0, 3], [0, 3], [3], [0, 3]] false = some t48 := by kernel_rfl
theorem c60 : compF Try.prog 60 ⟨[], [], [], 0, [], noIt, false⟩ [[0], [0], [0, 3], [0, 3], [0, 3], [0, 3], [0, 3, 36], [0], [0, 3, 36], [3], [0, 3]] false = some t60 := by kernel_rfl
theorem c49 : compF Try.prog 49 ⟨[], [], [], 0, [], noIt, false⟩ [[0], [0]] true = some t49 := by kernel_rfl
theorem c66 : compF Try.prog 66 ⟨[], [], [], 0, [], noIt, false⟩ [[0], [0], [0, 3], [0, 3], [0, 3], [0, 3, 4], [0, 3, 4, 17], [0, 3], [0, 3, 4, 17], [0, 3], [0, 3, 4, 17], [0, 3], [0, 3, 4], [3], [0, 3, 4], [0, 3, 4], [3]] false = some t66 := by kernel_rfl
theorem c67 : compF Try.prog 67 ⟨[], [(5, 5)], [], 0, [], noIt, false⟩ [[0], [0], [0, 3], [0, 3, 16], [0, 3, 16], [0, 3, 16], [0, 3, 16], [0, 3, 16], [0, 3, 16], [0], [0, 3], [0, 3], [0, 3, 37], [0], [0, 4], [0], [0, 4], [0], [0, 4], [4], [0, 3, 37], [0], [0, 5], [0, 3, 37], [0], [0, 3, 37], [0], [0, 6], [0, 3]] false = some t67 := by kernel_rfl
theorem c50 : compF Try.prog 50 ⟨[], [], [], 0, [], noIt, false⟩ [[0, 1, 2], [0, 1, 2], [0, 1, 2], []] true = some t50 := by kernel_rfl
theorem c68 : compF Try.prog 68 ⟨[], [(3, 3), (2, 2)], [], 0, [], noIt, false⟩ [[0], [0, 2], [0, 2, 3], [0, 2, 3, 4], [0, 2, 3, 4], [0, 2, 3, 4], [0, 2, 3, 4], [0, 2, 3, 4], [0, 2, 3, 4, 5], [0, 2, 3, 4, 5, 6], [0, 2, 3, 4, 5], [0, 2, 3, 4, 5], [0, 2, 3, 4, 5, 7], [0, 2, 3, 4, 5, 6, 7], [0, 2, 3, 4, 5, 6, 7], [0, 2, 3, 4, 5, 6], [0, 2, 3, 4], [0, 2, 3], [2, 3], [0, 2, 3, 4], [2, 3, 4], [2, 3], [2, 3]] false = some t68 := by kernel_rfl
theorem c72 : compF Try.prog 72 ⟨[], [], [], 0, [], noIt, false⟩ [[0], [0], [0, 3], [0, 3], [0], [3]] false = some t72 := by kernel_rfl
theorem c71 : compF Try.prog 71 ⟨[], [], [], 0, [], noIt, false⟩ [[0], [0], [0], [], [0], [0, 3], [0], [0, 3], [0], [0, 3], [0], [0, 3], [0], [0, 4], [0, 4, 5], [0, 4, 5], [0, 4, 5], [0], [], [0, 4, 5], [0, 4, 5, 6], [0, 5], [], [0, 4, 5, 6], [0, 4, 5], [0, 4], [0, 4], [0, 3], [0], [], [0, 3], [3]] false = some t71 := by kernel_rfl
theorem c76 : compF Try.prog 76 ⟨[], [], [], 0, [], noIt, false⟩ [[0], [0], [0], [0], [0], [0], [0], []] true = some t76 := by kernel_rfl
theorem c77 : compF Try.prog 77 ⟨[], [], [], 0, [], noIt, false⟩ [[0], [0]] true = some t77 := by kernel_rfl
theorem c74 : compF Try.prog 74 ⟨[], [(5, 5), (4, 4)], [], 0, [], noIt, false⟩ [[0, 1], [0, 1, 4], [0, 1, 4, 5], [1, 4, 5, 6], [1, 4, 5, 6], [1, 4, 5, 6], [1, 4, 5, 6], [4, 5]] true = some t74 := by kernel_rfl
theorem c75 : compF Try.prog 75 ⟨[], [(9, 2), (16, 2), (2, 2), (4, 4)], [], 0, [], noIt, false⟩ [[0, 1], [1, 2, 4], [2, 4]] true = some t75 := by kernel_rfl
theorem c73 : compF Try.prog 73 ⟨[], [(5, 2), (7, 3), (10, 2), (12, 3), (15, 2), (17, 3), (20, 2), (22, 3), (4, 4)], [], 0, [], noIt, false⟩ [[0, 1], [2, 3, 4]] true = some t73 := by kernel_rfl
theorem c69 : compF Try.prog 69 ⟨[], [(3, 1), (6, 1), (9, 1), (12, 1), (2, 2)], [], 0, [], noIt, false⟩ [[0], [1, 2]] true = some t69 := by kernel_rfl
theorem c61 : compF Try.prog 61 ⟨[18], [(6, 6)], [], 0, [], noIt, false⟩ [[0, 1, 2, 3], [0, 1, 3, 6], [0]] false = some t61 := by kernel_rfl
theorem c70 : compF Try.prog 70 ⟨[], [(3, 3), (2, 2)], [], 0, [], noIt, false⟩ [[0], [0, 2], [0, 2, 3], [0, 2, 3, 4], [0, 2, 3, 4], [0, 2, 3, 4], [0, 2, 3, 4], [2, 3]] true = some t70 := by kernel_rfl
theorem c37 : compF Try.prog 37 ⟨[4, 15, 16, 17], [(2, 2), (4, 4), (8, 8), (51, 4), (53, 4), (57, 8), (62, 8), (68, 4), (70, 8), (77, 8), (80, 4), (86, 4), (90, 4)], [], 0, [], noIt, false⟩ [[0], [0, 2], [2], [0, 2], [0, 2, 4], [0, 2, 4, 5], [0, 2, 4, 5], [0, 2, 4, 5], [0, 2, 4, 5, 6], [2, 6], [0, 2, 4, 5], [0, 2, 4], [0, 2, 4, 7], [0, 2, 4, 7], [0, 2, 4, 7], [0, 2, 4, 7, 8], [0, 2, 4, 7, 8], [0, 2, 4, 7, 8, 9], [0, 2, 4, 7, 8, 9], [0, 2, 4, 7, 8, 9], [0, 2, 4, 7, 8, 9], [0, 2, 4, 7, 8], [0, 2, 4, 7], [0, 2, 4, 7], [2, 4], [2], [2, 4]] true = some t37 := by kernel_rfl
theorem c51 : compF Try.prog 51 ⟨[20], [], [], 0, [], noIt, false⟩ [[0], [0], [], [0], [0, 3], [0, 3, 4], [0, 3, 4], [0, 3, 4], [0, 3, 4, 5, 6], [], [0, 3, 4], [0, 3, 4, 7], [0, 3, 4, 7], [0, 3, 4, 7], [0, 3, 4, 7, 8], [], [0, 3, 4, 7, 8], [0, 3, 4, 7], [0, 3, 4], [0, 3], [0, 3, 9], [0, 3, 9], [0, 3, 9], [], [0, 3, 9], []] true = some t51 := by kernel_rfl
theorem c62 : compF Try.prog 62 ⟨[], [], [], 0, [], noIt, false⟩ [[0], [0], [4], [4], [], [4], [4], [], [4], [4], [4], [], []] true = some t62 := by kernel_rfl
theorem c52 : compF Try.prog 52 ⟨[], [(7, 7), (20, 7), (6, 6), (39, 7), (70, 7), (9, 9), (76, 7), (84, 7), (11, 11), (91, 9), (93, 11), (96, 9), (98, 9), (100, 11), (103, 9), (104, 11), (106, 9), (108, 11), (111, 11), (112, 9), (115, 11), (118, 9), (120, 11), (12, 12), (128, 7), (136, 7), (14, 14), (142, 12), (145, 14), (148, 12), (150, 14), (153, 12), (155, 14), (162, 7), (15, 15), (167, 7), (171, 15), (173, 15), (176, 7), (179, 15)], [], 0, [], noIt, false⟩ [[0, 1, 2], [0, 1, 2, 6], [0, 1, 6, 7], [0, 1, 6, 7, 21], [6], [0, 1, 6, 7, 21], [0, 6, 7], [0, 6, 7, 8], [6, 8], [0, 1, 6, 7, 21], [0, 1, 6, 7], [0, 1, 6, 7, 9], [0, 1, 6, 7, 9, 10], [0, 1, 6, 7, 9, 10], [0, 1, 6, 7, 9, 10], [0, 1, 6, 7, 9, 10, 11], [0, 1, 6, 7, 9, 10, 11], [0, 1, 6, 7, 9, 10, 11], [0, 1, 6, 7, 9, 10, 11], [0, 1, 6, 7, 9, 10, 11], [0, 1, 6, 7, 9, 10, 11], [0, 1, 6, 7, 9, 10], [6, 9], [0, 1, 6, 7, 21], [0, 1, 6, 7], [0, 1, 6, 7, 12], [0, 1, 6, 7, 12, 13], [0, 1, 6, 7, 12, 13], [0, 1, 6, 7, 12, 13], [0, 1, 6, 7, 12, 13, 14], [0, 1, 6, 7, 12, 13], [6, 12], [0, 1, 6, 7], [0, 6, 7, 15], [0, 6, 7, 15], [6, 7, 15], [6, 15], [6, 15]] false = some t52 := by kernel_rfl
theorem c63 : compF Try.prog 63 ⟨[], [], [], 0, [], noIt, false⟩ [[0, 1, 2], [0, 1, 2, 6], [0, 1, 2, 6], [0, 1, 2, 6], [0, 1, 2, 6]] false = some t63 := by kernel_rfl
theorem c53 : compF Try.prog 53 ⟨[], [], [], 0, [], noIt, false⟩ [[0, 1], [0, 1], [1, 5], [1, 5, 6], [1, 5, 6], [1, 5, 6], [1, 5, 6], [1, 5, 6], [5], [5, 7], [5, 7], [5, 7], [5, 7, 8], [5, 7, 8], [5, 7, 8], [5, 7, 8], [5, 7], [5]] true = some t53 := by kernel_rfl
theorem c64 : compF Try.prog 64 ⟨[], [], [], 0, [], noIt, false⟩ [[0, 1], [0, 1], [0, 1, 5], [0, 1, 5], [0, 1, 5], [], [0, 1, 5], []] true = some t64 := by kernel_rfl
theorem c38 : compF Try.prog 38 ⟨[31, 30], [(2, 2), (4, 4), (9, 9), (44, 9), (54, 9), (94, 9), (99, 9)], [], 0, [], noIt, false⟩ [[0, 1], [1, 2, 4], [1, 2, 4, 6], [4, 6], [1, 2, 4], [4], [1, 2, 4], [1, 2, 4, 7], [1, 2, 4, 7, 8], [1, 2, 4, 7, 8, 9], [1, 2, 4, 7, 8, 9, 10], [1, 2, 4, 7, 8, 9, 10], [1, 2, 4, 7, 8, 9, 10], [1, 2, 4, 7, 8, 9, 10], [1, 2, 4, 7, 8, 9, 10, 11], [1, 2, 4, 7, 8, 9, 10, 11], [1, 2, 4, 7, 8, 9, 10, 11], [1, 2, 4, 7, 8, 9, 10, 11, 12], [1, 2, 4, 7, 8, 9, 10, 11, 12, 13], [1, 2, 4, 7, 8, 9, 10, 11, 12], [1, 2, 4, 7, 8, 9, 10, 11, 12, 14, 15], [1, 2, 4, 7, 8, 9, 10, 11, 12], [1, 2, 4, 7, 8, 9, 10, 11, 12, 14], [4], [1, 2, 4, 7, 8, 9, 10, 11, 12, 14], [1, 2, 4, 7, 8, 9, 10, 11, 12, 14], [1, 2, 4, 7, 8, 9, 10, 11, 14], [1, 2, 4, 7, 8, 9, 10, 11, 13], [1, 2, 4, 7, 8, 9, 10, 11], [1, 2, 4, 7, 8, 9, 10], [4, 9]] true = some t38 := by kernel_rfl
theorem c54 : compF Try.prog 54 ⟨[], [(6, 1), (16, 1), (23, 1), (30, 1), (42, 1), (49, 1), (57, 1), (66, 1), (76, 1), (91, 1), (100, 1)], [], 0, [], noIt, false⟩ [[0], [1], [1, 3], [], [1, 3], [1, 3, 4], [1, 3, 4], [1, 3, 4], [], [1, 3, 4], [1, 3, 4, 5], [1, 3, 4, 5], [1, 3, 4, 5], [], [1, 3, 4, 5], [1, 3, 4], []] true = some t54 := by kernel_rfl
theorem c55 : compF Try.prog 55 ⟨[], [], [], 0, [], noIt, false⟩ [[0], [0], [0, 3], [0, 3, 4], [0, 3, 4], [0, 3, 4], [0, 3, 4], [3]] true = some t55 := by kernel_rfl
theorem c56 : compF Try.prog 56 ⟨[], [(24, 2), (29, 2)], [], 0, [], noIt, false⟩ [[0, 1], [1, 2], [1, 2, 5], [1, 2, 5, 6], [1, 2, 5, 6], [1, 2, 5, 6], [1, 2, 5, 6], [1, 2, 5, 6, 7], [1, 2, 6, 7], [1, 2, 5, 6], [5]] true = some t56 := by kernel_rfl
theorem c57 : compF Try.prog 57 ⟨[16], [(13, 3), (33, 3), (38, 3), (52, 3)], [], 0, [], noIt, false⟩ [[0, 1, 2], [1, 2, 3], [1, 2, 3, 7], [1, 2, 3, 7, 8], [1, 2, 3, 7, 8], [1, 2, 3, 7, 8], [1, 2, 3, 7, 8], [1, 2, 3, 7, 8, 9], [1, 2, 3, 7, 8, 9, 10], [1, 2, 3, 7, 8, 9, 10], [1, 2, 3, 7, 8, 9, 10], [1, 2, 3, 7, 8, 9, 10], [1, 2, 3, 7, 8, 9, 10], [1, 2, 3, 7, 8], [7], [7, 11], [7, 11, 12], [7, 11, 12], [7, 11, 12], [7, 11, 12], [7, 11, 12], [11]] true = some t57 := by kernel_rfl
theorem c65 : compF Try.prog 65 ⟨[], [(7, 2)], [], 0, [], noIt, false⟩ [[0, 1], [1, 2]] true = some t65 := by kernel_rfl
theorem c12 : compF Try.prog 12 ⟨[24, 23], [(1, 1), (2, 2), (39, 8), (41, 1), (48, 8), (49, 1), (71, 8), (75, 8), (99, 8), (104, 8), (8, 8)], [], 0, [], noIt, false⟩ [[0], [1, 2], [1, 2, 4], [2, 4], [1, 2], [1, 2, 5], [1, 2, 5, 6, 7], [1, 2, 5, 6, 7, 8], [1, 2, 5, 6, 7, 8, 9], [1, 2, 5, 6, 7, 8, 9], [1, 2, 5, 6, 7, 8, 9], [1, 2, 5, 6, 7, 8, 9, 10], [1, 2, 5, 6, 7, 8, 9, 10], [1, 2, 5, 6, 7, 8, 9, 56, 57, 58], [1, 2, 5, 6, 7, 8, 9, 56, 57, 58], [1, 2, 5, 6, 7, 8, 9, 56, 57, 58], [1, 2, 5, 6, 7, 8, 9, 12, 56, 57, 58], [1, 2, 5, 6, 7, 8, 9, 56, 57, 58], [1, 2, 5, 6, 7, 8, 9, 12, 56, 57, 58], [1, 2, 5, 6, 7, 8, 9, 12, 13, 14, 56, 57, 58], [1, 2, 5, 6, 7, 8, 9, 12, 56, 57, 58], [1, 2, 5, 6, 7, 8, 9, 12, 13, 56, 57, 58], [1, 2, 5, 6, 7, 8, 9, 12, 13, 56, 57, 58], [1, 2, 5, 6, 7, 8, 9, 13, 56, 57, 58], [1, 2, 5, 6, 7, 8, 9, 56, 57, 58], [1, 2, 5, 6, 7, 8, 9], [2, 8]] true = some t12 := by kernel_rfl
theorem c27 : compF Try.prog 27 ⟨[], [(4, 1), (14, 1), (21, 1), (26, 1), (32, 1), (38, 1)], [], 0, [], noIt, false⟩ [[0], [1], [1, 3], [], [1, 3], [], []] true = some t27 := by kernel_rfl
theorem c43 : compF Try.prog 43 ⟨[], [], [], 0, [], noIt, false⟩ [[0], [0], [0], [0], [0, 3], [0, 3, 4], [0, 3, 4], [0, 3, 4], [0, 3, 4], [3]] true = some t43 := by kernel_rfl
theorem c44 : compF Try.prog 44 ⟨[], [], [], 0, [], noIt, false⟩ [[0], [0], [0], [0], [0, 3], [0, 3, 4], [0, 3, 4], [0, 3, 4], [0, 3, 4], [3]] true = some t44 := by kernel_rfl
theorem c28 : compF Try.prog 28 ⟨[21, 44, 47], [(1, 1), (22, 1), (12, 12), (62, 1), (78, 12), (87, 12)], [], 0, [], noIt, false⟩ [[0], [1], [1, 3], [1, 3, 4], [1, 3, 4, 23, 24, 25], [1, 3, 4, 23, 24, 25], [1, 3, 4, 23, 24, 25], [1, 3, 4, 5, 6, 23, 24, 25], [1, 3, 4, 5, 23, 24, 25], [1, 3, 4, 5, 23, 24, 25], [1, 3, 4, 23, 24, 25], [1, 4], [1, 4, 7], [1, 4, 7], [1, 4, 7, 8], [1, 4, 7, 8, 9], [1, 4, 7, 8, 9, 48, 49, 50], [1, 4, 7, 8, 9, 48, 49, 50], [1, 4, 7, 8, 9, 48, 49, 50], [1, 4, 7, 8, 9, 10, 11, 48, 49, 50], [1, 4, 7, 8, 9, 10, 11, 48, 49, 50], [1, 4, 7, 8, 9, 10, 11, 48, 49, 50], [1, 4, 7, 8, 9, 10, 12, 48, 49, 50], [1, 4, 7, 8, 9, 10, 12, 48, 49, 50, 69, 70, 71], [1, 4, 7, 8, 9, 10, 12, 48, 49, 50, 69, 70, 71], [1, 4, 7, 8, 9, 10, 12, 48, 49, 50, 69, 70, 71], [1, 4, 7, 8, 9, 10, 12, 13, 14, 48, 49, 50, 69, 70, 71], [1, 4, 7, 8, 9, 10, 12, 13, 14, 48, 49, 50, 69, 70, 71], [1, 4, 7, 8, 9, 10, 12, 13, 14, 48, 49, 50, 69, 70, 71], [1, 4, 7, 8, 9, 10, 12, 48, 49, 50, 69, 70, 71], [1, 4, 7, 8, 9, 10, 12, 48, 49, 50], [1, 4, 7, 8, 9, 10, 12, 15, 16, 48, 49, 50], [1, 4, 7, 8, 9, 10, 12, 48, 49, 50], [1, 4, 7, 8, 9, 10, 12, 15, 48, 49, 50], [1, 4, 7, 8, 9, 10, 15, 48, 49, 50], [1, 4, 7, 8, 9, 48, 49, 50], [1, 7, 8, 9], [9], [1, 8, 9]] true = some t28 := by kernel_rfl
theorem c13 : compF Try.prog 13 ⟨[3, 14], [(1, 1), (11, 1), (3, 3), (15, 1), (41, 1)], [], 0, [], noIt, false⟩ [[0], [1], [], [1], [1, 3], [1, 3, 16, 17, 18], [1, 3, 16, 17, 18], [1, 3, 16, 17, 18], [1, 3, 4, 5, 16, 17, 18], [1, 3, 16, 17, 18], [1, 3], [1, 3, 6], [1, 3, 6], [1, 3], [1, 3, 6], [1, 3, 6, 31, 32], [1, 3, 6, 31, 32], [1, 3, 6, 31, 32], [1, 3, 6, 7, 31, 32], [1, 3, 7, 31, 32], [1, 3, 6, 31, 32], [3]] true = some t13 := by kernel_rfl
theorem c30 : compF Try.prog 30 ⟨[], [], [], 0, [], noIt, false⟩ [[0, 1], [0, 1]] true = some t30 := by kernel_rfl
theorem c29 : compF Try.prog 29 ⟨[], [], [], 0, [], noIt, false⟩ [[0, 1], [0, 1]] true = some t29 := by kernel_rfl
theorem c45 : compF Try.prog 45 ⟨[], [], [], 0, [], noIt, false⟩ [[0, 1], [0, 1], [0, 1, 7, 8], [0, 1, 7, 8], [0, 1, 7, 8], [0, 1, 5, 7, 8], [5], [0, 1, 7, 8], []] true = some t45 := by kernel_rfl
theorem c19 : compF Try.prog 19 ⟨[3, 2], [(2, 2), (3, 3)], [], 0, [], noIt, false⟩ [[0, 1], [2, 3], [], [2, 3]] true = some t19 := by kernel_rfl
theorem c35 : compF Try.prog 35 ⟨[], [], [], 0, [], noIt, false⟩ [[0, 1, 2, 3], [0, 1, 2, 3]] true = some t35 := by kernel_rfl
theorem c33 : compF Try.prog 33 ⟨[], [(7, 2)], [], 0, [], noIt, false⟩ [[0, 1], [1, 2], [], [1, 2]] true = some t33 := by kernel_rfl
theorem c31 : compF Try.prog 31 ⟨[75, 18, 14, 19, 76], [(3, 3), (4, 4), (13, 13), (67, 13), (69, 13)], [], 0, [], noIt, false⟩ [[0, 1, 2], [2, 3, 4], [2, 3, 4, 8], [2, 3, 4, 8, 9], [2, 3, 4, 8, 9, 10], [2, 3, 4, 8, 9, 10], [2, 3, 4, 8, 9, 10], [2, 3, 4, 8, 9, 10, 11], [11], [2, 3, 4, 8, 9, 10, 11], [2, 3, 4, 8, 9, 10, 11, 42], [2, 3, 4, 8, 9, 10, 11, 42], [2, 3, 4, 8, 9, 10, 11, 42], [2, 3, 4, 8, 9, 10, 11, 12, 42], [2, 3, 4, 8, 9, 10, 11, 12, 13, 42], [2, 3, 4, 8, 9, 10, 11, 12, 13, 42], [2, 3, 4, 8, 9, 10, 11, 12, 13, 42], [2, 3, 4, 8, 9, 10, 11, 42], [2, 3, 4, 8, 9, 10], []] true = some t31 := by kernel_rfl
theorem c46 : compF Try.prog 46 ⟨[], [], [], 0, [], noIt, false⟩ [[0], [0], [0, 3], [0, 3], [0, 3], [0, 3], [3], [3]] true = some t46 := by kernel_rfl
theorem c59 : compF Try.prog 59 ⟨[], [], [], 0, [], noIt, false⟩ [[0], [0, 2, 3], [0, 2, 3], [0, 2, 3], [0, 2, 3]] true = some t59 := by kernel_rfl
theorem c47 : compF Try.prog 47 ⟨[], [(9, 3)], [], 0, [], noIt, false⟩ [[0, 1, 2], [1, 2, 3], [], [1, 2, 3]] true = some t47 := by kernel_rfl
theorem c16 : compF Try.prog 16 ⟨[], [(7, 2), (10, 3), (15, 2), (18, 3), (24, 2), (30, 2), (35, 3), (42, 2), (48, 2), (53, 3)], [], 0, [], noIt, false⟩ [[0, 1], [2, 3], [], [2, 3], [2, 3, 5], [2, 3, 5], [2, 3, 5], [], [2, 3, 5], [2, 3], [2, 3, 6], [2, 3, 6], [2, 3, 6], [], [2, 3, 6], []] true = some t16 := by kernel_rfl
theorem c10 : compF Try.prog 10 ⟨[], [(5, 2), (11, 2)], [], 0, [], noIt, false⟩ [[0, 1], [1, 2]] true = some t10 := by kernel_rfl
theorem c22 : compF Try.prog 22 ⟨[32, 31], [(1, 1), (2, 2), (24, 1), (10, 10), (44, 10), (46, 1), (56, 10), (74, 10), (78, 10), (102, 10), (107, 10)], [], 0, [], noIt, false⟩ [[0], [1, 2], [1, 2, 4], [2, 4], [1, 2], [1, 2, 5, 6], [1, 2, 5, 7], [1, 2, 5, 7, 8], [1, 2, 5, 7, 8, 9], [1, 2, 5, 7, 8, 9, 10], [1, 2, 5, 7, 8, 9, 10, 11], [1, 2, 5, 7, 8, 9, 10, 11], [1, 2, 5, 7, 8, 9, 10, 11], [1, 2, 5, 7, 8, 9, 10, 11], [1, 2, 5, 7, 8, 9, 10, 11, 12], [1, 2, 5, 7, 8, 9, 10, 11, 12], [1, 2, 5, 7, 8, 9, 10, 11, 12], [1, 2, 5, 7, 8, 9, 10, 11, 12, 13], [1, 2, 5, 7, 8, 9, 10, 11, 12], [1, 2, 5, 7, 8, 9, 10, 11, 12, 13], [1, 2, 5, 7, 8, 9, 10, 11, 12, 13, 14, 15], [1, 2, 5, 7, 8, 9, 10, 11, 12, 13], [1, 2, 5, 7, 8, 9, 10, 11, 12, 13, 14], [1, 2, 5, 7, 8, 9, 10, 11, 12, 13, 14], [1, 2, 5, 7, 8, 9, 10, 11, 12, 14], [1, 2, 5, 7, 8, 9, 10, 11, 12], [1, 2, 5, 7, 8, 9, 10, 11], [2, 10]] true = some t22 := by kernel_rfl
theorem c11 : compF Try.prog 11 ⟨[], [(6, 1), (16, 1), (28, 1), (35, 1), (43, 1), (49, 1), (56, 1)], [], 0, [], noIt, false⟩ [[0], [1], [1, 3], [], [1, 3], [1, 3, 4], [1, 3, 4], [1, 3, 4], [], [1, 3, 4], [1, 3], [1, 3, 5], [1, 3, 5], [1, 3, 5], [], [1, 3, 5], []] true = some t11 := by kernel_rfl
theorem c39 : compF Try.prog 39 ⟨[16, 33], [(11, 1), (24, 1), (1, 1)], [], 0, [], noIt, false⟩ [[0], [1], [1, 3], [1, 3, 4], [1, 3, 4, 5], [1, 3, 4, 5], [1, 3, 4, 5], [1, 3, 4, 5], [1, 3, 4], [1, 3, 4, 6], [1, 3, 4, 6], [1, 3, 4, 6, 7], [1, 3, 4, 6, 7, 8], [1, 3, 4, 6, 7, 8, 9], [1, 3, 4, 6, 7, 8, 9], [1, 3, 4, 6, 7, 8, 9], [1, 3, 4, 6, 7, 8, 9], [1, 3, 4, 6, 7, 8, 9, 10], [1, 3, 4, 6, 7, 8, 9, 10], [1, 3, 4, 6, 7, 8, 9, 10], [1, 3, 4, 6, 7, 8, 9, 10], [1, 3, 4, 6, 7, 8, 9, 10], [1, 3, 4, 6, 7, 8, 9], [1, 3, 4, 6, 7, 8, 9], [1, 3, 4, 6, 7, 8, 9], [1, 3, 6, 7, 8], [7], [1, 3, 7, 8]] true = some t39 := by kernel_rfl
theorem c58 : compF Try.prog 58 ⟨[], [(4, 4)], [], 0, [], noIt, false⟩ [[0, 1, 2, 3], [1, 2, 3, 4], [], [1, 2, 3, 4], [1, 2, 3, 4, 9], [1, 2, 3, 4, 9], [1, 2, 3, 4, 9], [], [1, 2, 3, 4, 9], []] true = some t58 := by kernel_rfl
theorem c40 : compF Try.prog 40 ⟨[], [(8, 3), (15, 3), (26, 3)], [], 0, [], noIt, false⟩ [[0, 1, 2], [1, 2, 3], [1, 2, 3, 7], [7], [1, 2, 3]] true = some t40 := by kernel_rfl
theorem c23 : compF Try.prog 23 ⟨[22, 21], [(2, 2), (3, 3)], [], 0, [], noIt, false⟩ [[0, 1], [2, 3], [], [2, 3], [2, 3, 6], [2, 3, 6, 7], [2, 3, 6, 7, 8], [2, 3, 6, 7, 8], [2, 3, 6, 7, 8], [6, 8], [2, 3, 6, 7, 8], [2, 3, 6, 7, 8, 9], [2, 3, 6, 7, 8, 9], [2, 3, 6, 7, 8, 9], [2, 3, 6, 7, 8, 9, 10, 11], [2, 3, 6, 7, 8, 9, 10, 11], [2, 3, 6, 7, 8, 9, 10, 11], [2, 3, 6, 7, 8, 9], [2, 3, 6, 7, 8], []] true = some t23 := by kernel_rfl
theorem c41 : compF Try.prog 41 ⟨[], [(7, 2)], [], 0, [], noIt, false⟩ [[0, 1], [1, 2], [], [1, 2]] true = some t41 := by kernel_rfl
theorem c42 : compF Try.prog 42 ⟨[], [(9, 3)], [], 0, [], noIt, false⟩ [[0, 1, 2], [1, 2, 3], [], [1, 2, 3]] true = some t42 := by kernel_rfl
theorem c14 : compF Try.prog 14 ⟨[3, 2], [(3, 3), (2, 2)], [], 0, [], noIt, false⟩ [[0, 1], [2, 3], [], [2, 3]] true = some t14 := by kernel_rfl
theorem c32 : compF Try.prog 32 ⟨[], [], [], 0, [], noIt, false⟩ [[0, 2, 3], [0, 2, 3]] true = some t32 := by kernel_rfl
theorem c24 : compF Try.prog 24 ⟨[20, 19], [(2, 2), (28, 2)], [], 0, [], noIt, false⟩ [[0, 1], [1, 2], [], [1, 2], [1, 2, 6], [1, 2, 6, 7], [1, 2, 6, 7, 8], [1, 2, 6, 7, 8], [1, 2, 6, 7, 8], [6, 8], [1, 2, 6, 7, 8], [1, 2, 6, 7, 8, 9], [1, 2, 6, 7, 8, 9], [1, 2, 6, 7, 8, 9], [1, 2, 6, 7, 8, 9, 10], [1, 2, 6, 7, 8, 9, 10], [1, 2, 6, 7, 8, 9, 10], [1, 2, 6, 7, 8, 9], [1, 2, 6, 7, 8], []] true = some t24 := by kernel_rfl
theorem c25 : compF Try.prog 25 ⟨[17], [(1, 1), (13, 1), (25, 1), (49, 1)], [], 0, [], noIt, false⟩ [[0], [1], [], [1], [1, 3], [1, 3, 4], [1, 3, 4, 5], [1, 3, 4, 5], [1, 3, 4, 5], [1, 3, 4, 5], [1, 3, 4], [1, 3, 4, 6], [1, 3, 4, 6], [1, 3, 4], [1, 3, 4, 6], [1, 3, 4, 6, 7], [1, 3, 4, 6, 7], [1, 3, 4, 6, 7], [1, 3, 4, 6, 7, 8], [1, 3, 4, 6, 7, 8], [1, 3, 4, 6, 7, 8], [1, 3, 4, 6, 7, 8, 9], [1, 3, 4, 7, 8], [1, 3, 4, 6, 7, 8], [1, 3, 4, 6, 7], [4]] true = some t25 := by kernel_rfl
theorem c21 : compF Try.prog 21 ⟨[], [], [], 0, [], noIt, false⟩ [[0, 1], [0, 1], [], [0, 1], [0, 1, 5], [0, 1, 5], [0, 1, 5], [], [0, 1, 5], []] true = some t21 := by kernel_rfl
theorem c17 : compF Try.prog 17 ⟨[], [(2, 2), (3, 3)], [], 0, [], noIt, false⟩ [[0, 1], [2, 3], [], [2, 3], [6]] true = some t17 := by kernel_rfl
theorem c26 : compF Try.prog 26 ⟨[], [(2, 2), (3, 3)], [], 0, [], noIt, false⟩ [[0, 1], [2, 3], [2, 3, 6]] true = some t26 := by kernel_rfl
def tab : List (Nat × AFn) := [(8, t8), (9, t9), (20, t20), (36, t36), (48, t48), (60, t60), (49, t49), (66, t66), (67, t67), (50, t50), (68, t68), (72, t72), (71, t71), (76, t76), (77, t77), (74, t74), (75, t75), (73, t73), (69, t69), (61, t61), (70, t70), (37, t37), (51, t51), (62, t62), (52, t52), (63, t63), (53, t53), (64, t64), (38, t38), (54, t54), (55, t55), (56, t56), (57, t57), (65, t65), (12, t12), (27, t27), (43, t43), (44, t44), (28, t28), (13, t13), (30, t30), (29, t29), (45, t45), (19, t19), (35, t35), (33, t33), (31, t31), (46, t46), (59, t59), (47, t47), (16, t16), (10, t10), (22, t22), (11, t11), (39, t39), (58, t58), (40, t40), (23, t23), (41, t41), (42, t42), (14, t14), (32, t32), (24, t24), (25, t25), (21, t21), (17, t17), (26, t26)]
def A : FuncId → Option AFn := assoc tab
theorem fnsOk : FnsOk Try.prog A := assoc_ok (mem_cons_ok ⟨_, _, c8, noIt_ok⟩ (mem_cons_ok ⟨_, _, c9, noIt_ok⟩ (mem_cons_ok ⟨_, _, c20, noIt_ok⟩ (mem_cons_ok ⟨_, _, c36, noIt_ok⟩ (mem_cons_ok ⟨_, _, c48, noIt_ok⟩ (mem_cons_ok ⟨_, _, c60, noIt_ok⟩ (mem_cons_ok ⟨_, _, c49, noIt_ok⟩ (mem_cons_ok ⟨_, _, c66, noIt_ok⟩ (mem_cons_ok ⟨_, _, c67, noIt_ok⟩ (mem_cons_ok ⟨_, _, c50, noIt_ok⟩ (mem_cons_ok ⟨_, _, c68, noIt_ok⟩ (mem_cons_ok ⟨_, _, c72, noIt_ok⟩ (mem_cons_ok ⟨_, _, c71, noIt_ok⟩ (mem_cons_ok ⟨_, _, c76, noIt_ok⟩ (mem_cons_ok ⟨_, _, c77, noIt_ok⟩ (mem_cons_ok ⟨_, _, c74, noIt_ok⟩ (mem_cons_ok ⟨_, _, c75, noIt_ok⟩ (mem_cons_ok ⟨_, _, c73, noIt_ok⟩ (mem_cons_ok ⟨_, _, c69, noIt_ok⟩ (mem_cons_ok ⟨_, _, c61, noIt_ok⟩ (mem_cons_ok ⟨_, _, c70, noIt_ok⟩ (mem_cons_ok ⟨_, _, c37, noIt_ok⟩ (mem_cons_ok ⟨_, _, c51, noIt_ok⟩ (mem_cons_ok ⟨_, _, c62, noIt_ok⟩ (mem_cons_ok ⟨_, _, c52, noIt_ok⟩ (mem_cons_ok ⟨_, _, c63, noIt_ok⟩ (mem_cons_ok ⟨_, _, c53, noIt_ok⟩ (mem_cons_ok ⟨_, _, c64, noIt_ok⟩ (mem_cons_ok ⟨_, _, c38, noIt_ok⟩ (mem_cons_ok ⟨_, _, c54, noIt_ok⟩ (mem_cons_ok ⟨_, _, c55, noIt_ok⟩ (mem_cons_ok ⟨_, _, c56, noIt_ok⟩ (mem_cons_ok ⟨_, _, c57, noIt_ok⟩ (mem_cons_ok ⟨_, _, c65, noIt_ok⟩ (mem_cons_ok ⟨_, _, c12, noIt_ok⟩ (mem_cons_ok ⟨_, _, c27, noIt_ok⟩ (mem_cons_ok ⟨_, _, c43, noIt_ok⟩ (mem_cons_ok ⟨_, _, c44, noIt_ok⟩ (mem_cons_ok ⟨_, _, c28, noIt_ok⟩ (mem_cons_ok ⟨_, _, c13, noIt_ok⟩ (mem_cons_ok ⟨_, _, c30, noIt_ok⟩ (mem_cons_ok ⟨_, _, c29, noIt_ok⟩ (mem_cons_ok ⟨_, _, c45, noIt_ok⟩ (mem_cons_ok ⟨_, _, c19, noIt_ok⟩ (mem_cons_ok ⟨_, _, c35, noIt_ok⟩ (mem_cons_ok ⟨_, _, c33, noIt_ok⟩ (mem_cons_ok ⟨_, _, c31, noIt_ok⟩ (mem_cons_ok ⟨_, _, c46, noIt_ok⟩ (mem_cons_ok ⟨_, _, c59, noIt_ok⟩ (mem_cons_ok ⟨_, _, c47, noIt_ok⟩ (mem_cons_ok ⟨_, _, c16, noIt_ok⟩ (mem_cons_ok ⟨_, _, c10, noIt_ok⟩ (mem_cons_ok ⟨_, _, c22, noIt_ok⟩ (mem_cons_ok ⟨_, _, c11, noIt_ok⟩ (mem_cons_ok ⟨_, _, c39, noIt_ok⟩ (mem_cons_ok ⟨_, _, c58, noIt_ok⟩ (mem_cons_ok ⟨_, _, c40, noIt_ok⟩ (mem_cons_ok ⟨_, _, c23, noIt_ok⟩ (mem_cons_ok ⟨_, _, c41, noIt_ok⟩ (mem_cons_ok ⟨_, _, c42, noIt_ok⟩ (mem_cons_ok ⟨_, _, c14, noIt_ok⟩ (mem_cons_ok ⟨_, _, c32, noIt_ok⟩ (mem_cons_ok ⟨_, _, c24, noIt_ok⟩ (mem_cons_ok ⟨_, _, c25, noIt_ok⟩ (mem_cons_ok ⟨_, _, c21, noIt_ok⟩ (mem_cons_ok ⟨_, _, c17, noIt_ok⟩ (mem_cons_ok ⟨_, _, c26, noIt_ok⟩ (mem_nil_ok))))))))))))))))))))))))))))))))))))))))))))))))))))))))))))))))))))
def prims : List (Nat × Nat × Nat) := []
theorem primsOk : ∀ p ∈ prims, IsClone Try.prog p := fun _ h => by cases h
abbrev X : Orc := primX prims
noncomputable abbrev C : Orc := callW X A
theorem orcOk : OrcOk Try.prog C := callW_ok (by kernel_rfl) (primX_ok (by kernel_rfl) primsOk) (primX_fr _) fnsOk
theorem laidOut : laidOutB Try.prog = true := by kernel_rfl
theorem own : ownKnob Try.prog.godebug = none := by kernel_rfl
theorem A8 : A 8 = some t8 := rfl
theorem A9 : A 9 = some t9 := rfl
theorem A20 : A 20 = some t20 := rfl
theorem A36 : A 36 = some t36 := rfl
theorem A48 : A 48 = some t48 := rfl
theorem A60 : A 60 = some t60 := rfl
theorem A49 : A 49 = some t49 := rfl
theorem A66 : A 66 = some t66 := rfl
theorem A67 : A 67 = some t67 := rfl
theorem A50 : A 50 = some t50 := rfl
theorem A68 : A 68 = some t68 := rfl
theorem A72 : A 72 = some t72 := rfl
theorem A71 : A 71 = some t71 := rfl
theorem A76 : A 76 = some t76 := rfl
theorem A77 : A 77 = some t77 := rfl
theorem A74 : A 74 = some t74 := rfl
theorem A75 : A 75 = some t75 := rfl
theorem A73 : A 73 = some t73 := rfl
theorem A69 : A 69 = some t69 := rfl
theorem A61 : A 61 = some t61 := rfl
theorem A70 : A 70 = some t70 := rfl
theorem A37 : A 37 = some t37 := rfl
theorem A51 : A 51 = some t51 := rfl
theorem A62 : A 62 = some t62 := rfl
theorem A52 : A 52 = some t52 := rfl
theorem A63 : A 63 = some t63 := rfl
theorem A53 : A 53 = some t53 := rfl
theorem A64 : A 64 = some t64 := rfl
theorem A38 : A 38 = some t38 := rfl
theorem A54 : A 54 = some t54 := rfl
theorem A55 : A 55 = some t55 := rfl
theorem A56 : A 56 = some t56 := rfl
theorem A57 : A 57 = some t57 := rfl
theorem A65 : A 65 = some t65 := rfl
theorem A12 : A 12 = some t12 := rfl
theorem A27 : A 27 = some t27 := rfl
theorem A43 : A 43 = some t43 := rfl
theorem A44 : A 44 = some t44 := rfl
theorem A28 : A 28 = some t28 := rfl
theorem A13 : A 13 = some t13 := rfl
theorem A30 : A 30 = some t30 := rfl
theorem A29 : A 29 = some t29 := rfl
theorem A45 : A 45 = some t45 := rfl
theorem A19 : A 19 = some t19 := rfl
theorem A35 : A 35 = some t35 := rfl
theorem A33 : A 33 = some t33 := rfl
theorem A31 : A 31 = some t31 := rfl
theorem A46 : A 46 = some t46 := rfl
theorem A59 : A 59 = some t59 := rfl
theorem A47 : A 47 = some t47 := rfl
theorem A16 : A 16 = some t16 := rfl
theorem A10 : A 10 = some t10 := rfl
theorem A22 : A 22 = some t22 := rfl
theorem A11 : A 11 = some t11 := rfl
theorem A39 : A 39 = some t39 := rfl
theorem A58 : A 58 = some t58 := rfl
theorem A40 : A 40 = some t40 := rfl
theorem A23 : A 23 = some t23 := rfl
theorem A41 : A 41 = some t41 := rfl
theorem A42 : A 42 = some t42 := rfl
theorem A14 : A 14 = some t14 := rfl
theorem A32 : A 32 = some t32 := rfl
theorem A24 : A 24 = some t24 := rfl
theorem A25 : A 25 = some t25 := rfl
theorem A21 : A 21 = some t21 := rfl
theorem A17 : A 17 = some t17 := rfl
theorem A26 : A 26 = some t26 := rfl
end Go.Proofs.Ytdbbaopgmapmaaa
