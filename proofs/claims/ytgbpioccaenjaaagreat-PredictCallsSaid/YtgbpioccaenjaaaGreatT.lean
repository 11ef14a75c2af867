/- The functions of a program, compiled: printed by wip/hm/tools/Gen.lean. -/
import Derived.Test.YtgbpioccaenjaaaGreatT1
namespace Go.Proofs.YtgbpioccaenjaaaGreat
open Go Go.Hm
theorem c3 : compF Tryz.prog 3 ⟨[],[(7,7),(8,8),(9,9),(15,15),(16,16),(18,18),(19,19),(21,21),(23,23)],[],0,[],backIt,false,none⟩ [[0,1,2,3,4,5,6],[3,4,5,6,7,8,9],[],[3,4,5,6,7,8,9],[],[3,4,5,6,7,8,9],[3,4,5,6,7,8,9,15,16,17],[3,4,5,6,7,8,9,15,16,17,18,19,20],[3,4,5,6,7,8,9,15,16,17,18,19,20,21,22],[3,4,5,6,7,8,9,15,16,17,18,19,20,21,22,23,24]] true = some t3:=by kernel_rfl
theorem c4 : compF Tryz.prog 4 ⟨[],[(1,1),(2,2),(4,4),(5,5)],[],0,[],backIt,false,none⟩ [[],[],[2,3],[2,3,4,6]] true = some t4:=by kernel_rfl
theorem c20 : compF Tryz.prog 20 ⟨[],[(2,2)],[],0,[],backIt,false,none⟩ [[0],[0,2]] true = some t20:=by kernel_rfl
theorem c7 : compF Tryz.prog 7 ⟨[],[(1,1),(2,2),(3,3),(6,6)],[],0,[],backIt,false,none⟩ [[0],[1,2,3],[1,2,3,5],[2,3,5],[1,2,3],[1,2,3],[2,3,6,7],[2,3,6],[2,3]] true = some t7:=by kernel_rfl
theorem c22 : compF Tryz.prog 22 ⟨[1],[(5,1),(9,1),(14,1),(19,1),(24,1),(27,1),(29,1),(31,1),(33,1),(38,1),(4,4),(45,4),(49,4),(51,1),(56,4)],[],0,[],backIt,false,none⟩ [[0],[1],[],[1],[],[1],[],[1],[1,39,40,41],[1,39,40,41],[1,39,40,41],[1,4,39,40,41],[],[1,39,40,41],[]] true = some t22:=by kernel_rfl
theorem c40 : compF Tryz.prog 40 ⟨[],[],[],0,[],backIt,false,none⟩ [[0,1],[0,1]] true = some t40:=by kernel_rfl
theorem c64 : compF Tryz.prog 64 ⟨[],[],[],0,[],backIt,false,none⟩ [[0,1],[0,1],[0,1,7,8],[0,1,7,8],[0,1,7,8],[0,1,5,7,8],[5],[0,1,7,8],[]] true = some t64:=by kernel_rfl
theorem c41 : compF Tryz.prog 41 ⟨[],[(3,1)],[],0,[],backIt,false,none⟩ [[0],[1]] true = some t41:=by kernel_rfl
theorem c43 : compF Tryz.prog 43 ⟨[],[],[],0,[],backIt,false,none⟩ [[0,1],[0,1]] true = some t43:=by kernel_rfl
theorem c42 : compF Tryz.prog 42 ⟨[],[],[],0,[],backIt,false,none⟩ [[0,1],[0,1]] true = some t42:=by kernel_rfl
theorem c65 : compF Tryz.prog 65 ⟨[],[],[],0,[],backIt,false,none⟩ [[0,1],[0,1],[0,1,7,8],[0,1,7,8],[0,1,7,8],[0,1,5,7,8],[5],[0,1,7,8],[]] true = some t65:=by kernel_rfl
theorem c23 : compF Tryz.prog 23 ⟨[],[(1,1),(11,1),(6,6),(18,2),(20,1),(24,6),(28,6),(35,2),(2,2)],[],0,[],backIt,false,none⟩ [[0],[1,2],[1,2,3,4],[1,2,3,4,12,13,14],[1,2,3,4,12,13,14],[1,2,3,4,12,13,14],[1,2,3,4,6,12,13,14],[1,2,3,4,12,13,14],[2]] true = some t23:=by kernel_rfl
theorem c44 : compF Tryz.prog 44 ⟨[13],[(1,1),(11,1),(15,1),(6,6),(23,6),(29,6),(38,6),(46,6)],[],0,[],backIt,false,none⟩ [[0],[1],[],[1],[1,3],[1,3,4],[1,3,4],[1,3],[1,3,4],[1,3,4,16,17,18],[1,3,4,16,17,18],[1,3,4,16,17,18],[1,3,4,6,16,17,18],[1,3,4,6,7,16,17,18],[1,3,4,6,7,16,17,18],[1,3,4,16,17,18],[3]] true = some t44:=by kernel_rfl
theorem c67 : compF Tryz.prog 67 ⟨[],[(24,3),(29,3),(34,3)],[],0,[],backIt,false,none⟩ [[0,1,2],[1,2,3],[1,2,3,7],[1,3,7,12,13,14],[1,3,7,12,13,14],[1,3,7,12,13,14],[1,3,7,9,12,13,14],[1,3,7,9,10,12,13,14],[1,3,7,9,12,13,14],[1,3,7,10,12,13,14],[1,3,7,12,13,14],[7]] true = some t67:=by kernel_rfl
theorem c46 : compF Tryz.prog 46 ⟨[18],[],[],0,[],backIt,false,none⟩ [[0,1,2],[0,1,2],[],[0,1,2],[0,1,2],[0,1,2,7],[0,2,7,19,20,21],[0,2,7,19,20,21],[0,2,7,19,20,21],[0,2,7,9,19,20,21],[0,2,7,9,19,20,21],[0,2,7,9,19,20,21],[0,2,7,9,19,20,21,37,38,39],[0,2,7,9,19,20,21,37,38,39],[0,2,7,9,19,20,21,37,38,39],[0,2,7,9,11,19,20,21,37,38,39],[0,2,7,9,12,19,20,21,37,38,39],[0,2,7,9,19,20,21,37,38,39],[0,2,7,19,20,21],[7]] true = some t46:=by kernel_rfl
theorem c71 : compF Tryz.prog 71 ⟨[],[],[],0,[],backIt,false,none⟩ [[0,1],[0,1]] true = some t71:=by kernel_rfl
theorem c72 : compF Tryz.prog 72 ⟨[],[],[],0,[],backIt,false,none⟩ [[0,1],[0,6,7,8],[0,6,7,8],[0,6,7,8],[0,5,6,7,8],[0,6,7,8]] true = some t72:=by kernel_rfl
theorem c45 : compF Tryz.prog 45 ⟨[1,3,4,5,6,10,22],[(1,1),(3,3),(20,1),(4,4),(6,6),(44,1),(10,10),(55,1),(59,1),(66,1)],[],0,[],backIt,false,none⟩ [[0],[1,2],[],[1,2],[1,2,3],[1,2,3,4],[1,2,3,4],[1,2,3,4,5],[1,2,3,4,5],[1,2,3,4,5,6,7],[1,2,3,4,5,6,7],[1,2,3,4,5,6],[1,2,3,4,5,6,38,39,40],[1,2,3,4,5,6,38,39,40],[1,2,3,4,5,6,38,39,40],[1,2,3,4,5,6,9,38,39,40],[1,2,3,4,5,6,10,38,39,40],[1,2,3,4,5,6,10,38,39,40,51],[1,3,4,5,6,10,52,53],[1,3,4,5,6,10,11,53],[1,3,4,5,6,10,11,12],[1,3,4,5,6,10,11,12],[1,3,4,5,6,10,11,13],[4,5,13,14],[4,5,13,14],[5,13],[1,2,3,4,5,6,38,39,40],[1,2,3,4,5,6],[1,2,3,4,5,96],[1,2,3,4,5,6],[4]] true = some t45:=by kernel_rfl
theorem c68 : compF Tryz.prog 68 ⟨[],[],[],0,[],backIt,false,none⟩ [[0,1],[0,1],[0,1]] false = some t68:=by kernel_rfl
theorem c69 : compF Tryz.prog 69 ⟨[],[],[],0,[],backIt,false,none⟩ [[0],[0],[],[0],[0,4],[4]] false = some t69:=by kernel_rfl
theorem c36 : compF Tryz.prog 36 ⟨[],[(2,2),(10,2),(6,6),(18,6)],[],0,[],backIt,false,none⟩ [[0,1],[1,2,4],[],[1,2,4],[1,4,11,12,13],[1,4,11,12,13],[1,4,11,12,13],[1,4,5,6,11,12,13],[1,4,5,11,12,13],[1,4,11,12,13],[4]] true = some t36:=by kernel_rfl
theorem c70 : compF Tryz.prog 70 ⟨[1],[],[],0,[],backIt,false,none⟩ [[0],[1]] true = some t70:=by kernel_rfl
theorem c89 : compF Tryz.prog 89 ⟨[],[],[],0,[],backIt,false,none⟩ [[0,1],[0,1,3],[0,1,3],[0,1,3],[0,1,3]] true = some t89:=by kernel_rfl
theorem c47 : compF Tryz.prog 47 ⟨[3],[(3,3),(13,3)],[],0,[],backIt,false,none⟩ [[0,1,2],[1,2,3],[],[1,2,3]] true = some t47:=by kernel_rfl
theorem c74 : compF Tryz.prog 74 ⟨[],[],[],0,[],backIt,false,none⟩ [[0,1],[0,1]] true = some t74:=by kernel_rfl
theorem c16 : compF Tryz.prog 16 ⟨[],[(11,5),(14,4),(4,4),(26,5)],[],0,[],backIt,false,none⟩ [[0,1,2,3],[2,3,4,5],[],[2,3,4,5],[3,5,20,21,22],[3,5,20,21,22],[3,5,20,21,22],[3,5,10,20,21,22],[10],[3,5,20,21,22],[]] true = some t16:=by kernel_rfl
theorem c37 : compF Tryz.prog 37 ⟨[],[],[],0,[],backIt,false,none⟩ [[0,1],[0,1]] true = some t37:=by kernel_rfl
theorem c63 : compF Tryz.prog 63 ⟨[],[],[],0,[],backIt,false,none⟩ [[0,1],[0,1]] true = some t63:=by kernel_rfl
theorem c84 : compF Tryz.prog 84 ⟨[],[],[],0,[],backIt,false,none⟩ [[0,1],[0,1],[0,1,7,8],[0,1,7,8],[0,1,7,8],[0,1,5,7,8],[5],[0,1,7,8],[]] true = some t84:=by kernel_rfl
theorem c5 : compF Tryz.prog 5 ⟨[],[(4,1),(9,1),(15,1),(24,1),(34,1),(43,1),(47,1),(52,1),(57,1),(62,1),(66,1),(71,1),(77,1),(81,1)],[],0,[],backIt,false,none⟩ [[0],[1],[],[1],[1,3],[1,3],[1,3],[],[1,3],[1],[],[1]] true = some t5:=by kernel_rfl
theorem c6 : compF Tryz.prog 6 ⟨[],[(5,1),(11,1),(18,1)],[],0,[],backIt,false,none⟩ [[0],[1],[1,3],[1,3],[1,3],[],[1,3],[1]] true = some t6:=by kernel_rfl
theorem c21 : compF Tryz.prog 21 ⟨[],[],[],0,[],backIt,false,none⟩ [[0,1],[0,1],[0,1,5],[0,1,5],[0,1,5],[],[0,1,5],[0,1]] true = some t21:=by kernel_rfl
theorem c8 : compF Tryz.prog 8 ⟨[],[(4,1),(7,1),(9,1),(15,1),(18,1),(1,1),(2,2)],[],0,[],backIt,false,none⟩ [[0],[1,2],[1,2],[1,2,3],[1,2,3],[1,2,3],[1,2,3],[1,2]] true = some t8:=by kernel_rfl
theorem c25 : compF Tryz.prog 25 ⟨[],[],[],0,[],backIt,false,none⟩ [[0],[0]] false = some t25:=by kernel_rfl
theorem c26 : compF Tryz.prog 26 ⟨[],[],[],0,[],backIt,false,none⟩ [[0],[0]] true = some t26:=by kernel_rfl
theorem c9 : compF Tryz.prog 9 ⟨[],[(1,1),(2,2),(3,3),(6,6),(7,7)],[],0,[],backIt,false,none⟩ [[0],[1,2,3],[1,2,3,5],[2,3,5],[1,2,3],[1,2,3,6],[2,3,6,7,8],[2,3,7],[2,3,6]] true = some t9:=by kernel_rfl
theorem c27 : compF Tryz.prog 27 ⟨[],[(7,1),(11,1),(16,1),(21,1),(27,1),(33,1),(41,1),(45,1),(50,1),(55,1),(61,1),(67,1),(5,5),(72,5),(76,5),(78,1),(83,5),(89,5),(96,5),(101,1),(103,1)],[],0,[],backIt,false,none⟩ [[0],[1],[],[1],[1,3],[1,3],[1,3],[],[1,3],[1],[],[1],[1,4],[1,4],[1,4],[1,4,5],[],[1,4,5],[1,4,5,6],[1,4,5,6],[1,4,5,6],[],[1,4,5,6],[1,4],[]] true = some t27:=by kernel_rfl
theorem c28 : compF Tryz.prog 28 ⟨[],[(1,1),(5,5),(14,1),(20,1),(7,7),(25,5),(27,1),(31,7),(35,7),(42,5),(2,2)],[],0,[],backIt,false,none⟩ [[0],[1,2],[1,2,3,4],[1,2,3,4,5],[1,2,3,4,5,6],[1,2,3,4,5,6],[1,2,3,4,5,6],[1,2,3,4,5,6,7],[1,2,3,4,5,6],[2,5]] true = some t28:=by kernel_rfl
theorem c50 : compF Tryz.prog 50 ⟨[13],[(1,1),(11,1),(16,1),(22,1),(6,6),(28,6),(34,6),(43,6),(51,6)],[],0,[],backIt,false,none⟩ [[0],[1],[],[1],[1,3],[1,3,4],[1,3,4],[1,3],[1,3,4],[1,3,4,5],[1,3,4,5],[1,3,4,5],[1,3,4,5,6],[1,3,4,5,6,7],[1,3,4,5,6,7],[1,3,4,5],[3]] true = some t50:=by kernel_rfl
theorem c77 : compF Tryz.prog 77 ⟨[],[(20,3),(23,3),(35,3),(43,3)],[],0,[],backIt,false,none⟩ [[0,1,2],[1,2,3],[1,2,3,7],[1,2,3,7,8],[1,2,3,7,8],[1,2,3,7,8],[1,2,3,7,8],[1,2,3,7,8],[1,2,3,7,8],[7]] true = some t77:=by kernel_rfl
theorem c52 : compF Tryz.prog 52 ⟨[14],[],[],0,[],backIt,false,some 5⟩ [[0,1,2],[0,1,2],[0,1,2],[0,1,2,7],[0,1,2,7,8],[0,1,2,7,8,9],[0,1,2,7,8,9],[0,1,2,7,8,9],[0,1,2,7,8,9,10],[0,1,2,7,8,9,10],[0,1,2,7,8,9,10],[0,1,2,7,8,9,10,11],[0,1,2,7,8,9,10,11],[0,1,2,7,8,9,10,11],[0,1,2,7,8,9,10,11],[0,1,2,7,8,9],[8]] true = some t52:=by kernel_rfl
theorem c79 : compF Tryz.prog 79 ⟨[],[],[],0,[],backIt,false,none⟩ [[0,1,2],[0,1,2],[0,1,2],[0,1],[0,1],[1]] true = some t79:=by kernel_rfl
theorem c78 : compF Tryz.prog 78 ⟨[],[],[],0,[],backIt,false,none⟩ [[0,1,2],[0,1,2],[0],[0,1,2],[0,2]] false = some t78:=by kernel_rfl
theorem c80 : compF Tryz.prog 80 ⟨[],[],[],0,[],backIt,false,none⟩ [[0],[0],[0],[0],[3,4],[3,4,5],[3,4,5],[3,4,5],[3,4,5],[3,4,5],[3,4,5]] true = some t80:=by kernel_rfl
theorem c76 : compF Tryz.prog 76 ⟨[9],[],[],0,[],backIt,false,some 5⟩ [[0,1],[0,1],[0,1,5],[0,1,5,6],[0,1,5,6,7],[0,1,5,6,7],[0,1,5,6,7],[0,1,5,6,7],[1,5,6],[1,5,6,8],[1,5,6,8],[1,5,6,8],[1,5,6,8],[6]] true = some t76:=by kernel_rfl
theorem c51 : compF Tryz.prog 51 ⟨[19],[(1,1),(17,1),(27,1),(33,1),(7,7),(39,7),(45,7),(50,1),(57,7),(67,1),(71,7)],[],0,[],backIt,false,none⟩ [[0],[1],[],[1],[1,3],[1,3,4],[1,3,4],[1,3,4,5],[1,3,4,5],[1,3,4],[1,3,4,5],[1,3,4,5,6],[1,3,4,5,6],[1,3,4,5,6],[1,3,4,5,6,7],[1,3,4,5,6,7,8],[1,3,4,5,6,7,8],[1,3,4,5,6,7,8],[1,3,4,5,6,7,8,9],[1,3,4,5,6,7,8,9],[1,3,4,5,6,7,8,9,10],[1,3,4,5,6,7,8,9,11],[1,3,4,5,6,7,8,9,11],[1,3,4,5,6,7,8],[1,3,4,5,6],[4]] true = some t51:=by kernel_rfl
theorem c53 : compF Tryz.prog 53 ⟨[],[(3,3),(14,3),(34,3),(36,3)],[],0,[],backIt,false,none⟩ [[0,1,2],[1,2,3],[],[1,2,3],[1,2,3,7],[1,2,3,7],[1,2,3,7],[],[1,2,3,7],[1,2,3]] true = some t53:=by kernel_rfl
theorem c29 : compF Tryz.prog 29 ⟨[],[(11,2),(17,2),(26,2),(32,2),(41,2),(51,3),(60,3),(65,3),(77,3),(4,4)],[],0,[],backIt,false,none⟩ [[0,1],[2,3,4],[2,3,4,6],[2,3,4,6],[2,3,4,6],[2,3,4,6,7],[2,3,4,6,7],[2,3,4,6,7],[2,3,4,6,7,8],[2,3,4,6,7,8],[2,3,4,6,7,8],[2,3,4,6,7,8],[2,3,4,6,7,8,9],[2,3,4,6,7,8,9],[2,3,4,6,7,8,9],[3,4,6,7,8,9],[2,3,4,6,7,8,9],[2,3,4,6,7,8],[2,3,4,6,7],[2,3,4,6],[4]] true = some t29:=by kernel_rfl
theorem c38 : compF Tryz.prog 38 ⟨[],[],[],0,[],backIt,false,none⟩ [[0,1],[0,1],[0,1,5],[0,1,5],[0,1,5],[],[0,1,5],[]] true = some t38:=by kernel_rfl
theorem c10 : compF Tryz.prog 10 ⟨[],[(1,1),(4,4),(2,2)],[],0,[],backIt,false,none⟩ [[0],[1,2],[2,5]] true = some t10:=by kernel_rfl
theorem c11 : compF Tryz.prog 11 ⟨[],[(1,1),(4,4),(5,5),(2,2)],[],0,[],backIt,false,none⟩ [[0],[1,2],[2,5,6]] true = some t11:=by kernel_rfl
theorem c12 : compF Tryz.prog 12 ⟨[],[(7,2),(10,3),(15,2),(21,2),(27,3),(35,2),(44,2),(52,3)],[],0,[],backIt,false,none⟩ [[0,1],[2,3],[],[2,3],[2,3,5],[2,3,5],[2,3,5],[],[2,3,5],[2,3,5,6],[2,3,5,6],[2,3,5,6],[],[2,3,5,6],[2,3,5],[]] true = some t12:=by kernel_rfl
theorem c13 : compF Tryz.prog 13 ⟨[],[(1,1),(8,8),(9,9)],[],0,[],backIt,false,none⟩ [[0],[1],[1,3],[3],[1],[1,5],[],[1],[1,7],[],[1],[10]] true = some t13:=by kernel_rfl
theorem c30 : compF Tryz.prog 30 ⟨[],[(1,1),(14,1)],[],0,[],backIt,false,none⟩ [[0],[1],[],[1],[1,4,5],[4,5,15,16],[4,5,15,16],[4,5,15,16],[4,5,6,15,16],[6],[4,5,15,16],[]] true = some t30:=by kernel_rfl
theorem c54 : compF Tryz.prog 54 ⟨[],[(1,1)],[],0,[],backIt,false,none⟩ [[0],[1]] true = some t54:=by kernel_rfl
theorem c81 : compF Tryz.prog 81 ⟨[6,5,3,2,12],[(2,2),(10,2),(5,5),(6,6),(14,2)],[],0,[],backIt,false,none⟩ [[0,1],[2,3],[],[2,3],[2,3,5],[2,5,6],[5]] true = some t81:=by kernel_rfl
theorem c92 : compF Tryz.prog 92 ⟨[],[],[],0,[],backIt,false,none⟩ [[0,1,2,3],[0,1,2,3]] true = some t92:=by kernel_rfl
theorem c93 : compF Tryz.prog 93 ⟨[],[(6,3),(11,3),(17,3)],[],0,[],backIt,false,none⟩ [[0,1,2],[1,2,3],[],[1,3],[]] true = some t93:=by kernel_rfl
theorem c57 : compF Tryz.prog 57 ⟨[],[(6,6)],[],0,[],backIt,false,none⟩ [[0,1],[0,1,4],[0,1,4],[0,1],[0,1,4],[0,1,4,8,9,10],[0,1,4,8,9,10],[0,1,4,8,9,10],[0,1,4,6,8,9,10],[0,1,4,8,9,10]] true = some t57:=by kernel_rfl
theorem c55 : compF Tryz.prog 55 ⟨[1,3,9],[(1,1),(7,1),(3,3),(12,1)],[],0,[],backIt,false,none⟩ [[0],[1],[],[1],[1,3],[1,3],[3]] true = some t55:=by kernel_rfl
theorem c82 : compF Tryz.prog 82 ⟨[],[(8,3),(13,3)],[],0,[],backIt,false,none⟩ [[0,1,2],[1,2,3,4],[],[1,2,3,4],[1,2,4,14,15,16],[1,2,4,14,15,16],[1,2,4,14,15,16],[1,2,4,6,14,15,16],[1,2,6,14,15,16],[1,2,4,14,15,16],[4]] true = some t82:=by kernel_rfl
theorem c31 : compF Tryz.prog 31 ⟨[4,1,5,15,25],[(1,1),(4,4),(13,1),(5,5),(23,1),(28,1),(32,1)],[],0,[],backIt,false,none⟩ [[0],[1],[],[1],[1,4],[1,4,5],[1,4,5,17,18],[1,4,5,17,18],[1,4,5,17,18],[1,4,5,6,17,18],[1,4,5,17,18],[1,4,5],[1,5],[5,33,34],[5,33,34],[5,33,34],[5,7,33,34],[7],[5,33,34],[]] true = some t31:=by kernel_rfl
theorem c56 : compF Tryz.prog 56 ⟨[],[(1,1)],[],0,[],backIt,false,none⟩ [[0],[1]] true = some t56:=by kernel_rfl
theorem c58 : compF Tryz.prog 58 ⟨[],[(12,4),(18,4)],[],0,[],backIt,false,none⟩ [[0,1,2,3],[1,2,3,4,5],[1,2,3,4,5,6],[1,5,6,20,21,22],[1,5,6,20,21,22],[1,5,6,20,21,22],[1,5,6,8,20,21,22],[1,5,6,8,20,21,22,29,30,31],[1,5,6,8,20,21,22,29,30,31],[1,5,6,8,20,21,22,29,30,31],[1,5,6,8,9,10,20,21,22,29,30,31],[1,6,8,9,20,21,22,29,30,31],[1,5,6,8,20,21,22,29,30,31],[1,5,6,20,21,22],[5]] true = some t58:=by kernel_rfl
theorem c59 : compF Tryz.prog 59 ⟨[],[(16,3),(21,3),(28,3)],[],0,[],backIt,false,none⟩ [[0,1,2],[1,2,3,6],[1,3,6,9,10,11],[1,3,6,9,10,11],[1,3,6,9,10,11],[1,3,6,8,9,10,11],[1,3,6,8,9,10,11],[1,3,6,8,9,10,11],[1,3,6,9,10,11],[6]] true = some t59:=by kernel_rfl
theorem c14 : compF Tryz.prog 14 ⟨[],[(1,1)],[],0,[],backIt,false,none⟩ [[0],[1],[1,3],[3],[1],[1,5],[],[1],[1,7],[],[1],[3]] true = some t14:=by kernel_rfl
theorem c32 : compF Tryz.prog 32 ⟨[],[(1,1),(15,1)],[],0,[],backIt,false,none⟩ [[0],[1],[],[1],[1,4,5],[1,4,5,6],[1,4,5,6],[1,4,5,6],[6],[1,4,5,6],[]] true = some t32:=by kernel_rfl
theorem c60 : compF Tryz.prog 60 ⟨[],[(1,1)],[],0,[],backIt,false,none⟩ [[0],[1]] true = some t60:=by kernel_rfl
theorem c83 : compF Tryz.prog 83 ⟨[17],[(2,2),(15,2),(20,2),(26,2),(8,8),(32,8),(38,8),(47,8),(53,2),(61,2),(67,2),(76,8)],[],0,[],backIt,false,none⟩ [[0,1],[1,2],[],[1,2],[1,2,5],[1,2,5,6],[1,2,5,6],[1,2,5],[1,2,5,6],[1,2,5,6,7],[1,2,5,6,7],[1,2,5,6,7],[1,2,5,6,7,8],[1,2,5,6,7,8,9],[1,2,5,6,7,8,9,10],[1,2,5,6,7,8,9,10],[1,2,5,6,7,8,10],[1,2,5,6,7,8,10,11],[1,2,5,6,7,8,9,10],[1,2,5,6,7,8,9],[1,2,5,7,8],[1,2,5,6,7],[5]] true = some t83:=by kernel_rfl
theorem c61 : compF Tryz.prog 61 ⟨[14],[(1,1),(12,1),(19,1),(25,1),(6,6),(31,6),(37,6),(44,6),(49,1)],[],0,[],backIt,false,none⟩ [[0],[1],[],[1],[1,3],[1,3],[1,3,4],[1,3,4],[1,3],[1,3,4],[1,3,4,5],[1,3,4,5],[1,3,4,5],[1,3,4,5,6],[1,3,4,5,6,7],[1,3,4,5,6,7],[1,3,4,5,6,7],[1,3,4,5,6,7,8],[1,3,5,6,7,8],[1,3,4,5,6,7],[1,3,4,5],[3]] true = some t61:=by kernel_rfl
theorem c33 : compF Tryz.prog 33 ⟨[22,33],[(1,1),(20,1),(24,1),(31,1),(36,1),(42,1),(8,8),(48,8),(53,8),(58,1),(64,8),(69,1),(73,8),(85,1),(91,1),(97,1),(134,1)],[],0,[],backIt,false,none⟩ [[0],[1],[],[1],[1,4],[1,4,5],[1,4,5,6],[1,4,5,6],[1,4,5,6],[1,4,5,6],[1,4,5],[1,4,5,7],[1,4,5,7],[1,4,5,7],[1,4,5,7,8],[1,4,5,7,8,9],[1,4,5,7,8,9],[1,4,5,7,8,9],[1,4,5,7,8,9,10],[1,4,5,7,8,9,10],[1,4,5,7,8,9],[1,4,5,7],[1,5],[1,5,11],[1,5,11],[1,5,11],[1,5,11,12],[1,5,11,12],[1,5,11,12],[1,5,11,12,13],[1,5,11,12,13],[1,5,11,12,13],[1,5,11,12,13],[1,5,11,12],[1,5,11],[1,5],[1,5,14],[1,5,14],[1,5,14],[14],[1,5,14],[]] true = some t33:=by kernel_rfl
theorem c62 : compF Tryz.prog 62 ⟨[],[(1,1)],[],0,[],backIt,false,none⟩ [[0],[1]] true = some t62:=by kernel_rfl
theorem c15 : compF Tryz.prog 15 ⟨[],[(5,2),(7,3)],[],0,[],backIt,false,none⟩ [[0,1],[2,3]] true = some t15:=by kernel_rfl
theorem c34 : compF Tryz.prog 34 ⟨[],[],[],0,[],backIt,false,none⟩ [[0,1,2],[0,1,2],[],[0,1,2],[1,2,15,16,17],[1,2,15,16,17],[1,2,15,16,17],[1,2,7,8,15,16,17],[1,2,8,9,15,16,17],[],[1,2,15,16,17],[]] true = some t34:=by kernel_rfl
theorem c35 : compF Tryz.prog 35 ⟨[],[],[],0,[],backIt,false,none⟩ [[0,1],[0,1],[],[0,1],[0,1,12,13],[0,1,12,13],[0,1,12,13],[0,1,5,12,13],[],[0,1,12,13],[]] true = some t35:=by kernel_rfl
theorem c17 : compF Tryz.prog 17 ⟨[],[(4,4),(14,5),(17,4),(23,4),(29,4),(38,5)],[],0,[],backIt,false,none⟩ [[0,1,2,3],[2,3,4,5],[],[2,3,4,5],[2,3,4,5,9],[2,3,4,5,9],[2,3,4,5,9],[9],[2,3,4,5,9],[]] true = some t17:=by kernel_rfl
theorem c18 : compF Tryz.prog 18 ⟨[],[],[],0,[],backIt,false,none⟩ [[0,1],[0,1],[0,1,5],[5,13,14,15],[5,13,14,15],[5,13,14,15],[5,7,13,14,15],[5],[5,7,13,14,15],[5,13,14,15],[5,7,13,14,15],[5,13,14,15],[5]] true = some t18:=by kernel_rfl
theorem c39 : compF Tryz.prog 39 ⟨[],[],[],0,[],backIt,false,none⟩ [[0,1],[0,1]] true = some t39:=by kernel_rfl
theorem c19 : compF Tryz.prog 19 ⟨[],[],[],0,[],backIt,false,none⟩ [[0,1],[0,1],[0,1,5],[0,1,5,6],[0,1,5,6],[0,1,5,6],[5],[0,1,5,6],[0,1,5,6],[0,1,5,6],[0,1,5,6],[5]] true = some t19:=by kernel_rfl
theorem c75 : compF Tryz.prog 75 ⟨[],[],[],0,[],backIt,false,none⟩ [[0,1],[0,1,4],[0,1,4],[0,1,4],[0,1,4,6],[0],[0,1,4,6],[0,1,4],[0,1,4],[4]] true = some t75:=by kernel_rfl
theorem c91 : compF Tryz.prog 91 ⟨[],[],[],0,[],backIt,false,none⟩ [[0,1],[0,1],[0,1,5],[0,1,5,6],[6],[],[],[0,1,6],[],[0,1],[],[0,1],[],[]] true = some t91:=by kernel_rfl
theorem c99 : compF Tryz.prog 99 ⟨[],[],[],0,[],backIt,false,none⟩ [[0],[0]] true = some t99:=by kernel_rfl
def tab : List (Nat × AFn):=[(3,t3),(4,t4),(20,t20),(7,t7),(22,t22),(40,t40),(64,t64),(41,t41),(43,t43),(42,t42),(65,t65),(23,t23),(44,t44),(67,t67),(46,t46),(71,t71),(72,t72),(45,t45),(68,t68),(69,t69),(36,t36),(70,t70),(89,t89),(47,t47),(74,t74),(16,t16),(37,t37),(63,t63),(84,t84),(5,t5),(6,t6),(21,t21),(8,t8),(25,t25),(26,t26),(9,t9),(27,t27),(28,t28),(50,t50),(77,t77),(52,t52),(79,t79),(78,t78),(80,t80),(76,t76),(51,t51),(53,t53),(29,t29),(38,t38),(10,t10),(11,t11),(12,t12),(13,t13),(30,t30),(54,t54),(81,t81),(92,t92),(93,t93),(57,t57),(55,t55),(82,t82),(31,t31),(56,t56),(58,t58),(59,t59),(14,t14),(32,t32),(60,t60),(83,t83),(61,t61),(33,t33),(62,t62),(15,t15),(34,t34),(35,t35),(17,t17),(18,t18),(39,t39),(19,t19),(75,t75),(91,t91),(99,t99)]
def A : FuncId → Option AFn:=assoc tab
theorem fnsOk : FnsOk Tryz.prog A:=assoc_ok (mem_cons_ok ⟨_,_,c3,backIt_ok⟩ (mem_cons_ok ⟨_,_,c4,backIt_ok⟩ (mem_cons_ok ⟨_,_,c20,backIt_ok⟩ (mem_cons_ok ⟨_,_,c7,backIt_ok⟩ (mem_cons_ok ⟨_,_,c22,backIt_ok⟩ (mem_cons_ok ⟨_,_,c40,backIt_ok⟩ (mem_cons_ok ⟨_,_,c64,backIt_ok⟩ (mem_cons_ok ⟨_,_,c41,backIt_ok⟩ (mem_cons_ok ⟨_,_,c43,backIt_ok⟩ (mem_cons_ok ⟨_,_,c42,backIt_ok⟩ (mem_cons_ok ⟨_,_,c65,backIt_ok⟩ (mem_cons_ok ⟨_,_,c23,backIt_ok⟩ (mem_cons_ok ⟨_,_,c44,backIt_ok⟩ (mem_cons_ok ⟨_,_,c67,backIt_ok⟩ (mem_cons_ok ⟨_,_,c46,backIt_ok⟩ (mem_cons_ok ⟨_,_,c71,backIt_ok⟩ (mem_cons_ok ⟨_,_,c72,backIt_ok⟩ (mem_cons_ok ⟨_,_,c45,backIt_ok⟩ (mem_cons_ok ⟨_,_,c68,backIt_ok⟩ (mem_cons_ok ⟨_,_,c69,backIt_ok⟩ (mem_cons_ok ⟨_,_,c36,backIt_ok⟩ (mem_cons_ok ⟨_,_,c70,backIt_ok⟩ (mem_cons_ok ⟨_,_,c89,backIt_ok⟩ (mem_cons_ok ⟨_,_,c47,backIt_ok⟩ (mem_cons_ok ⟨_,_,c74,backIt_ok⟩ (mem_cons_ok ⟨_,_,c16,backIt_ok⟩ (mem_cons_ok ⟨_,_,c37,backIt_ok⟩ (mem_cons_ok ⟨_,_,c63,backIt_ok⟩ (mem_cons_ok ⟨_,_,c84,backIt_ok⟩ (mem_cons_ok ⟨_,_,c5,backIt_ok⟩ (mem_cons_ok ⟨_,_,c6,backIt_ok⟩ (mem_cons_ok ⟨_,_,c21,backIt_ok⟩ (mem_cons_ok ⟨_,_,c8,backIt_ok⟩ (mem_cons_ok ⟨_,_,c25,backIt_ok⟩ (mem_cons_ok ⟨_,_,c26,backIt_ok⟩ (mem_cons_ok ⟨_,_,c9,backIt_ok⟩ (mem_cons_ok ⟨_,_,c27,backIt_ok⟩ (mem_cons_ok ⟨_,_,c28,backIt_ok⟩ (mem_cons_ok ⟨_,_,c50,backIt_ok⟩ (mem_cons_ok ⟨_,_,c77,backIt_ok⟩ (mem_cons_ok ⟨_,_,c52,backIt_ok⟩ (mem_cons_ok ⟨_,_,c79,backIt_ok⟩ (mem_cons_ok ⟨_,_,c78,backIt_ok⟩ (mem_cons_ok ⟨_,_,c80,backIt_ok⟩ (mem_cons_ok ⟨_,_,c76,backIt_ok⟩ (mem_cons_ok ⟨_,_,c51,backIt_ok⟩ (mem_cons_ok ⟨_,_,c53,backIt_ok⟩ (mem_cons_ok ⟨_,_,c29,backIt_ok⟩ (mem_cons_ok ⟨_,_,c38,backIt_ok⟩ (mem_cons_ok ⟨_,_,c10,backIt_ok⟩ (mem_cons_ok ⟨_,_,c11,backIt_ok⟩ (mem_cons_ok ⟨_,_,c12,backIt_ok⟩ (mem_cons_ok ⟨_,_,c13,backIt_ok⟩ (mem_cons_ok ⟨_,_,c30,backIt_ok⟩ (mem_cons_ok ⟨_,_,c54,backIt_ok⟩ (mem_cons_ok ⟨_,_,c81,backIt_ok⟩ (mem_cons_ok ⟨_,_,c92,backIt_ok⟩ (mem_cons_ok ⟨_,_,c93,backIt_ok⟩ (mem_cons_ok ⟨_,_,c57,backIt_ok⟩ (mem_cons_ok ⟨_,_,c55,backIt_ok⟩ (mem_cons_ok ⟨_,_,c82,backIt_ok⟩ (mem_cons_ok ⟨_,_,c31,backIt_ok⟩ (mem_cons_ok ⟨_,_,c56,backIt_ok⟩ (mem_cons_ok ⟨_,_,c58,backIt_ok⟩ (mem_cons_ok ⟨_,_,c59,backIt_ok⟩ (mem_cons_ok ⟨_,_,c14,backIt_ok⟩ (mem_cons_ok ⟨_,_,c32,backIt_ok⟩ (mem_cons_ok ⟨_,_,c60,backIt_ok⟩ (mem_cons_ok ⟨_,_,c83,backIt_ok⟩ (mem_cons_ok ⟨_,_,c61,backIt_ok⟩ (mem_cons_ok ⟨_,_,c33,backIt_ok⟩ (mem_cons_ok ⟨_,_,c62,backIt_ok⟩ (mem_cons_ok ⟨_,_,c15,backIt_ok⟩ (mem_cons_ok ⟨_,_,c34,backIt_ok⟩ (mem_cons_ok ⟨_,_,c35,backIt_ok⟩ (mem_cons_ok ⟨_,_,c17,backIt_ok⟩ (mem_cons_ok ⟨_,_,c18,backIt_ok⟩ (mem_cons_ok ⟨_,_,c39,backIt_ok⟩ (mem_cons_ok ⟨_,_,c19,backIt_ok⟩ (mem_cons_ok ⟨_,_,c75,backIt_ok⟩ (mem_cons_ok ⟨_,_,c91,backIt_ok⟩ (mem_cons_ok ⟨_,_,c99,backIt_ok⟩ (mem_nil_ok)))))))))))))))))))))))))))))))))))))))))))))))))))))))))))))))))))))))))))))))))))
def prims : List (Nat × Nat × Nat):=[]
theorem primsOk : ∀ p ∈ prims,IsClone Tryz.prog p:=fun _ h => by cases h
abbrev X0 : Orc:=withRows 73 66 (primX prims)
noncomputable abbrev C0 : Orc:=callW X0 A
theorem x0Ok : OrcOk Tryz.prog X0:=withRows_ok (by decide) (by decide) sortsKeys unites (primX_ok (by kernel_rfl) primsOk)
theorem x0Fr : OrcFr X0:=withRows_fr (primX_fr _)
theorem orcOk0 : OrcOk Tryz.prog C0:=callW_ok (by kernel_rfl) x0Ok x0Fr fnsOk
abbrev X : Orc:=withFun 24 conflictG <| withFun 8 ownG <| X0
noncomputable abbrev C : Orc:=callW X A
theorem laidOut : laidOutB Tryz.prog = true:=by kernel_rfl
theorem own : ownKnob Tryz.prog.godebug = none:=by kernel_rfl
theorem A3 : A 3 = some t3:=rfl
theorem A4 : A 4 = some t4:=rfl
theorem A20 : A 20 = some t20:=rfl
theorem A7 : A 7 = some t7:=rfl
theorem A22 : A 22 = some t22:=rfl
theorem A40 : A 40 = some t40:=rfl
theorem A64 : A 64 = some t64:=rfl
theorem A41 : A 41 = some t41:=rfl
theorem A43 : A 43 = some t43:=rfl
theorem A42 : A 42 = some t42:=rfl
theorem A65 : A 65 = some t65:=rfl
theorem A23 : A 23 = some t23:=rfl
theorem A44 : A 44 = some t44:=rfl
theorem A67 : A 67 = some t67:=rfl
theorem A46 : A 46 = some t46:=rfl
theorem A71 : A 71 = some t71:=rfl
theorem A72 : A 72 = some t72:=rfl
theorem A45 : A 45 = some t45:=rfl
theorem A68 : A 68 = some t68:=rfl
theorem A69 : A 69 = some t69:=rfl
theorem A36 : A 36 = some t36:=rfl
theorem A70 : A 70 = some t70:=rfl
theorem A47 : A 47 = some t47:=rfl
theorem A74 : A 74 = some t74:=rfl
theorem A16 : A 16 = some t16:=rfl
theorem A37 : A 37 = some t37:=rfl
theorem A63 : A 63 = some t63:=rfl
theorem A84 : A 84 = some t84:=rfl
theorem A5 : A 5 = some t5:=rfl
theorem A6 : A 6 = some t6:=rfl
theorem A21 : A 21 = some t21:=rfl
theorem A8 : A 8 = some t8:=rfl
theorem A25 : A 25 = some t25:=rfl
theorem A26 : A 26 = some t26:=rfl
theorem A9 : A 9 = some t9:=rfl
theorem A27 : A 27 = some t27:=rfl
theorem A28 : A 28 = some t28:=rfl
theorem A50 : A 50 = some t50:=rfl
theorem A77 : A 77 = some t77:=rfl
theorem A52 : A 52 = some t52:=rfl
theorem A79 : A 79 = some t79:=rfl
theorem A78 : A 78 = some t78:=rfl
theorem A80 : A 80 = some t80:=rfl
theorem A76 : A 76 = some t76:=rfl
theorem A51 : A 51 = some t51:=rfl
theorem A53 : A 53 = some t53:=rfl
theorem A29 : A 29 = some t29:=rfl
theorem A38 : A 38 = some t38:=rfl
theorem A10 : A 10 = some t10:=rfl
theorem A11 : A 11 = some t11:=rfl
theorem A12 : A 12 = some t12:=rfl
theorem A13 : A 13 = some t13:=rfl
theorem A30 : A 30 = some t30:=rfl
theorem A54 : A 54 = some t54:=rfl
theorem A81 : A 81 = some t81:=rfl
theorem A92 : A 92 = some t92:=rfl
theorem A93 : A 93 = some t93:=rfl
theorem A57 : A 57 = some t57:=rfl
theorem A55 : A 55 = some t55:=rfl
theorem A82 : A 82 = some t82:=rfl
theorem A31 : A 31 = some t31:=rfl
theorem A56 : A 56 = some t56:=rfl
theorem A58 : A 58 = some t58:=rfl
theorem A59 : A 59 = some t59:=rfl
theorem A14 : A 14 = some t14:=rfl
theorem A32 : A 32 = some t32:=rfl
theorem A60 : A 60 = some t60:=rfl
theorem A83 : A 83 = some t83:=rfl
theorem A61 : A 61 = some t61:=rfl
theorem A33 : A 33 = some t33:=rfl
theorem A62 : A 62 = some t62:=rfl
theorem A15 : A 15 = some t15:=rfl
theorem A34 : A 34 = some t34:=rfl
theorem A35 : A 35 = some t35:=rfl
theorem A17 : A 17 = some t17:=rfl
theorem A18 : A 18 = some t18:=rfl
theorem A39 : A 39 = some t39:=rfl
theorem A19 : A 19 = some t19:=rfl
theorem A75 : A 75 = some t75:=rfl
theorem A91 : A 91 = some t91:=rfl
theorem A99 : A 99 = some t99:=rfl
end Go.Proofs.YtgbpioccaenjaaaGreat
