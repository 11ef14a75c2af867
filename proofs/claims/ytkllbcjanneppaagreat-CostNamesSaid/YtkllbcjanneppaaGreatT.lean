/- The functions of a program, compiled: printed by wip/hm/tools/Gen.lean. -/
import Derived.Test.YtkllbcjanneppaaGreatT1
namespace Go.Proofs.YtkllbcjanneppaaGreat
open Go Go.Hm
theorem c3 : compF Tryz.prog 3 ⟨[],[(1,1),(8,8),(9,9)],[],0,[],backIt,false,none⟩ [[],[],[],[],[1],[1,2,3],[1,2,3,5],[1,2,3,5,7],[1,2,3,5,7,8],[1,2,3,5,7,8,9]] true = some t3:=by kernel_rfl
theorem c9 : compF Tryz.prog 9 ⟨[],[],[],0,[],backIt,false,none⟩ [[],[],[1,2],[1,2,3,4]] true = some t9:=by kernel_rfl
theorem c10 : compF Tryz.prog 10 ⟨[],[(0,0)],[],0,[],backIt,false,none⟩ [[],[0]] true = some t10:=by kernel_rfl
theorem c12 : compF Tryz.prog 12 ⟨[],[(1,1),(3,3),(4,4),(2,2)],[],0,[],backIt,false,none⟩ [[0],[1,2],[2,3]] true = some t12:=by kernel_rfl
theorem c30 : compF Tryz.prog 30 ⟨[],[(1,1),(2,2),(3,3),(6,6),(7,7)],[],0,[],backIt,false,none⟩ [[0],[1,2,3],[1,2,3,5],[2,3,5],[1,2,3],[1,2,3,6],[2,3,6,7,8],[2,3,7],[2,3,6]] true = some t30:=by kernel_rfl
theorem c39 : compF Tryz.prog 39 ⟨[],[(7,1),(11,1),(16,1),(21,1),(27,1),(33,1),(41,1),(45,1),(50,1),(55,1),(61,1),(67,1),(5,5),(72,5),(76,5),(78,1),(83,5),(89,5),(96,5),(101,1),(103,1)],[],0,[],backIt,false,none⟩ [[0],[1],[],[1],[1,3],[1,3],[1,3],[],[1,3],[1],[],[1],[1,4],[1,4],[1,4],[1,4,5],[],[1,4,5],[1,4,5,6],[1,4,5,6],[1,4,5,6],[],[1,4,5,6],[1,4],[]] true = some t39:=by kernel_rfl
theorem c46 : compF Tryz.prog 46 ⟨[],[(1,1),(5,5),(14,1),(20,1),(7,7),(25,5),(27,1),(31,7),(35,7),(42,5),(2,2)],[],0,[],backIt,false,none⟩ [[0],[1,2],[1,2,3,4],[1,2,3,4,5],[1,2,3,4,5,6],[1,2,3,4,5,6],[1,2,3,4,5,6],[1,2,3,4,5,6,7],[1,2,3,4,5,6],[2,5]] true = some t46:=by kernel_rfl
theorem c65 : compF Tryz.prog 65 ⟨[13],[(1,1),(11,1),(16,1),(22,1),(6,6),(28,6),(34,6),(43,6),(51,6)],[],0,[],backIt,false,none⟩ [[0],[1],[],[1],[1,3],[1,3,4],[1,3,4],[1,3],[1,3,4],[1,3,4,5],[1,3,4,5],[1,3,4,5],[1,3,4,5,6],[1,3,4,5,6,7],[1,3,4,5,6,7],[1,3,4,5],[3]] true = some t65:=by kernel_rfl
theorem c92 : compF Tryz.prog 92 ⟨[],[(20,3),(23,3),(35,3),(43,3)],[],0,[],backIt,false,none⟩ [[0,1,2],[1,2,3],[1,2,3,7],[1,2,3,7,8],[1,2,3,7,8],[1,2,3,7,8],[1,2,3,7,8],[1,2,3,7,8],[1,2,3,7,8],[7]] true = some t92:=by kernel_rfl
theorem c67 : compF Tryz.prog 67 ⟨[14],[],[],0,[],backIt,false,some 5⟩ [[0,1,2],[0,1,2],[0,1,2],[0,1,2,7],[0,1,2,7,8],[0,1,2,7,8,9],[0,1,2,7,8,9],[0,1,2,7,8,9],[0,1,2,7,8,9,10],[0,1,2,7,8,9,10],[0,1,2,7,8,9,10],[0,1,2,7,8,9,10,11],[0,1,2,7,8,9,10,11],[0,1,2,7,8,9,10,11],[0,1,2,7,8,9,10,11],[0,1,2,7,8,9],[8]] true = some t67:=by kernel_rfl
theorem c94 : compF Tryz.prog 94 ⟨[],[],[],0,[],backIt,false,none⟩ [[0,1,2],[0,1,2],[0,1,2],[0,1],[0,1],[1]] true = some t94:=by kernel_rfl
theorem c93 : compF Tryz.prog 93 ⟨[],[],[],0,[],backIt,false,none⟩ [[0,1,2],[0,1,2],[0],[0,1,2],[0,2]] false = some t93:=by kernel_rfl
theorem c95 : compF Tryz.prog 95 ⟨[],[],[],0,[],backIt,false,none⟩ [[0],[0],[0],[0],[3,4],[3,4,5],[3,4,5],[3,4,5],[3,4,5],[3,4,5],[3,4,5]] true = some t95:=by kernel_rfl
theorem c91 : compF Tryz.prog 91 ⟨[9],[],[],0,[],backIt,false,some 5⟩ [[0,1],[0,1],[0,1,5],[0,1,5,6],[0,1,5,6,7],[0,1,5,6,7],[0,1,5,6,7],[0,1,5,6,7],[1,5,6],[1,5,6,8],[1,5,6,8],[1,5,6,8],[1,5,6,8],[6]] true = some t91:=by kernel_rfl
theorem c66 : compF Tryz.prog 66 ⟨[19],[(1,1),(17,1),(27,1),(33,1),(7,7),(39,7),(45,7),(50,1),(57,7),(67,1),(71,7)],[],0,[],backIt,false,none⟩ [[0],[1],[],[1],[1,3],[1,3,4],[1,3,4],[1,3,4,5],[1,3,4,5],[1,3,4],[1,3,4,5],[1,3,4,5,6],[1,3,4,5,6],[1,3,4,5,6],[1,3,4,5,6,7],[1,3,4,5,6,7,8],[1,3,4,5,6,7,8],[1,3,4,5,6,7,8],[1,3,4,5,6,7,8,9],[1,3,4,5,6,7,8,9],[1,3,4,5,6,7,8,9,10],[1,3,4,5,6,7,8,9,11],[1,3,4,5,6,7,8,9,11],[1,3,4,5,6,7,8],[1,3,4,5,6],[4]] true = some t66:=by kernel_rfl
theorem c68 : compF Tryz.prog 68 ⟨[],[(3,3),(14,3),(34,3),(36,3)],[],0,[],backIt,false,none⟩ [[0,1,2],[1,2,3],[],[1,2,3],[1,2,3,7],[1,2,3,7],[1,2,3,7],[],[1,2,3,7],[1,2,3]] true = some t68:=by kernel_rfl
theorem c47 : compF Tryz.prog 47 ⟨[],[(11,2),(17,2),(26,2),(32,2),(41,2),(51,3),(60,3),(65,3),(77,3),(4,4)],[],0,[],backIt,false,none⟩ [[0,1],[2,3,4],[2,3,4,6],[2,3,4,6],[2,3,4,6],[2,3,4,6,7],[2,3,4,6,7],[2,3,4,6,7],[2,3,4,6,7,8],[2,3,4,6,7,8],[2,3,4,6,7,8],[2,3,4,6,7,8],[2,3,4,6,7,8,9],[2,3,4,6,7,8,9],[2,3,4,6,7,8,9],[3,4,6,7,8,9],[2,3,4,6,7,8,9],[2,3,4,6,7,8],[2,3,4,6,7],[2,3,4,6],[4]] true = some t47:=by kernel_rfl
theorem c69 : compF Tryz.prog 69 ⟨[],[],[],0,[],backIt,false,none⟩ [[0,1],[0,1],[0,1,5],[0,1,5],[0,1,5],[],[0,1,5],[]] true = some t69:=by kernel_rfl
theorem c11 : compF Tryz.prog 11 ⟨[],[(3,3),(4,4)],[],0,[],backIt,false,none⟩ [[0,1,2],[2,3,4],[8],[],[8]] true = some t11:=by kernel_rfl
theorem c29 : compF Tryz.prog 29 ⟨[36,34],[(3,3),(7,7),(8,8),(4,4),(32,3),(39,36),(48,36)],[],0,[],backIt,false,none⟩ [[0,1,2],[2,3,4],[],[2,3,4],[2,3,4,7],[],[2,3,4],[10,36],[10,36],[10,36],[],[10,36],[],[10,36]] true = some t29:=by kernel_rfl
theorem c31 : compF Tryz.prog 31 ⟨[],[(1,1),(8,8),(9,9)],[],0,[],backIt,false,none⟩ [[0],[1],[1,3],[3],[1],[1,5],[],[1],[1,7],[],[1],[10]] true = some t31:=by kernel_rfl
theorem c48 : compF Tryz.prog 48 ⟨[1],[(5,1),(9,1),(14,1),(19,1),(24,1),(27,1),(29,1),(31,1),(33,1),(38,1),(4,4),(45,4),(49,4),(51,1),(56,4)],[],0,[],backIt,false,none⟩ [[0],[1],[],[1],[],[1],[],[1],[1,39,40,41],[1,39,40,41],[1,39,40,41],[1,4,39,40,41],[],[1,39,40,41],[]] true = some t48:=by kernel_rfl
theorem c70 : compF Tryz.prog 70 ⟨[],[],[],0,[],backIt,false,none⟩ [[0,1],[0,1]] true = some t70:=by kernel_rfl
theorem c96 : compF Tryz.prog 96 ⟨[],[],[],0,[],backIt,false,none⟩ [[0,1],[0,1],[0,1,7,8],[0,1,7,8],[0,1,7,8],[0,1,5,7,8],[5],[0,1,7,8],[]] true = some t96:=by kernel_rfl
theorem c71 : compF Tryz.prog 71 ⟨[],[(3,1)],[],0,[],backIt,false,none⟩ [[0],[1]] true = some t71:=by kernel_rfl
theorem c73 : compF Tryz.prog 73 ⟨[],[],[],0,[],backIt,false,none⟩ [[0,1],[0,1]] true = some t73:=by kernel_rfl
theorem c72 : compF Tryz.prog 72 ⟨[],[],[],0,[],backIt,false,none⟩ [[0,1],[0,1]] true = some t72:=by kernel_rfl
theorem c97 : compF Tryz.prog 97 ⟨[],[],[],0,[],backIt,false,none⟩ [[0,1],[0,1],[0,1,7,8],[0,1,7,8],[0,1,7,8],[0,1,5,7,8],[5],[0,1,7,8],[]] true = some t97:=by kernel_rfl
theorem c49 : compF Tryz.prog 49 ⟨[],[(1,1),(14,1)],[],0,[],backIt,false,none⟩ [[0],[1],[],[1],[1,4,5],[4,5,15,16],[4,5,15,16],[4,5,15,16],[4,5,6,15,16],[6],[4,5,15,16],[]] true = some t49:=by kernel_rfl
theorem c74 : compF Tryz.prog 74 ⟨[],[(1,1)],[],0,[],backIt,false,none⟩ [[0],[1]] true = some t74:=by kernel_rfl
theorem c52 : compF Tryz.prog 52 ⟨[6,5,3,2,12],[(2,2),(10,2),(5,5),(6,6),(14,2)],[],0,[],backIt,false,none⟩ [[0,1],[2,3],[],[2,3],[2,3,5],[2,5,6],[5]] true = some t52:=by kernel_rfl
theorem c81 : compF Tryz.prog 81 ⟨[],[],[],0,[],backIt,false,none⟩ [[0,1,2,3],[0,1,2,3]] true = some t81:=by kernel_rfl
theorem c82 : compF Tryz.prog 82 ⟨[],[(6,3),(11,3),(17,3)],[],0,[],backIt,false,none⟩ [[0,1,2],[1,2,3],[],[1,3],[]] true = some t82:=by kernel_rfl
theorem c76 : compF Tryz.prog 76 ⟨[],[(6,6)],[],0,[],backIt,false,none⟩ [[0,1],[0,1,4],[0,1,4],[0,1],[0,1,4],[0,1,4,8,9,10],[0,1,4,8,9,10],[0,1,4,8,9,10],[0,1,4,6,8,9,10],[0,1,4,8,9,10]] true = some t76:=by kernel_rfl
theorem c75 : compF Tryz.prog 75 ⟨[1,3,9],[(1,1),(7,1),(3,3),(12,1)],[],0,[],backIt,false,none⟩ [[0],[1],[],[1],[1,3],[1,3],[3]] true = some t75:=by kernel_rfl
theorem c98 : compF Tryz.prog 98 ⟨[],[(8,3),(13,3)],[],0,[],backIt,false,none⟩ [[0,1,2],[1,2,3,4],[],[1,2,3,4],[1,2,4,14,15,16],[1,2,4,14,15,16],[1,2,4,14,15,16],[1,2,4,6,14,15,16],[1,2,6,14,15,16],[1,2,4,14,15,16],[4]] true = some t98:=by kernel_rfl
theorem c50 : compF Tryz.prog 50 ⟨[4,1,5,15,25],[(1,1),(4,4),(13,1),(5,5),(23,1),(28,1),(32,1)],[],0,[],backIt,false,none⟩ [[0],[1],[],[1],[1,4],[1,4,5],[1,4,5,17,18],[1,4,5,17,18],[1,4,5,17,18],[1,4,5,6,17,18],[1,4,5,17,18],[1,4,5],[1,5],[5,33,34],[5,33,34],[5,33,34],[5,7,33,34],[7],[5,33,34],[]] true = some t50:=by kernel_rfl
theorem c34 : compF Tryz.prog 34 ⟨[],[(1,1)],[],0,[],backIt,false,none⟩ [[0],[1]] true = some t34:=by kernel_rfl
theorem c77 : compF Tryz.prog 77 ⟨[],[(12,4),(18,4)],[],0,[],backIt,false,none⟩ [[0,1,2,3],[1,2,3,4,5],[1,2,3,4,5,6],[1,5,6,20,21,22],[1,5,6,20,21,22],[1,5,6,20,21,22],[1,5,6,8,20,21,22],[1,5,6,8,20,21,22,29,30,31],[1,5,6,8,20,21,22,29,30,31],[1,5,6,8,20,21,22,29,30,31],[1,5,6,8,9,10,20,21,22,29,30,31],[1,6,8,9,20,21,22,29,30,31],[1,5,6,8,20,21,22,29,30,31],[1,5,6,20,21,22],[5]] true = some t77:=by kernel_rfl
theorem c78 : compF Tryz.prog 78 ⟨[],[(16,3),(21,3),(28,3)],[],0,[],backIt,false,none⟩ [[0,1,2],[1,2,3,6],[1,3,6,9,10,11],[1,3,6,9,10,11],[1,3,6,9,10,11],[1,3,6,8,9,10,11],[1,3,6,8,9,10,11],[1,3,6,8,9,10,11],[1,3,6,9,10,11],[6]] true = some t78:=by kernel_rfl
theorem c43 : compF Tryz.prog 43 ⟨[],[(1,1),(2,2),(3,3),(6,6)],[],0,[],backIt,false,none⟩ [[0],[1,2,3],[1,2,3,5],[2,3,5],[1,2,3],[1,2,3],[2,3,6,7],[2,3,6],[2,3]] true = some t43:=by kernel_rfl
theorem c59 : compF Tryz.prog 59 ⟨[],[(1,1),(11,1),(6,6),(18,2),(20,1),(24,6),(28,6),(35,2),(2,2)],[],0,[],backIt,false,none⟩ [[0],[1,2],[1,2,3,4],[1,2,3,4,12,13,14],[1,2,3,4,12,13,14],[1,2,3,4,12,13,14],[1,2,3,4,6,12,13,14],[1,2,3,4,12,13,14],[2]] true = some t59:=by kernel_rfl
theorem c83 : compF Tryz.prog 83 ⟨[13],[(1,1),(11,1),(15,1),(6,6),(23,6),(29,6),(38,6),(46,6)],[],0,[],backIt,false,none⟩ [[0],[1],[],[1],[1,3],[1,3,4],[1,3,4],[1,3],[1,3,4],[1,3,4,16,17,18],[1,3,4,16,17,18],[1,3,4,16,17,18],[1,3,4,6,16,17,18],[1,3,4,6,7,16,17,18],[1,3,4,6,7,16,17,18],[1,3,4,16,17,18],[3]] true = some t83:=by kernel_rfl
theorem c100 : compF Tryz.prog 100 ⟨[],[(24,3),(29,3),(34,3)],[],0,[],backIt,false,none⟩ [[0,1,2],[1,2,3],[1,2,3,7],[1,3,7,12,13,14],[1,3,7,12,13,14],[1,3,7,12,13,14],[1,3,7,9,12,13,14],[1,3,7,9,10,12,13,14],[1,3,7,9,12,13,14],[1,3,7,10,12,13,14],[1,3,7,12,13,14],[7]] true = some t100:=by kernel_rfl
theorem c85 : compF Tryz.prog 85 ⟨[18],[],[],0,[],backIt,false,none⟩ [[0,1,2],[0,1,2],[],[0,1,2],[0,1,2],[0,1,2,7],[0,2,7,19,20,21],[0,2,7,19,20,21],[0,2,7,19,20,21],[0,2,7,9,19,20,21],[0,2,7,9,19,20,21],[0,2,7,9,19,20,21],[0,2,7,9,19,20,21,37,38,39],[0,2,7,9,19,20,21,37,38,39],[0,2,7,9,19,20,21,37,38,39],[0,2,7,9,11,19,20,21,37,38,39],[0,2,7,9,12,19,20,21,37,38,39],[0,2,7,9,19,20,21,37,38,39],[0,2,7,19,20,21],[7]] true = some t85:=by kernel_rfl
theorem c103 : compF Tryz.prog 103 ⟨[],[],[],0,[],backIt,false,none⟩ [[0,1],[0,1]] true = some t103:=by kernel_rfl
theorem c104 : compF Tryz.prog 104 ⟨[],[],[],0,[],backIt,false,none⟩ [[0,1],[0,6,7,8],[0,6,7,8],[0,6,7,8],[0,5,6,7,8],[0,6,7,8]] true = some t104:=by kernel_rfl
theorem c84 : compF Tryz.prog 84 ⟨[1,3,4,5,6,10,22],[(1,1),(3,3),(20,1),(4,4),(6,6),(44,1),(10,10),(55,1),(59,1),(66,1)],[],0,[],backIt,false,none⟩ [[0],[1,2],[],[1,2],[1,2,3],[1,2,3,4],[1,2,3,4],[1,2,3,4,5],[1,2,3,4,5],[1,2,3,4,5,6,7],[1,2,3,4,5,6,7],[1,2,3,4,5,6],[1,2,3,4,5,6,38,39,40],[1,2,3,4,5,6,38,39,40],[1,2,3,4,5,6,38,39,40],[1,2,3,4,5,6,9,38,39,40],[1,2,3,4,5,6,10,38,39,40],[1,2,3,4,5,6,10,38,39,40,51],[1,3,4,5,6,10,52,53],[1,3,4,5,6,10,11,53],[1,3,4,5,6,10,11,12],[1,3,4,5,6,10,11,12],[1,3,4,5,6,10,11,13],[4,5,13,14],[4,5,13,14],[5,13],[1,2,3,4,5,6,38,39,40],[1,2,3,4,5,6],[1,2,3,4,5,96],[1,2,3,4,5,6],[4]] true = some t84:=by kernel_rfl
theorem c101 : compF Tryz.prog 101 ⟨[],[],[],0,[],backIt,false,none⟩ [[0,1],[0,1],[0,1]] false = some t101:=by kernel_rfl
theorem c102 : compF Tryz.prog 102 ⟨[],[],[],0,[],backIt,false,none⟩ [[0],[0],[],[0],[0,4],[4]] false = some t102:=by kernel_rfl
theorem c53 : compF Tryz.prog 53 ⟨[],[(2,2),(10,2),(6,6),(18,6)],[],0,[],backIt,false,none⟩ [[0,1],[1,2,4],[],[1,2,4],[1,4,11,12,13],[1,4,11,12,13],[1,4,11,12,13],[1,4,5,6,11,12,13],[1,4,5,11,12,13],[1,4,11,12,13],[4]] true = some t53:=by kernel_rfl
theorem c64 : compF Tryz.prog 64 ⟨[1],[],[],0,[],backIt,false,none⟩ [[0],[1]] true = some t64:=by kernel_rfl
theorem c90 : compF Tryz.prog 90 ⟨[],[],[],0,[],backIt,false,none⟩ [[0,1],[0,1,3],[0,1,3],[0,1,3],[0,1,3]] true = some t90:=by kernel_rfl
theorem c86 : compF Tryz.prog 86 ⟨[3],[(3,3),(13,3)],[],0,[],backIt,false,none⟩ [[0,1,2],[1,2,3],[],[1,2,3]] true = some t86:=by kernel_rfl
theorem c106 : compF Tryz.prog 106 ⟨[],[],[],0,[],backIt,false,none⟩ [[0,1],[0,1]] true = some t106:=by kernel_rfl
theorem c16 : compF Tryz.prog 16 ⟨[],[(1,1),(12,1),(6,6),(20,6)],[],0,[],backIt,false,none⟩ [[0],[1],[1,3],[],[1,3],[1,3,4],[1,3,4,13,14,15],[1,3,4,13,14,15],[1,3,4,13,14,15],[1,3,4,6,13,14,15],[1,3,4,13,14,15],[1,3,4]] true = some t16:=by kernel_rfl
theorem c15 : compF Tryz.prog 15 ⟨[14,12],[(1,1),(15,1)],[],0,[],backIt,false,none⟩ [[0],[1],[],[1],[1,3,14],[1,3,4,14],[3,4,14,16,17],[3,4,14,16,17],[3,4,14,16,17],[3,4,5,14,16,17],[3,4,14,16,17],[4]] true = some t15:=by kernel_rfl
theorem c35 : compF Tryz.prog 35 ⟨[],[],[],0,[],backIt,false,none⟩ [[0,1],[0,1],[0,1,5,6],[5],[0,1],[0,1,7],[0,1,7,28,29,30],[0,1,7,28,29,30],[0,1,7,28,29,30],[0,1,7,9,28,29,30],[0,1,7,28,29,30,42,43,44],[0,1,7,28,29,30,42,43,44],[0,1,7,28,29,30,42,43,44],[0,1,7,11,28,29,30,42,43,44],[0,1,7,11,28,29,30,42,43,44],[0,1,7,11,28,29,30,42,43,44],[0,1,7,28,29,30,42,43,44],[0,1,7,28,29,30],[0,1,7],[7]] false = some t35:=by kernel_rfl
theorem c36 : compF Tryz.prog 36 ⟨[],[],[],0,[],backIt,false,none⟩ [[0],[0],[0],[0],[0,3],[0,3,4],[0,3,4],[0,3,4],[0,3,4],[3]] true = some t36:=by kernel_rfl
theorem c14 : compF Tryz.prog 14 ⟨[],[(1,1),(13,1),(17,1),(6,6),(27,6),(35,6),(44,6),(52,6)],[],0,[],backIt,false,none⟩ [[0],[1],[],[1],[1,3],[1,3,4],[1,3,4],[1,3],[1,3,4],[1,3,4,18,19,20],[1,3,4,18,19,20],[1,3,4,18,19,20],[1,3,4,6,18,19,20],[1,3,4,6,7,8,18,19,20],[1,3,6,7,18,19,20],[1,3,4,18,19,20],[3]] true = some t14:=by kernel_rfl
theorem c33 : compF Tryz.prog 33 ⟨[],[(18,3),(24,3),(34,3)],[],0,[],backIt,false,none⟩ [[0,1,2],[1,2,3],[1,2,3,8],[1,3,8,11,12,13],[1,3,8,11,12,13],[1,3,8,11,12,13],[1,3,8,10,11,12,13],[],[1,3,8,10,11,12,13],[1,3,8,11,12,13],[8]] true = some t33:=by kernel_rfl
theorem c44 : compF Tryz.prog 44 ⟨[],[(5,2),(7,3)],[],0,[],backIt,false,none⟩ [[0,1],[2,3]] true = some t44:=by kernel_rfl
theorem c61 : compF Tryz.prog 61 ⟨[],[],[],0,[],backIt,false,none⟩ [[0,1,2],[0,1,2],[],[0,1,2],[1,2,15,16,17],[1,2,15,16,17],[1,2,15,16,17],[1,2,7,8,15,16,17],[1,2,8,9,15,16,17],[],[1,2,15,16,17],[]] true = some t61:=by kernel_rfl
theorem c62 : compF Tryz.prog 62 ⟨[],[],[],0,[],backIt,false,none⟩ [[0,1],[0,1],[],[0,1],[0,1,12,13],[0,1,12,13],[0,1,12,13],[0,1,5,12,13],[],[0,1,12,13],[]] true = some t62:=by kernel_rfl
theorem c45 : compF Tryz.prog 45 ⟨[1],[(1,1)],[],0,[],backIt,false,none⟩ [[0],[1,2],[1,2,3],[1,2,3,4],[1,2,4],[1,2,4],[1,4],[],[1],[],[1,2,4],[1,2,4,5],[1,2,6],[],[1,2,6],[1,2,6],[1,2,122],[1,124],[1,8],[]] false = some t45:=by kernel_rfl
theorem c63 : compF Tryz.prog 63 ⟨[],[(11,5),(14,4),(4,4),(26,5)],[],0,[],backIt,false,none⟩ [[0,1,2,3],[2,3,4,5],[],[2,3,4,5],[3,5,20,21,22],[3,5,20,21,22],[3,5,20,21,22],[3,5,10,20,21,22],[10],[3,5,20,21,22],[]] true = some t63:=by kernel_rfl
theorem c89 : compF Tryz.prog 89 ⟨[],[],[],0,[],backIt,false,none⟩ [[0,1],[0,1]] true = some t89:=by kernel_rfl
theorem c108 : compF Tryz.prog 108 ⟨[],[],[],0,[],backIt,false,none⟩ [[0,1],[0,1]] true = some t108:=by kernel_rfl
theorem c115 : compF Tryz.prog 115 ⟨[],[],[],0,[],backIt,false,none⟩ [[0,1],[0,1],[0,1,7,8],[0,1,7,8],[0,1,7,8],[0,1,5,7,8],[5],[0,1,7,8],[]] true = some t115:=by kernel_rfl
theorem c19 : compF Tryz.prog 19 ⟨[],[(3,3),(4,4)],[],0,[],backIt,false,none⟩ [[0,1,2],[2,3,4],[8],[],[8]] true = some t19:=by kernel_rfl
theorem c13 : compF Tryz.prog 13 ⟨[],[],[],0,[],backIt,false,none⟩ [[0,1],[0,1],[],[0,1],[0,1,5],[0,1,5],[0,1,5],[],[0,1,5],[]] true = some t13:=by kernel_rfl
theorem c107 : compF Tryz.prog 107 ⟨[],[],[],0,[],backIt,false,none⟩ [[0,1],[0,1,4],[0,1,4],[0,1,4],[0,1,4,6],[0],[0,1,4,6],[0,1,4],[0,1,4],[4]] true = some t107:=by kernel_rfl
theorem c114 : compF Tryz.prog 114 ⟨[],[],[],0,[],backIt,false,none⟩ [[0,1],[0,1],[0,1,5],[0,1,5,6],[6],[],[],[0,1,6],[],[0,1],[],[0,1],[],[]] true = some t114:=by kernel_rfl
theorem c121 : compF Tryz.prog 121 ⟨[],[],[],0,[],backIt,false,none⟩ [[0],[0]] true = some t121:=by kernel_rfl
def tab : List (Nat × AFn):=[(3,t3),(9,t9),(10,t10),(12,t12),(30,t30),(39,t39),(46,t46),(65,t65),(92,t92),(67,t67),(94,t94),(93,t93),(95,t95),(91,t91),(66,t66),(68,t68),(47,t47),(69,t69),(11,t11),(29,t29),(31,t31),(48,t48),(70,t70),(96,t96),(71,t71),(73,t73),(72,t72),(97,t97),(49,t49),(74,t74),(52,t52),(81,t81),(82,t82),(76,t76),(75,t75),(98,t98),(50,t50),(34,t34),(77,t77),(78,t78),(43,t43),(59,t59),(83,t83),(100,t100),(85,t85),(103,t103),(104,t104),(84,t84),(101,t101),(102,t102),(53,t53),(64,t64),(90,t90),(86,t86),(106,t106),(16,t16),(15,t15),(35,t35),(36,t36),(14,t14),(33,t33),(44,t44),(61,t61),(62,t62),(45,t45),(63,t63),(89,t89),(108,t108),(115,t115),(19,t19),(13,t13),(107,t107),(114,t114),(121,t121)]
def A : FuncId → Option AFn:=assoc tab
theorem fnsOk : FnsOk Tryz.prog A:=assoc_ok (mem_cons_ok ⟨_,_,c3,backIt_ok⟩ (mem_cons_ok ⟨_,_,c9,backIt_ok⟩ (mem_cons_ok ⟨_,_,c10,backIt_ok⟩ (mem_cons_ok ⟨_,_,c12,backIt_ok⟩ (mem_cons_ok ⟨_,_,c30,backIt_ok⟩ (mem_cons_ok ⟨_,_,c39,backIt_ok⟩ (mem_cons_ok ⟨_,_,c46,backIt_ok⟩ (mem_cons_ok ⟨_,_,c65,backIt_ok⟩ (mem_cons_ok ⟨_,_,c92,backIt_ok⟩ (mem_cons_ok ⟨_,_,c67,backIt_ok⟩ (mem_cons_ok ⟨_,_,c94,backIt_ok⟩ (mem_cons_ok ⟨_,_,c93,backIt_ok⟩ (mem_cons_ok ⟨_,_,c95,backIt_ok⟩ (mem_cons_ok ⟨_,_,c91,backIt_ok⟩ (mem_cons_ok ⟨_,_,c66,backIt_ok⟩ (mem_cons_ok ⟨_,_,c68,backIt_ok⟩ (mem_cons_ok ⟨_,_,c47,backIt_ok⟩ (mem_cons_ok ⟨_,_,c69,backIt_ok⟩ (mem_cons_ok ⟨_,_,c11,backIt_ok⟩ (mem_cons_ok ⟨_,_,c29,backIt_ok⟩ (mem_cons_ok ⟨_,_,c31,backIt_ok⟩ (mem_cons_ok ⟨_,_,c48,backIt_ok⟩ (mem_cons_ok ⟨_,_,c70,backIt_ok⟩ (mem_cons_ok ⟨_,_,c96,backIt_ok⟩ (mem_cons_ok ⟨_,_,c71,backIt_ok⟩ (mem_cons_ok ⟨_,_,c73,backIt_ok⟩ (mem_cons_ok ⟨_,_,c72,backIt_ok⟩ (mem_cons_ok ⟨_,_,c97,backIt_ok⟩ (mem_cons_ok ⟨_,_,c49,backIt_ok⟩ (mem_cons_ok ⟨_,_,c74,backIt_ok⟩ (mem_cons_ok ⟨_,_,c52,backIt_ok⟩ (mem_cons_ok ⟨_,_,c81,backIt_ok⟩ (mem_cons_ok ⟨_,_,c82,backIt_ok⟩ (mem_cons_ok ⟨_,_,c76,backIt_ok⟩ (mem_cons_ok ⟨_,_,c75,backIt_ok⟩ (mem_cons_ok ⟨_,_,c98,backIt_ok⟩ (mem_cons_ok ⟨_,_,c50,backIt_ok⟩ (mem_cons_ok ⟨_,_,c34,backIt_ok⟩ (mem_cons_ok ⟨_,_,c77,backIt_ok⟩ (mem_cons_ok ⟨_,_,c78,backIt_ok⟩ (mem_cons_ok ⟨_,_,c43,backIt_ok⟩ (mem_cons_ok ⟨_,_,c59,backIt_ok⟩ (mem_cons_ok ⟨_,_,c83,backIt_ok⟩ (mem_cons_ok ⟨_,_,c100,backIt_ok⟩ (mem_cons_ok ⟨_,_,c85,backIt_ok⟩ (mem_cons_ok ⟨_,_,c103,backIt_ok⟩ (mem_cons_ok ⟨_,_,c104,backIt_ok⟩ (mem_cons_ok ⟨_,_,c84,backIt_ok⟩ (mem_cons_ok ⟨_,_,c101,backIt_ok⟩ (mem_cons_ok ⟨_,_,c102,backIt_ok⟩ (mem_cons_ok ⟨_,_,c53,backIt_ok⟩ (mem_cons_ok ⟨_,_,c64,backIt_ok⟩ (mem_cons_ok ⟨_,_,c90,backIt_ok⟩ (mem_cons_ok ⟨_,_,c86,backIt_ok⟩ (mem_cons_ok ⟨_,_,c106,backIt_ok⟩ (mem_cons_ok ⟨_,_,c16,backIt_ok⟩ (mem_cons_ok ⟨_,_,c15,backIt_ok⟩ (mem_cons_ok ⟨_,_,c35,backIt_ok⟩ (mem_cons_ok ⟨_,_,c36,backIt_ok⟩ (mem_cons_ok ⟨_,_,c14,backIt_ok⟩ (mem_cons_ok ⟨_,_,c33,backIt_ok⟩ (mem_cons_ok ⟨_,_,c44,backIt_ok⟩ (mem_cons_ok ⟨_,_,c61,backIt_ok⟩ (mem_cons_ok ⟨_,_,c62,backIt_ok⟩ (mem_cons_ok ⟨_,_,c45,backIt_ok⟩ (mem_cons_ok ⟨_,_,c63,backIt_ok⟩ (mem_cons_ok ⟨_,_,c89,backIt_ok⟩ (mem_cons_ok ⟨_,_,c108,backIt_ok⟩ (mem_cons_ok ⟨_,_,c115,backIt_ok⟩ (mem_cons_ok ⟨_,_,c19,backIt_ok⟩ (mem_cons_ok ⟨_,_,c13,backIt_ok⟩ (mem_cons_ok ⟨_,_,c107,backIt_ok⟩ (mem_cons_ok ⟨_,_,c114,backIt_ok⟩ (mem_cons_ok ⟨_,_,c121,backIt_ok⟩ (mem_nil_ok)))))))))))))))))))))))))))))))))))))))))))))))))))))))))))))))))))))))))))
def prims : List (Nat × Nat × Nat):=[]
theorem primsOk : ∀ p ∈ prims,IsClone Tryz.prog p:=fun _ h => by cases h
abbrev X0 : Orc:=withRows 105 99 (primX prims)
noncomputable abbrev C0 : Orc:=callW X0 A
theorem x0Ok : OrcOk Tryz.prog X0:=withRows_ok (by decide) (by decide) sortsKeys unites (primX_ok (by kernel_rfl) primsOk)
theorem x0Fr : OrcFr X0:=withRows_fr (primX_fr _)
theorem orcOk0 : OrcOk Tryz.prog C0:=callW_ok (by kernel_rfl) x0Ok x0Fr fnsOk
abbrev X1 : Orc:=withFun 60 conflictG <| withNew 32 repN <| X0
abbrev X : Orc:=withConst 9 (.bool true) X1
noncomputable abbrev C : Orc:=callW X A
theorem laidOut : laidOutB Tryz.prog = true:=by kernel_rfl
theorem own : ownKnob Tryz.prog.godebug = none:=by kernel_rfl
theorem A48 : A 48 = some t48:=rfl
theorem A70 : A 70 = some t70:=rfl
theorem A96 : A 96 = some t96:=rfl
theorem A71 : A 71 = some t71:=rfl
theorem A73 : A 73 = some t73:=rfl
theorem A72 : A 72 = some t72:=rfl
theorem A97 : A 97 = some t97:=rfl
theorem A53 : A 53 = some t53:=rfl
theorem A107 : A 107 = some t107:=rfl
theorem A114 : A 114 = some t114:=rfl
theorem A121 : A 121 = some t121:=rfl
end Go.Proofs.YtkllbcjanneppaaGreat
