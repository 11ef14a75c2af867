/- The functions of a program, compiled: printed by wip/hm/tools/GenNf.lean. -/
import Derived.Test.YtnhennjliinplaaT1
namespace Go.Proofs.Ytnhennjliinplaa
open Go Go.Hm
theorem c61:compF Try.prog 61 ⟨[6],[],[],0,[],noIt,false,none,preN 61⟩ [[0],[0],[0,3],[3,7,8,9],[3,7,8,9],[3,7,8,9],[3,5,7,8,9],[3,7,8,9],[3]] false=some t61:=by kernel_rfl
theorem c72:compF Try.prog 72 ⟨[],[(5,5)],[],0,[],noIt,true,none,preN 72⟩ [[0,1],[0,7],[0,7],[0,7],[0,4,5,7]] true=some t72:=by kernel_rfl
theorem c7:compF Try.prog 7 ⟨[],[(7,7),(8,8),(13,13),(15,15)],[],0,[],noIt,false,none,preN 7⟩ [[0,1,2,3,4,5],[0,3,4,5,7,8],[],[0,3,4,5,7,8],[],[0,3,4,5,7,8],[0,3,4,5,7,8,13,14],[3,4,5,7,8,13,14,15,16]] true=some t7:=by kernel_rfl
theorem c8:compF Try.prog 8 ⟨[],[(1,1),(12,1),(22,1),(28,1),(34,1)],[],0,[],noIt,false,none,preN 8⟩ [[],[],[1,2]] true=some t8:=by kernel_rfl
theorem c21:compF Try.prog 21 ⟨[],[],[],0,[],noIt,false,none,preN 21⟩ [[0],[0],[0,3],[0,3,4],[0,3,4],[0,3,4],[0,3,4,5],[0,3,4],[3]] true=some t21:=by kernel_rfl
theorem c44:compF Try.prog 44 ⟨[11],[(19,11),(24,11),(29,11),(33,11),(37,11)],[],0,[],noIt,false,none,preN 44⟩ [[0],[0],[],[0],[0,5,11],[0,5,11],[0,5,11],[0,5,11],[5,11],[0,5,11]] true=some t44:=by kernel_rfl
theorem c66:compF Try.prog 66 ⟨[],[],[],0,[],noIt,false,none,preN 66⟩ [[0],[0],[0,3],[0,3],[0,3],[0,3],[0,3],[3],[0,3]] false=some t66:=by kernel_rfl
theorem c76:compF Try.prog 76 ⟨[],[],[],0,[],noIt,false,none,preN 76⟩ [[0],[0],[0,3],[0,3],[0,3],[0,3],[0,3,36],[0],[0,3,36],[3],[0,3]] false=some t76:=by kernel_rfl
theorem c67:compF Try.prog 67 ⟨[],[],[],0,[],noIt,false,none,preN 67⟩ [[0],[0]] false=some t67:=by kernel_rfl
theorem c89:compF Try.prog 89 ⟨[],[],[],0,[],noIt,false,none,preN 89⟩ [[0],[0],[0,3],[0,3],[0,3],[0,3,4],[0,3,4,17],[0,3],[0,3,4,17],[0,3],[0,3,4,17],[0,3],[0,3,4],[3],[0,3,4],[0,3,4],[3]] false=some t89:=by kernel_rfl
theorem c96:compF Try.prog 96 ⟨[],[(5,5)],[],0,[],noIt,false,none,preN 96⟩ [[0],[0],[0,3],[0,3,16],[0,3,16],[0,3,16],[0,3,16],[0,3,16],[0,3,16],[0],[0,3],[0,3],[0,3,37],[0],[0,4],[0],[0,4],[0],[0,4],[4],[0,3,37],[0],[0,5],[0,3,37],[0],[0,3,37],[0],[0,6],[0,3]] false=some t96:=by kernel_rfl
theorem c68:compF Try.prog 68 ⟨[],[],[],0,[],noIt,false,none,preN 68⟩ [[0,1,2],[0,1,2],[0,1,2],[]] false=some t68:=by kernel_rfl
theorem c98:compF Try.prog 98 ⟨[],[(3,3),(2,2)],[],0,[],noIt,false,none,preN 98⟩ [[0],[0,2],[0,2,3],[0,2,3,4],[0,2,3,4],[0,2,3,4],[0,2,3,4],[0,2,3,4],[0,2,3,4,5],[0,2,3,4,5,6],[0,2,3,4,5],[0,2,3,4,5],[0,2,3,4,5,7],[0,2,3,4,5,6,7],[0,2,3,4,5,6,7],[0,2,3,4,5,6],[0,2,3,4],[0,2,3],[2,3],[0,2,3,4],[2,3,4],[2,3],[2,3]] false=some t98:=by kernel_rfl
theorem c101:compF Try.prog 101 ⟨[],[],[],0,[],noIt,false,none,preN 101⟩ [[0],[0],[0,3],[0,3],[0],[3]] false=some t101:=by kernel_rfl
theorem c100:compF Try.prog 100 ⟨[],[],[],0,[],noIt,false,none,preN 100⟩ [[0],[0],[0],[],[0],[0,3],[0],[0,3],[0],[0,3],[0],[0,3],[0],[0,4],[0,4,5],[0,4,5],[0,4,5],[0],[],[0,4,5],[0,4,5,6],[0,5],[],[0,4,5,6],[0,4,5],[0,4],[0,4],[0,3],[0],[],[0,3],[3]] false=some t100:=by kernel_rfl
theorem c104:compF Try.prog 104 ⟨[],[],[],0,[],noIt,false,none,preN 104⟩ [[0],[0],[0],[0],[0],[0],[0],[]] true=some t104:=by kernel_rfl
theorem c105:compF Try.prog 105 ⟨[],[],[],0,[],noIt,false,none,preN 105⟩ [[0],[0]] true=some t105:=by kernel_rfl
theorem c103:compF Try.prog 103 ⟨[],[(5,5),(4,4)],[],0,[],noIt,false,none,preN 103⟩ [[0,1],[0,1,4],[0,1,4,5],[1,4,5,6],[1,4,5,6],[1,4,5,6],[1,4,5,6],[4,5]] true=some t103:=by kernel_rfl
theorem c52:compF Try.prog 52 ⟨[],[(9,2),(16,2),(2,2),(4,4)],[],0,[],noIt,false,none,preN 52⟩ [[0,1],[1,2,4],[2,4]] true=some t52:=by kernel_rfl
theorem c102:compF Try.prog 102 ⟨[],[(5,2),(7,3),(10,2),(12,3),(15,2),(17,3),(20,2),(22,3),(4,4)],[],0,[],noIt,false,none,preN 102⟩ [[0,1],[2,3,4]] true=some t102:=by kernel_rfl
theorem c99:compF Try.prog 99 ⟨[],[(3,1),(6,1),(9,1),(12,1),(2,2)],[],0,[],noIt,false,none,preN 99⟩ [[0],[1,2]] true=some t99:=by kernel_rfl
theorem c77:compF Try.prog 77 ⟨[],[(6,6)],[],0,[],noIt,false,none,preN 77⟩ [[0,1,2,3],[0,1,3,6],[0]] false=some t77:=by kernel_rfl
theorem c32:compF Try.prog 32 ⟨[],[(3,3),(2,2)],[],0,[],noIt,false,none,preN 32⟩ [[0],[0,2],[0,2,3],[0,2,3,4],[0,2,3,4],[0,2,3,4],[0,2,3,4],[2,3]] true=some t32:=by kernel_rfl
theorem c13:compF Try.prog 13 ⟨[2,33,11],[(2,2),(11,11),(52,11),(55,11),(65,33),(70,11),(76,33),(85,33),(92,33),(99,33),(110,33),(119,33),(123,33)],[],0,[],noIt,true,none,preN 13⟩ [[0],[0,2],[2],[0,2],[0,2,19,20,21],[0,2,19,20,21],[0,2,19,20,21],[0,2,5,19,20,21],[0,2,6,19,20,21],[2,6],[0,2,19,20,21],[0,2],[0,2,7,33],[0,2,7,8,33],[2,7,8,33,37,38,39],[2,7,8,33,37,38,39],[2,7,8,33,37,38,39],[2,7,8,9,10,33,37,38,39],[2,7,8,9,11,33,37,38,39],[2,7,8,9,11,33,37,38,39],[2,7,8,9,11,33,37,38,39,57],[2,7,8,9,11,33,37,38,39,57],[2,7,8,9,11,33,37,38,39,57],[2,7,8,9,11,12,33,37,38,39,57],[2,7,8,9,11,33,37,38,39],[2,7,8,9,33,37,38,39],[2,7,8,33,37,38,39],[2,7,33],[2],[2,7,33],[2,7,33,100,101,102],[2,7,33,100,101,102],[2,7,33,100,101,102],[2,7,14,33,100,101,102],[2,7,33,100,101,102],[2,7,33]] true=some t13:=by kernel_rfl
theorem c36:compF Try.prog 36 ⟨[21],[(5,5),(30,5),(39,5),(46,5),(53,5),(57,5),(63,5)],[],0,[],noIt,false,none,preN 36⟩ [[0],[0],[],[0],[0,3],[0,3,22,23,24],[0,3,22,23,24],[0,3,22,23,24],[0,3,4,5,22,23,24],[0,3,4,5,6,7,8,22,23,24],[],[0,3,4,5,22,23,24],[0,3,4,22,23,24,64,65,66],[0,3,4,22,23,24,64,65,66],[0,3,4,22,23,24,64,65,66],[0,3,4,10,22,23,24,64,65,66],[],[0,3,4,10,22,23,24,64,65,66],[0,3,4,22,23,24,64,65,66],[0,3,22,23,24],[0,3],[],[]] true=some t36:=by kernel_rfl
theorem c57:compF Try.prog 57 ⟨[],[],[],0,[],noIt,false,none,preN 57⟩ [[0],[0],[5],[5],[],[5],[5],[],[5],[5],[5],[],[]] true=some t57:=by kernel_rfl
theorem c58:compF Try.prog 58 ⟨[],[],[],0,[],noIt,false,none,preN 58⟩ [[0,1],[0,1]] true=some t58:=by kernel_rfl
theorem c71:compF Try.prog 71 ⟨[],[],[],0,[],noIt,false,none,preN 71⟩ [[0,1],[0,1],[0,1,7,8],[0,1,7,8],[0,1,7,8],[0,1,5,7,8],[5],[0,1,7,8],[]] true=some t71:=by kernel_rfl
theorem c59:compF Try.prog 59 ⟨[],[],[],0,[],noIt,false,none,preN 59⟩ [[0],[0]] true=some t59:=by kernel_rfl
theorem c37:compF Try.prog 37 ⟨[33,44],[(3,3)],[],0,[],noIt,false,none,preN 37⟩ [[0,1],[0,3],[0,3,5],[5]] false=some t37:=by kernel_rfl
theorem c38:compF Try.prog 38 ⟨[25,26,65,66],[(7,7),(21,7),(6,6),(31,7),(41,7),(9,9),(46,7),(12,12),(68,7),(15,15),(79,12),(82,15),(85,12),(87,15),(91,12),(93,15),(102,7),(16,16),(107,7),(111,16),(113,16),(116,16),(119,7),(123,16)],[],0,[],noIt,false,none,preN 38⟩ [[0,1,2],[0,1,2,6],[0,1,6,7],[0,1,6,7,22],[6],[0,1,6,7,22],[0,6,7],[6,8],[0,1,6,7,22],[0,1,6,7],[0,1,6,7,9],[0,1,6,9,48,49,50],[0,1,6,9,48,49,50],[0,1,6,9,48,49,50],[0,1,6,9,11,48,49,50],[0,1,6,9,48,49,50],[6,9],[0,1,6,7,22],[0,1,6,7],[0,1,6,7,12],[0,1,6,12,69,70,71],[0,1,6,12,69,70,71],[0,1,6,12,69,70,71],[0,1,6,12,14,69,70,71],[0,1,6,12,15,69,70,71],[0,1,6,12,69,70,71],[6,12],[0,1,6,7],[0,6,7,16],[0,6,7,16],[6,7,16],[6,16]] false=some t38:=by kernel_rfl
theorem c60:compF Try.prog 60 ⟨[],[(9,4),(11,5),(14,4),(17,5),(20,4),(22,5),(7,7),(25,4),(27,4),(29,5),(33,7),(34,5),(36,4),(38,5),(42,7),(6,6)],[],0,[],noIt,false,none,preN 60⟩ [[0,1,2],[0,4,5,6],[4,5,6],[4,5,6,7],[4,5,6,7],[4,5,6,7],[4,5,6,7],[6,7]] false=some t60:=by kernel_rfl
theorem c39:compF Try.prog 39 ⟨[],[],[],0,[],noIt,true,none,preN 39⟩ [[0,1,2],[0,2,8],[0,2,8],[0,2,8],[0,2,6,8]] false=some t39:=by kernel_rfl
theorem c41:compF Try.prog 41 ⟨[1],[],[],0,[],noIt,false,none,preN 41⟩ [[0],[1]] true=some t41:=by kernel_rfl
theorem c31:compF Try.prog 31 ⟨[],[],[],0,[],noIt,false,none,preN 31⟩ [[0,1],[0,1],[],[0,1],[0,1,5],[0,1,5],[0,1,5],[],[0,1,5],[]] true=some t31:=by kernel_rfl
theorem c22:compF Try.prog 22 ⟨[],[],[],0,[],noIt,false,none,preN 22⟩ [[0,1],[0,1],[],[0,1],[0,1,5],[0,1,5],[0,1,5],[],[0,1,5],[]] true=some t22:=by kernel_rfl
theorem c24:compF Try.prog 24 ⟨[],[],[],0,[],noIt,false,none,preN 24⟩ [[0],[0],[0,3],[0,3],[0,3],[],[0,3],[0]] true=some t24:=by kernel_rfl
theorem c9:compF Try.prog 9 ⟨[],[],[],0,[],noIt,false,none,preN 9⟩ [[0,1],[0,1],[0,1,5],[0,1,5,6],[0,1,5,6],[0,1,5,6],[0,1,5,6],[0,1,5]] true=some t9:=by kernel_rfl
theorem c16:compF Try.prog 16 ⟨[],[(8,2),(20,2),(27,2),(33,2),(40,2)],[],0,[],noIt,false,none,preN 16⟩ [[0,1],[1,2],[1,2,5],[1,2,5,6],[1,2,5,6],[1,2,5,6],[1,2,5,6],[1,2,5]] true=some t16:=by kernel_rfl
theorem c25:compF Try.prog 25 ⟨[4,15,16,17],[(2,2),(4,4),(8,8),(51,4),(53,4),(57,8),(62,8),(68,4),(70,8),(77,8),(80,4),(86,4),(90,4)],[],0,[],noIt,false,none,preN 25⟩ [[0],[0,2],[2],[0,2],[0,2,4],[0,2,4,5],[0,2,4,5],[0,2,4,5],[0,2,4,5,6],[2,6],[0,2,4,5],[0,2,4],[0,2,4,7],[0,2,4,7],[0,2,4,7],[0,2,4,7,8],[0,2,4,7,8],[0,2,4,7,8,9],[0,2,4,7,8,9],[0,2,4,7,8,9],[0,2,4,7,8,9],[0,2,4,7,8],[0,2,4,7],[0,2,4,7],[2,4],[2],[2,4]] true=some t25:=by kernel_rfl
theorem c10:compF Try.prog 10 ⟨[20],[],[],0,[],noIt,false,none,preN 10⟩ [[0],[0],[],[0],[0,3],[0,3,4],[0,3,4],[0,3,4],[0,3,4,5,6],[],[0,3,4],[0,3,4,7],[0,3,4,7],[0,3,4,7],[0,3,4,7,8],[],[0,3,4,7,8],[0,3,4,7],[0,3,4],[0,3],[0,3,9],[0,3,9],[0,3,9],[],[0,3,9],[]] true=some t10:=by kernel_rfl
theorem c33:compF Try.prog 33 ⟨[],[],[],0,[],noIt,false,none,preN 33⟩ [[0],[0],[4],[4],[],[4],[4],[],[4],[4],[4],[],[]] true=some t33:=by kernel_rfl
theorem c48:compF Try.prog 48 ⟨[],[(7,7),(20,7),(6,6),(39,7),(70,7),(9,9),(76,7),(84,7),(11,11),(91,9),(93,11),(96,9),(98,9),(100,11),(103,9),(104,11),(106,9),(108,11),(111,11),(112,9),(115,11),(118,9),(120,11),(12,12),(128,7),(136,7),(14,14),(142,12),(145,14),(148,12),(150,14),(153,12),(155,14),(162,7),(15,15),(167,7),(171,15),(173,15),(176,7),(179,15)],[],0,[],noIt,false,none,preN 48⟩ [[0,1,2],[0,1,2,6],[0,1,6,7],[0,1,6,7,21],[6],[0,1,6,7,21],[0,6,7],[0,6,7,8],[6,8],[0,1,6,7,21],[0,1,6,7],[0,1,6,7,9],[0,1,6,7,9,10],[0,1,6,7,9,10],[0,1,6,7,9,10],[0,1,6,7,9,10,11],[0,1,6,7,9,10,11],[0,1,6,7,9,10,11],[0,1,6,7,9,10,11],[0,1,6,7,9,10,11],[0,1,6,7,9,10,11],[0,1,6,7,9,10],[6,9],[0,1,6,7,21],[0,1,6,7],[0,1,6,7,12],[0,1,6,7,12,13],[0,1,6,7,12,13],[0,1,6,7,12,13],[0,1,6,7,12,13,14],[0,1,6,7,12,13],[6,12],[0,1,6,7],[0,6,7,15],[0,6,7,15],[6,7,15],[6,15],[6,15]] false=some t48:=by kernel_rfl
theorem c69:compF Try.prog 69 ⟨[],[],[],0,[],noIt,false,none,preN 69⟩ [[0,1,2],[0,1,2,6],[0,1,2,6],[0,1,2,6],[0,1,2,6]] false=some t69:=by kernel_rfl
theorem c49:compF Try.prog 49 ⟨[],[],[],0,[],noIt,false,none,preN 49⟩ [[0,1],[0,1],[1,5],[1,5,6],[1,5,6],[1,5,6],[1,5,6],[1,5,6],[5],[5,7],[5,7],[5,7],[5,7,8],[5,7,8],[5,7,8],[5,7,8],[5,7],[5]] true=some t49:=by kernel_rfl
theorem c70:compF Try.prog 70 ⟨[],[],[],0,[],noIt,false,none,preN 70⟩ [[0,1],[0,1],[0,1,5],[0,1,5],[0,1,5],[],[0,1,5],[]] true=some t70:=by kernel_rfl
theorem c26:compF Try.prog 26 ⟨[],[(9,2),(12,3),(17,2),(20,3),(26,2),(29,3),(35,2),(41,2),(46,3),(53,2),(59,2),(64,3),(71,2),(77,2),(83,3),(91,2),(100,2),(108,3)],[],0,[],noIt,false,none,preN 26⟩ [[0,1],[2,3],[],[2,3],[2,3,5],[2,3,5],[2,3,5],[],[2,3,5],[2,3],[2,3,6],[2,3,6],[2,3,6],[],[2,3,6],[2,3],[2,3,7],[2,3,7],[2,3,7],[],[2,3,7],[2,3,7,8],[2,3,7,8],[2,3,7,8],[],[2,3,7,8],[2,3,7],[]] true=some t26:=by kernel_rfl
theorem c14:compF Try.prog 14 ⟨[],[(9,1),(19,1),(26,1),(33,1),(40,1),(64,1),(71,1)],[],0,[],noIt,false,none,preN 14⟩ [[0],[1],[1,3],[],[1,3],[1,3,41,42,43],[1,3,41,42,43],[1,3,41,42,43],[1,3,4,5,41,42,43],[1,3,4,5,6,41,42,43],[1,3,4,6,41,42,43,48,49,50],[1,3,4,6,41,42,43,48,49,50],[1,3,4,6,41,42,43,48,49,50],[1,3,4,6,8,41,42,43,48,49,50],[],[1,3,4,8,41,42,43,48,49,50],[1,3,4,6,41,42,43,48,49,50],[1,3,4,41,42,43],[],[1,3,41,42,43],[]] true=some t14:=by kernel_rfl
theorem c27:compF Try.prog 27 ⟨[],[(6,1),(16,1),(23,1),(30,1),(42,1),(49,1),(57,1),(66,1),(76,1),(91,1),(100,1)],[],0,[],noIt,false,none,preN 27⟩ [[0],[1],[1,3],[],[1,3],[1,3,4],[1,3,4],[1,3,4],[],[1,3,4],[1,3,4,5],[1,3,4,5],[1,3,4,5],[],[1,3,4,5],[1,3,4],[]] true=some t27:=by kernel_rfl
theorem c17:compF Try.prog 17 ⟨[],[(3,3)],[],0,[],noIt,false,none,preN 17⟩ [[0,1,2],[1,2,3],[],[1,2,3]] true=some t17:=by kernel_rfl
theorem c42:compF Try.prog 42 ⟨[12],[(23,3),(28,3),(38,3)],[],0,[],noIt,false,none,preN 42⟩ [[0,1,2],[1,2,3],[1,2,3,7],[2,3,7,13,14,15],[2,3,7,13,14,15],[2,3,7,13,14,15],[2,3,7,9,13,14,15],[2,3,7,9,13,14,15],[2,3,7,13,14,15,32,33,34],[2,3,7,13,14,15,32,33,34],[2,3,7,13,14,15,32,33,34],[2,3,7,11,13,14,15,32,33,34],[2,3,7,11,13,14,15,32,33,34],[2,3,7,13,14,15,32,33,34],[2,3,7,13,14,15],[7]] true=some t42:=by kernel_rfl
theorem c65:compF Try.prog 65 ⟨[],[(7,2)],[],0,[],noIt,false,none,preN 65⟩ [[0,1],[1,2]] true=some t65:=by kernel_rfl
theorem c28:compF Try.prog 28 ⟨[],[(3,3)],[],0,[],noIt,false,none,preN 28⟩ [[0,1,2],[1,2,3],[],[1,2,3]] true=some t28:=by kernel_rfl
theorem c50:compF Try.prog 50 ⟨[16],[(13,3),(33,3),(38,3),(52,3)],[],0,[],noIt,false,none,preN 50⟩ [[0,1,2],[1,2,3],[1,2,3,7],[1,2,3,7,8],[1,2,3,7,8],[1,2,3,7,8],[1,2,3,7,8],[1,2,3,7,8,9],[1,2,3,7,8,9,10],[1,2,3,7,8,9,10],[1,2,3,7,8,9,10],[1,2,3,7,8,9,10],[1,2,3,7,8,9,10],[1,2,3,7,8],[7],[7,11],[7,11,12],[7,11,12],[7,11,12],[7,11,12],[7,11,12],[11]] true=some t50:=by kernel_rfl
theorem c19:compF Try.prog 19 ⟨[],[(7,2)],[],0,[],noIt,false,none,preN 19⟩ [[0,1],[1,2]] true=some t19:=by kernel_rfl
theorem c20:compF Try.prog 20 ⟨[],[(2,2)],[],0,[],noIt,false,none,preN 20⟩ [[0,1],[1,2],[],[1,2]] true=some t20:=by kernel_rfl
theorem c43:compF Try.prog 43 ⟨[],[(19,2),(24,2)],[],0,[],noIt,false,none,preN 43⟩ [[0,1],[1,2],[1,2,5],[2,5,9,10,11],[2,5,9,10,11],[2,5,9,10,11],[2,5,7,9,10,11],[2,5,7,9,10,11],[2,5,8,9,10,11],[2,8,9,10,11],[2,5,9,10,11],[5]] true=some t43:=by kernel_rfl
theorem c29:compF Try.prog 29 ⟨[],[(2,2)],[],0,[],noIt,false,none,preN 29⟩ [[0,1],[1,2],[],[1,2]] true=some t29:=by kernel_rfl
theorem c51:compF Try.prog 51 ⟨[],[(24,2),(29,2)],[],0,[],noIt,false,none,preN 51⟩ [[0,1],[1,2],[1,2,5],[1,2,5,6],[1,2,5,6],[1,2,5,6],[1,2,5,6],[1,2,5,6,7],[1,2,6,7],[1,2,5,6],[5]] true=some t51:=by kernel_rfl
theorem c15:compF Try.prog 15 ⟨[],[(2,2)],[],0,[],noIt,false,none,preN 15⟩ [[0,1],[1,2],[],[1,2],[1,2,5],[2,5,13,14,15],[2,5,13,14,15],[2,5,13,14,15],[2,5,7,13,14,15],[2,5,13,14,15],[2,5]] true=some t15:=by kernel_rfl
theorem c30:compF Try.prog 30 ⟨[],[(2,2)],[],0,[],noIt,false,none,preN 30⟩ [[0,1],[1,2],[],[1,2],[1,2,5],[1,2,5,6],[1,2,5,6],[1,2,5,6],[1,2,5,6],[2,5]] true=some t30:=by kernel_rfl
theorem c23:compF Try.prog 23 ⟨[],[(5,2),(7,3),(11,2),(13,3),(18,2),(20,3)],[],0,[],noIt,false,none,preN 23⟩ [[0,1],[2,3]] true=some t23:=by kernel_rfl
theorem c45:compF Try.prog 45 ⟨[],[],[],0,[],noIt,false,none,preN 45⟩ [[0,1],[0,1],[],[0,1],[0,1,12,13],[0,1,12,13],[0,1,12,13],[0,1,5,12,13],[],[0,1,12,13],[]] true=some t45:=by kernel_rfl
theorem c46:compF Try.prog 46 ⟨[],[],[],0,[],noIt,false,none,preN 46⟩ [[0,1],[0,1],[],[0,1],[0,1,12,13],[0,1,12,13],[0,1,12,13],[0,1,5,12,13],[],[0,1,12,13],[]] true=some t46:=by kernel_rfl
theorem c47:compF Try.prog 47 ⟨[],[],[],0,[],noIt,false,none,preN 47⟩ [[0,1,2],[0,1,2],[],[0,1,2],[1,2,15,16,17],[1,2,15,16,17],[1,2,15,16,17],[1,2,7,8,15,16,17],[1,2,8,9,15,16,17],[],[1,2,15,16,17],[]] true=some t47:=by kernel_rfl
def tab1:List (Nat×AFn):=[(61,t61),(72,t72)]
def A1:FuncId→Option AFn:=assoc tab1
theorem fnsOk1:FnsOk Try.prog A1:=assoc_ok (mem_cons_ok ⟨_,_,c61,noIt_ok,.inl rfl⟩ (mem_cons_ok ⟨_,_,c72,noIt_ok,.inl rfl⟩ (mem_nil_ok)))
abbrev X0:Orc:=withFun 40 keysG noX
noncomputable def X:Orc:=callW X0 A1
def tab:List (Nat×AFn):=[(7,t7),(8,t8),(21,t21),(44,t44),(66,t66),(76,t76),(67,t67),(89,t89),(96,t96),(68,t68),(98,t98),(101,t101),(100,t100),(104,t104),(105,t105),(103,t103),(52,t52),(102,t102),(99,t99),(77,t77),(32,t32),(13,t13),(36,t36),(57,t57),(58,t58),(71,t71),(59,t59),(37,t37),(38,t38),(60,t60),(39,t39),(41,t41),(31,t31),(22,t22),(24,t24),(9,t9),(16,t16),(25,t25),(10,t10),(33,t33),(48,t48),(69,t69),(49,t49),(70,t70),(26,t26),(14,t14),(27,t27),(17,t17),(42,t42),(65,t65),(28,t28),(50,t50),(19,t19),(20,t20),(43,t43),(29,t29),(51,t51),(15,t15),(30,t30),(23,t23),(45,t45),(46,t46),(47,t47)]
def A:FuncId→Option AFn:=assoc tab
theorem fnsOk:FnsOk Try.prog A:=assoc_ok (mem_cons_ok ⟨_,_,c7,noIt_ok,.inl rfl⟩ (mem_cons_ok ⟨_,_,c8,noIt_ok,.inl rfl⟩ (mem_cons_ok ⟨_,_,c21,noIt_ok,.inl rfl⟩ (mem_cons_ok ⟨_,_,c44,noIt_ok,.inl rfl⟩ (mem_cons_ok ⟨_,_,c66,noIt_ok,.inl rfl⟩ (mem_cons_ok ⟨_,_,c76,noIt_ok,.inl rfl⟩ (mem_cons_ok ⟨_,_,c67,noIt_ok,.inl rfl⟩ (mem_cons_ok ⟨_,_,c89,noIt_ok,.inl rfl⟩ (mem_cons_ok ⟨_,_,c96,noIt_ok,.inl rfl⟩ (mem_cons_ok ⟨_,_,c68,noIt_ok,.inl rfl⟩ (mem_cons_ok ⟨_,_,c98,noIt_ok,.inl rfl⟩ (mem_cons_ok ⟨_,_,c101,noIt_ok,.inl rfl⟩ (mem_cons_ok ⟨_,_,c100,noIt_ok,.inl rfl⟩ (mem_cons_ok ⟨_,_,c104,noIt_ok,.inl rfl⟩ (mem_cons_ok ⟨_,_,c105,noIt_ok,.inl rfl⟩ (mem_cons_ok ⟨_,_,c103,noIt_ok,.inl rfl⟩ (mem_cons_ok ⟨_,_,c52,noIt_ok,.inl rfl⟩ (mem_cons_ok ⟨_,_,c102,noIt_ok,.inl rfl⟩ (mem_cons_ok ⟨_,_,c99,noIt_ok,.inl rfl⟩ (mem_cons_ok ⟨_,_,c77,noIt_ok,.inl rfl⟩ (mem_cons_ok ⟨_,_,c32,noIt_ok,.inl rfl⟩ (mem_cons_ok ⟨_,_,c13,noIt_ok,.inl rfl⟩ (mem_cons_ok ⟨_,_,c36,noIt_ok,.inl rfl⟩ (mem_cons_ok ⟨_,_,c57,noIt_ok,.inl rfl⟩ (mem_cons_ok ⟨_,_,c58,noIt_ok,.inl rfl⟩ (mem_cons_ok ⟨_,_,c71,noIt_ok,.inl rfl⟩ (mem_cons_ok ⟨_,_,c59,noIt_ok,.inl rfl⟩ (mem_cons_ok ⟨_,_,c37,noIt_ok,.inl rfl⟩ (mem_cons_ok ⟨_,_,c38,noIt_ok,.inl rfl⟩ (mem_cons_ok ⟨_,_,c60,noIt_ok,.inl rfl⟩ (mem_cons_ok ⟨_,_,c39,noIt_ok,.inl rfl⟩ (mem_cons_ok ⟨_,_,c41,noIt_ok,.inl rfl⟩ (mem_cons_ok ⟨_,_,c31,noIt_ok,.inl rfl⟩ (mem_cons_ok ⟨_,_,c22,noIt_ok,.inl rfl⟩ (mem_cons_ok ⟨_,_,c24,noIt_ok,.inl rfl⟩ (mem_cons_ok ⟨_,_,c9,noIt_ok,.inl rfl⟩ (mem_cons_ok ⟨_,_,c16,noIt_ok,.inl rfl⟩ (mem_cons_ok ⟨_,_,c25,noIt_ok,.inl rfl⟩ (mem_cons_ok ⟨_,_,c10,noIt_ok,.inl rfl⟩ (mem_cons_ok ⟨_,_,c33,noIt_ok,.inl rfl⟩ (mem_cons_ok ⟨_,_,c48,noIt_ok,.inl rfl⟩ (mem_cons_ok ⟨_,_,c69,noIt_ok,.inl rfl⟩ (mem_cons_ok ⟨_,_,c49,noIt_ok,.inl rfl⟩ (mem_cons_ok ⟨_,_,c70,noIt_ok,.inl rfl⟩ (mem_cons_ok ⟨_,_,c26,noIt_ok,.inl rfl⟩ (mem_cons_ok ⟨_,_,c14,noIt_ok,.inl rfl⟩ (mem_cons_ok ⟨_,_,c27,noIt_ok,.inl rfl⟩ (mem_cons_ok ⟨_,_,c17,noIt_ok,.inl rfl⟩ (mem_cons_ok ⟨_,_,c42,noIt_ok,.inl rfl⟩ (mem_cons_ok ⟨_,_,c65,noIt_ok,.inl rfl⟩ (mem_cons_ok ⟨_,_,c28,noIt_ok,.inl rfl⟩ (mem_cons_ok ⟨_,_,c50,noIt_ok,.inl rfl⟩ (mem_cons_ok ⟨_,_,c19,noIt_ok,.inl rfl⟩ (mem_cons_ok ⟨_,_,c20,noIt_ok,.inl rfl⟩ (mem_cons_ok ⟨_,_,c43,noIt_ok,.inl rfl⟩ (mem_cons_ok ⟨_,_,c29,noIt_ok,.inl rfl⟩ (mem_cons_ok ⟨_,_,c51,noIt_ok,.inl rfl⟩ (mem_cons_ok ⟨_,_,c15,noIt_ok,.inl rfl⟩ (mem_cons_ok ⟨_,_,c30,noIt_ok,.inl rfl⟩ (mem_cons_ok ⟨_,_,c23,noIt_ok,.inl rfl⟩ (mem_cons_ok ⟨_,_,c45,noIt_ok,.inl rfl⟩ (mem_cons_ok ⟨_,_,c46,noIt_ok,.inl rfl⟩ (mem_cons_ok ⟨_,_,c47,noIt_ok,.inl rfl⟩ (mem_nil_ok))))))))))))))))))))))))))))))))))))))))))))))))))))))))))))))))
noncomputable abbrev C:Orc:=callW X A
theorem laidOut:laidOutB Try.prog=true:=by kernel_rfl
theorem own:ownKnob Try.prog.godebug=none:=by kernel_rfl
theorem A61:A1 61=some t61:=rfl
theorem A72:A1 72=some t72:=rfl
theorem A7:A 7=some t7:=rfl
theorem A13:A 13=some t13:=rfl
theorem A36:A 36=some t36:=rfl
theorem A57:A 57=some t57:=rfl
theorem A58:A 58=some t58:=rfl
theorem A71:A 71=some t71:=rfl
theorem A59:A 59=some t59:=rfl
theorem A37:A 37=some t37:=rfl
theorem A38:A 38=some t38:=rfl
theorem A60:A 60=some t60:=rfl
theorem A39:A 39=some t39:=rfl
theorem A41:A 41=some t41:=rfl
theorem A22:A 22=some t22:=rfl
theorem A24:A 24=some t24:=rfl
theorem A9:A 9=some t9:=rfl
theorem A16:A 16=some t16:=rfl
theorem A25:A 25=some t25:=rfl
theorem A10:A 10=some t10:=rfl
theorem A33:A 33=some t33:=rfl
theorem A48:A 48=some t48:=rfl
theorem A69:A 69=some t69:=rfl
theorem A49:A 49=some t49:=rfl
theorem A70:A 70=some t70:=rfl
theorem A26:A 26=some t26:=rfl
theorem A14:A 14=some t14:=rfl
theorem A27:A 27=some t27:=rfl
theorem A17:A 17=some t17:=rfl
theorem A42:A 42=some t42:=rfl
theorem A65:A 65=some t65:=rfl
theorem A28:A 28=some t28:=rfl
theorem A50:A 50=some t50:=rfl
theorem A19:A 19=some t19:=rfl
theorem A20:A 20=some t20:=rfl
theorem A43:A 43=some t43:=rfl
theorem A29:A 29=some t29:=rfl
theorem A51:A 51=some t51:=rfl
theorem A15:A 15=some t15:=rfl
theorem A30:A 30=some t30:=rfl
theorem A23:A 23=some t23:=rfl
theorem A45:A 45=some t45:=rfl
theorem A46:A 46=some t46:=rfl
theorem A47:A 47=some t47:=rfl
end Go.Proofs.Ytnhennjliinplaa
