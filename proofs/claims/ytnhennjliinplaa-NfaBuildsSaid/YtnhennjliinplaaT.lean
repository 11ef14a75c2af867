/- The functions of a program, compiled: printed by wip/hm/tools/GenNf.lean. -/
import Derived.Test.YtnhennjliinplaaT1
namespace Go.Proofs.Ytnhennjliinplaa
open Go Go.Hm
theorem c61:compF Try.prog 61 ⟨[6],[],[],0,[],noIt,false,none,preN 61⟩ [[0],[0],[0,3],[3,7,8,9],[3,7,8,9],[3,7,8,9],[3,5,7,8,9],[3,7,8,9],[3]] false=some t61:=by kernel_rfl
theorem c72:compF Try.prog 72 ⟨[],[(5,5)],[],0,[],noIt,true,none,preN 72⟩ [[0,1],[0,7],[0,7],[0,7],[0,4,5,7]] true=some t72:=by kernel_rfl
theorem c3:compF Try.prog 3 ⟨[],[(8,8),(72,8)],[],0,[],noIt,false,none,preN 3⟩ [[0,1],[0,1],[],[0,1],[],[0,1],[0,1,5,6],[0,1,5,6,7],[0,1,5,6,7],[0,1,5,6,7],[],[0,1,5,6,7],[0,1,5,6,7],[0,1,5,7],[0,1,5,6,7],[0,1,5,6],[1,5,6,8,9]] true=some t3:=by kernel_rfl
theorem c8:compF Try.prog 8 ⟨[],[(1,1),(12,1),(22,1),(28,1),(34,1)],[],0,[],noIt,false,none,preN 8⟩ [[],[],[1,2]] true=some t8:=by kernel_rfl
theorem c21:compF Try.prog 21 ⟨[],[],[],0,[],noIt,false,none,preN 21⟩ [[0],[0],[0,3],[0,3,4],[0,3,4],[0,3,4],[0,3,4,5],[0,3,4],[3]] true=some t21:=by kernel_rfl
theorem c44:compF Try.prog 44 ⟨[11],[(19,11),(24,11),(29,11),(33,11),(37,11)],[],0,[],noIt,false,none,preN 44⟩ [[0],[0],[],[0],[0,5,11],[0,5,11],[0,5,11],[0,5,11],[5,11],[0,5,11]] true=some t44:=by kernel_rfl
theorem c66:compF Try.prog 66 ⟨[],[],[],0,[],noIt,false,none,preN 66⟩ [[0],[0],[0,3],[0,3],[0,3],[0,3],[0,3],[3],[0,3]] false=some t66:=by kernel_rfl
theorem c76:compF Try.prog 76 ⟨[],[],[],0,[],noIt,false,none,preN 76⟩ [[0],[0],[0,3],[0,3],[0,3],[0,3],[0,3,36],[0],[0,3,36],[3],[0,3]] false=some t76:=by kernel_rfl
theorem c67:compF Try.prog 67 ⟨[],[],[],0,[],noIt,false,none,preN 67⟩ [[0],[0]] false=some t67:=by kernel_rfl
theorem c89:compF Try.prog 89 ⟨[],[],[],0,[],noIt,false,none,preN 89⟩ [[0],[0],[0,3],[0,3],[0,3],[0,3,4],[0,3,4,17],[0,3],[0,3,4,17],[0,3],[0,3,4,17],[0,3],[0,3,4],[3],[0,3,4],[0,3,4],[3]] false=some t89:=by kernel_rfl
theorem c96:compF Try.prog 96 ⟨[],[(5,5)],[],0,[],noIt,false,none,preN 96⟩ [[0],[0],[0,3],[0,3,16],[0,3,16],[0,3,16],[0,3,16],[0,3,16],[0,3,16],[0],[0,3],[0,3],[0,3,37],[0],[0,4],[0],[0,4],[0],[0,4],[4],[0,3,37],[0],[0,5],[0,3,37],[0],[0,3,37],[0],[0,6],[0,3]] false=some t96:=by kernel_rfl
theorem c68:compF Try.prog 68 ⟨[],[],[],0,[],noIt,false,none,preN 68⟩ [[0,1,2],[0,1,2],[0,1,2],[]] false=some t68:=by kernel_rfl
theorem c98:compF Try.prog 98 ⟨[],[(3,3),(2,2)],[],0,[],noIt,false,none,preN 98⟩ [[0],[0,2],[0,2,3],[0,2,3,4],[0,2,3,4],[0,2,3,4],[0,2,3,4],[0,2,3,4],[0,2,3,4,5],[0,2,3,4,5,6],[0,2,3,4,5],[0,2,3,4,5],[0,2,3,4,5,7],[0,2,3,4,5,6,7],[0,2,3,4,5,6,7],[0,2,3,4,5,6],[0,2,3,4],[0,2,3],[2,3],[0,2,3,4],[2,3,4],[2,3],[2,3]] false=some t98:=by kernel_rfl
theorem c101:compF Try.prog 101 ⟨[],[],[],0,[],noIt,false,none,preN 101⟩ [[0],[0],[0,3],[0,3],[0],[3]] false=some t101:=by kernel_rfl
theorem c100:compF Try.prog 100 ⟨[],[],[],0,[],noIt,false,none,preN 100⟩ [[0],[0],[0],[],[0],[0,3],[0],[0,3],[0],[0,3],[0],[0,3],[0],[0,4],[0,4,5],[0,4,5],[0,4,5],[0],[],[0,4,5],[0,4,5,6],[0,5],[],[0,4,5,6],[0,4,5],[0,4],[0,4],[0,3],[0],[],[0,3],[3]] false=some t100:=by kernel_rfl
theorem c104:compF Try.prog 104 ⟨[],[],[],0,[],noIt,false,none,preN 104⟩ [[0],[0],[0],[0],[0],[0],[0],[]] true=some t104:=by kernel_rfl
theorem c105:compF Try.prog 105 ⟨[],[],[],0,[],noIt,false,none,preN 105⟩ [[0],[0]] true=some t105:=by kernel_rfl
theorem c103:compF Try.prog 103 ⟨[],[(5,5),(4,4)],[],0,[],noIt,false,none,preN 103⟩ [[0,1],[0,1,4],[0,1,4,5],[1,4,5,6],[1,4,5,6],[1,4,5,6],[1,4,5,6],[4,5]] true=some t103:=by kernel_rfl
theorem c52:compF Try.prog 52 ⟨[],[(9,2),(16,2),(2,2),(4,4)],[],0,[],noIt,false,none,preN 52⟩ [[0,1],[1,2,4],[2,4]] true=some t52:=by kernel_rfl
theorem c102:compF Try.prog 102 ⟨[],[(5,2),(7,3),(10,2),(12,3),(15,2),(17,3),(20,2),(22,3),(4,4)],[],0,[],noIt,false,none,preN 102⟩ [[0,1],[2,3,4]] true=some t102:=by kernel_rfl
theorem c99:compF Try.prog 99 ⟨[],[(3,1),(6,1),(9,1),(12,1),(2,2)],[],0,[],noIt,false,none,preN 99⟩ [[0],[1,2]] true=some t99:=by kernel_rfl
theorem c77:compF Try.prog 77 ⟨[],[(6,6)],[],0,[],noIt,false,none,preN 77⟩ [[0,1,2,3],[0,1,3,6],[0]] false=some t77:=by kernel_rfl
theorem c32:compF Try.prog 32 ⟨[],[(3,3),(2,2)],[],0,[],noIt,false,none,preN 32⟩ [[0],[0,2],[0,2,3],[0,2,3,4],[0,2,3,4],[0,2,3,4],[0,2,3,4],[2,3]] true=some t32:=by kernel_rfl
theorem c13:compF Try.prog 13 ⟨[2,33,11],[(2,2),(11,11),(52,11),(55,11),(65,33),(70,11),(76,33),(85,33),(92,33),(99,33),(110,33),(119,33),(123,33)],[],0,[],noIt,true,none,preN 13⟩ [[0],[0,2],[2],[0,2],[0,2,19,20,21],[0,2,19,20,21],[0,2,19,20,21],[0,2,5,19,20,21],[0,2,6,19,20,21],[2,6],[0,2,19,20,21],[0,2],[0,2,7,33],[0,2,7,8,33],[2,7,8,33,37,38,39],[2,7,8,33,37,38,39],[2,7,8,33,37,38,39],[2,7,8,9,10,33,37,38,39],[2,7,8,9,11,33,37,38,39],[2,7,8,9,11,33,37,38,39],[2,7,8,9,11,33,37,38,39,57],[2,7,8,9,11,33,37,38,39,57],[2,7,8,9,11,33,37,38,39,57],[2,7,8,9,11,12,33,37,38,39,57],[2,7,8,9,11,33,37,38,39],[2,7,8,9,33,37,38,39],[2,7,8,33,37,38,39],[2,7,33],[2],[2,7,33],[2,7,33,100,101,102],[2,7,33,100,101,102],[2,7,33,100,101,102],[2,7,14,33,100,101,102],[2,7,33,100,101,102],[2,7,33]] true=some t13:=by kernel_rfl
theorem c36:compF Try.prog 36 ⟨[21],[(5,5),(30,5),(39,5),(46,5),(53,5),(57,5),(63,5)],[],0,[],noIt,false,none,preN 36⟩ [[0],[0],[],[0],[0,3],[0,3,22,23,24],[0,3,22,23,24],[0,3,22,23,24],[0,3,4,5,22,23,24],[0,3,4,5,6,7,8,22,23,24],[],[0,3,4,5,22,23,24],[0,3,4,22,23,24,64,65,66],[0,3,4,22,23,24,64,65,66],[0,3,4,22,23,24,64,65,66],[0,3,4,10,22,23,24,64,65,66],[],[0,3,4,10,22,23,24,64,65,66],[0,3,4,22,23,24,64,65,66],[0,3,22,23,24],[0,3],[],[]] true=some t36:=by kernel_rfl
theorem c57:compF Try.prog 57 ⟨[],[],[],0,[],noIt,false,none,preN 57⟩ [[0],[0],[5],[5],[],[5],[5],[],[5],[5],[5],[],[]] true=some t57:=by kernel_rfl
theorem c58:compF Try.prog 58 ⟨[],[],[],0,[],noIt,false,none,preN 58⟩ [[0,1],[0,1]] true=some t58:=by kernel_rfl
theorem c71:compF Try.prog 71 ⟨[],[],[],0,[],noIt,false,none,preN 71⟩ [[0,1],[0,1],[0,1,7,8],[0,1,7,8],[0,1,7,8],[0,1,5,7,8],[5],[0,1,7,8],[]] true=some t71:=by kernel_rfl
theorem c59:compF Try.prog 59 ⟨[],[],[],0,[],noIt,false,none,preN 59⟩ [[0],[0]] true=some t59:=by kernel_rfl
theorem c37:compF Try.prog 37 ⟨[33,44],[(3,3)],[],0,[],noIt,false,none,preN 37⟩ [[0,1],[0,3],[0,3,5],[5]] false=some t37:=by kernel_rfl
theorem c38:compF Try.prog 38 ⟨[25,26,65,66],[(7,7),(21,7),(6,6),(31,7),(41,7),(9,9),(46,7),(12,12),(68,7),(15,15),(79,12),(82,15),(85,12),(87,15),(91,12),(93,15),(102,7),(16,16),(107,7),(111,16),(113,16),(116,16),(119,7),(123,16)],[],0,[],noIt,false,none,preN 38⟩ [[0,1,2],[0,1,2,6],[0,1,6,7],[0,1,6,7,22],[6],[0,1,6,7,22],[0,6,7],[6,8],[0,1,6,7,22],[0,1,6,7],[0,1,6,7,9],[0,1,6,9,48,49,50],[0,1,6,9,48,49,50],[0,1,6,9,48,49,50],[0,1,6,9,11,48,49,50],[0,1,6,9,48,49,50],[6,9],[0,1,6,7,22],[0,1,6,7],[0,1,6,7,12],[0,1,6,12,69,70,71],[0,1,6,12,69,70,71],[0,1,6,12,69,70,71],[0,1,6,12,14,69,70,71],[0,1,6,12,15,69,70,71],[0,1,6,12,69,70,71],[6,12],[0,1,6,7],[0,6,7,16],[0,6,7,16],[6,7,16],[6,16]] false=some t38:=by kernel_rfl
theorem c60:compF Try.prog 60 ⟨[],[(9,4),(11,5),(14,4),(17,5),(20,4),(22,5),(7,7),(25,4),(27,4),(29,5),(33,7),(34,5),(36,4),(38,5),(42,7),(6,6)],[],0,[],noIt,false,none,preN 60⟩ [[0,1,2],[0,4,5,6],[4,5,6],[4,5,6,7],[4,5,6,7],[4,5,6,7],[4,5,6,7],[6,7]] false=some t60:=by kernel_rfl
theorem c39:compF Try.prog 39 ⟨[],[],[],0,[],noIt,true,none,preN 39⟩ [[0,1,2],[0,2,8],[0,2,8],[0,2,8],[0,2,6,8]] false=some t39:=by kernel_rfl
theorem c41:compF Try.prog 41 ⟨[1],[],[],0,[],noIt,false,none,preN 41⟩ [[0],[1]] true=some t41:=by kernel_rfl
theorem c31:compF Try.prog 31 ⟨[],[],[],0,[],noIt,false,none,preN 31⟩ [[0,1],[0,1],[],[0,1],[0,1,5],[0,1,5],[0,1,5],[],[0,1,5],[]] true=some t31:=by kernel_rfl
theorem c22:compF Try.prog 22 ⟨[],[],[],0,[],noIt,false,none,preN 22⟩ [[0,1],[0,1],[],[0,1],[0,1,5],[0,1,5],[0,1,5],[],[0,1,5],[]] true=some t22:=by kernel_rfl
theorem c9:compF Try.prog 9 ⟨[],[],[],0,[],noIt,false,none,preN 9⟩ [[0,1],[0,1],[0,1,5],[0,1,5,6],[0,1,5,6],[0,1,5,6],[0,1,5,6],[0,1,5]] true=some t9:=by kernel_rfl
theorem c10:compF Try.prog 10 ⟨[20],[],[],0,[],noIt,false,none,preN 10⟩ [[0],[0],[],[0],[0,3],[0,3,4],[0,3,4],[0,3,4],[0,3,4,5,6],[],[0,3,4],[0,3,4,7],[0,3,4,7],[0,3,4,7],[0,3,4,7,8],[],[0,3,4,7,8],[0,3,4,7],[0,3,4],[0,3],[0,3,9],[0,3,9],[0,3,9],[],[0,3,9],[]] true=some t10:=by kernel_rfl
theorem c33:compF Try.prog 33 ⟨[],[],[],0,[],noIt,false,none,preN 33⟩ [[0],[0],[4],[4],[],[4],[4],[],[4],[4],[4],[],[]] true=some t33:=by kernel_rfl
theorem c11:compF Try.prog 11 ⟨[],[],[],0,[],noIt,false,none,preN 11⟩ [[0],[0],[],[0]] true=some t11:=by kernel_rfl
theorem c34:compF Try.prog 34 ⟨[],[],[],0,[],noIt,false,none,preN 34⟩ [[0,1],[0,1],[0,1],[0,1],[0,1,5],[0,1,5,6],[0,1,5,6],[0,1,5,6],[0,1,5,6],[5]] true=some t34:=by kernel_rfl
theorem c12:compF Try.prog 12 ⟨[],[],[],0,[],noIt,false,none,preN 12⟩ [[0,1],[0,1],[],[0,1]] true=some t12:=by kernel_rfl
theorem c35:compF Try.prog 35 ⟨[],[(7,7),(24,7),(28,7),(38,7),(50,7),(58,7),(64,7),(69,7),(79,7),(87,7),(91,7),(97,7),(101,7)],[],0,[],noIt,false,none,preN 35⟩ [[0,1],[0,1],[0,1,5],[0,1,5,6],[0,1,5,6],[0,1,5,6],[0,1,5,6,7],[0,1,5,6,7,8],[0,1,5,6,7,8,9],[0,1,5,6,7,8,9],[0,1,5,6,7,8,9],[0,1,5,6,7,8,9],[0,1,5,6,7,8],[0,1,5,6,7,8,10],[0,1,5,6,7,8,10],[0,1,5,6,7,8,10],[0,1,5,6,7,8,10],[0,1,5,6,7,8,10],[0,1,5,6,7,8,10],[0,1,5,6,7,8],[0,1,5,6,7,8],[0,1,5,6,7,8],[0,1,5,6,8],[0,1,5,6,8],[0,1,5,6],[5]] false=some t35:=by kernel_rfl
theorem c53:compF Try.prog 53 ⟨[14],[],[],0,[],noIt,false,none,preN 53⟩ [[0,1],[0,1],[0,1,5],[0,1,5,6],[0,1,5,6],[0,1,5,6],[0,1,5,6],[0,1,5,6],[5]] false=some t53:=by kernel_rfl
theorem c19:compF Try.prog 19 ⟨[],[(7,2)],[],0,[],noIt,false,none,preN 19⟩ [[0,1],[1,2]] true=some t19:=by kernel_rfl
theorem c54:compF Try.prog 54 ⟨[],[],[],0,[],noIt,false,none,preN 54⟩ [[0,1],[0,1],[0,1,5],[0,1,5,6],[0,1,5,6],[0,1,5,6],[0,1,5,6,7],[0,1,5,6,7],[0,1,5,6,7],[0,1,5,6,7,8],[0,1,5,6,7,8],[0,1,5,6,7,8],[0,1,5,6,7,8],[0,1,5,6,7],[0,1,5,6],[5]] false=some t54:=by kernel_rfl
theorem c55:compF Try.prog 55 ⟨[],[],[],0,[],noIt,false,none,preN 55⟩ [[0,1],[0,1],[0,1,5],[0,1,5,6],[0,1,5,6],[0,1,5,6],[0,1,5,6,7],[0,1,5,6,7],[0,1,5,6,7],[0,1,5,6,7],[0,1,5,6],[5]] false=some t55:=by kernel_rfl
theorem c56:compF Try.prog 56 ⟨[],[],[],0,[],noIt,false,none,preN 56⟩ [[0],[0],[0,3],[0,3,4],[0,3,4],[0,3,4],[0,3,4,5],[0,3,4,5],[0,3,4,5],[0,3,4,5,6],[0,3,4,5,6],[0,3,4,5,6],[0,3,4,5,6],[0,3,4,5],[0,3,4],[3]] false=some t56:=by kernel_rfl
theorem c14:compF Try.prog 14 ⟨[],[(9,1),(19,1),(26,1),(33,1),(40,1),(64,1),(71,1)],[],0,[],noIt,false,none,preN 14⟩ [[0],[1],[1,3],[],[1,3],[1,3,41,42,43],[1,3,41,42,43],[1,3,41,42,43],[1,3,4,5,41,42,43],[1,3,4,5,6,41,42,43],[1,3,4,6,41,42,43,48,49,50],[1,3,4,6,41,42,43,48,49,50],[1,3,4,6,41,42,43,48,49,50],[1,3,4,6,8,41,42,43,48,49,50],[],[1,3,4,8,41,42,43,48,49,50],[1,3,4,6,41,42,43,48,49,50],[1,3,4,41,42,43],[],[1,3,41,42,43],[]] true=some t14:=by kernel_rfl
theorem c15:compF Try.prog 15 ⟨[],[(2,2)],[],0,[],noIt,false,none,preN 15⟩ [[0,1],[1,2],[],[1,2],[1,2,5],[2,5,13,14,15],[2,5,13,14,15],[2,5,13,14,15],[2,5,7,13,14,15],[2,5,13,14,15],[2,5]] true=some t15:=by kernel_rfl
theorem c42:compF Try.prog 42 ⟨[12],[(23,3),(28,3),(38,3)],[],0,[],noIt,false,none,preN 42⟩ [[0,1,2],[1,2,3],[1,2,3,7],[2,3,7,13,14,15],[2,3,7,13,14,15],[2,3,7,13,14,15],[2,3,7,9,13,14,15],[2,3,7,9,13,14,15],[2,3,7,13,14,15,32,33,34],[2,3,7,13,14,15,32,33,34],[2,3,7,13,14,15,32,33,34],[2,3,7,11,13,14,15,32,33,34],[2,3,7,11,13,14,15,32,33,34],[2,3,7,13,14,15,32,33,34],[2,3,7,13,14,15],[7]] true=some t42:=by kernel_rfl
theorem c65:compF Try.prog 65 ⟨[],[(7,2)],[],0,[],noIt,false,none,preN 65⟩ [[0,1],[1,2]] true=some t65:=by kernel_rfl
theorem c43:compF Try.prog 43 ⟨[],[(19,2),(24,2)],[],0,[],noIt,false,none,preN 43⟩ [[0,1],[1,2],[1,2,5],[2,5,9,10,11],[2,5,9,10,11],[2,5,9,10,11],[2,5,7,9,10,11],[2,5,7,9,10,11],[2,5,8,9,10,11],[2,8,9,10,11],[2,5,9,10,11],[5]] true=some t43:=by kernel_rfl
def tab1:List (Nat×AFn):=[(61,t61),(72,t72)]
def A1:FuncId→Option AFn:=assoc tab1
theorem fnsOk1:FnsOk Try.prog A1:=assoc_ok (mem_cons_ok ⟨_,_,c61,noIt_ok,.inl rfl⟩ (mem_cons_ok ⟨_,_,c72,noIt_ok,.inl rfl⟩ (mem_nil_ok)))
abbrev X0:Orc:=withFun 40 keysG noX
noncomputable def X:Orc:=callW X0 A1
def tab:List (Nat×AFn):=[(3,t3),(8,t8),(21,t21),(44,t44),(66,t66),(76,t76),(67,t67),(89,t89),(96,t96),(68,t68),(98,t98),(101,t101),(100,t100),(104,t104),(105,t105),(103,t103),(52,t52),(102,t102),(99,t99),(77,t77),(32,t32),(13,t13),(36,t36),(57,t57),(58,t58),(71,t71),(59,t59),(37,t37),(38,t38),(60,t60),(39,t39),(41,t41),(31,t31),(22,t22),(9,t9),(10,t10),(33,t33),(11,t11),(34,t34),(12,t12),(35,t35),(53,t53),(19,t19),(54,t54),(55,t55),(56,t56),(14,t14),(15,t15),(42,t42),(65,t65),(43,t43)]
def A:FuncId→Option AFn:=assoc tab
theorem fnsOk:FnsOk Try.prog A:=assoc_ok (mem_cons_ok ⟨_,_,c3,noIt_ok,.inl rfl⟩ (mem_cons_ok ⟨_,_,c8,noIt_ok,.inl rfl⟩ (mem_cons_ok ⟨_,_,c21,noIt_ok,.inl rfl⟩ (mem_cons_ok ⟨_,_,c44,noIt_ok,.inl rfl⟩ (mem_cons_ok ⟨_,_,c66,noIt_ok,.inl rfl⟩ (mem_cons_ok ⟨_,_,c76,noIt_ok,.inl rfl⟩ (mem_cons_ok ⟨_,_,c67,noIt_ok,.inl rfl⟩ (mem_cons_ok ⟨_,_,c89,noIt_ok,.inl rfl⟩ (mem_cons_ok ⟨_,_,c96,noIt_ok,.inl rfl⟩ (mem_cons_ok ⟨_,_,c68,noIt_ok,.inl rfl⟩ (mem_cons_ok ⟨_,_,c98,noIt_ok,.inl rfl⟩ (mem_cons_ok ⟨_,_,c101,noIt_ok,.inl rfl⟩ (mem_cons_ok ⟨_,_,c100,noIt_ok,.inl rfl⟩ (mem_cons_ok ⟨_,_,c104,noIt_ok,.inl rfl⟩ (mem_cons_ok ⟨_,_,c105,noIt_ok,.inl rfl⟩ (mem_cons_ok ⟨_,_,c103,noIt_ok,.inl rfl⟩ (mem_cons_ok ⟨_,_,c52,noIt_ok,.inl rfl⟩ (mem_cons_ok ⟨_,_,c102,noIt_ok,.inl rfl⟩ (mem_cons_ok ⟨_,_,c99,noIt_ok,.inl rfl⟩ (mem_cons_ok ⟨_,_,c77,noIt_ok,.inl rfl⟩ (mem_cons_ok ⟨_,_,c32,noIt_ok,.inl rfl⟩ (mem_cons_ok ⟨_,_,c13,noIt_ok,.inl rfl⟩ (mem_cons_ok ⟨_,_,c36,noIt_ok,.inl rfl⟩ (mem_cons_ok ⟨_,_,c57,noIt_ok,.inl rfl⟩ (mem_cons_ok ⟨_,_,c58,noIt_ok,.inl rfl⟩ (mem_cons_ok ⟨_,_,c71,noIt_ok,.inl rfl⟩ (mem_cons_ok ⟨_,_,c59,noIt_ok,.inl rfl⟩ (mem_cons_ok ⟨_,_,c37,noIt_ok,.inl rfl⟩ (mem_cons_ok ⟨_,_,c38,noIt_ok,.inl rfl⟩ (mem_cons_ok ⟨_,_,c60,noIt_ok,.inl rfl⟩ (mem_cons_ok ⟨_,_,c39,noIt_ok,.inl rfl⟩ (mem_cons_ok ⟨_,_,c41,noIt_ok,.inl rfl⟩ (mem_cons_ok ⟨_,_,c31,noIt_ok,.inl rfl⟩ (mem_cons_ok ⟨_,_,c22,noIt_ok,.inl rfl⟩ (mem_cons_ok ⟨_,_,c9,noIt_ok,.inl rfl⟩ (mem_cons_ok ⟨_,_,c10,noIt_ok,.inl rfl⟩ (mem_cons_ok ⟨_,_,c33,noIt_ok,.inl rfl⟩ (mem_cons_ok ⟨_,_,c11,noIt_ok,.inl rfl⟩ (mem_cons_ok ⟨_,_,c34,noIt_ok,.inl rfl⟩ (mem_cons_ok ⟨_,_,c12,noIt_ok,.inl rfl⟩ (mem_cons_ok ⟨_,_,c35,noIt_ok,.inl rfl⟩ (mem_cons_ok ⟨_,_,c53,noIt_ok,.inl rfl⟩ (mem_cons_ok ⟨_,_,c19,noIt_ok,.inl rfl⟩ (mem_cons_ok ⟨_,_,c54,noIt_ok,.inl rfl⟩ (mem_cons_ok ⟨_,_,c55,noIt_ok,.inl rfl⟩ (mem_cons_ok ⟨_,_,c56,noIt_ok,.inl rfl⟩ (mem_cons_ok ⟨_,_,c14,noIt_ok,.inl rfl⟩ (mem_cons_ok ⟨_,_,c15,noIt_ok,.inl rfl⟩ (mem_cons_ok ⟨_,_,c42,noIt_ok,.inl rfl⟩ (mem_cons_ok ⟨_,_,c65,noIt_ok,.inl rfl⟩ (mem_cons_ok ⟨_,_,c43,noIt_ok,.inl rfl⟩ (mem_nil_ok))))))))))))))))))))))))))))))))))))))))))))))))))))
noncomputable abbrev C:Orc:=callW X A
theorem laidOut:laidOutB Try.prog=true:=by kernel_rfl
theorem own:ownKnob Try.prog.godebug=none:=by kernel_rfl
theorem A61:A1 61=some t61:=rfl
theorem A72:A1 72=some t72:=rfl
theorem A3:A 3=some t3:=rfl
theorem A13:A 13=some t13:=rfl
theorem A36:A 36=some t36:=rfl
theorem A57:A 57=some t57:=rfl
theorem A58:A 58=some t58:=rfl
theorem A71:A 71=some t71:=rfl
theorem A59:A 59=some t59:=rfl
theorem A37:A 37=some t37:=rfl
theorem A38:A 38=some t38:=rfl
theorem A60:A 60=some t60:=rfl
theorem A39:A 39=some t39:=rfl
theorem A41:A 41=some t41:=rfl
theorem A9:A 9=some t9:=rfl
theorem A10:A 10=some t10:=rfl
theorem A33:A 33=some t33:=rfl
theorem A11:A 11=some t11:=rfl
theorem A34:A 34=some t34:=rfl
theorem A12:A 12=some t12:=rfl
theorem A35:A 35=some t35:=rfl
theorem A53:A 53=some t53:=rfl
theorem A19:A 19=some t19:=rfl
theorem A54:A 54=some t54:=rfl
theorem A55:A 55=some t55:=rfl
theorem A56:A 56=some t56:=rfl
theorem A14:A 14=some t14:=rfl
theorem A15:A 15=some t15:=rfl
theorem A42:A 42=some t42:=rfl
theorem A65:A 65=some t65:=rfl
theorem A43:A 43=some t43:=rfl
end Go.Proofs.Ytnhennjliinplaa
