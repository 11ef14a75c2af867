import Derived.Test.YtgbpioccaenjaaaGreatCg
set_option linter.unusedSimpArgs false
set_option linter.unusedVariables false
namespace Go.Proofs.YtgbpioccaenjaaaGreat
open Go Go.Hm
def ownG (as : List AV) (_ : Heap) : Option AV:=
 match as with
 | [.agg [.val (.int .i64 t),.val (.int .i64 n),.val (.int .i64 k),.sl m cs]] => match prodsA cs with
  | some ps => if ps.length = m ∧ m ≤ 1000000 ∧ ps.all (fun p => decide (p.2.length ≤ 1000000)) = true then some (.agg [.val (.int .i64 t),.val (.int .i64 n),.val (.int .i64 k),.sl m cs]) else none
  | none => none
 | _ => none
end Go.Proofs.YtgbpioccaenjaaaGreat
