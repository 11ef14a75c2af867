/- PredictCalls: tables are built, and productions predicted, as the document says: the law returns true for all arguments. No conditions. -/
import Derived.Test.YtgbpioccaenjaaaGreatHF
import Derived.Test.YtgbpioccaenjaaaGreatArgs
import Derived.Test.YtgbpioccaenjaaaGreatOk
set_option linter.unusedSimpArgs false
set_option linter.unusedVariables false
namespace Go.Proofs.YtgbpioccaenjaaaGreat.predictCalls
open Go Go.Hm Go.ChangeShapes Go.WideShapes Go.ChangeAt Go.RowKit

set_option maxRecDepth 100000 in
theorem on_law (l : List AV) (hl : ArgsC Tryz.prog 8 [24,27,27,3,9,28,3] l) : ∃ lk lim H',C lk lim 3 l [] = some (.val (.bool true),H'):=by
 obtain ⟨a0,a1,a2,a3,a4,a5,a6,rfl,h0,h1,h2,h3,h4,h5,h6⟩:=args7 hl
 obtain ⟨g,rfl⟩:=arg_gram h0
 obtain ⟨S,rfl,hS,hSn⟩:=arg_table h1
 obtain ⟨T,rfl,hT,hTn⟩:=arg_table h2
 obtain ⟨left,rfl,_⟩:=arg_int h3
 obtain ⟨row,rfl⟩:=arg_str h4
 obtain ⟨ks,rfl⟩:=arg_ints h5
 obtain ⟨k,rfl,_⟩:=arg_int h6
 exact ⟨0,0,[],pcalls_code g S T hS hT hSn hTn left row ks k⟩

set_option maxRecDepth 100000 in
theorem lifted (os : Os) (started : os.Started) (H : Type) (enc : TypeId × Value → H) :
  ReturnsInHanded {} Tryz.checked os 3 .any (Rows.predictCallsSpec.pre6 enc Tryz.prog Tryz.f3 Rows.predictCallsRow.domain false) (Rows.predictCallsSpec.post enc Tryz.prog Tryz.f3 false true false false):=by
 refine returnsInHanded_of_change (C:=Tryz.checked) own started (by kernel_rfl) Tryz.func3
  (ChangeSpec.witness6 (enc:=enc) (C:=Tryz.checked) false ⟨#[],#[.agg #[.int .i64 0,.int .i64 0,.int .i64 0,.slice none 0 0],.agg #[.slice none 0 0],.agg #[.slice none 0 0],.int .i64 0,.string ⟨#[]⟩,.slice none 0 0,.int .i64 0],[]⟩ 8 (by kernel_rfl) (by kernel_rfl) (by kernel_rfl) (by kernel_rfl)) ?_
 intro W base args ds gs before hval hW _ _
 exact law_contract (d:=8) (tb:=4) orcOk (by decide) laidOut (by kernel_rfl) rfl Tryz.underlying4 rfl (by kernel_rfl)
  (fun ds hl => match ds,hl with | [_,_,_,_,_,_,_],_ => rfl) (fun l hl => on_law l hl) hval hW

theorem holds : Rows.PredictCallsSaid:=
 OpenClaim.holds_of_wide 3 Tryz.f3 rfl rfl rfl rfl rfl rfl rfl ⟨rfl,rfl,rfl,rfl,rfl⟩ rfl rfl rfl rfl rfl (by kernel_rfl) Tryz.func3 (by kernel_rfl)
  (of_decide_eq_true (by kernel_rfl)) (by unfold Func.isWrapper;first | (rw [if_pos (by decide +kernel)];kernel_rfl) | (rw [if_neg (by decide +kernel)];exact ⟨rfl,rfl⟩))
  (fun os started H enc _ => lifted os started H enc)
end Go.Proofs.YtgbpioccaenjaaaGreat.predictCalls
#print axioms Go.Proofs.YtgbpioccaenjaaaGreat.predictCalls.holds
