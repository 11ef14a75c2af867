/-
  No cell of these rows narrows 'for every input' (looked for: loops, veiled, ifaces, maps, wideKeys, modest, calm, conditions, laid).
  DERIVED. THE GIVEN ROWS OF THIS SEAT. 6 by the template 'for every input the law returns true; each argument reads behind the call as it read before'; 0 by the template 'total and deterministic' (their statements: YtkllbcjanneppaaGreatTotals.lean).
  GIVEN WITH THE SEED: the statements are not yours to turn. If you find one false, say at which input.
  Laid BY PROGRAM, IN A SANDBOX (cutbox-rows.mjs): the forced cells as the released guide's own fill.sh prints them over the translation 47f23b26afe14260… (all of the seat's roots in one cut). By AI agents, Wed Nov 11 2026. No macro, syntax, notation, axiom, sorry.
-/
import Derived.Test.YtkllbcjanneppaaGreatChecked
import GoSem.Claim
import GoSem.ClaimJoined
import GoSem.ClaimMapViews
import Derived.JoinedTies
import Derived.KernelRfl
namespace Go.Proofs.YtkllbcjanneppaaGreat
/- THE CELL 'sum', in the pinned program and in every row, IS THE sha256 OF THE DUMP (.gsa) THAT YtkllbcjanneppaaGreatProg.lean LOADS. Nothing in Lean hashes anything: it is a label: what it is worth is what the hold of that sum in a sandbox is worth. -/
noncomputable def Tryz.pinned : Pinned := { name := "ytkllbcjanneppaagreat", sum := "47f23b26afe14260a31d73786995600f3b62e20f1d4cfda1fefacd2bc3d3416d", checked := Tryz.checked }
namespace Rows
def none {H : Type} : Left H := { results := [], args := [] }

/-- 'viewportlaw15.CostNames': WHATEVER THE INPUT: true; the input reads as it did. -/
def costNamesSpec : ChangeSpec := { name := "costNames", fn := fun _ => fun
  | [] => { results := [.lit (.bool true)], args := [] }
  | _ => none }
def costNamesRow : OpenClaim := { program := "ytkllbcjanneppaagreat", sum := "47f23b26afe14260a31d73786995600f3b62e20f1d4cfda1fefacd2bc3d3416d", func := "viewport/viewportlaw15.CostNames", spec := "costNames", unfollowed := true, recurses := true, apart := false }
def CostNamesSaid : Prop := costNamesRow.holds Tryz.pinned (OpenSpec.ofChange costNamesSpec)

/-- ITS FALSE NEIGHBOUR: 'it returns false'. Refute it at one input. -/
def costNamesWrong : ChangeSpec := { name := "costNames", fn := fun _ => fun
  | [] => { results := [.lit (.bool false)], args := [] }
  | _ => none }
def CostNamesWrongFalsely : Prop := costNamesRow.holds Tryz.pinned (OpenSpec.ofChange costNamesWrong)

/-- 'viewportlaw15.CostCalls': WHATEVER THE INPUT: true; the input reads as it did. -/
def costCallsSpec : ChangeSpec := { name := "costCalls", fn := fun _ => fun
  | [d1, d2, d3, d4] => { results := [.lit (.bool true)], args := [d1, d2, d3, d4] }
  | _ => none }
def costCallsRow : OpenClaim := { program := "ytkllbcjanneppaagreat", sum := "47f23b26afe14260a31d73786995600f3b62e20f1d4cfda1fefacd2bc3d3416d", func := "viewport/viewportlaw15.CostCalls", spec := "costCalls", unfollowed := true, recurses := true, apart := false }
def CostCallsSaid : Prop := costCallsRow.holds Tryz.pinned (OpenSpec.ofChange costCallsSpec)

/-- ITS FALSE NEIGHBOUR: 'it returns false'. Refute it at one input. -/
def costCallsWrong : ChangeSpec := { name := "costCalls", fn := fun _ => fun
  | [d1, d2, d3, d4] => { results := [.lit (.bool false)], args := [d1, d2, d3, d4] }
  | _ => none }
def CostCallsWrongFalsely : Prop := costCallsRow.holds Tryz.pinned (OpenSpec.ofChange costCallsWrong)

/-- 'viewportlaw15.CostDerives': WHATEVER THE INPUT: true; the input reads as it did. -/
def costDerivesSpec : ChangeSpec := { name := "costDerives", fn := fun _ => fun
  | [d1, d2] => { results := [.lit (.bool true)], args := [d1, d2] }
  | _ => none }
def costDerivesRow : OpenClaim := { program := "ytkllbcjanneppaagreat", sum := "47f23b26afe14260a31d73786995600f3b62e20f1d4cfda1fefacd2bc3d3416d", func := "viewport/viewportlaw15.CostDerives", spec := "costDerives", unfollowed := true, recurses := true, apart := false }
def CostDerivesSaid : Prop := costDerivesRow.holds Tryz.pinned (OpenSpec.ofChange costDerivesSpec)

/-- ITS FALSE NEIGHBOUR: 'it returns false'. Refute it at one input. -/
def costDerivesWrong : ChangeSpec := { name := "costDerives", fn := fun _ => fun
  | [d1, d2] => { results := [.lit (.bool false)], args := [d1, d2] }
  | _ => none }
def CostDerivesWrongFalsely : Prop := costDerivesRow.holds Tryz.pinned (OpenSpec.ofChange costDerivesWrong)

/-- 'viewportlaw15.CostFinds': WHATEVER THE INPUT: true; the input reads as it did. -/
def costFindsSpec : ChangeSpec := { name := "costFinds", fn := fun _ => fun
  | [d1, d2] => { results := [.lit (.bool true)], args := [d1, d2] }
  | _ => none }
def costFindsRow : OpenClaim := { program := "ytkllbcjanneppaagreat", sum := "47f23b26afe14260a31d73786995600f3b62e20f1d4cfda1fefacd2bc3d3416d", func := "viewport/viewportlaw15.CostFinds", spec := "costFinds", unfollowed := true, recurses := true, apart := false }
def CostFindsSaid : Prop := costFindsRow.holds Tryz.pinned (OpenSpec.ofChange costFindsSpec)

/-- ITS FALSE NEIGHBOUR: 'it returns false'. Refute it at one input. -/
def costFindsWrong : ChangeSpec := { name := "costFinds", fn := fun _ => fun
  | [d1, d2] => { results := [.lit (.bool false)], args := [d1, d2] }
  | _ => none }
def CostFindsWrongFalsely : Prop := costFindsRow.holds Tryz.pinned (OpenSpec.ofChange costFindsWrong)

/-- 'viewportlaw15.CostNulls': WHATEVER THE INPUT: true; the input reads as it did. -/
def costNullsSpec : ChangeSpec := { name := "costNulls", fn := fun _ => fun
  | [d] => { results := [.lit (.bool true)], args := [d] }
  | _ => none }
def costNullsRow : OpenClaim := { program := "ytkllbcjanneppaagreat", sum := "47f23b26afe14260a31d73786995600f3b62e20f1d4cfda1fefacd2bc3d3416d", func := "viewport/viewportlaw15.CostNulls", spec := "costNulls", unfollowed := true, recurses := true, apart := false }
def CostNullsSaid : Prop := costNullsRow.holds Tryz.pinned (OpenSpec.ofChange costNullsSpec)

/-- ITS FALSE NEIGHBOUR: 'it returns false'. Refute it at one input. -/
def costNullsWrong : ChangeSpec := { name := "costNulls", fn := fun _ => fun
  | [d] => { results := [.lit (.bool false)], args := [d] }
  | _ => none }
def CostNullsWrongFalsely : Prop := costNullsRow.holds Tryz.pinned (OpenSpec.ofChange costNullsWrong)

/-- 'viewportlaw15.CostMore': WHATEVER THE INPUT: true; the input reads as it did. -/
def costMoreSpec : ChangeSpec := { name := "costMore", fn := fun _ => fun
  | [d1, d2] => { results := [.lit (.bool true)], args := [d1, d2] }
  | _ => none }
def costMoreRow : OpenClaim := { program := "ytkllbcjanneppaagreat", sum := "47f23b26afe14260a31d73786995600f3b62e20f1d4cfda1fefacd2bc3d3416d", func := "viewport/viewportlaw15.CostMore", spec := "costMore", unfollowed := true, recurses := true, apart := false }
def CostMoreSaid : Prop := costMoreRow.holds Tryz.pinned (OpenSpec.ofChange costMoreSpec)

/-- ITS FALSE NEIGHBOUR: 'it returns false'. Refute it at one input. -/
def costMoreWrong : ChangeSpec := { name := "costMore", fn := fun _ => fun
  | [d1, d2] => { results := [.lit (.bool false)], args := [d1, d2] }
  | _ => none }
def CostMoreWrongFalsely : Prop := costMoreRow.holds Tryz.pinned (OpenSpec.ofChange costMoreWrong)

/- THE SECOND FORM. 'bulk': how many values and letters a reading holds, each counted each time it is reached (what is shared counts as often as it is met; a slice's spare places count too). A statement '..UptoSaid' is the law's where the arguments, and the package variables that the reading takes, are together of bulk at most 1048576: NARROWER than '..Said'. Prove '..Said' where nothing that the law and all that it calls make is longer than what came in: it says more and counts as full. Else prove '..UptoSaid'. A law counts once. -/
mutual
def uptoBulk {H : Type} : DataW H → Nat
  | .lit (.string bytes) => bytes.length + 1
  | .lit _ => 1
  | .nil => 1
  | .ptr d => uptoBulk d + 1
  | .slice elems spare => uptoBulkAll elems + uptoBulkAll spare + 1
  | .agg parts => uptoBulkAll parts + 1
  | .iface _ d => uptoBulk d + 1
  | .map entries => uptoBulkEntries entries + 1
  | .held _ => 1
def uptoBulkAll {H : Type} : List (DataW H) → Nat
  | [] => 0
  | d :: r => uptoBulk d + uptoBulkAll r
def uptoBulkEntries {H : Type} : List (Lit × DataW H) → Nat
  | [] => 0
  | x :: r => uptoBulkEntry x + uptoBulkEntries r
def uptoBulkEntry {H : Type} : Lit × DataW H → Nat
  | (.string bytes, d) => bytes.length + uptoBulk d + 1
  | (_, d) => uptoBulk d + 1
 end
def uptoSmall : (H : Type) → List (DataW H) → Bool := fun _ ds => decide (uptoBulkAll ds ≤ 1048576)
def OpenSpec.upto (s : _root_.Go.ChangeSpec) : _root_.Go.OpenSpec := { _root_.Go.OpenSpec.ofChange s with cond := some uptoSmall }

/-- 'viewportlaw15.CostNames', WHERE WHAT IT READS IS OF BULK AT MOST 1048576: true; the input reads as it did. -/
def costNamesUptoRow : OpenClaim := { program := "ytkllbcjanneppaagreat", sum := "47f23b26afe14260a31d73786995600f3b62e20f1d4cfda1fefacd2bc3d3416d", func := "viewport/viewportlaw15.CostNames", spec := "costNames", unfollowed := true, recurses := true, apart := false, narrowed := true }
def CostNamesUptoSaid : Prop := costNamesUptoRow.holds Tryz.pinned (OpenSpec.upto costNamesSpec)

/-- 'viewportlaw15.CostCalls', WHERE WHAT IT READS IS OF BULK AT MOST 1048576: true; the input reads as it did. -/
def costCallsUptoRow : OpenClaim := { program := "ytkllbcjanneppaagreat", sum := "47f23b26afe14260a31d73786995600f3b62e20f1d4cfda1fefacd2bc3d3416d", func := "viewport/viewportlaw15.CostCalls", spec := "costCalls", unfollowed := true, recurses := true, apart := false, narrowed := true }
def CostCallsUptoSaid : Prop := costCallsUptoRow.holds Tryz.pinned (OpenSpec.upto costCallsSpec)

/-- 'viewportlaw15.CostDerives', WHERE WHAT IT READS IS OF BULK AT MOST 1048576: true; the input reads as it did. -/
def costDerivesUptoRow : OpenClaim := { program := "ytkllbcjanneppaagreat", sum := "47f23b26afe14260a31d73786995600f3b62e20f1d4cfda1fefacd2bc3d3416d", func := "viewport/viewportlaw15.CostDerives", spec := "costDerives", unfollowed := true, recurses := true, apart := false, narrowed := true }
def CostDerivesUptoSaid : Prop := costDerivesUptoRow.holds Tryz.pinned (OpenSpec.upto costDerivesSpec)

/-- 'viewportlaw15.CostFinds', WHERE WHAT IT READS IS OF BULK AT MOST 1048576: true; the input reads as it did. -/
def costFindsUptoRow : OpenClaim := { program := "ytkllbcjanneppaagreat", sum := "47f23b26afe14260a31d73786995600f3b62e20f1d4cfda1fefacd2bc3d3416d", func := "viewport/viewportlaw15.CostFinds", spec := "costFinds", unfollowed := true, recurses := true, apart := false, narrowed := true }
def CostFindsUptoSaid : Prop := costFindsUptoRow.holds Tryz.pinned (OpenSpec.upto costFindsSpec)

/-- 'viewportlaw15.CostNulls', WHERE WHAT IT READS IS OF BULK AT MOST 1048576: true; the input reads as it did. -/
def costNullsUptoRow : OpenClaim := { program := "ytkllbcjanneppaagreat", sum := "47f23b26afe14260a31d73786995600f3b62e20f1d4cfda1fefacd2bc3d3416d", func := "viewport/viewportlaw15.CostNulls", spec := "costNulls", unfollowed := true, recurses := true, apart := false, narrowed := true }
def CostNullsUptoSaid : Prop := costNullsUptoRow.holds Tryz.pinned (OpenSpec.upto costNullsSpec)

/-- 'viewportlaw15.CostMore', WHERE WHAT IT READS IS OF BULK AT MOST 1048576: true; the input reads as it did. -/
def costMoreUptoRow : OpenClaim := { program := "ytkllbcjanneppaagreat", sum := "47f23b26afe14260a31d73786995600f3b62e20f1d4cfda1fefacd2bc3d3416d", func := "viewport/viewportlaw15.CostMore", spec := "costMore", unfollowed := true, recurses := true, apart := false, narrowed := true }
def CostMoreUptoSaid : Prop := costMoreUptoRow.holds Tryz.pinned (OpenSpec.upto costMoreSpec)

end Rows
end Go.Proofs.YtkllbcjanneppaaGreat
