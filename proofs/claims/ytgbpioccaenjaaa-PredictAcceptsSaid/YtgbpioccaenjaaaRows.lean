/-
  No cell of these rows narrows 'for every input' (looked for: loops, veiled, ifaces, maps, wideKeys, modest, calm, conditions, laid).
  DERIVED. THE GIVEN ROWS OF THIS SEAT. 5 by the template 'for every input the law returns true; each argument reads behind the call as it read before'; 0 by the template 'total and deterministic' (their statements: YtgbpioccaenjaaaTotals.lean).
  GIVEN WITH THE SEED: the statements are not yours to turn. If you find one false, say at which input.
  Laid BY PROGRAM, IN A SANDBOX (cutbox-rows.mjs): the forced cells as the released guide's own fill.sh prints them over the translation 8057a47f576f4fd3… (all of the seat's roots in one cut). By AI agents, Wed Nov 11 2026. No macro, syntax, notation, axiom, sorry.
-/
import Derived.Test.YtgbpioccaenjaaaChecked
import GoSem.Claim
import GoSem.ClaimJoined
import GoSem.ClaimMapViews
import Derived.JoinedTies
import Derived.KernelRfl
namespace Go.Proofs.Ytgbpioccaenjaaa
/- THE CELL 'sum', in the pinned program and in every row, IS THE sha256 OF THE DUMP (.gsa) THAT YtgbpioccaenjaaaProg.lean LOADS. Nothing in Lean hashes anything: it is a label: what it is worth is what the hold of that sum in a sandbox is worth. -/
noncomputable def Try.pinned : Pinned := { name := "ytgbpioccaenjaaa", sum := "8057a47f576f4fd3f7622b5f26095ab4683436024da087f2a197ab85c3e626e4", checked := Try.checked }
namespace Rows
def none {H : Type} : Left H := { results := [], args := [] }

/-- 'viewportlaw14.PredictOne': WHATEVER THE INPUT: true; the input reads as it did. -/
def predictOneSpec : ChangeSpec := { name := "predictOne", fn := fun _ => fun
  | [d1, d2] => { results := [.lit (.bool true)], args := [d1, d2] }
  | _ => none }
def predictOneRow : OpenClaim := { program := "ytgbpioccaenjaaa", sum := "8057a47f576f4fd3f7622b5f26095ab4683436024da087f2a197ab85c3e626e4", func := "viewport/viewportlaw14.PredictOne", spec := "predictOne", unfollowed := true, recurses := true, apart := false }
def PredictOneSaid : Prop := predictOneRow.holds Try.pinned (OpenSpec.ofChange predictOneSpec)

/-- ITS FALSE NEIGHBOUR: 'it returns false'. Refute it at one input. -/
def predictOneWrong : ChangeSpec := { name := "predictOne", fn := fun _ => fun
  | [d1, d2] => { results := [.lit (.bool false)], args := [d1, d2] }
  | _ => none }
def PredictOneWrongFalsely : Prop := predictOneRow.holds Try.pinned (OpenSpec.ofChange predictOneWrong)

/-- 'viewportlaw14.PredictMore': WHATEVER THE INPUT: true; the input reads as it did. -/
def predictMoreSpec : ChangeSpec := { name := "predictMore", fn := fun _ => fun
  | [d1, d2] => { results := [.lit (.bool true)], args := [d1, d2] }
  | _ => none }
def predictMoreRow : OpenClaim := { program := "ytgbpioccaenjaaa", sum := "8057a47f576f4fd3f7622b5f26095ab4683436024da087f2a197ab85c3e626e4", func := "viewport/viewportlaw14.PredictMore", spec := "predictMore", unfollowed := true, recurses := true, apart := false }
def PredictMoreSaid : Prop := predictMoreRow.holds Try.pinned (OpenSpec.ofChange predictMoreSpec)

/-- ITS FALSE NEIGHBOUR: 'it returns false'. Refute it at one input. -/
def predictMoreWrong : ChangeSpec := { name := "predictMore", fn := fun _ => fun
  | [d1, d2] => { results := [.lit (.bool false)], args := [d1, d2] }
  | _ => none }
def PredictMoreWrongFalsely : Prop := predictMoreRow.holds Try.pinned (OpenSpec.ofChange predictMoreWrong)

/-- 'viewportlaw14.PredictRows': WHATEVER THE INPUT: true; the input reads as it did. -/
def predictRowsSpec : ChangeSpec := { name := "predictRows", fn := fun _ => fun
  | [d1, d2] => { results := [.lit (.bool true)], args := [d1, d2] }
  | _ => none }
def predictRowsRow : OpenClaim := { program := "ytgbpioccaenjaaa", sum := "8057a47f576f4fd3f7622b5f26095ab4683436024da087f2a197ab85c3e626e4", func := "viewport/viewportlaw14.PredictRows", spec := "predictRows", unfollowed := true, recurses := true, apart := false }
def PredictRowsSaid : Prop := predictRowsRow.holds Try.pinned (OpenSpec.ofChange predictRowsSpec)

/-- ITS FALSE NEIGHBOUR: 'it returns false'. Refute it at one input. -/
def predictRowsWrong : ChangeSpec := { name := "predictRows", fn := fun _ => fun
  | [d1, d2] => { results := [.lit (.bool false)], args := [d1, d2] }
  | _ => none }
def PredictRowsWrongFalsely : Prop := predictRowsRow.holds Try.pinned (OpenSpec.ofChange predictRowsWrong)

/-- 'viewportlaw14.PredictAccepts': WHATEVER THE INPUT: true; the input reads as it did. -/
def predictAcceptsSpec : ChangeSpec := { name := "predictAccepts", fn := fun _ => fun
  | [d] => { results := [.lit (.bool true)], args := [d] }
  | _ => none }
def predictAcceptsRow : OpenClaim := { program := "ytgbpioccaenjaaa", sum := "8057a47f576f4fd3f7622b5f26095ab4683436024da087f2a197ab85c3e626e4", func := "viewport/viewportlaw14.PredictAccepts", spec := "predictAccepts", unfollowed := true, recurses := true, apart := false }
def PredictAcceptsSaid : Prop := predictAcceptsRow.holds Try.pinned (OpenSpec.ofChange predictAcceptsSpec)

/-- ITS FALSE NEIGHBOUR: 'it returns false'. Refute it at one input. -/
def predictAcceptsWrong : ChangeSpec := { name := "predictAccepts", fn := fun _ => fun
  | [d] => { results := [.lit (.bool false)], args := [d] }
  | _ => none }
def PredictAcceptsWrongFalsely : Prop := predictAcceptsRow.holds Try.pinned (OpenSpec.ofChange predictAcceptsWrong)

/-- 'viewportlaw14.PredictNames': WHATEVER THE INPUT: true; the input reads as it did. -/
def predictNamesSpec : ChangeSpec := { name := "predictNames", fn := fun _ => fun
  | [] => { results := [.lit (.bool true)], args := [] }
  | _ => none }
def predictNamesRow : OpenClaim := { program := "ytgbpioccaenjaaa", sum := "8057a47f576f4fd3f7622b5f26095ab4683436024da087f2a197ab85c3e626e4", func := "viewport/viewportlaw14.PredictNames", spec := "predictNames", unfollowed := true, recurses := true, apart := false }
def PredictNamesSaid : Prop := predictNamesRow.holds Try.pinned (OpenSpec.ofChange predictNamesSpec)

/-- ITS FALSE NEIGHBOUR: 'it returns false'. Refute it at one input. -/
def predictNamesWrong : ChangeSpec := { name := "predictNames", fn := fun _ => fun
  | [] => { results := [.lit (.bool false)], args := [] }
  | _ => none }
def PredictNamesWrongFalsely : Prop := predictNamesRow.holds Try.pinned (OpenSpec.ofChange predictNamesWrong)

/- THE SECOND FORM. 'bulk': how many values and letters a reading holds, each counted each time it is reached (what is shared counts as often as it is met; a slice's spare places count too). A statement '..UptoSaid' is the law's where the arguments, and the package variables that the reading takes, are together of bulk at most 1048576: NARROWER than '..Said'. Prove '..Said' where nothing that the law and all that it calls make is longer than what came in: it says more and counts as full. Else prove '..UptoSaid'. A law counts once. -/
mutual
def uptoBulk {H : Type} : DataW H → Nat
  | .lit (.string bytes) => bytes.length + 1
  | .lit _ => 1
  | .nil => 1
  | .ptr d => uptoBulk d + 1
  | .slice elems spare => uptoBulkAll elems + uptoBulkAll spare + 1
  | .agg parts => uptoBulkAll parts + 1
  | .iface _ d => uptoBulk d + 1
  | .map entries => uptoBulkEntries entries + 1
  | .held _ => 1
def uptoBulkAll {H : Type} : List (DataW H) → Nat
  | [] => 0
  | d :: r => uptoBulk d + uptoBulkAll r
def uptoBulkEntries {H : Type} : List (Lit × DataW H) → Nat
  | [] => 0
  | x :: r => uptoBulkEntry x + uptoBulkEntries r
def uptoBulkEntry {H : Type} : Lit × DataW H → Nat
  | (.string bytes, d) => bytes.length + uptoBulk d + 1
  | (_, d) => uptoBulk d + 1
 end
def uptoSmall : (H : Type) → List (DataW H) → Bool := fun _ ds => decide (uptoBulkAll ds ≤ 1048576)
def OpenSpec.upto (s : _root_.Go.ChangeSpec) : _root_.Go.OpenSpec := { _root_.Go.OpenSpec.ofChange s with cond := some uptoSmall }

/-- 'viewportlaw14.PredictOne', WHERE WHAT IT READS IS OF BULK AT MOST 1048576: true; the input reads as it did. -/
def predictOneUptoRow : OpenClaim := { program := "ytgbpioccaenjaaa", sum := "8057a47f576f4fd3f7622b5f26095ab4683436024da087f2a197ab85c3e626e4", func := "viewport/viewportlaw14.PredictOne", spec := "predictOne", unfollowed := true, recurses := true, apart := false, narrowed := true }
def PredictOneUptoSaid : Prop := predictOneUptoRow.holds Try.pinned (OpenSpec.upto predictOneSpec)

/-- 'viewportlaw14.PredictMore', WHERE WHAT IT READS IS OF BULK AT MOST 1048576: true; the input reads as it did. -/
def predictMoreUptoRow : OpenClaim := { program := "ytgbpioccaenjaaa", sum := "8057a47f576f4fd3f7622b5f26095ab4683436024da087f2a197ab85c3e626e4", func := "viewport/viewportlaw14.PredictMore", spec := "predictMore", unfollowed := true, recurses := true, apart := false, narrowed := true }
def PredictMoreUptoSaid : Prop := predictMoreUptoRow.holds Try.pinned (OpenSpec.upto predictMoreSpec)

/-- 'viewportlaw14.PredictRows', WHERE WHAT IT READS IS OF BULK AT MOST 1048576: true; the input reads as it did. -/
def predictRowsUptoRow : OpenClaim := { program := "ytgbpioccaenjaaa", sum := "8057a47f576f4fd3f7622b5f26095ab4683436024da087f2a197ab85c3e626e4", func := "viewport/viewportlaw14.PredictRows", spec := "predictRows", unfollowed := true, recurses := true, apart := false, narrowed := true }
def PredictRowsUptoSaid : Prop := predictRowsUptoRow.holds Try.pinned (OpenSpec.upto predictRowsSpec)

/-- 'viewportlaw14.PredictAccepts', WHERE WHAT IT READS IS OF BULK AT MOST 1048576: true; the input reads as it did. -/
def predictAcceptsUptoRow : OpenClaim := { program := "ytgbpioccaenjaaa", sum := "8057a47f576f4fd3f7622b5f26095ab4683436024da087f2a197ab85c3e626e4", func := "viewport/viewportlaw14.PredictAccepts", spec := "predictAccepts", unfollowed := true, recurses := true, apart := false, narrowed := true }
def PredictAcceptsUptoSaid : Prop := predictAcceptsUptoRow.holds Try.pinned (OpenSpec.upto predictAcceptsSpec)

/-- 'viewportlaw14.PredictNames', WHERE WHAT IT READS IS OF BULK AT MOST 1048576: true; the input reads as it did. -/
def predictNamesUptoRow : OpenClaim := { program := "ytgbpioccaenjaaa", sum := "8057a47f576f4fd3f7622b5f26095ab4683436024da087f2a197ab85c3e626e4", func := "viewport/viewportlaw14.PredictNames", spec := "predictNames", unfollowed := true, recurses := true, apart := false, narrowed := true }
def PredictNamesUptoSaid : Prop := predictNamesUptoRow.holds Try.pinned (OpenSpec.upto predictNamesSpec)

end Rows
end Go.Proofs.Ytgbpioccaenjaaa
