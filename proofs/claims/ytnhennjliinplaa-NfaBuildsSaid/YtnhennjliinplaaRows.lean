/-
  No cell of these rows narrows 'for every input' (looked for: loops, veiled, ifaces, maps, wideKeys, modest, calm, conditions, laid).
  DERIVED. THE GIVEN ROWS OF THIS SEAT. 5 by the template 'for every input the law returns true; each argument reads behind the call as it read before'; 0 by the template 'total and deterministic' (their statements: YtnhennjliinplaaTotals.lean).
  GIVEN WITH THE SEED: the statements are not yours to turn. If you find one false, say at which input.
  Laid BY PROGRAM, IN A SANDBOX (cutbox-rows.mjs): the forced cells as the released guide's own fill.sh prints them over the translation 980810241156346f… (all of the seat's roots in one cut). By AI agents, Wed Nov 11 2026. No macro, syntax, notation, axiom, sorry.
-/
import Derived.Test.YtnhennjliinplaaChecked
import GoSem.Claim
import GoSem.ClaimJoined
import GoSem.ClaimMapViews
import Derived.JoinedTies
import Derived.KernelRfl
namespace Go.Proofs.Ytnhennjliinplaa
/- THE CELL 'sum', in the pinned program and in every row, IS THE sha256 OF THE DUMP (.gsa) THAT YtnhennjliinplaaProg.lean LOADS. Nothing in Lean hashes anything: it is a label: what it is worth is what the hold of that sum in a sandbox is worth. -/
noncomputable def Try.pinned : Pinned := { name := "ytnhennjliinplaa", sum := "980810241156346f47ed24aa64b7523cee68440ca68db78d24f16fb6cc804fb5", checked := Try.checked }
namespace Rows
def none {H : Type} : Left H := { results := [], args := [] }

/-- 'viewportlaw03.NfaBuilds': WHATEVER THE INPUT: true; the input reads as it did. -/
def nfaBuildsSpec : ChangeSpec := { name := "nfaBuilds", fn := fun _ => fun
  | [d1, d2] => { results := [.lit (.bool true)], args := [d1, d2] }
  | _ => none }
def nfaBuildsRow : OpenClaim := { program := "ytnhennjliinplaa", sum := "980810241156346f47ed24aa64b7523cee68440ca68db78d24f16fb6cc804fb5", func := "viewport/viewportlaw03.NfaBuilds", spec := "nfaBuilds", unfollowed := true, recurses := true, apart := false }
def NfaBuildsSaid : Prop := nfaBuildsRow.holds Try.pinned (OpenSpec.ofChange nfaBuildsSpec)

/-- ITS FALSE NEIGHBOUR: 'it returns false'. Refute it at one input. -/
def nfaBuildsWrong : ChangeSpec := { name := "nfaBuilds", fn := fun _ => fun
  | [d1, d2] => { results := [.lit (.bool false)], args := [d1, d2] }
  | _ => none }
def NfaBuildsWrongFalsely : Prop := nfaBuildsRow.holds Try.pinned (OpenSpec.ofChange nfaBuildsWrong)

/-- 'viewportlaw03.NfaSets': WHATEVER THE INPUT: true; the input reads as it did. -/
def nfaSetsSpec : ChangeSpec := { name := "nfaSets", fn := fun _ => fun
  | [d1, d2, d3, d4] => { results := [.lit (.bool true)], args := [d1, d2, d3, d4] }
  | _ => none }
def nfaSetsRow : OpenClaim := { program := "ytnhennjliinplaa", sum := "980810241156346f47ed24aa64b7523cee68440ca68db78d24f16fb6cc804fb5", func := "viewport/viewportlaw03.NfaSets", spec := "nfaSets", unfollowed := true, recurses := true, apart := false }
def NfaSetsSaid : Prop := nfaSetsRow.holds Try.pinned (OpenSpec.ofChange nfaSetsSpec)

/-- ITS FALSE NEIGHBOUR: 'it returns false'. Refute it at one input. -/
def nfaSetsWrong : ChangeSpec := { name := "nfaSets", fn := fun _ => fun
  | [d1, d2, d3, d4] => { results := [.lit (.bool false)], args := [d1, d2, d3, d4] }
  | _ => none }
def NfaSetsWrongFalsely : Prop := nfaSetsRow.holds Try.pinned (OpenSpec.ofChange nfaSetsWrong)

/-- 'viewportlaw03.NfaGoes': WHATEVER THE INPUT: true; the input reads as it did. -/
def nfaGoesSpec : ChangeSpec := { name := "nfaGoes", fn := fun _ => fun
  | [d1, d2] => { results := [.lit (.bool true)], args := [d1, d2] }
  | _ => none }
def nfaGoesRow : OpenClaim := { program := "ytnhennjliinplaa", sum := "980810241156346f47ed24aa64b7523cee68440ca68db78d24f16fb6cc804fb5", func := "viewport/viewportlaw03.NfaGoes", spec := "nfaGoes", unfollowed := true, recurses := true, apart := false }
def NfaGoesSaid : Prop := nfaGoesRow.holds Try.pinned (OpenSpec.ofChange nfaGoesSpec)

/-- ITS FALSE NEIGHBOUR: 'it returns false'. Refute it at one input. -/
def nfaGoesWrong : ChangeSpec := { name := "nfaGoes", fn := fun _ => fun
  | [d1, d2] => { results := [.lit (.bool false)], args := [d1, d2] }
  | _ => none }
def NfaGoesWrongFalsely : Prop := nfaGoesRow.holds Try.pinned (OpenSpec.ofChange nfaGoesWrong)

/-- 'viewportlaw03.NfaNames': WHATEVER THE INPUT: true; the input reads as it did. -/
def nfaNamesSpec : ChangeSpec := { name := "nfaNames", fn := fun _ => fun
  | [] => { results := [.lit (.bool true)], args := [] }
  | _ => none }
def nfaNamesRow : OpenClaim := { program := "ytnhennjliinplaa", sum := "980810241156346f47ed24aa64b7523cee68440ca68db78d24f16fb6cc804fb5", func := "viewport/viewportlaw03.NfaNames", spec := "nfaNames", unfollowed := true, recurses := true, apart := false }
def NfaNamesSaid : Prop := nfaNamesRow.holds Try.pinned (OpenSpec.ofChange nfaNamesSpec)

/-- ITS FALSE NEIGHBOUR: 'it returns false'. Refute it at one input. -/
def nfaNamesWrong : ChangeSpec := { name := "nfaNames", fn := fun _ => fun
  | [] => { results := [.lit (.bool false)], args := [] }
  | _ => none }
def NfaNamesWrongFalsely : Prop := nfaNamesRow.holds Try.pinned (OpenSpec.ofChange nfaNamesWrong)

/-- 'viewportlaw03.NfaCalls': WHATEVER THE INPUT: true; the input reads as it did. -/
def nfaCallsSpec : ChangeSpec := { name := "nfaCalls", fn := fun _ => fun
  | [d1, d2, d3, d4, d5, d6] => { results := [.lit (.bool true)], args := [d1, d2, d3, d4, d5, d6] }
  | _ => none }
def nfaCallsRow : OpenClaim := { program := "ytnhennjliinplaa", sum := "980810241156346f47ed24aa64b7523cee68440ca68db78d24f16fb6cc804fb5", func := "viewport/viewportlaw03.NfaCalls", spec := "nfaCalls", unfollowed := true, recurses := true, apart := false }
def NfaCallsSaid : Prop := nfaCallsRow.holds Try.pinned (OpenSpec.ofChange nfaCallsSpec)

/-- ITS FALSE NEIGHBOUR: 'it returns false'. Refute it at one input. -/
def nfaCallsWrong : ChangeSpec := { name := "nfaCalls", fn := fun _ => fun
  | [d1, d2, d3, d4, d5, d6] => { results := [.lit (.bool false)], args := [d1, d2, d3, d4, d5, d6] }
  | _ => none }
def NfaCallsWrongFalsely : Prop := nfaCallsRow.holds Try.pinned (OpenSpec.ofChange nfaCallsWrong)

/- THE SECOND FORM. 'bulk': how many values and letters a reading holds, each counted each time it is reached (what is shared counts as often as it is met; a slice's spare places count too). A statement '..UptoSaid' is the law's where the arguments, and the package variables that the reading takes, are together of bulk at most 1048576: NARROWER than '..Said'. Prove '..Said' where nothing that the law and all that it calls make is longer than what came in: it says more and counts as full. Else prove '..UptoSaid'. A law counts once. -/
mutual
def uptoBulk {H : Type} : DataW H → Nat
  | .lit (.string bytes) => bytes.length + 1
  | .lit _ => 1
  | .nil => 1
  | .ptr d => uptoBulk d + 1
  | .slice elems spare => uptoBulkAll elems + uptoBulkAll spare + 1
  | .agg parts => uptoBulkAll parts + 1
  | .iface _ d => uptoBulk d + 1
  | .map entries => uptoBulkEntries entries + 1
  | .held _ => 1
def uptoBulkAll {H : Type} : List (DataW H) → Nat
  | [] => 0
  | d :: r => uptoBulk d + uptoBulkAll r
def uptoBulkEntries {H : Type} : List (Lit × DataW H) → Nat
  | [] => 0
  | x :: r => uptoBulkEntry x + uptoBulkEntries r
def uptoBulkEntry {H : Type} : Lit × DataW H → Nat
  | (.string bytes, d) => bytes.length + uptoBulk d + 1
  | (_, d) => uptoBulk d + 1
 end
def uptoSmall : (H : Type) → List (DataW H) → Bool := fun _ ds => decide (uptoBulkAll ds ≤ 1048576)
def OpenSpec.upto (s : _root_.Go.ChangeSpec) : _root_.Go.OpenSpec := { _root_.Go.OpenSpec.ofChange s with cond := some uptoSmall }

/-- 'viewportlaw03.NfaBuilds', WHERE WHAT IT READS IS OF BULK AT MOST 1048576: true; the input reads as it did. -/
def nfaBuildsUptoRow : OpenClaim := { program := "ytnhennjliinplaa", sum := "980810241156346f47ed24aa64b7523cee68440ca68db78d24f16fb6cc804fb5", func := "viewport/viewportlaw03.NfaBuilds", spec := "nfaBuilds", unfollowed := true, recurses := true, apart := false, narrowed := true }
def NfaBuildsUptoSaid : Prop := nfaBuildsUptoRow.holds Try.pinned (OpenSpec.upto nfaBuildsSpec)

/-- 'viewportlaw03.NfaSets', WHERE WHAT IT READS IS OF BULK AT MOST 1048576: true; the input reads as it did. -/
def nfaSetsUptoRow : OpenClaim := { program := "ytnhennjliinplaa", sum := "980810241156346f47ed24aa64b7523cee68440ca68db78d24f16fb6cc804fb5", func := "viewport/viewportlaw03.NfaSets", spec := "nfaSets", unfollowed := true, recurses := true, apart := false, narrowed := true }
def NfaSetsUptoSaid : Prop := nfaSetsUptoRow.holds Try.pinned (OpenSpec.upto nfaSetsSpec)

/-- 'viewportlaw03.NfaGoes', WHERE WHAT IT READS IS OF BULK AT MOST 1048576: true; the input reads as it did. -/
def nfaGoesUptoRow : OpenClaim := { program := "ytnhennjliinplaa", sum := "980810241156346f47ed24aa64b7523cee68440ca68db78d24f16fb6cc804fb5", func := "viewport/viewportlaw03.NfaGoes", spec := "nfaGoes", unfollowed := true, recurses := true, apart := false, narrowed := true }
def NfaGoesUptoSaid : Prop := nfaGoesUptoRow.holds Try.pinned (OpenSpec.upto nfaGoesSpec)

/-- 'viewportlaw03.NfaNames', WHERE WHAT IT READS IS OF BULK AT MOST 1048576: true; the input reads as it did. -/
def nfaNamesUptoRow : OpenClaim := { program := "ytnhennjliinplaa", sum := "980810241156346f47ed24aa64b7523cee68440ca68db78d24f16fb6cc804fb5", func := "viewport/viewportlaw03.NfaNames", spec := "nfaNames", unfollowed := true, recurses := true, apart := false, narrowed := true }
def NfaNamesUptoSaid : Prop := nfaNamesUptoRow.holds Try.pinned (OpenSpec.upto nfaNamesSpec)

/-- 'viewportlaw03.NfaCalls', WHERE WHAT IT READS IS OF BULK AT MOST 1048576: true; the input reads as it did. -/
def nfaCallsUptoRow : OpenClaim := { program := "ytnhennjliinplaa", sum := "980810241156346f47ed24aa64b7523cee68440ca68db78d24f16fb6cc804fb5", func := "viewport/viewportlaw03.NfaCalls", spec := "nfaCalls", unfollowed := true, recurses := true, apart := false, narrowed := true }
def NfaCallsUptoSaid : Prop := nfaCallsUptoRow.holds Try.pinned (OpenSpec.upto nfaCallsSpec)

end Rows
end Go.Proofs.Ytnhennjliinplaa
