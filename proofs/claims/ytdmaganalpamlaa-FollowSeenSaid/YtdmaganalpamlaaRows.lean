/-
  No cell of these rows narrows 'for every input' (looked for: loops, veiled, ifaces, maps, wideKeys, modest, calm, conditions, laid).
  DERIVED. THE GIVEN ROWS OF THIS SEAT. 6 by the template 'for every input the law returns true; each argument reads behind the call as it read before'; 0 by the template 'total and deterministic' (their statements: YtdmaganalpamlaaTotals.lean).
  GIVEN WITH THE SEED: the statements are not yours to turn. If you find one false, say at which input.
  Laid BY PROGRAM, IN A SANDBOX (cutbox-rows.mjs): the forced cells as the released guide's own fill.sh prints them over the translation 1c8dc4ffebb1e784… (all of the seat's roots in one cut). By AI agents, Wed Nov 11 2026. No macro, syntax, notation, axiom, sorry.
-/
import Derived.Test.YtdmaganalpamlaaChecked
import GoSem.Claim
import GoSem.ClaimJoined
import GoSem.ClaimMapViews
import Derived.JoinedTies
import Derived.KernelRfl
namespace Go.Proofs.Ytdmaganalpamlaa
/- THE CELL 'sum', in the pinned program and in every row, IS THE sha256 OF THE DUMP (.gsa) THAT YtdmaganalpamlaaProg.lean LOADS. Nothing in Lean hashes anything: it is a label: what it is worth is what the hold of that sum in a sandbox is worth. -/
noncomputable def Try.pinned : Pinned := { name := "ytdmaganalpamlaa", sum := "1c8dc4ffebb1e784efde56647adcea0e2988e53cc773e1afa8edd4975ecf215a", checked := Try.checked }
namespace Rows
def none {H : Type} : Left H := { results := [], args := [] }

/-- 'viewportlaw13.FollowFixed': WHATEVER THE INPUT: true; the input reads as it did. -/
def followFixedSpec : ChangeSpec := { name := "followFixed", fn := fun _ => fun
  | [d] => { results := [.lit (.bool true)], args := [d] }
  | _ => none }
def followFixedRow : OpenClaim := { program := "ytdmaganalpamlaa", sum := "1c8dc4ffebb1e784efde56647adcea0e2988e53cc773e1afa8edd4975ecf215a", func := "viewport/viewportlaw13.FollowFixed", spec := "followFixed", unfollowed := true, recurses := true, apart := false }
def FollowFixedSaid : Prop := followFixedRow.holds Try.pinned (OpenSpec.ofChange followFixedSpec)

/-- ITS FALSE NEIGHBOUR: 'it returns false'. Refute it at one input. -/
def followFixedWrong : ChangeSpec := { name := "followFixed", fn := fun _ => fun
  | [d] => { results := [.lit (.bool false)], args := [d] }
  | _ => none }
def FollowFixedWrongFalsely : Prop := followFixedRow.holds Try.pinned (OpenSpec.ofChange followFixedWrong)

/-- 'viewportlaw13.FollowSeen': WHATEVER THE INPUT: true; the input reads as it did. -/
def followSeenSpec : ChangeSpec := { name := "followSeen", fn := fun _ => fun
  | [d1, d2, d3] => { results := [.lit (.bool true)], args := [d1, d2, d3] }
  | _ => none }
def followSeenRow : OpenClaim := { program := "ytdmaganalpamlaa", sum := "1c8dc4ffebb1e784efde56647adcea0e2988e53cc773e1afa8edd4975ecf215a", func := "viewport/viewportlaw13.FollowSeen", spec := "followSeen", unfollowed := true, recurses := true, apart := false }
def FollowSeenSaid : Prop := followSeenRow.holds Try.pinned (OpenSpec.ofChange followSeenSpec)

/-- ITS FALSE NEIGHBOUR: 'it returns false'. Refute it at one input. -/
def followSeenWrong : ChangeSpec := { name := "followSeen", fn := fun _ => fun
  | [d1, d2, d3] => { results := [.lit (.bool false)], args := [d1, d2, d3] }
  | _ => none }
def FollowSeenWrongFalsely : Prop := followSeenRow.holds Try.pinned (OpenSpec.ofChange followSeenWrong)

/-- 'viewportlaw13.FollowMore': WHATEVER THE INPUT: true; the input reads as it did. -/
def followMoreSpec : ChangeSpec := { name := "followMore", fn := fun _ => fun
  | [d1, d2] => { results := [.lit (.bool true)], args := [d1, d2] }
  | _ => none }
def followMoreRow : OpenClaim := { program := "ytdmaganalpamlaa", sum := "1c8dc4ffebb1e784efde56647adcea0e2988e53cc773e1afa8edd4975ecf215a", func := "viewport/viewportlaw13.FollowMore", spec := "followMore", unfollowed := true, recurses := true, apart := false }
def FollowMoreSaid : Prop := followMoreRow.holds Try.pinned (OpenSpec.ofChange followMoreSpec)

/-- ITS FALSE NEIGHBOUR: 'it returns false'. Refute it at one input. -/
def followMoreWrong : ChangeSpec := { name := "followMore", fn := fun _ => fun
  | [d1, d2] => { results := [.lit (.bool false)], args := [d1, d2] }
  | _ => none }
def FollowMoreWrongFalsely : Prop := followMoreRow.holds Try.pinned (OpenSpec.ofChange followMoreWrong)

/-- 'viewportlaw13.FollowNames': WHATEVER THE INPUT: true; the input reads as it did. -/
def followNamesSpec : ChangeSpec := { name := "followNames", fn := fun _ => fun
  | [] => { results := [.lit (.bool true)], args := [] }
  | _ => none }
def followNamesRow : OpenClaim := { program := "ytdmaganalpamlaa", sum := "1c8dc4ffebb1e784efde56647adcea0e2988e53cc773e1afa8edd4975ecf215a", func := "viewport/viewportlaw13.FollowNames", spec := "followNames", unfollowed := true, recurses := true, apart := false }
def FollowNamesSaid : Prop := followNamesRow.holds Try.pinned (OpenSpec.ofChange followNamesSpec)

/-- ITS FALSE NEIGHBOUR: 'it returns false'. Refute it at one input. -/
def followNamesWrong : ChangeSpec := { name := "followNames", fn := fun _ => fun
  | [] => { results := [.lit (.bool false)], args := [] }
  | _ => none }
def FollowNamesWrongFalsely : Prop := followNamesRow.holds Try.pinned (OpenSpec.ofChange followNamesWrong)

/-- 'viewportlaw13.FollowCalls': WHATEVER THE INPUT: true; the input reads as it did. -/
def followCallsSpec : ChangeSpec := { name := "followCalls", fn := fun _ => fun
  | [d1, d2] => { results := [.lit (.bool true)], args := [d1, d2] }
  | _ => none }
def followCallsRow : OpenClaim := { program := "ytdmaganalpamlaa", sum := "1c8dc4ffebb1e784efde56647adcea0e2988e53cc773e1afa8edd4975ecf215a", func := "viewport/viewportlaw13.FollowCalls", spec := "followCalls", unfollowed := true, recurses := true, apart := false }
def FollowCallsSaid : Prop := followCallsRow.holds Try.pinned (OpenSpec.ofChange followCallsSpec)

/-- ITS FALSE NEIGHBOUR: 'it returns false'. Refute it at one input. -/
def followCallsWrong : ChangeSpec := { name := "followCalls", fn := fun _ => fun
  | [d1, d2] => { results := [.lit (.bool false)], args := [d1, d2] }
  | _ => none }
def FollowCallsWrongFalsely : Prop := followCallsRow.holds Try.pinned (OpenSpec.ofChange followCallsWrong)

/-- 'viewportlaw13.FollowNext': WHATEVER THE INPUT: true; the input reads as it did. -/
def followNextSpec : ChangeSpec := { name := "followNext", fn := fun _ => fun
  | [d] => { results := [.lit (.bool true)], args := [d] }
  | _ => none }
def followNextRow : OpenClaim := { program := "ytdmaganalpamlaa", sum := "1c8dc4ffebb1e784efde56647adcea0e2988e53cc773e1afa8edd4975ecf215a", func := "viewport/viewportlaw13.FollowNext", spec := "followNext", unfollowed := true, recurses := true, apart := false }
def FollowNextSaid : Prop := followNextRow.holds Try.pinned (OpenSpec.ofChange followNextSpec)

/-- ITS FALSE NEIGHBOUR: 'it returns false'. Refute it at one input. -/
def followNextWrong : ChangeSpec := { name := "followNext", fn := fun _ => fun
  | [d] => { results := [.lit (.bool false)], args := [d] }
  | _ => none }
def FollowNextWrongFalsely : Prop := followNextRow.holds Try.pinned (OpenSpec.ofChange followNextWrong)

/- THE SECOND FORM. 'bulk': how many values and letters a reading holds, each counted each time it is reached (what is shared counts as often as it is met; a slice's spare places count too). A statement '..UptoSaid' is the law's where the arguments, and the package variables that the reading takes, are together of bulk at most 1048576: NARROWER than '..Said'. Prove '..Said' where nothing that the law and all that it calls make is longer than what came in: it says more and counts as full. Else prove '..UptoSaid'. A law counts once. -/
mutual
def uptoBulk {H : Type} : DataW H → Nat
  | .lit (.string bytes) => bytes.length + 1
  | .lit _ => 1
  | .nil => 1
  | .ptr d => uptoBulk d + 1
  | .slice elems spare => uptoBulkAll elems + uptoBulkAll spare + 1
  | .agg parts => uptoBulkAll parts + 1
  | .iface _ d => uptoBulk d + 1
  | .map entries => uptoBulkEntries entries + 1
  | .held _ => 1
def uptoBulkAll {H : Type} : List (DataW H) → Nat
  | [] => 0
  | d :: r => uptoBulk d + uptoBulkAll r
def uptoBulkEntries {H : Type} : List (Lit × DataW H) → Nat
  | [] => 0
  | x :: r => uptoBulkEntry x + uptoBulkEntries r
def uptoBulkEntry {H : Type} : Lit × DataW H → Nat
  | (.string bytes, d) => bytes.length + uptoBulk d + 1
  | (_, d) => uptoBulk d + 1
 end
def uptoSmall : (H : Type) → List (DataW H) → Bool := fun _ ds => decide (uptoBulkAll ds ≤ 1048576)
def OpenSpec.upto (s : _root_.Go.ChangeSpec) : _root_.Go.OpenSpec := { _root_.Go.OpenSpec.ofChange s with cond := some uptoSmall }

/-- 'viewportlaw13.FollowFixed', WHERE WHAT IT READS IS OF BULK AT MOST 1048576: true; the input reads as it did. -/
def followFixedUptoRow : OpenClaim := { program := "ytdmaganalpamlaa", sum := "1c8dc4ffebb1e784efde56647adcea0e2988e53cc773e1afa8edd4975ecf215a", func := "viewport/viewportlaw13.FollowFixed", spec := "followFixed", unfollowed := true, recurses := true, apart := false, narrowed := true }
def FollowFixedUptoSaid : Prop := followFixedUptoRow.holds Try.pinned (OpenSpec.upto followFixedSpec)

/-- 'viewportlaw13.FollowSeen', WHERE WHAT IT READS IS OF BULK AT MOST 1048576: true; the input reads as it did. -/
def followSeenUptoRow : OpenClaim := { program := "ytdmaganalpamlaa", sum := "1c8dc4ffebb1e784efde56647adcea0e2988e53cc773e1afa8edd4975ecf215a", func := "viewport/viewportlaw13.FollowSeen", spec := "followSeen", unfollowed := true, recurses := true, apart := false, narrowed := true }
def FollowSeenUptoSaid : Prop := followSeenUptoRow.holds Try.pinned (OpenSpec.upto followSeenSpec)

/-- 'viewportlaw13.FollowMore', WHERE WHAT IT READS IS OF BULK AT MOST 1048576: true; the input reads as it did. -/
def followMoreUptoRow : OpenClaim := { program := "ytdmaganalpamlaa", sum := "1c8dc4ffebb1e784efde56647adcea0e2988e53cc773e1afa8edd4975ecf215a", func := "viewport/viewportlaw13.FollowMore", spec := "followMore", unfollowed := true, recurses := true, apart := false, narrowed := true }
def FollowMoreUptoSaid : Prop := followMoreUptoRow.holds Try.pinned (OpenSpec.upto followMoreSpec)

/-- 'viewportlaw13.FollowNames', WHERE WHAT IT READS IS OF BULK AT MOST 1048576: true; the input reads as it did. -/
def followNamesUptoRow : OpenClaim := { program := "ytdmaganalpamlaa", sum := "1c8dc4ffebb1e784efde56647adcea0e2988e53cc773e1afa8edd4975ecf215a", func := "viewport/viewportlaw13.FollowNames", spec := "followNames", unfollowed := true, recurses := true, apart := false, narrowed := true }
def FollowNamesUptoSaid : Prop := followNamesUptoRow.holds Try.pinned (OpenSpec.upto followNamesSpec)

/-- 'viewportlaw13.FollowCalls', WHERE WHAT IT READS IS OF BULK AT MOST 1048576: true; the input reads as it did. -/
def followCallsUptoRow : OpenClaim := { program := "ytdmaganalpamlaa", sum := "1c8dc4ffebb1e784efde56647adcea0e2988e53cc773e1afa8edd4975ecf215a", func := "viewport/viewportlaw13.FollowCalls", spec := "followCalls", unfollowed := true, recurses := true, apart := false, narrowed := true }
def FollowCallsUptoSaid : Prop := followCallsUptoRow.holds Try.pinned (OpenSpec.upto followCallsSpec)

/-- 'viewportlaw13.FollowNext', WHERE WHAT IT READS IS OF BULK AT MOST 1048576: true; the input reads as it did. -/
def followNextUptoRow : OpenClaim := { program := "ytdmaganalpamlaa", sum := "1c8dc4ffebb1e784efde56647adcea0e2988e53cc773e1afa8edd4975ecf215a", func := "viewport/viewportlaw13.FollowNext", spec := "followNext", unfollowed := true, recurses := true, apart := false, narrowed := true }
def FollowNextUptoSaid : Prop := followNextUptoRow.holds Try.pinned (OpenSpec.upto followNextSpec)

end Rows
end Go.Proofs.Ytdmaganalpamlaa
