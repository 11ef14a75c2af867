/-
  No cell of these rows narrows 'for every input' (looked for: loops, veiled, ifaces, maps, wideKeys, modest, calm, conditions, laid).
  DERIVED. THE GIVEN ROWS OF THIS SEAT. 6 by the template 'for every input the law returns true; each argument reads behind the call as it read before'; 0 by the template 'total and deterministic' (their statements: YtdbbaopgmapmaaaTotals.lean).
  GIVEN WITH THE SEED: the statements are not yours to turn. If you find one false, say at which input.
  Laid BY PROGRAM, IN A SANDBOX (cutbox-rows.mjs): the forced cells as the released guide's own fill.sh prints them over the translation 8a3af08ffa98c580… (all of the seat's roots in one cut). By AI agents, Wed Nov 11 2026. No macro, syntax, notation, axiom, sorry.
-/
import Derived.Test.YtdbbaopgmapmaaaChecked
import GoSem.Claim
import GoSem.ClaimJoined
import GoSem.ClaimMapViews
import Derived.JoinedTies
import Derived.KernelRfl
namespace Go.Proofs.Ytdbbaopgmapmaaa
/- THE CELL 'sum', in the pinned program and in every row, IS THE sha256 OF THE DUMP (.gsa) THAT YtdbbaopgmapmaaaProg.lean LOADS. Nothing in Lean hashes anything: it is a label: what it is worth is what the hold of that sum in a sandbox is worth. -/
noncomputable def Try.pinned : Pinned := { name := "ytdbbaopgmapmaaa", sum := "8a3af08ffa98c580eead6660f83b54342cd1df5ee71290f21141e0dbc7a56df7", checked := Try.checked }
namespace Rows
def none {H : Type} : Left H := { results := [], args := [] }

/-- 'viewportlaw05.LeastFound': WHATEVER THE INPUT: true; the input reads as it did. -/
def leastFoundSpec : ChangeSpec := { name := "leastFound", fn := fun _ => fun
  | [d] => { results := [.lit (.bool true)], args := [d] }
  | _ => none }
def leastFoundRow : OpenClaim := { program := "ytdbbaopgmapmaaa", sum := "8a3af08ffa98c580eead6660f83b54342cd1df5ee71290f21141e0dbc7a56df7", func := "viewport/viewportlaw05.LeastFound", spec := "leastFound", unfollowed := true, recurses := true, plainKeys := false, apart := false }
def LeastFoundSaid : Prop := leastFoundRow.holds Try.pinned (OpenSpec.ofChange leastFoundSpec)

/-- ITS FALSE NEIGHBOUR: 'it returns false'. Refute it at one input. -/
def leastFoundWrong : ChangeSpec := { name := "leastFound", fn := fun _ => fun
  | [d] => { results := [.lit (.bool false)], args := [d] }
  | _ => none }
def LeastFoundWrongFalsely : Prop := leastFoundRow.holds Try.pinned (OpenSpec.ofChange leastFoundWrong)

/-- 'viewportlaw05.LeastShort': WHATEVER THE INPUT: true; the input reads as it did. -/
def leastShortSpec : ChangeSpec := { name := "leastShort", fn := fun _ => fun
  | [d1, d2, d3] => { results := [.lit (.bool true)], args := [d1, d2, d3] }
  | _ => none }
def leastShortRow : OpenClaim := { program := "ytdbbaopgmapmaaa", sum := "8a3af08ffa98c580eead6660f83b54342cd1df5ee71290f21141e0dbc7a56df7", func := "viewport/viewportlaw05.LeastShort", spec := "leastShort", unfollowed := true, recurses := true, plainKeys := false, apart := false }
def LeastShortSaid : Prop := leastShortRow.holds Try.pinned (OpenSpec.ofChange leastShortSpec)

/-- ITS FALSE NEIGHBOUR: 'it returns false'. Refute it at one input. -/
def leastShortWrong : ChangeSpec := { name := "leastShort", fn := fun _ => fun
  | [d1, d2, d3] => { results := [.lit (.bool false)], args := [d1, d2, d3] }
  | _ => none }
def LeastShortWrongFalsely : Prop := leastShortRow.holds Try.pinned (OpenSpec.ofChange leastShortWrong)

/-- 'viewportlaw05.LeastRuns': WHATEVER THE INPUT: true; the input reads as it did. -/
def leastRunsSpec : ChangeSpec := { name := "leastRuns", fn := fun _ => fun
  | [d1, d2] => { results := [.lit (.bool true)], args := [d1, d2] }
  | _ => none }
def leastRunsRow : OpenClaim := { program := "ytdbbaopgmapmaaa", sum := "8a3af08ffa98c580eead6660f83b54342cd1df5ee71290f21141e0dbc7a56df7", func := "viewport/viewportlaw05.LeastRuns", spec := "leastRuns", unfollowed := true, recurses := true, plainKeys := false, apart := false }
def LeastRunsSaid : Prop := leastRunsRow.holds Try.pinned (OpenSpec.ofChange leastRunsSpec)

/-- ITS FALSE NEIGHBOUR: 'it returns false'. Refute it at one input. -/
def leastRunsWrong : ChangeSpec := { name := "leastRuns", fn := fun _ => fun
  | [d1, d2] => { results := [.lit (.bool false)], args := [d1, d2] }
  | _ => none }
def LeastRunsWrongFalsely : Prop := leastRunsRow.holds Try.pinned (OpenSpec.ofChange leastRunsWrong)

/-- 'viewportlaw05.LeastEqual': WHATEVER THE INPUT: true; the input reads as it did. -/
def leastEqualSpec : ChangeSpec := { name := "leastEqual", fn := fun _ => fun
  | [d1, d2, d3] => { results := [.lit (.bool true)], args := [d1, d2, d3] }
  | _ => none }
def leastEqualRow : OpenClaim := { program := "ytdbbaopgmapmaaa", sum := "8a3af08ffa98c580eead6660f83b54342cd1df5ee71290f21141e0dbc7a56df7", func := "viewport/viewportlaw05.LeastEqual", spec := "leastEqual", unfollowed := true, recurses := true, plainKeys := false, apart := false }
def LeastEqualSaid : Prop := leastEqualRow.holds Try.pinned (OpenSpec.ofChange leastEqualSpec)

/-- ITS FALSE NEIGHBOUR: 'it returns false'. Refute it at one input. -/
def leastEqualWrong : ChangeSpec := { name := "leastEqual", fn := fun _ => fun
  | [d1, d2, d3] => { results := [.lit (.bool false)], args := [d1, d2, d3] }
  | _ => none }
def LeastEqualWrongFalsely : Prop := leastEqualRow.holds Try.pinned (OpenSpec.ofChange leastEqualWrong)

/-- 'viewportlaw05.LeastNames': WHATEVER THE INPUT: true; the input reads as it did. -/
def leastNamesSpec : ChangeSpec := { name := "leastNames", fn := fun _ => fun
  | [] => { results := [.lit (.bool true)], args := [] }
  | _ => none }
def leastNamesRow : OpenClaim := { program := "ytdbbaopgmapmaaa", sum := "8a3af08ffa98c580eead6660f83b54342cd1df5ee71290f21141e0dbc7a56df7", func := "viewport/viewportlaw05.LeastNames", spec := "leastNames", unfollowed := true, recurses := true, plainKeys := false, apart := false }
def LeastNamesSaid : Prop := leastNamesRow.holds Try.pinned (OpenSpec.ofChange leastNamesSpec)

/-- ITS FALSE NEIGHBOUR: 'it returns false'. Refute it at one input. -/
def leastNamesWrong : ChangeSpec := { name := "leastNames", fn := fun _ => fun
  | [] => { results := [.lit (.bool false)], args := [] }
  | _ => none }
def LeastNamesWrongFalsely : Prop := leastNamesRow.holds Try.pinned (OpenSpec.ofChange leastNamesWrong)

/-- 'viewportlaw05.LeastCalls': WHATEVER THE INPUT: true; the input reads as it did. -/
def leastCallsSpec : ChangeSpec := { name := "leastCalls", fn := fun _ => fun
  | [d1, d2, d3] => { results := [.lit (.bool true)], args := [d1, d2, d3] }
  | _ => none }
def leastCallsRow : OpenClaim := { program := "ytdbbaopgmapmaaa", sum := "8a3af08ffa98c580eead6660f83b54342cd1df5ee71290f21141e0dbc7a56df7", func := "viewport/viewportlaw05.LeastCalls", spec := "leastCalls", unfollowed := true, recurses := true, plainKeys := false, apart := false }
def LeastCallsSaid : Prop := leastCallsRow.holds Try.pinned (OpenSpec.ofChange leastCallsSpec)

/-- ITS FALSE NEIGHBOUR: 'it returns false'. Refute it at one input. -/
def leastCallsWrong : ChangeSpec := { name := "leastCalls", fn := fun _ => fun
  | [d1, d2, d3] => { results := [.lit (.bool false)], args := [d1, d2, d3] }
  | _ => none }
def LeastCallsWrongFalsely : Prop := leastCallsRow.holds Try.pinned (OpenSpec.ofChange leastCallsWrong)

/- THE SECOND FORM. 'bulk': how many values and letters a reading holds, each counted each time it is reached (what is shared counts as often as it is met; a slice's spare places count too). A statement '..UptoSaid' is the law's where the arguments, and the package variables that the reading takes, are together of bulk at most 1048576: NARROWER than '..Said'. Prove '..Said' where nothing that the law and all that it calls make is longer than what came in: it says more and counts as full. Else prove '..UptoSaid'. A law counts once. -/
mutual
def uptoBulk {H : Type} : DataW H → Nat
  | .lit (.string bytes) => bytes.length + 1
  | .lit _ => 1
  | .nil => 1
  | .ptr d => uptoBulk d + 1
  | .slice elems spare => uptoBulkAll elems + uptoBulkAll spare + 1
  | .agg parts => uptoBulkAll parts + 1
  | .iface _ d => uptoBulk d + 1
  | .map entries => uptoBulkEntries entries + 1
  | .held _ => 1
def uptoBulkAll {H : Type} : List (DataW H) → Nat
  | [] => 0
  | d :: r => uptoBulk d + uptoBulkAll r
def uptoBulkEntries {H : Type} : List (Lit × DataW H) → Nat
  | [] => 0
  | x :: r => uptoBulkEntry x + uptoBulkEntries r
def uptoBulkEntry {H : Type} : Lit × DataW H → Nat
  | (.string bytes, d) => bytes.length + uptoBulk d + 1
  | (_, d) => uptoBulk d + 1
 end
def uptoSmall : (H : Type) → List (DataW H) → Bool := fun _ ds => decide (uptoBulkAll ds ≤ 1048576)
def OpenSpec.upto (s : _root_.Go.ChangeSpec) : _root_.Go.OpenSpec := { _root_.Go.OpenSpec.ofChange s with cond := some uptoSmall }

/-- 'viewportlaw05.LeastFound', WHERE WHAT IT READS IS OF BULK AT MOST 1048576: true; the input reads as it did. -/
def leastFoundUptoRow : OpenClaim := { program := "ytdbbaopgmapmaaa", sum := "8a3af08ffa98c580eead6660f83b54342cd1df5ee71290f21141e0dbc7a56df7", func := "viewport/viewportlaw05.LeastFound", spec := "leastFound", unfollowed := true, recurses := true, plainKeys := false, apart := false, narrowed := true }
def LeastFoundUptoSaid : Prop := leastFoundUptoRow.holds Try.pinned (OpenSpec.upto leastFoundSpec)

/-- 'viewportlaw05.LeastShort', WHERE WHAT IT READS IS OF BULK AT MOST 1048576: true; the input reads as it did. -/
def leastShortUptoRow : OpenClaim := { program := "ytdbbaopgmapmaaa", sum := "8a3af08ffa98c580eead6660f83b54342cd1df5ee71290f21141e0dbc7a56df7", func := "viewport/viewportlaw05.LeastShort", spec := "leastShort", unfollowed := true, recurses := true, plainKeys := false, apart := false, narrowed := true }
def LeastShortUptoSaid : Prop := leastShortUptoRow.holds Try.pinned (OpenSpec.upto leastShortSpec)

/-- 'viewportlaw05.LeastRuns', WHERE WHAT IT READS IS OF BULK AT MOST 1048576: true; the input reads as it did. -/
def leastRunsUptoRow : OpenClaim := { program := "ytdbbaopgmapmaaa", sum := "8a3af08ffa98c580eead6660f83b54342cd1df5ee71290f21141e0dbc7a56df7", func := "viewport/viewportlaw05.LeastRuns", spec := "leastRuns", unfollowed := true, recurses := true, plainKeys := false, apart := false, narrowed := true }
def LeastRunsUptoSaid : Prop := leastRunsUptoRow.holds Try.pinned (OpenSpec.upto leastRunsSpec)

/-- 'viewportlaw05.LeastEqual', WHERE WHAT IT READS IS OF BULK AT MOST 1048576: true; the input reads as it did. -/
def leastEqualUptoRow : OpenClaim := { program := "ytdbbaopgmapmaaa", sum := "8a3af08ffa98c580eead6660f83b54342cd1df5ee71290f21141e0dbc7a56df7", func := "viewport/viewportlaw05.LeastEqual", spec := "leastEqual", unfollowed := true, recurses := true, plainKeys := false, apart := false, narrowed := true }
def LeastEqualUptoSaid : Prop := leastEqualUptoRow.holds Try.pinned (OpenSpec.upto leastEqualSpec)

/-- 'viewportlaw05.LeastNames', WHERE WHAT IT READS IS OF BULK AT MOST 1048576: true; the input reads as it did. -/
def leastNamesUptoRow : OpenClaim := { program := "ytdbbaopgmapmaaa", sum := "8a3af08ffa98c580eead6660f83b54342cd1df5ee71290f21141e0dbc7a56df7", func := "viewport/viewportlaw05.LeastNames", spec := "leastNames", unfollowed := true, recurses := true, plainKeys := false, apart := false, narrowed := true }
def LeastNamesUptoSaid : Prop := leastNamesUptoRow.holds Try.pinned (OpenSpec.upto leastNamesSpec)

/-- 'viewportlaw05.LeastCalls', WHERE WHAT IT READS IS OF BULK AT MOST 1048576: true; the input reads as it did. -/
def leastCallsUptoRow : OpenClaim := { program := "ytdbbaopgmapmaaa", sum := "8a3af08ffa98c580eead6660f83b54342cd1df5ee71290f21141e0dbc7a56df7", func := "viewport/viewportlaw05.LeastCalls", spec := "leastCalls", unfollowed := true, recurses := true, plainKeys := false, apart := false, narrowed := true }
def LeastCallsUptoSaid : Prop := leastCallsUptoRow.holds Try.pinned (OpenSpec.upto leastCallsSpec)

end Rows
end Go.Proofs.Ytdbbaopgmapmaaa
