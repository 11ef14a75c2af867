/-
  No cell of these rows narrows 'for every input' (looked for: loops, veiled, ifaces, maps, wideKeys, modest, calm, conditions, laid).
  DERIVED. THE GIVEN ROWS OF THIS SEAT. 5 by the template 'for every input the law returns true; each argument reads behind the call as it read before'; 0 by the template 'total and deterministic' (their statements: YtmehaecclidfjaaTotals.lean).
  GIVEN WITH THE SEED: the statements are not yours to turn. If you find one false, say at which input.
  Laid BY PROGRAM, IN A SANDBOX (cutbox-rows.mjs): the forced cells as the released guide's own fill.sh prints them over the translation 3370d8474d4e1d10… (all of the seat's roots in one cut). By AI agents, Wed Nov 11 2026. No macro, syntax, notation, axiom, sorry.
-/
import Derived.Test.YtmehaecclidfjaaChecked
import GoSem.Claim
import GoSem.ClaimJoined
import GoSem.ClaimMapViews
import Derived.JoinedTies
import Derived.KernelRfl
namespace Go.Proofs.Ytmehaecclidfjaa
/- THE CELL 'sum', in the pinned program and in every row, IS THE sha256 OF THE DUMP (.gsa) THAT YtmehaecclidfjaaProg.lean LOADS. Nothing in Lean hashes anything: it is a label: what it is worth is what the hold of that sum in a sandbox is worth. -/
noncomputable def Try.pinned : Pinned := { name := "ytmehaecclidfjaa", sum := "3370d8474d4e1d10c9390416656f7d97f8dac20383d16d1bc67f2d9eb5191b57", checked := Try.checked }
namespace Rows
def none {H : Type} : Left H := { results := [], args := [] }

/-- 'viewportlaw08.PieceUndone': WHATEVER THE INPUT: true; the input reads as it did. -/
def pieceUndoneSpec : ChangeSpec := { name := "pieceUndone", fn := fun _ => fun
  | [d1, d2, d3] => { results := [.lit (.bool true)], args := [d1, d2, d3] }
  | _ => none }
def pieceUndoneRow : OpenClaim := { program := "ytmehaecclidfjaa", sum := "3370d8474d4e1d10c9390416656f7d97f8dac20383d16d1bc67f2d9eb5191b57", func := "viewport/viewportlaw08.PieceUndone", spec := "pieceUndone", inPlace := ["internal/abi.NoEscape", "internal/bytealg.MakeNoZero"], apart := false }
def PieceUndoneSaid : Prop := pieceUndoneRow.holds Try.pinned (OpenSpec.ofChange pieceUndoneSpec)

/-- ITS FALSE NEIGHBOUR: 'it returns false'. Refute it at one input. -/
def pieceUndoneWrong : ChangeSpec := { name := "pieceUndone", fn := fun _ => fun
  | [d1, d2, d3] => { results := [.lit (.bool false)], args := [d1, d2, d3] }
  | _ => none }
def PieceUndoneWrongFalsely : Prop := pieceUndoneRow.holds Try.pinned (OpenSpec.ofChange pieceUndoneWrong)

/-- 'viewportlaw08.PieceSnap': WHATEVER THE INPUT: true; the input reads as it did. -/
def pieceSnapSpec : ChangeSpec := { name := "pieceSnap", fn := fun _ => fun
  | [d1, d2, d3] => { results := [.lit (.bool true)], args := [d1, d2, d3] }
  | _ => none }
def pieceSnapRow : OpenClaim := { program := "ytmehaecclidfjaa", sum := "3370d8474d4e1d10c9390416656f7d97f8dac20383d16d1bc67f2d9eb5191b57", func := "viewport/viewportlaw08.PieceSnap", spec := "pieceSnap", inPlace := ["internal/abi.NoEscape", "internal/bytealg.MakeNoZero"], unfollowed := true, recurses := true, apart := false }
def PieceSnapSaid : Prop := pieceSnapRow.holds Try.pinned (OpenSpec.ofChange pieceSnapSpec)

/-- ITS FALSE NEIGHBOUR: 'it returns false'. Refute it at one input. -/
def pieceSnapWrong : ChangeSpec := { name := "pieceSnap", fn := fun _ => fun
  | [d1, d2, d3] => { results := [.lit (.bool false)], args := [d1, d2, d3] }
  | _ => none }
def PieceSnapWrongFalsely : Prop := pieceSnapRow.holds Try.pinned (OpenSpec.ofChange pieceSnapWrong)

/-- 'viewportlaw08.PieceSlices': WHATEVER THE INPUT: true; the input reads as it did. -/
def pieceSlicesSpec : ChangeSpec := { name := "pieceSlices", fn := fun _ => fun
  | [d1, d2, d3, d4, d5] => { results := [.lit (.bool true)], args := [d1, d2, d3, d4, d5] }
  | _ => none }
def pieceSlicesRow : OpenClaim := { program := "ytmehaecclidfjaa", sum := "3370d8474d4e1d10c9390416656f7d97f8dac20383d16d1bc67f2d9eb5191b57", func := "viewport/viewportlaw08.PieceSlices", spec := "pieceSlices", inPlace := ["internal/abi.NoEscape", "internal/bytealg.MakeNoZero"], apart := false }
def PieceSlicesSaid : Prop := pieceSlicesRow.holds Try.pinned (OpenSpec.ofChange pieceSlicesSpec)

/-- ITS FALSE NEIGHBOUR: 'it returns false'. Refute it at one input. -/
def pieceSlicesWrong : ChangeSpec := { name := "pieceSlices", fn := fun _ => fun
  | [d1, d2, d3, d4, d5] => { results := [.lit (.bool false)], args := [d1, d2, d3, d4, d5] }
  | _ => none }
def PieceSlicesWrongFalsely : Prop := pieceSlicesRow.holds Try.pinned (OpenSpec.ofChange pieceSlicesWrong)

/-- 'viewportlaw08.PieceNames': WHATEVER THE INPUT: true; the input reads as it did. -/
def pieceNamesSpec : ChangeSpec := { name := "pieceNames", fn := fun _ => fun
  | [] => { results := [.lit (.bool true)], args := [] }
  | _ => none }
def pieceNamesRow : OpenClaim := { program := "ytmehaecclidfjaa", sum := "3370d8474d4e1d10c9390416656f7d97f8dac20383d16d1bc67f2d9eb5191b57", func := "viewport/viewportlaw08.PieceNames", spec := "pieceNames", inPlace := ["internal/abi.NoEscape", "internal/bytealg.MakeNoZero"], unfollowed := true, recurses := true, apart := false }
def PieceNamesSaid : Prop := pieceNamesRow.holds Try.pinned (OpenSpec.ofChange pieceNamesSpec)

/-- ITS FALSE NEIGHBOUR: 'it returns false'. Refute it at one input. -/
def pieceNamesWrong : ChangeSpec := { name := "pieceNames", fn := fun _ => fun
  | [] => { results := [.lit (.bool false)], args := [] }
  | _ => none }
def PieceNamesWrongFalsely : Prop := pieceNamesRow.holds Try.pinned (OpenSpec.ofChange pieceNamesWrong)

/-- 'viewportlaw08.PieceScript': WHATEVER THE INPUT: true; the input reads as it did. -/
def pieceScriptSpec : ChangeSpec := { name := "pieceScript", fn := fun _ => fun
  | [d1, d2, d3, d4, d5] => { results := [.lit (.bool true)], args := [d1, d2, d3, d4, d5] }
  | _ => none }
def pieceScriptRow : OpenClaim := { program := "ytmehaecclidfjaa", sum := "3370d8474d4e1d10c9390416656f7d97f8dac20383d16d1bc67f2d9eb5191b57", func := "viewport/viewportlaw08.PieceScript", spec := "pieceScript", inPlace := ["internal/abi.NoEscape", "internal/bytealg.MakeNoZero"], unfollowed := true, recurses := true, apart := false }
def PieceScriptSaid : Prop := pieceScriptRow.holds Try.pinned (OpenSpec.ofChange pieceScriptSpec)

/-- ITS FALSE NEIGHBOUR: 'it returns false'. Refute it at one input. -/
def pieceScriptWrong : ChangeSpec := { name := "pieceScript", fn := fun _ => fun
  | [d1, d2, d3, d4, d5] => { results := [.lit (.bool false)], args := [d1, d2, d3, d4, d5] }
  | _ => none }
def PieceScriptWrongFalsely : Prop := pieceScriptRow.holds Try.pinned (OpenSpec.ofChange pieceScriptWrong)

/- THE SECOND FORM. 'bulk': how many values and letters a reading holds, each counted each time it is reached (what is shared counts as often as it is met; a slice's spare places count too). A statement '..UptoSaid' is the law's where the arguments, and the package variables that the reading takes, are together of bulk at most 1048576: NARROWER than '..Said'. Prove '..Said' where nothing that the law and all that it calls make is longer than what came in: it says more and counts as full. Else prove '..UptoSaid'. A law counts once. -/
mutual
def uptoBulk {H : Type} : DataW H → Nat
  | .lit (.string bytes) => bytes.length + 1
  | .lit _ => 1
  | .nil => 1
  | .ptr d => uptoBulk d + 1
  | .slice elems spare => uptoBulkAll elems + uptoBulkAll spare + 1
  | .agg parts => uptoBulkAll parts + 1
  | .iface _ d => uptoBulk d + 1
  | .map entries => uptoBulkEntries entries + 1
  | .held _ => 1
def uptoBulkAll {H : Type} : List (DataW H) → Nat
  | [] => 0
  | d :: r => uptoBulk d + uptoBulkAll r
def uptoBulkEntries {H : Type} : List (Lit × DataW H) → Nat
  | [] => 0
  | x :: r => uptoBulkEntry x + uptoBulkEntries r
def uptoBulkEntry {H : Type} : Lit × DataW H → Nat
  | (.string bytes, d) => bytes.length + uptoBulk d + 1
  | (_, d) => uptoBulk d + 1
 end
def uptoSmall : (H : Type) → List (DataW H) → Bool := fun _ ds => decide (uptoBulkAll ds ≤ 1048576)
def OpenSpec.upto (s : _root_.Go.ChangeSpec) : _root_.Go.OpenSpec := { _root_.Go.OpenSpec.ofChange s with cond := some uptoSmall }

/-- 'viewportlaw08.PieceUndone', WHERE WHAT IT READS IS OF BULK AT MOST 1048576: true; the input reads as it did. -/
def pieceUndoneUptoRow : OpenClaim := { program := "ytmehaecclidfjaa", sum := "3370d8474d4e1d10c9390416656f7d97f8dac20383d16d1bc67f2d9eb5191b57", func := "viewport/viewportlaw08.PieceUndone", spec := "pieceUndone", inPlace := ["internal/abi.NoEscape", "internal/bytealg.MakeNoZero"], apart := false, narrowed := true }
def PieceUndoneUptoSaid : Prop := pieceUndoneUptoRow.holds Try.pinned (OpenSpec.upto pieceUndoneSpec)

/-- 'viewportlaw08.PieceSnap', WHERE WHAT IT READS IS OF BULK AT MOST 1048576: true; the input reads as it did. -/
def pieceSnapUptoRow : OpenClaim := { program := "ytmehaecclidfjaa", sum := "3370d8474d4e1d10c9390416656f7d97f8dac20383d16d1bc67f2d9eb5191b57", func := "viewport/viewportlaw08.PieceSnap", spec := "pieceSnap", inPlace := ["internal/abi.NoEscape", "internal/bytealg.MakeNoZero"], unfollowed := true, recurses := true, apart := false, narrowed := true }
def PieceSnapUptoSaid : Prop := pieceSnapUptoRow.holds Try.pinned (OpenSpec.upto pieceSnapSpec)

/-- 'viewportlaw08.PieceSlices', WHERE WHAT IT READS IS OF BULK AT MOST 1048576: true; the input reads as it did. -/
def pieceSlicesUptoRow : OpenClaim := { program := "ytmehaecclidfjaa", sum := "3370d8474d4e1d10c9390416656f7d97f8dac20383d16d1bc67f2d9eb5191b57", func := "viewport/viewportlaw08.PieceSlices", spec := "pieceSlices", inPlace := ["internal/abi.NoEscape", "internal/bytealg.MakeNoZero"], apart := false, narrowed := true }
def PieceSlicesUptoSaid : Prop := pieceSlicesUptoRow.holds Try.pinned (OpenSpec.upto pieceSlicesSpec)

/-- 'viewportlaw08.PieceNames', WHERE WHAT IT READS IS OF BULK AT MOST 1048576: true; the input reads as it did. -/
def pieceNamesUptoRow : OpenClaim := { program := "ytmehaecclidfjaa", sum := "3370d8474d4e1d10c9390416656f7d97f8dac20383d16d1bc67f2d9eb5191b57", func := "viewport/viewportlaw08.PieceNames", spec := "pieceNames", inPlace := ["internal/abi.NoEscape", "internal/bytealg.MakeNoZero"], unfollowed := true, recurses := true, apart := false, narrowed := true }
def PieceNamesUptoSaid : Prop := pieceNamesUptoRow.holds Try.pinned (OpenSpec.upto pieceNamesSpec)

/-- 'viewportlaw08.PieceScript', WHERE WHAT IT READS IS OF BULK AT MOST 1048576: true; the input reads as it did. -/
def pieceScriptUptoRow : OpenClaim := { program := "ytmehaecclidfjaa", sum := "3370d8474d4e1d10c9390416656f7d97f8dac20383d16d1bc67f2d9eb5191b57", func := "viewport/viewportlaw08.PieceScript", spec := "pieceScript", inPlace := ["internal/abi.NoEscape", "internal/bytealg.MakeNoZero"], unfollowed := true, recurses := true, apart := false, narrowed := true }
def PieceScriptUptoSaid : Prop := pieceScriptUptoRow.holds Try.pinned (OpenSpec.upto pieceScriptSpec)

end Rows
end Go.Proofs.Ytmehaecclidfjaa
