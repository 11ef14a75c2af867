/-
  No cell of these rows narrows 'for every input' (looked for: loops, veiled, ifaces, maps, wideKeys, modest, calm, conditions, laid).
  DERIVED. THE GIVEN ROWS OF THIS SEAT. 7 by the template 'for every input the law returns true; each argument reads behind the call as it read before'; 0 by the template 'total and deterministic' (their statements: YtpaocofhpdmjpaaTotals.lean).
  GIVEN WITH THE SEED: the statements are not yours to turn. If you find one false, say at which input.
  Laid BY PROGRAM, IN A SANDBOX (cutbox-rows.mjs): the forced cells as the released guide's own fill.sh prints them over the translation 425af485bba018ca… (all of the seat's roots in one cut). By AI agents, Wed Nov 11 2026. No macro, syntax, notation, axiom, sorry.
-/
import Derived.Test.YtpaocofhpdmjpaaChecked
import GoSem.Claim
import GoSem.ClaimJoined
import GoSem.ClaimMapViews
import Derived.JoinedTies
import Derived.KernelRfl
namespace Go.Proofs.Ytpaocofhpdmjpaa
/- THE CELL 'sum', in the pinned program and in every row, IS THE sha256 OF THE DUMP (.gsa) THAT YtpaocofhpdmjpaaProg.lean LOADS. Nothing in Lean hashes anything: it is a label: what it is worth is what the hold of that sum in a sandbox is worth. -/
noncomputable def Try.pinned : Pinned := { name := "ytpaocofhpdmjpaa", sum := "425af485bba018ca8009485bf435ee47060fb31a843cd2eb21ddd03ddda3c44a", checked := Try.checked }
namespace Rows
def none {H : Type} : Left H := { results := [], args := [] }

/-- 'viewportlaw12.FirstCats': WHATEVER THE INPUT: true; the input reads as it did. -/
def firstCatsSpec : ChangeSpec := { name := "firstCats", fn := fun _ => fun
  | [d1, d2, d3, d4] => { results := [.lit (.bool true)], args := [d1, d2, d3, d4] }
  | _ => none }
def firstCatsRow : OpenClaim := { program := "ytpaocofhpdmjpaa", sum := "425af485bba018ca8009485bf435ee47060fb31a843cd2eb21ddd03ddda3c44a", func := "viewport/viewportlaw12.FirstCats", spec := "firstCats", unfollowed := true, recurses := true, apart := false }
def FirstCatsSaid : Prop := firstCatsRow.holds Try.pinned (OpenSpec.ofChange firstCatsSpec)

/-- ITS FALSE NEIGHBOUR: 'it returns false'. Refute it at one input. -/
def firstCatsWrong : ChangeSpec := { name := "firstCats", fn := fun _ => fun
  | [d1, d2, d3, d4] => { results := [.lit (.bool false)], args := [d1, d2, d3, d4] }
  | _ => none }
def FirstCatsWrongFalsely : Prop := firstCatsRow.holds Try.pinned (OpenSpec.ofChange firstCatsWrong)

/-- 'viewportlaw12.FirstDerived': WHATEVER THE INPUT: true; the input reads as it did. -/
def firstDerivedSpec : ChangeSpec := { name := "firstDerived", fn := fun _ => fun
  | [d1, d2] => { results := [.lit (.bool true)], args := [d1, d2] }
  | _ => none }
def firstDerivedRow : OpenClaim := { program := "ytpaocofhpdmjpaa", sum := "425af485bba018ca8009485bf435ee47060fb31a843cd2eb21ddd03ddda3c44a", func := "viewport/viewportlaw12.FirstDerived", spec := "firstDerived", unfollowed := true, recurses := true, apart := false }
def FirstDerivedSaid : Prop := firstDerivedRow.holds Try.pinned (OpenSpec.ofChange firstDerivedSpec)

/-- ITS FALSE NEIGHBOUR: 'it returns false'. Refute it at one input. -/
def firstDerivedWrong : ChangeSpec := { name := "firstDerived", fn := fun _ => fun
  | [d1, d2] => { results := [.lit (.bool false)], args := [d1, d2] }
  | _ => none }
def FirstDerivedWrongFalsely : Prop := firstDerivedRow.holds Try.pinned (OpenSpec.ofChange firstDerivedWrong)

/-- 'viewportlaw12.FirstMore': WHATEVER THE INPUT: true; the input reads as it did. -/
def firstMoreSpec : ChangeSpec := { name := "firstMore", fn := fun _ => fun
  | [d1, d2] => { results := [.lit (.bool true)], args := [d1, d2] }
  | _ => none }
def firstMoreRow : OpenClaim := { program := "ytpaocofhpdmjpaa", sum := "425af485bba018ca8009485bf435ee47060fb31a843cd2eb21ddd03ddda3c44a", func := "viewport/viewportlaw12.FirstMore", spec := "firstMore", unfollowed := true, recurses := true, apart := false }
def FirstMoreSaid : Prop := firstMoreRow.holds Try.pinned (OpenSpec.ofChange firstMoreSpec)

/-- ITS FALSE NEIGHBOUR: 'it returns false'. Refute it at one input. -/
def firstMoreWrong : ChangeSpec := { name := "firstMore", fn := fun _ => fun
  | [d1, d2] => { results := [.lit (.bool false)], args := [d1, d2] }
  | _ => none }
def FirstMoreWrongFalsely : Prop := firstMoreRow.holds Try.pinned (OpenSpec.ofChange firstMoreWrong)

/-- 'viewportlaw12.FirstFixed': WHATEVER THE INPUT: true; the input reads as it did. -/
def firstFixedSpec : ChangeSpec := { name := "firstFixed", fn := fun _ => fun
  | [d] => { results := [.lit (.bool true)], args := [d] }
  | _ => none }
def firstFixedRow : OpenClaim := { program := "ytpaocofhpdmjpaa", sum := "425af485bba018ca8009485bf435ee47060fb31a843cd2eb21ddd03ddda3c44a", func := "viewport/viewportlaw12.FirstFixed", spec := "firstFixed", unfollowed := true, recurses := true, apart := false }
def FirstFixedSaid : Prop := firstFixedRow.holds Try.pinned (OpenSpec.ofChange firstFixedSpec)

/-- ITS FALSE NEIGHBOUR: 'it returns false'. Refute it at one input. -/
def firstFixedWrong : ChangeSpec := { name := "firstFixed", fn := fun _ => fun
  | [d] => { results := [.lit (.bool false)], args := [d] }
  | _ => none }
def FirstFixedWrongFalsely : Prop := firstFixedRow.holds Try.pinned (OpenSpec.ofChange firstFixedWrong)

/-- 'viewportlaw12.FirstRows': WHATEVER THE INPUT: true; the input reads as it did. -/
def firstRowsSpec : ChangeSpec := { name := "firstRows", fn := fun _ => fun
  | [d1, d2, d3] => { results := [.lit (.bool true)], args := [d1, d2, d3] }
  | _ => none }
def firstRowsRow : OpenClaim := { program := "ytpaocofhpdmjpaa", sum := "425af485bba018ca8009485bf435ee47060fb31a843cd2eb21ddd03ddda3c44a", func := "viewport/viewportlaw12.FirstRows", spec := "firstRows", unfollowed := true, recurses := true, apart := false }
def FirstRowsSaid : Prop := firstRowsRow.holds Try.pinned (OpenSpec.ofChange firstRowsSpec)

/-- ITS FALSE NEIGHBOUR: 'it returns false'. Refute it at one input. -/
def firstRowsWrong : ChangeSpec := { name := "firstRows", fn := fun _ => fun
  | [d1, d2, d3] => { results := [.lit (.bool false)], args := [d1, d2, d3] }
  | _ => none }
def FirstRowsWrongFalsely : Prop := firstRowsRow.holds Try.pinned (OpenSpec.ofChange firstRowsWrong)

/-- 'viewportlaw12.FirstNames': WHATEVER THE INPUT: true; the input reads as it did. -/
def firstNamesSpec : ChangeSpec := { name := "firstNames", fn := fun _ => fun
  | [] => { results := [.lit (.bool true)], args := [] }
  | _ => none }
def firstNamesRow : OpenClaim := { program := "ytpaocofhpdmjpaa", sum := "425af485bba018ca8009485bf435ee47060fb31a843cd2eb21ddd03ddda3c44a", func := "viewport/viewportlaw12.FirstNames", spec := "firstNames", unfollowed := true, recurses := true, apart := false }
def FirstNamesSaid : Prop := firstNamesRow.holds Try.pinned (OpenSpec.ofChange firstNamesSpec)

/-- ITS FALSE NEIGHBOUR: 'it returns false'. Refute it at one input. -/
def firstNamesWrong : ChangeSpec := { name := "firstNames", fn := fun _ => fun
  | [] => { results := [.lit (.bool false)], args := [] }
  | _ => none }
def FirstNamesWrongFalsely : Prop := firstNamesRow.holds Try.pinned (OpenSpec.ofChange firstNamesWrong)

/-- 'viewportlaw12.FirstCalls': WHATEVER THE INPUT: true; the input reads as it did. -/
def firstCallsSpec : ChangeSpec := { name := "firstCalls", fn := fun _ => fun
  | [d1, d2, d3, d4, d5, d6, d7] => { results := [.lit (.bool true)], args := [d1, d2, d3, d4, d5, d6, d7] }
  | _ => none }
def firstCallsRow : OpenClaim := { program := "ytpaocofhpdmjpaa", sum := "425af485bba018ca8009485bf435ee47060fb31a843cd2eb21ddd03ddda3c44a", func := "viewport/viewportlaw12.FirstCalls", spec := "firstCalls", unfollowed := true, recurses := true, apart := false }
def FirstCallsSaid : Prop := firstCallsRow.holds Try.pinned (OpenSpec.ofChange firstCallsSpec)

/-- ITS FALSE NEIGHBOUR: 'it returns false'. Refute it at one input. -/
def firstCallsWrong : ChangeSpec := { name := "firstCalls", fn := fun _ => fun
  | [d1, d2, d3, d4, d5, d6, d7] => { results := [.lit (.bool false)], args := [d1, d2, d3, d4, d5, d6, d7] }
  | _ => none }
def FirstCallsWrongFalsely : Prop := firstCallsRow.holds Try.pinned (OpenSpec.ofChange firstCallsWrong)

/- THE SECOND FORM. 'bulk': how many values and letters a reading holds, each counted each time it is reached (what is shared counts as often as it is met; a slice's spare places count too). A statement '..UptoSaid' is the law's where the arguments, and the package variables that the reading takes, are together of bulk at most 1048576: NARROWER than '..Said'. Prove '..Said' where nothing that the law and all that it calls make is longer than what came in: it says more and counts as full. Else prove '..UptoSaid'. A law counts once. -/
mutual
def uptoBulk {H : Type} : DataW H → Nat
  | .lit (.string bytes) => bytes.length + 1
  | .lit _ => 1
  | .nil => 1
  | .ptr d => uptoBulk d + 1
  | .slice elems spare => uptoBulkAll elems + uptoBulkAll spare + 1
  | .agg parts => uptoBulkAll parts + 1
  | .iface _ d => uptoBulk d + 1
  | .map entries => uptoBulkEntries entries + 1
  | .held _ => 1
def uptoBulkAll {H : Type} : List (DataW H) → Nat
  | [] => 0
  | d :: r => uptoBulk d + uptoBulkAll r
def uptoBulkEntries {H : Type} : List (Lit × DataW H) → Nat
  | [] => 0
  | x :: r => uptoBulkEntry x + uptoBulkEntries r
def uptoBulkEntry {H : Type} : Lit × DataW H → Nat
  | (.string bytes, d) => bytes.length + uptoBulk d + 1
  | (_, d) => uptoBulk d + 1
 end
def uptoSmall : (H : Type) → List (DataW H) → Bool := fun _ ds => decide (uptoBulkAll ds ≤ 1048576)
def OpenSpec.upto (s : _root_.Go.ChangeSpec) : _root_.Go.OpenSpec := { _root_.Go.OpenSpec.ofChange s with cond := some uptoSmall }

/-- 'viewportlaw12.FirstCats', WHERE WHAT IT READS IS OF BULK AT MOST 1048576: true; the input reads as it did. -/
def firstCatsUptoRow : OpenClaim := { program := "ytpaocofhpdmjpaa", sum := "425af485bba018ca8009485bf435ee47060fb31a843cd2eb21ddd03ddda3c44a", func := "viewport/viewportlaw12.FirstCats", spec := "firstCats", unfollowed := true, recurses := true, apart := false, narrowed := true }
def FirstCatsUptoSaid : Prop := firstCatsUptoRow.holds Try.pinned (OpenSpec.upto firstCatsSpec)

/-- 'viewportlaw12.FirstDerived', WHERE WHAT IT READS IS OF BULK AT MOST 1048576: true; the input reads as it did. -/
def firstDerivedUptoRow : OpenClaim := { program := "ytpaocofhpdmjpaa", sum := "425af485bba018ca8009485bf435ee47060fb31a843cd2eb21ddd03ddda3c44a", func := "viewport/viewportlaw12.FirstDerived", spec := "firstDerived", unfollowed := true, recurses := true, apart := false, narrowed := true }
def FirstDerivedUptoSaid : Prop := firstDerivedUptoRow.holds Try.pinned (OpenSpec.upto firstDerivedSpec)

/-- 'viewportlaw12.FirstMore', WHERE WHAT IT READS IS OF BULK AT MOST 1048576: true; the input reads as it did. -/
def firstMoreUptoRow : OpenClaim := { program := "ytpaocofhpdmjpaa", sum := "425af485bba018ca8009485bf435ee47060fb31a843cd2eb21ddd03ddda3c44a", func := "viewport/viewportlaw12.FirstMore", spec := "firstMore", unfollowed := true, recurses := true, apart := false, narrowed := true }
def FirstMoreUptoSaid : Prop := firstMoreUptoRow.holds Try.pinned (OpenSpec.upto firstMoreSpec)

/-- 'viewportlaw12.FirstFixed', WHERE WHAT IT READS IS OF BULK AT MOST 1048576: true; the input reads as it did. -/
def firstFixedUptoRow : OpenClaim := { program := "ytpaocofhpdmjpaa", sum := "425af485bba018ca8009485bf435ee47060fb31a843cd2eb21ddd03ddda3c44a", func := "viewport/viewportlaw12.FirstFixed", spec := "firstFixed", unfollowed := true, recurses := true, apart := false, narrowed := true }
def FirstFixedUptoSaid : Prop := firstFixedUptoRow.holds Try.pinned (OpenSpec.upto firstFixedSpec)

/-- 'viewportlaw12.FirstRows', WHERE WHAT IT READS IS OF BULK AT MOST 1048576: true; the input reads as it did. -/
def firstRowsUptoRow : OpenClaim := { program := "ytpaocofhpdmjpaa", sum := "425af485bba018ca8009485bf435ee47060fb31a843cd2eb21ddd03ddda3c44a", func := "viewport/viewportlaw12.FirstRows", spec := "firstRows", unfollowed := true, recurses := true, apart := false, narrowed := true }
def FirstRowsUptoSaid : Prop := firstRowsUptoRow.holds Try.pinned (OpenSpec.upto firstRowsSpec)

/-- 'viewportlaw12.FirstNames', WHERE WHAT IT READS IS OF BULK AT MOST 1048576: true; the input reads as it did. -/
def firstNamesUptoRow : OpenClaim := { program := "ytpaocofhpdmjpaa", sum := "425af485bba018ca8009485bf435ee47060fb31a843cd2eb21ddd03ddda3c44a", func := "viewport/viewportlaw12.FirstNames", spec := "firstNames", unfollowed := true, recurses := true, apart := false, narrowed := true }
def FirstNamesUptoSaid : Prop := firstNamesUptoRow.holds Try.pinned (OpenSpec.upto firstNamesSpec)

/-- 'viewportlaw12.FirstCalls', WHERE WHAT IT READS IS OF BULK AT MOST 1048576: true; the input reads as it did. -/
def firstCallsUptoRow : OpenClaim := { program := "ytpaocofhpdmjpaa", sum := "425af485bba018ca8009485bf435ee47060fb31a843cd2eb21ddd03ddda3c44a", func := "viewport/viewportlaw12.FirstCalls", spec := "firstCalls", unfollowed := true, recurses := true, apart := false, narrowed := true }
def FirstCallsUptoSaid : Prop := firstCallsUptoRow.holds Try.pinned (OpenSpec.upto firstCallsSpec)

end Rows
end Go.Proofs.Ytpaocofhpdmjpaa
