import Derived.Test.YtpaocofhpdmjpaaHmG12
set_option linter.unusedSimpArgs false
set_option linter.unusedVariables false
namespace Go.Proofs.Ytpaocofhpdmjpaa
open Go Go.Hm Go.RowKit

/-! ### What the iterator of Rows tells -/
/-- The rows that go on from one by m bytes at most. -/
def rowsF (t : Nat) : Nat → List UInt8 → List (List UInt8)
  | 0, row => [row]
  | m + 1, row => (List.range t).flatMap (fun b => rowsF t m (row ++ [UInt8.ofNat b])) ++ [row ++ [255]]
def rowsOf (t k : Int) : List (List UInt8) := if t < 0 ∨ 8 < t ∨ k < 1 ∨ 3 < k then [] else rowsF t.toNat k.toNat []
def itV (l : List (List UInt8)) : List (List Value) := l.map fun x => [.string ⟨⟨x⟩⟩]
def rowsIt (f : FuncId) (cap : List AV) (H : Heap) : Option (List (List Value)) :=
  if f = 51 then match cap with
    | [.hp b 1 0, .hp c 1 0] => match H[b]?, H[c]? with
      | some (.cells [.val (.int .i64 t)]), some (.cells [.val (.int .i64 k)]) => some (itV (rowsOf t k))
      | _, _ => none
    | _ => none
  else none
/-- One byte as a text. -/
theorem conv1P {P : Program} {src dt e : TypeId} (hs : P.underlying src = some (.slice e)) (he : P.underlying e = some (.int .u8)) (hd : P.underlying dt = some .string) (W : World) (b : Nat) :
    (convert src dt (.slice (some ⟨W.heap.size, 0, none⟩) 1 1)).run P (W.alloc (.cells #[.int .u8 (b : Nat)] 5)) = .ok (.string ⟨⟨[UInt8.ofNat b]⟩⟩) (W.alloc (.cells #[.int .u8 (b : Nat)] 5)) := by
  have hc : (W.alloc (.cells #[.int .u8 (b : Nat)] 5)).heap[W.heap.size]? = some (.cells #[.int .u8 (b : Nat)] 5 (0, 0)) := heap_alloc_new W _
  generalize W.alloc _ = W' at hc ⊢
  generalize W.heap.size = n at hc ⊢
  have hc : W'.cell? ⟨n, 0, none⟩ = some (.int .u8 (b : Nat)) := by simp only [World.cell?, hc]; rfl
  have conv : (convert src dt (.slice (some ⟨n, 0, none⟩) 1 1)).run P W' = (Conv.bytesToString (.slice (some ⟨n, 0, none⟩) 1 1)).run P W' := by
    simp [convert, run_underlying hs, run_underlying hd, run_underlying he]
  rw [conv, run_bytesToString W' _ 1 1 [(b : Int)] (run_loadCells_list (P := P) W' ⟨n, 0, none⟩ [.int .u8 (b : Nat)] (fun j v hv => by
    cases j with
    | zero =>
      simp only [List.getElem?_cons_zero, Option.some.injEq] at hv
      subst hv
      rw [add_none]
      exact hc
    | succ j => simp at hv)), foldl_push]
  simp
end Go.Proofs.Ytpaocofhpdmjpaa
