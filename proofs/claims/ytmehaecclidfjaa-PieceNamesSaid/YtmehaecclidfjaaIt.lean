import Derived.Test.YtmehaecclidfjaaQ
import Derived.Test.YtmehaecclidfjaaHmG6
set_option linter.unusedSimpArgs false
set_option linter.unusedVariables false
namespace Go.Proofs.Ytmehaecclidfjaa
open Go Go.Hm

/-! ### What the iterator of Pieces tells -/
def strOf : AV → Option (List Value)
  | .val (.string s) => some [.string s]
  | _ => none
def mapS : List AV → Option (List (List Value))
  | [] => some []
  | v :: r => match strOf v with
    | some x => match mapS r with
      | some l => some (x :: l)
      | none => none
    | none => none
def strsOf : AV → Option (List (List Value))
  | .e0 => some []
  | .sl n cs => if cs.length = n ∧ n ≤ 1000000000 then mapS cs else none
  | _ => none
open Classical in
noncomputable def pieceIt (f : FuncId) (cap : List AV) (H : Heap) : Option (List (List Value)) :=
  if f = 29 then match cap with
    | [.hp b g o] => if g = 1 ∧ o = 0 then match H[b]? with
      | some (.cells [p]) => match C 0 H.length 28 [p] H with
        | some (v, H') => if H' = H then strsOf v else none
        | none => none
      | _ => none
      else none
    | _ => none
  else none

def itV (l : List (List UInt8)) : List (List Value) := l.map fun x => [.string ⟨⟨x⟩⟩]
theorem mapS_ok (l : List (List UInt8)) : mapS (l.map Sg) = some (itV l) := by
  induction l with
  | nil => rfl
  | cons x l ih => simp only [List.map_cons, mapS, Sg, strOf]; rw [show (l.map fun s => AV.val (.string ⟨⟨s⟩⟩)) = l.map Sg from rfl, ih]; rfl
theorem strsOf_slV (l : List (List UInt8)) (hl : l.length ≤ 65536) : strsOf (slV l) = some (itV l) := by
  unfold slV
  split
  · rename_i h; subst h; rfl
  · unfold strsOf
    dsimp only
    rw [if_pos ⟨by simp, by omega⟩, mapS_ok]
theorem it_tx {H : Heap} {b c : Nat} {s : List UInt8} {m : Nat} (h : TX H b s m) (hm : m ≤ 1000000000000) (hc : H[c]? = some (.cells [.hp b 4 0])) :
    ∃ l : List (List UInt8), l.flatten = s ∧ (∀ x ∈ l, x ≠ []) ∧ l.length ≤ 65536 ∧ pieceIt 29 [.hp c 1 0] H = some (itV l) := by
  obtain ⟨hs, fs, cm, ns, h1, rfl, h3, h4⟩ := h
  have h2 := cnt_le h1.ok
  refine ⟨ns.map (txt fs cm), rfl, fun x hx => ?_, by simpa using (by omega : ns.length ≤ 65536), ?_⟩
  · obtain ⟨n, hn, rfl⟩ := List.mem_map.1 hx
    have h5 := h1.ok n hn
    have := txt_len h5
    intro e
    rw [e] at this
    have := h5.1
    simp at *
    omega
  · unfold pieceIt
    have k := pieces_code (lk := 0) (lim := H.length) (Nat.zero_le _) ⟨by omega, by omega⟩ h1 (by omega)
    rw [if_pos rfl]
    dsimp only
    rw [if_pos ⟨rfl, rfl⟩, hc]
    dsimp only
    rw [show C 0 H.length 28 [.hp b 4 0] H = _ from k]
    dsimp only
    rw [if_pos rfl, strsOf_slV _ (by simp; omega)]
end Go.Proofs.Ytmehaecclidfjaa
