import Derived.Test.YtmehaecclidfjaaI
set_option linter.unusedSimpArgs false
set_option linter.unusedVariables false
namespace Go.Proofs.Ytmehaecclidfjaa
open Go Go.Hm

/-- A table in memory with a text; at most m bytes have come. -/
def TX (H : Heap) (b : Nat) (s : List UInt8) (m : Nat) : Prop := s.length ≤ 65536 ∧ ∃ fs cm ns, TB H b fs cm ns s.length ∧ alls fs cm ns = s ∧ fs.length ≤ 65536 ∧ cm.length ≤ m
theorem tx_mono {H : Heap} {b : Nat} {s : List UInt8} {m m' : Nat} (h : TX H b s m) (hm : m ≤ m') : TX H b s m' := by
  obtain ⟨u1, fs, cm, ns, u2, u3, u4, u5⟩ := h
  exact ⟨u1, fs, cm, ns, u2, u3, u4, by omega⟩
theorem tx_new {H : Heap} {s : List UInt8} (h : s.length ≤ 65536) : ∃ H', callW X A 0 0 11 [Sg s] H = some (.tup [.hp H.length 4 0, I 0], H') ∧ TX H' H.length s 0 := by
  obtain ⟨H', ns, h1, h2, h3, -, -⟩ := new_code (H := H) h
  rw [h3] at h2
  exact ⟨H', h1, h, s, [], ns, h2, h3, h, Nat.le_refl _⟩
theorem editV_len {s : List UInt8} {a d : Int} {x : List UInt8} (h : s.length ≤ 65536) : (editV s a d x).length ≤ 65536 := by
  unfold editV
  split
  · rename_i he
    obtain ⟨h1, h2, h3, h4, h5⟩ := editE_zero he
    simp only [List.length_append, List.length_take, List.length_drop]
    omega
  · exact h
theorem tx_edit {H : Heap} {b : Nat} {s : List UInt8} {m : Nat} {a d : Int} {x : List UInt8} (h : TX H b s m) (hm : m + x.length ≤ 1000000000000) :
    ∃ H', callW X A 0 0 12 [.hp b 4 0, I a, I d, Sg x] H = some (I (editE s a d x), H') ∧ TX H' b (editV s a d x) (m + x.length) := by
  obtain ⟨hs, fs, cm, ns, h1, rfl, h3, h4⟩ := h
  obtain ⟨H', k, cm', ns', t1, t2, -, -, t5⟩ := edit_code (a := a) (d := d) (x := x) ⟨by omega, by omega⟩ h1 hs
  exact ⟨H', k, editV_len hs, fs, cm', ns', t1, t2, h3, by omega⟩
theorem tx_text {lk lim : Nat} {H : Heap} {b : Nat} {s : List UInt8} {m : Nat} (h : TX H b s m) (hm : m ≤ 1000000000000) (hlk : lk ≤ H.length) : callW X A lk lim 13 [.hp b 4 0] H = some (Sg s, H) := by
  obtain ⟨hs, fs, cm, ns, h1, rfl, h3, h4⟩ := h
  have := cnt_le h1.ok
  exact text_code hlk ⟨by omega, by omega⟩ h1 (by omega) (by omega)
theorem tx_len {lk lim : Nat} {H : Heap} {b : Nat} {s : List UInt8} {m : Nat} (h : TX H b s m) : callW X A lk lim 17 [.hp b 4 0] H = some (I s.length, H) := by
  obtain ⟨hs, fs, cm, ns, h1, rfl, h3, h4⟩ := h
  exact len_code h1
theorem tx_slice {lk lim : Nat} {H : Heap} {b : Nat} {s : List UInt8} {m : Nat} {x y : Int} (h : TX H b s m) (hm : m ≤ 1000000000000) (hlk : lk ≤ H.length) : callW X A lk lim 14 [.hp b 4 0, I x, I y] H = some (sliceV s x y, H) := by
  obtain ⟨hs, fs, cm, ns, h1, rfl, h3, h4⟩ := h
  have := cnt_le h1.ok
  exact slice_code hlk ⟨by omega, by omega⟩ h1 (by omega) (by omega)
theorem tx_byte {lk lim : Nat} {H : Heap} {b : Nat} {s : List UInt8} {m : Nat} {x : Int} (h : TX H b s m) (hm : m ≤ 1000000000000) (hlk : lk ≤ H.length) : callW X A lk lim 18 [.hp b 4 0, I x] H = some (byteV s x, H) := by
  obtain ⟨hs, fs, cm, ns, h1, rfl, h3, h4⟩ := h
  have := cnt_le h1.ok
  exact byte_code hlk ⟨by omega, by omega⟩ h1 (by omega) (by omega)
end Go.Proofs.Ytmehaecclidfjaa
