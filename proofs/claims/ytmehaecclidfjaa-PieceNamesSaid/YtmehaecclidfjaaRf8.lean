import Derived.Test.YtmehaecclidfjaaPk
set_option linter.unusedSimpArgs false
set_option linter.unusedVariables false
namespace Go.Proofs.Ytmehaecclidfjaa
open Go Go.Hm

set_option maxRecDepth 20000 in
theorem rnew_code {lk lim : Nat} {H : Heap} {s : List UInt8} (h : s.length ≤ 65536) : callW X A lk lim 22 [Sg s] H = some (.tup [.hp H.length 1 0, I 0], H ++ [.cells [Sg s]]) := by
  refine wb_callB [] rfl A22 rfl rfl ?_
  unfold t22B
  generalize callW X A = C
  have g : ¬ (65536 : Int) < s.length := by omega
  simp [Sg_size, g, h, replaceAt]
set_option maxRecDepth 20000 in
theorem redit_code {H : Heap} {bo : Nat} {s x : List UInt8} {a d : Int} (hs : s.length ≤ 65536) (hx : x.length ≤ 1000) (hb : H[bo]? = some (.cells [Sg s])) (ha : i64 a) (hd : i64 d) :
    callW X A 0 0 23 [.hp bo 1 0, I a, I d, Sg x] H = some (I (editE s a d x), if editE s a d x = 0 then H.set bo (.cells [Sg (editV s a d x)]) else H) := by
  refine wb_callB [] rfl A23 rfl rfl ?_
  have hbl := (List.getElem?_eq_some_iff.1 hb).1
  unfold t23B
  show WB ⟨callW X A, 0, H.length, []⟩ _ _ _ _
  generalize callW X A = C
  unfold editV
  by_cases c1 : a < 0
  · have e : editE s a d x = 2 := by unfold editE; rw [if_pos (by omega)]
    rw [e]
    simp [c1]
  by_cases c2 : d < 0
  · have e : editE s a d x = 2 := by unfold editE; rw [if_pos (by omega)]
    rw [e]
    simp [c1, c2]
  by_cases c3 : (s.length : Int) < a
  · have e : editE s a d x = 2 := by unfold editE; rw [if_pos (by omega)]
    rw [e]
    simp [c1, c2, hb, Sg_size, c3]
  have w1 : IntKind.i64.wrap ((s.length : Int) - a) = s.length - a := wrap64 (by omega) (by omega)
  by_cases c4 : (s.length : Int) - a < d
  · have e : editE s a d x = 2 := by unfold editE; rw [if_pos (by omega)]
    rw [e]
    simp [c1, c2, hb, Sg_size, c3, w1, c4]
  have w2 : IntKind.i64.wrap ((s.length : Int) - d) = s.length - d := wrap64 (by omega) (by omega)
  have w3 : IntKind.i64.wrap ((s.length : Int) - d + x.length) = s.length - d + x.length := wrap64 (by omega) (by omega)
  by_cases c5 : 65536 < (s.length : Int) - d + x.length
  · have e : editE s a d x = 3 := by unfold editE; rw [if_neg (by omega), if_pos (by omega)]
    rw [e]
    simp [c1, c2, hb, Sg_size, c3, w1, c4, w2, w3, c5]
  have e : editE s a d x = 0 := by unfold editE; rw [if_neg (by omega), if_neg (by omega)]
  rw [e]
  rw [if_pos rfl, if_pos rfl]
  obtain ⟨na, rfl⟩ := Int.eq_ofNat_of_zero_le (by omega : 0 ≤ a)
  obtain ⟨nd, rfl⟩ := Int.eq_ofNat_of_zero_le (by omega : 0 ≤ d)
  have w4 : IntKind.i64.wrap ((na : Int) + nd) = ((na + nd : Nat) : Int) := by rw [wrap64 (by omega) (by omega)]; omega
  have n3 : na ≤ s.length := by omega
  have n4 : na + nd ≤ s.length := by omega
  have a1 := sg_add (a := s.take na) (b := x) (by rw [List.length_take]; omega)
  have a2 := sg_add (a := s.take na ++ x) (b := s.drop (na + nd)) (by rw [List.length_append, List.length_take, List.length_drop]; omega)
  rw [show (na : Int).toNat = na from rfl, show (nd : Int).toNat = nd from rfl]
  simp [-wb_regN, -wb_regD, -wb_true, -wb_false]
  rw [wb_regN]
  simp [-wb_regN, -wb_regD, -wb_true, -wb_false]
  rw [wb_regN]
  simp [-wb_regN, -wb_regD, -wb_true, -wb_false, c1, c2, hb, Sg_size, c3, w1, c4]
  rw [wb_false rfl]
  simp [-wb_regN, -wb_regD, -wb_true, -wb_false]
  rw [wb_regN]
  simp [-wb_regN, -wb_regD, -wb_true, -wb_false, hb, Sg_size, w2, w3, c5]
  rw [wb_false rfl]
  simp [-wb_regN, -wb_regD, -wb_true, -wb_false]
  rw [wb_regD rfl]
  simp [-wb_regN, -wb_regD, -wb_true, -wb_false, -wi_stD, -Int.natCast_add, hb, Sg_size, w4, bnd, Sg_ext, n3, n4, a1, a2]
  rw [wi_stD]
  have tk : ∀ y : HB, List.take H.length (H.set bo y) = H.set bo y := fun y => List.take_of_length_le (by simp)
  simp [hb, setH, replaceAt, tk]

set_option maxRecDepth 20000 in
theorem rslice_code {lk lim : Nat} {H : Heap} {bo : Nat} {s : List UInt8} {x y : Int} (hs : s.length ≤ 65536) (hb : H[bo]? = some (.cells [Sg s])) : callW X A lk lim 24 [.hp bo 1 0, I x, I y] H = some (sliceV s x y, H) := by
  refine wb_callB [] rfl A24 rfl rfl ?_
  unfold t24B sliceV
  generalize callW X A = C
  by_cases c1 : x < 0
  · have e : okS s x y = false := by unfold okS; simp; omega
    simp [c1, e]
  by_cases c2 : y < x
  · have e : okS s x y = false := by unfold okS; simp; omega
    simp [c1, c2, e]
  by_cases c3 : (s.length : Int) < y
  · have e : okS s x y = false := by unfold okS; simp; omega
    simp [c1, c2, hb, Sg_size, c3, e]
  have e : okS s x y = true := by unfold okS; simp; omega
  obtain ⟨nx, rfl⟩ := Int.eq_ofNat_of_zero_le (by omega : 0 ≤ x)
  obtain ⟨ny, rfl⟩ := Int.eq_ofNat_of_zero_le (by omega : 0 ≤ y)
  have n1 : nx ≤ ny := by omega
  have n2 : ny ≤ s.length := by omega
  have n3 : ¬ ny < nx := by omega
  have n4 : ¬ s.length < ny := by omega
  simp [c1, c2, hb, Sg_size, c3, e, bnd, Sg_ext, n1, n2, n3, n4]
set_option maxRecDepth 20000 in
theorem rbyte_code {lk lim : Nat} {H : Heap} {bo : Nat} {s : List UInt8} {x : Int} (hs : s.length ≤ 65536) (hb : H[bo]? = some (.cells [Sg s])) : callW X A lk lim 25 [.hp bo 1 0, I x] H = some (byteV s x, H) := by
  refine wb_callB [] rfl A25 rfl rfl ?_
  unfold t25B
  generalize callW X A = C
  by_cases c1 : x < 0
  · have e : byteV s x = .tup [.val (.int .u8 0), Bo false] := by unfold byteV; rw [if_neg (by omega)]
    rw [e]
    simp [c1]
  obtain ⟨nx, rfl⟩ := Int.eq_ofNat_of_zero_le (by omega : 0 ≤ x)
  by_cases c2 : s.length ≤ nx
  · have e : byteV s (nx : Int) = .tup [.val (.int .u8 0), Bo false] := by
      unfold byteV
      rw [if_pos (by omega), show (nx : Int).toNat = nx from rfl, List.getElem?_eq_none c2]
    rw [e]
    simp [c1, hb, Sg_size, c2]
  · have c3 : nx < s.length := by omega
    have e : byteV s (nx : Int) = .tup [U8 s[nx], Bo true] := by
      unfold byteV
      rw [if_pos (by omega), show (nx : Int).toNat = nx from rfl, List.getElem?_eq_getElem c3]
    rw [e]
    have g : (⟨⟨s⟩⟩ : ByteArray)[nx]'(by simpa [Sg_size] using c3) = s[nx] := rfl
    simp [c1, hb, Sg_size, c2, c3, g]
    try rfl
end Go.Proofs.Ytmehaecclidfjaa
