import Derived.Test.YtoiolinclpiohaaC
set_option linter.unusedSimpArgs false
set_option linter.unusedVariables false
namespace Go.Proofs.Ytoiolinclpiohaa
open Go Go.Hm

/-! ### A set as a text -/
def kb (x : Nat) : List AV := [.val (.int .u8 (x / 256 : Nat)), .val (.int .u8 (x % 256 : Nat))]
def kbs : List Nat → List AV
  | [] => []
  | x :: l => kb x ++ kbs l
def keyL : List Nat → List UInt8
  | [] => []
  | x :: l => UInt8.ofNat (x / 256) :: UInt8.ofNat (x % 256) :: keyL l
theorem kbs_len : ∀ l : List Nat, (kbs l).length = 2 * l.length
  | [] => rfl
  | x :: l => by simp only [kbs, kb, List.length_append, List.length_cons, List.length_nil, kbs_len l]; omega
theorem kbs_app : ∀ (l : List Nat) (x : Nat), kbs (l ++ [x]) = kbs l ++ kb x
  | [], x => by simp [kbs]
  | y :: l, x => by simp only [List.cons_append, kbs, kbs_app l x, List.append_assoc]
theorem bytes_kbs : ∀ l : List Nat, bytesOf (kbs l) = some (keyL l)
  | [] => rfl
  | x :: l => by
    simp only [kbs, kb, keyL, List.cons_append, List.nil_append, bytesOf, bytes_kbs l, Int.toNat_natCast]
def kV (H : Heap) (o : List Nat) : AV := if o = [] then .e0 else .hs H.length (2 * o.length) 0 (2 * o.length) 1
def kH (H : Heap) (o : List Nat) : Heap := if o = [] then H else H ++ [.cells (kbs o)]
theorem key_code {lk lim : Nat} {H : Heap} (l : List Nat) (hl : l.length ≤ 100000) (hb : ∀ x ∈ l, x < 65536) (hlk : lk ≤ H.length) :
    callW X A lk lim 49 [.sl l.length (nts l)] H = some (.val (.string ⟨⟨keyL l⟩⟩), H) := by
  refine wb_callB [] rfl A49 rfl rfl ?_
  unfold t49B
  simp
  refine wb_loop (σ := Nat) (fun k => [(0, .sl l.length (nts l)), (3, kV H (l.take k)), (4, I k)])
    (fun k => kH H (l.take k)) (fun k => k ≤ l.length) (fun k => l.length - k) ?_ 0 (by simp) (by simp [kV]) (by simp [kH])
  intro k hk
  unfold t49L1
  have hw : IntKind.i64.wrap ((k : Int) + 1) = ((k + 1 : Nat) : Int) := wrap64 (by omega) (by omega)
  by_cases hlt : k < l.length
  · obtain ⟨x, hx⟩ : ∃ x, l[k] = x := ⟨_, rfl⟩
    have hx2 := hb x (hx ▸ List.getElem_mem hlt)
    obtain ⟨q, hq⟩ : ∃ q, x / 256 = q := ⟨_, rfl⟩
    obtain ⟨r, hr⟩ : ∃ r, x % 256 = r := ⟨_, rfl⟩
    have w1 : IntKind.i64.wrap ((x : Int) / 256) = (q : Int) := by rw [wrap64 (by omega) (by omega)]; omega
    have w1' : IntKind.i64.wrap ((x : Int).tdiv 256) = (q : Int) := by rw [Int.tdiv_eq_ediv_of_nonneg (by omega)]; exact w1
    have w2 : (x : Int) % 256 = (r : Int) := by omega
    have w2' : (x : Int).tmod 256 = (r : Int) := by rw [Int.tmod_eq_emod_of_nonneg (by omega)]; exact w2
    have w3 : IntKind.u8.wrap (q : Int) = (q : Int) := wrapu8 (by omega) (by omega)
    have w4 : IntKind.u8.wrap (r : Int) = (r : Int) := wrapu8 (by omega) (by omega)
    have hkb : kb x = [.val (.int .u8 q), .val (.int .u8 r)] := by simp only [kb, hq, hr]
    have ht : l.take (k + 1) = l.take k ++ [x] := by rw [List.take_succ_eq_append_getElem hlt, hx]
    have hlen : (l.take k).length = k := by simp; omega
    have hro : 2 ≤ room := by unfold room; omega
    have hro2 : 2 * k + 2 ≤ room := by unfold room; omega
    have hro1 : 2 * (k + 1) ≤ room := by unfold room; omega
    by_cases h0 : k = 0
    · subst h0
      simp at hw
      simp [kV, kH, hlt, hx, w1, w2, w1', w2', w3, w4, replaceAt, srcCells, hro, rnd_nrm, hw]
      have hne : l ≠ [] := by intro h; subst h; simp at hlt
      have hm : min 1 l.length = 1 := by omega
      refine ⟨1, by omega, by omega, ⟨?_, rfl⟩, ?_⟩
      · simp [hne, hm]
      · simp only [List.take_zero, List.nil_append] at ht
        simp [hne, ht, kbs, hkb]
    · have hne : l.take k ≠ [] := by
        intro h; rw [h] at hlen; simp at hlen; omega
      simp [kV, kH, hlt, hx, w1, w2, w1', w2', w3, w4, replaceAt, srcCells, hro, rnd_nrm, hw, hne, hlen, kbs_len, hro2, setH, hlk]
      have hne2 : l ≠ [] := by intro h; subst h; simp at hlt
      have hm : min (k + 1) l.length = k + 1 := by omega
      refine ⟨k + 1, by omega, by omega, ⟨?_, by simp⟩, ?_⟩
      · simp [hne2, hm]; omega
      · simp [hne2, ht, kbs_app, hkb]
  · obtain rfl : k = l.length := by omega
    simp [kV, kH]
    by_cases h0 : l = []
    · subst h0
      simp [bytesOf, keyL]
      done
    · have htk : (kbs l).take (2 * l.length) = kbs l := List.take_of_length_le (by rw [kbs_len]; omega)
      simp [h0, kbs_len, bytes_kbs, htk]

/-! ### The rule of a set -/
def endS (m r : Int) : Int := if 0 ≤ r ∧ (m < 0 ∨ r < m) then r else m
def endL (rul : List Int) (m : Int) : List Nat → Int
  | [] => m
  | s :: l => endL rul (endS m (rul.getD s 0)) l
set_option maxRecDepth 20000 in
theorem ends_code {lk lim : Nat} {H : Heap} (c n : AV) (rul : List Int) (l : List Nat) (hl : l.length ≤ 100000) (hb : ∀ x ∈ l, x < rul.length) :
    callW X A lk lim 50 [.agg [c, n, .sl rul.length (ints rul)], .sl l.length (nts l)] H = some (I (endL rul (-1) l), H) := by
  refine wb_callB [2] rfl A50 rfl rfl ?_
  unfold t50B
  simp
  refine wb_loop (σ := Nat × Int) (fun s => [(1, .sl l.length (nts l)), (2, .box [c, n, .sl rul.length (ints rul)]), (5, I s.2), (6, I s.1)])
    (fun _ => H) (fun s => s.1 ≤ l.length ∧ endL rul s.2 (l.drop s.1) = endL rul (-1) l) (fun s => l.length - s.1) ?_ (0, -1) (by simp) (by simp) rfl
  rintro ⟨k, m⟩ ⟨hk, hinv⟩
  simp only at hk hinv
  unfold t50L1
  have hw : IntKind.i64.wrap ((k : Int) + 1) = (k : Int) + 1 := wrap64 (by omega) (by omega)
  by_cases hlt : k < l.length
  · obtain ⟨x, hx⟩ : ∃ x, l[k] = x := ⟨_, rfl⟩
    have hxr := hb x (hx ▸ List.getElem_mem hlt)
    obtain ⟨r, hr⟩ : ∃ r, rul[x] = r := ⟨_, rfl⟩
    rw [List.drop_eq_getElem_cons hlt, hx] at hinv
    have hg : rul.getD x 0 = r := by simp [hxr, hr]
    simp only [endL, hg] at hinv
    by_cases hr0 : 0 ≤ r
    · by_cases hm : m < 0
      · rw [endS, if_pos (by omega)] at hinv
        simp [hlt, hx, hxr, hr, hr0, hm, hw, rnd_nrm]
        exact ⟨k + 1, r, ⟨by omega, hinv⟩, by omega, rfl, by simp⟩
      · by_cases hrm : r < m
        · rw [endS, if_pos (by omega)] at hinv
          simp [hlt, hx, hxr, hr, hr0, hm, hrm, hw, rnd_nrm]
          exact ⟨k + 1, r, ⟨by omega, hinv⟩, by omega, rfl, by simp⟩
        · rw [endS, if_neg (by omega)] at hinv
          simp [hlt, hx, hxr, hr, hr0, hm, hrm, hw, rnd_nrm]
          exact ⟨k + 1, m, ⟨by omega, hinv⟩, by omega, rfl, by simp⟩
    · rw [endS, if_neg (by omega)] at hinv
      simp [hlt, hx, hxr, hr, hr0, hw, rnd_nrm]
      exact ⟨k + 1, m, ⟨by omega, hinv⟩, by omega, rfl, by simp⟩
  · obtain rfl : k = l.length := by omega
    simp only [List.drop_length, endL] at hinv
    simp [hinv]
end Go.Proofs.Ytoiolinclpiohaa
