import Derived.Test.YtdbbaopgmapmaaaT
import Derived.Test.YtdbbaopgmapmaaaHmG10
set_option linter.unusedSimpArgs false
set_option linter.unusedVariables false
namespace Go.Proofs.Ytdbbaopgmapmaaa
open Go Go.Hm

def hasB (cs : List Int) (n : Nat) : Bool := (cs.getD (n / 64) 0).toNat / 2 ^ (n % 64) % 2 == 1

theorem bit_test (v : Int) (hv : 0 ≤ v) (hv2 : v ≤ 18446744073709551615) (k : Nat) (hk : k < 64) : (IntKind.u64.wrap ((((v.fdiv (2 ^ min k IntKind.u64.bits)) % 2 ^ IntKind.u64.bits).toNat &&& (1 % 2 ^ IntKind.u64.bits : Nat) : Nat) : Int) == 1) = (v.toNat / 2 ^ k % 2 == 1) := by
  obtain ⟨m, rfl⟩ : ∃ m : Nat, v = m := ⟨v.toNat, by omega⟩
  have e1 : min k IntKind.u64.bits = k := Nat.min_eq_left (Nat.le_of_lt hk)
  have e2 : ((m : Int).fdiv (2 ^ k)) = ((m / 2 ^ k : Nat) : Int) := by
    rw [Int.fdiv_eq_ediv_of_nonneg _ (by exact_mod_cast Nat.zero_le _)]
    norm_cast
  have e3 : m / 2 ^ k < 18446744073709551616 := Nat.lt_of_le_of_lt (Nat.div_le_self _ _) (by omega)
  rw [e1, e2]
  rw [Int.toNat_natCast]
  generalize m / 2 ^ k = q at e3 ⊢
  have e4 : ((q : Int) % 2 ^ IntKind.u64.bits).toNat = q := by
    show ((q : Int) % 18446744073709551616).toNat = q
    omega
  have e5 : (1 % 2 ^ IntKind.u64.bits : Nat) = 1 := by decide
  rw [e4, e5, Nat.and_one_is_mod]
  rw [wrapu64 (by omega) (by omega)]
  have : q % 2 = 0 ∨ q % 2 = 1 := by omega
  rcases this with h | h <;> simp [h]
theorem has_code {lk lim : Nat} {H : Heap} (a b c d : Int) (ha : 0 ≤ a ∧ a ≤ 18446744073709551615) (hb : 0 ≤ b ∧ b ≤ 18446744073709551615) (hc : 0 ≤ c ∧ c ≤ 18446744073709551615) (hd : 0 ≤ d ∧ d ≤ 18446744073709551615) (n : Nat) (hx : n ≤ 255) :
    callW X A lk lim 65 [.agg [.val (.int .u64 a), .val (.int .u64 b), .val (.int .u64 c), .val (.int .u64 d)], .val (.int .u8 n)] H = some (Bo (hasB [a, b, c, d] n), H) := by
  refine wb_callB [2] rfl A65 rfl rfl ?_
  unfold t65B
  have hh : hasB [a, b, c, d] n = (([a,b,c,d].getD (n / 64) 0).toNat / 2 ^ (n % 64) % 2 == 1) := rfl
  rw [hh]
  obtain ⟨r, hr⟩ : ∃ r, n % 64 = r := ⟨_, rfl⟩
  have h64 : r < 64 := by omega
  rw [hr]
  have h0 : ¬ ((r : Int) < 0) := by omega
  have e0 : IntKind.u8.wrap ((n : Int) / 64) = (n : Int) / 64 := wrapu8 (by omega) (by omega)
  have e1 : IntKind.u64.wrap ((n : Int).tmod 64) = (r : Int) := by
    rw [Int.tmod_eq_emod_of_nonneg (by omega), wrapu64 (by omega) (by omega)]; omega
  have f4 : (1 % 2 ^ IntKind.u64.bits : Nat) = 1 := by decide
  have f0 : IntKind.u8.wrap 0 = 0 := by decide
  have f1 : IntKind.u8.wrap 1 = 1 := by decide
  have f2 : IntKind.u8.wrap 2 = 2 := by decide
  have f3 : IntKind.u8.wrap 3 = 3 := by decide
  rcases (by omega : n / 64 = 0 ∨ n / 64 = 1 ∨ n / 64 = 2 ∨ n / 64 = 3) with h | h | h | h
  · have h' : (n : Int) / 64 = 0 := by omega
    have e3 := bit_test a ha.1 ha.2 r h64
    simp [f0, f1, f2, f3, e0, e1, h', h, h0, f4]
    simpa [f4] using e3
  · have h' : (n : Int) / 64 = 1 := by omega
    have e3 := bit_test b hb.1 hb.2 r h64
    simp [f0, f1, f2, f3, e0, e1, h', h, h0, f4]
    simpa [f4] using e3
  · have h' : (n : Int) / 64 = 2 := by omega
    have e3 := bit_test c hc.1 hc.2 r h64
    simp [f0, f1, f2, f3, e0, e1, h', h, h0, f4]
    simpa [f4] using e3
  · have h' : (n : Int) / 64 = 3 := by omega
    have e3 := bit_test d hd.1 hd.2 r h64
    simp [f0, f1, f2, f3, e0, e1, h', h, h0, f4]
    simpa [f4] using e3
end Go.Proofs.Ytdbbaopgmapmaaa

namespace Go.Proofs.Ytdbbaopgmapmaaa
open Go Go.Hm

abbrev Ucl (c : List Int) : List AV := c.map fun x => .val (.int .u64 x)
def clsOk (c : List Int) : Prop := c.length = 4 ∧ ∀ x ∈ c, 0 ≤ x ∧ x ≤ 18446744073709551615
theorem has_walk {lk lim : Nat} {H : Heap} (c : List Int) (hc : clsOk c) (n : Nat) (hx : n ≤ 255) :
    callW X A lk lim 65 [.agg (Ucl c), .val (.int .u8 n)] H = some (Bo (hasB c n), H) := by
  obtain ⟨h1, h2⟩ := hc
  match c, h1, h2 with
  | [a, b, c, d], _, h2 => exact has_code a b c d (h2 a (by simp)) (h2 b (by simp)) (h2 c (by simp)) (h2 d (by simp)) n hx

/-- A row's step. -/
def hitR (cls : List (List Int)) (b : Nat) (h : List Bool) : List Nat → List Bool
  | [] => h
  | x :: r => hitR cls b (if hasB (cls.getD x []) b then h.set x true else h) r
def hitS (cls : List (List Int)) (rows : List (List Nat)) (b : Nat) (h : List Bool) : List Nat → List Bool
  | [] => h
  | s :: r => hitS cls rows b (hitR cls b h (rows.getD s [])) r
def outS (o : List Nat) (i : Nat) : List Bool → List Nat
  | [] => o
  | t :: r => outS (if t then o ++ [i] else o) (i + 1) r
def slv (o : List Nat) : AV := if o = [] then .e0 else .sl o.length (nts o)
def outV (H : Heap) (o : List Nat) : AV := if o = [] then .e0 else .hs (H.length + 1) o.length 0 o.length 1
def outH (H : Heap) (x : HB) (o : List Nat) : Heap := if o = [] then H ++ [x] else H ++ [x, .cells (nts o)]

theorem hitR_len (cls : List (List Int)) (b : Nat) : ∀ (r : List Nat) (h : List Bool), (hitR cls b h r).length = h.length
  | [], _ => rfl
  | x :: r, h => by
    simp only [hitR]; rw [hitR_len cls b r]; split <;> simp
theorem go_code {lk lim : Nat} {H : Heap} (cls : List (List Int)) (clc nx : List AV) (rul : AV) (rows : List (List Nat)) (set : List Nat) (b : Nat)
    (hc : ∀ c ∈ cls, clsOk c) (hfl : ∀ y (h : y < cls.length), (clc.drop (y * 4)).take 4 = Ucl cls[y] ∧ y * 4 + 4 ≤ clc.length) (hcl : cls.length ≤ 100000) (hr : nx.length = cls.length) (hrow : ∀ i, i < cls.length → ∃ v r, nx[i]? = some v ∧ rows[i]? = some r ∧ Sln v r ∧ r.length ≤ 100000 ∧ ∀ x ∈ r, x < cls.length)
    (hset : ∀ x ∈ set, x < cls.length) (hlk : lk ≤ H.length) (hsl : set.length ≤ 100000) (hb : b ≤ 255) :
    callW X A lk lim 57 [.agg [.sl cls.length clc, .sl cls.length nx, rul], .sl set.length (nts set), .val (.int .u8 b)] H =
      some (slv (outS [] 0 (hitS cls rows b (List.replicate cls.length false) set)), H) := by
  refine wb_callB [3] rfl A57 rfl rfl ?_
  unfold t57B
  have hroom : (cls.length : Int) ≤ (room : Int) := by unfold room; omega
  simp [hroom]
  let box : AV := .box [.sl cls.length clc, .sl cls.length nx, rul]
  let hitv : AV := .hs H.length cls.length 0 cls.length 1
  refine wb_loop (σ := Nat × List Bool) (fun s => [(1, .sl set.length (nts set)), (2, .val (.int .u8 b)), (3, box), (7, hitv), (8, I s.1)])
    (fun s => H ++ [.cells (bools s.2)]) (fun s => s.1 ≤ set.length ∧ s.2.length = cls.length ∧ hitS cls rows b s.2 (set.drop s.1) = hitS cls rows b (List.replicate cls.length false) set)
    (fun s => set.length - s.1) ?_ (0, List.replicate cls.length false) (by simp) (by simp [box, hitv]) (by simp [repl, bools])
  rintro ⟨k, h⟩ ⟨hk, hh, hinv⟩
  simp only at hk hh hinv
  unfold t57L2
  simp [box, hitv]
  refine wb_if (k < set.length) (by simp) (fun hlt => ?_) (fun hge => ?_)
  · obtain ⟨x, hx⟩ : ∃ x, set[k] = x := ⟨_, rfl⟩
    have hxc : x < cls.length := hset x (hx ▸ List.getElem_mem hlt)
    obtain ⟨v, r, hv, hrr, hsln, hrl, hbd⟩ := hrow x hxc
    have h1 : ¬ ((x : Int) < 0) := by omega
    have h2 : ¬ ((cls.length : Int) ≤ x) := by omega
    have h3 : one v = true := by rcases hsln with rfl | ⟨rfl, _⟩ <;> rfl
    have hxn : x < nx.length := by omega
    have hv' : nx[x] = v := by rw [List.getElem?_eq_getElem hxn] at hv; simpa using hv
    have hS : hitS cls rows b h (set.drop k) = hitS cls rows b (hitR cls b h r) (set.drop (k + 1)) := by
      rw [List.drop_eq_getElem_cons hlt, hx]
      simp only [hitS, List.getD_eq_getElem?_getD, hrr, Option.getD_some]
    have hw : IntKind.i64.wrap ((k : Int) + 1) = ((k + 1 : Nat) : Int) := wrap64 (by omega) (by omega)
    rcases hsln with rfl | ⟨rfl, rfl⟩
    · simp [hlt, nts_get, hx, h1, h2, hxc, hv', hr]
      refine wb_loop (σ := Nat × List Bool) (fun s => [(1, .sl set.length (nts set)), (2, .val (.int .u8 b)), (3, box), (7, hitv), (8, I k), (9, .sl r.length (nts r)), (10, I s.1)])
        (fun s => H ++ [.cells (bools s.2)]) (fun s => s.1 ≤ r.length ∧ s.2.length = cls.length ∧ hitR cls b s.2 (r.drop s.1) = hitR cls b h r)
        (fun s => r.length - s.1) ?_ (0, h) (by simp [hh]) (by simp [box, hitv]) (by simp)
      rintro ⟨m, h'⟩ ⟨hk', hh', hinv'⟩
      simp only at hk' hh' hinv'
      unfold t57L1
      simp [box, hitv]
      refine wb_if (m < r.length) (by simp) (fun hlt' => ?_) (fun hge' => ?_)
      · obtain ⟨y, hy⟩ : ∃ y, r[m] = y := ⟨_, rfl⟩
        have hyc : y < cls.length := hbd y (hy ▸ List.getElem_mem hlt')
        obtain ⟨hf1, hf2⟩ := hfl y hyc
        have hw' : IntKind.i64.wrap ((m : Int) + 1) = ((m + 1 : Nat) : Int) := wrap64 (by omega) (by omega)
        have hhas := has_walk (lk := lk) (lim := H.length) (H := H ++ [.cells (bools h')]) cls[y] (hc _ (List.getElem_mem hyc)) b hb
        have hR : hitR cls b h' (r.drop m) = hitR cls b (if hasB cls[y] b then h'.set y true else h') (r.drop (m + 1)) := by
          rw [List.drop_eq_getElem_cons hlt', hy]
          simp only [hitR, List.getD_eq_getElem?_getD, List.getElem?_eq_getElem hyc, Option.getD_some]
        cases hb2 : hasB cls[y] b with
        | true =>
          rw [hb2] at hhas
          rw [hb2, if_pos rfl] at hR
          have hyb : y < (bools h').length := by rw [bools_len]; omega
          have hyc1 : y + 1 ≤ cls.length := hyc
          simp [hlt', nts_get, hy, hyc, hyc1, hf1, hf2, hhas, hw', bools_len, hh', rnd_nrm, setH, replaceAt_one _ hyb, bools_set, hlk]
          exact ⟨m + 1, _, ⟨by omega, by simpa using hh', by rw [← hR]; exact hinv'⟩, by omega, by simp, rfl⟩
        | false =>
          rw [hb2] at hhas
          rw [hb2, if_neg (by simp)] at hR
          simp [hlt', nts_get, hy, hyc, hf1, hf2, hhas, hw', rnd_nrm]
          exact ⟨m + 1, _, ⟨by omega, hh', by rw [← hR]; exact hinv'⟩, by omega, by simp, rfl⟩
      · obtain rfl : m = r.length := by omega
        simp only [List.drop_length, hitR] at hinv'
        simp [hw, rnd_nrm]
        exact ⟨k + 1, _, ⟨by omega, hh', by rw [hinv', ← hS]; exact hinv⟩, by omega, by simp, rfl⟩
    · simp [hlt, nts_get, hx, h1, h2, hxc, hv', hr]
      refine wb_loop0 ?_
      unfold t57L1
      simp [hw, rnd_nrm]
      exact ⟨k + 1, _, ⟨by omega, hh, by rw [← hinv, hS]; rfl⟩, by omega, by simp, rfl⟩
  · obtain rfl : k = set.length := by omega
    simp only [List.drop_length, hitS] at hinv
    rw [← hinv]
    simp
    refine wb_loop (σ := Nat × List Nat) (fun s => [(7, hitv), (11, outV H s.2), (12, I s.1)])
      (fun s => outH H (.cells (bools h)) s.2) (fun s => s.1 ≤ cls.length ∧ s.2.length ≤ s.1 ∧ outS s.2 s.1 (h.drop s.1) = outS [] 0 h)
      (fun s => cls.length - s.1) ?_ (0, []) (by simp) (by simp [hitv, outV]) (by simp [outH])
    rintro ⟨m, o⟩ ⟨hm, ho, hinv'⟩
    simp only at hm ho hinv'
    unfold t57L3
    have hw : IntKind.i64.wrap ((m : Int) + 1) = ((m + 1 : Nat) : Int) := wrap64 (by omega) (by omega)
    by_cases hlt : m < cls.length
    · have hlh : m < h.length := by omega
      obtain ⟨t, ht⟩ : ∃ t, h[m] = t := ⟨_, rfl⟩
      have hO : outS o m (h.drop m) = outS (if t then o ++ [m] else o) (m + 1) (h.drop (m + 1)) := by
        rw [List.drop_eq_getElem_cons hlh, ht]; rfl
      have hro1 : 8 ≤ room := by unfold room; omega
      have hro : (o.length + 1) * 8 ≤ room := by unfold room; omega
      cases t with
      | false =>
        by_cases ho0 : o = []
        · subst ho0
          simp [hitv, outV, outH, hlt, hlh, bools_get, bools_ge, ht, hw, rnd_nrm, bools_len, hh]
          exact ⟨m + 1, [], ⟨by omega, by simp, by rw [← hinv', hO]; rfl⟩, by omega, by simp, rfl⟩
        · simp [hitv, outV, outH, ho0, hlt, hlh, bools_get, bools_ge, ht, hw, rnd_nrm, bools_len, hh]
          exact ⟨m + 1, o, ⟨by omega, by omega, by rw [← hinv', hO]; rfl⟩, by omega, by simp [ho0], by simp [ho0]⟩
      | true =>
        by_cases ho0 : o = []
        · subst ho0
          simp [hitv, outV, outH, hlt, hlh, bools_get, bools_ge, ht, hw, rnd_nrm, bools_len, hh, hro1, srcCells]
          exact ⟨m + 1, [m], ⟨by omega, by simp, by rw [← hinv', hO]; rfl⟩, by omega, by simp, by simp [nts]⟩
        · simp [hitv, outV, outH, ho0, hlt, hlh, bools_get, bools_ge, ht, hw, rnd_nrm, bools_len, hh, hro, srcCells, setH, nts_len, (by omega : lk ≤ H.length + 1)]
          exact ⟨m + 1, o ++ [m], ⟨by omega, by simp; omega, by rw [← hinv', hO]; rfl⟩, by omega, by simp, by simp [nts]⟩
    · obtain rfl : m = cls.length := by omega
      rw [← hh, List.drop_length] at hinv'
      simp only [outS] at hinv'
      rw [← hinv']
      by_cases ho0 : o = []
      · subst ho0
        simp [hitv, outV, outH, slv]
        done
      · simp [hitv, outV, outH, slv, ho0]
        done
end Go.Proofs.Ytdbbaopgmapmaaa

namespace Go.Proofs.Ytdbbaopgmapmaaa
open Go Go.Hm

def clsOf : List AV → Option (List (List Int))
  | [] => some []
  | .val (.int .u64 a) :: .val (.int .u64 b) :: .val (.int .u64 c) :: .val (.int .u64 d) :: r => match clsOf r with
    | some l => if (0 ≤ a ∧ a ≤ 18446744073709551615) ∧ (0 ≤ b ∧ b ≤ 18446744073709551615) ∧ (0 ≤ c ∧ c ≤ 18446744073709551615) ∧ (0 ≤ d ∧ d ≤ 18446744073709551615) then some ([a, b, c, d] :: l) else none
    | none => none
  | _ => none
theorem clsOf_eq : ∀ {l : List AV} {cls : List (List Int)}, clsOf l = some cls → l.length = 4 * cls.length ∧ (∀ c ∈ cls, clsOk c) ∧ ∀ y (h : y < cls.length), (l.drop (y * 4)).take 4 = Ucl cls[y]
  | [], cls, h => by simp only [clsOf, Option.some.injEq] at h; subst h; simp
  | .val (.int .u64 a) :: .val (.int .u64 b) :: .val (.int .u64 c) :: .val (.int .u64 d) :: r, cls, h => by
    simp only [clsOf] at h
    split at h
    · rename_i hl
      split at h
      · rename_i hb
        simp only [Option.some.injEq] at h
        subst h
        obtain ⟨h1, h2, h3⟩ := clsOf_eq hl
        refine ⟨by simp [h1]; omega, fun q hq => ?_, fun y hy => ?_⟩
        · rcases List.mem_cons.1 hq with rfl | hq
          · exact ⟨rfl, by simp; omega⟩
          · exact h2 q hq
        · cases y with
          | zero => rfl
          | succ y =>
            have e : (y + 1) * 4 = y * 4 + 4 := by omega
            rw [e]
            exact h3 y (by simpa using hy)
      · cases h
    · cases h
  | [_], _, h => by simp [clsOf] at h
  | [_, _], _, h => by simp [clsOf] at h
  | [_, _, _], _, h => by simp [clsOf] at h
def goChk (lk : Nat) (H : Heap) (K K2 m b : Nat) (cls : List (List Int)) (rows : List (List Nat)) (set : List Nat) : Bool :=
  Nat.beq K cls.length && Nat.beq K2 K && Nat.beq rows.length K && Nat.ble K 100000 && rows.all (fun r => Nat.ble r.length 100000 && r.all fun x => Nat.blt x K) && Nat.beq set.length m && Nat.ble m 100000 && set.all (fun x => Nat.blt x K) && Nat.ble b 255 && Nat.ble lk H.length
def goX (lk : Nat) (l : List AV) (H : Heap) : Option (AV × Heap) := match l with
  | [.agg [.sl K cl, .sl K2 nx, _], .sl m st, .val (.int .u8 (.ofNat b))] => match clsOf cl, rowsOf nx, natsOf st with
    | some cls, some rows, some set => if goChk lk H K K2 m b cls rows set = true then some (slv (outS [] 0 (hitS cls rows b (List.replicate cls.length false) set)), H) else none
    | _, _, _ => none
  | _ => none
theorem nbeq (a b : Nat) : (Nat.beq a b = true) = (a = b) := by simp [Nat.beq_eq]
theorem goX_ok (lk lim : Nat) (l : List AV) (H : Heap) (r : AV × Heap) (h : goX lk l H = some r) : callW X A lk lim 57 l H = some r := by
  unfold goX at h
  split at h
  case h_2 => cases h
  split at h
  case h_2 => cases h
  rename_i K cl K2 nx rul m st b _ _ _ cls rows set hcl hrows hset
  split at h
  case isFalse => cases h
  rename_i hchk
  simp only [goChk, Bool.and_eq_true, nbeq, Nat.ble_eq, List.all_eq_true, Nat.blt_eq] at hchk
  obtain ⟨⟨⟨⟨⟨⟨⟨⟨⟨rfl, rfl⟩, h3⟩, h4⟩, h5⟩, h6⟩, h7⟩, h8⟩, h9⟩, h10⟩ := hchk
  simp only [Option.some.injEq] at h
  subst h; subst h6
  obtain ⟨c1, c2, c3⟩ := clsOf_eq hcl
  obtain ⟨r1, r2⟩ := rowsOf_get hrows
  rw [natsOf_eq hset]
  refine go_code cls cl nx rul rows set b c2 (fun y hy => ⟨c3 y hy, by omega⟩) h4 (by omega) (fun i hi => ?_) h8 h10 h7 h9
  obtain ⟨v, hv, hs⟩ := r2 i (by omega)
  have hm := h5 rows[i] (List.getElem_mem (by omega))
  exact ⟨v, rows[i]'(by omega), hv, List.getElem?_eq_getElem _, hs, hm.1, hm.2⟩
end Go.Proofs.Ytdbbaopgmapmaaa

namespace Go.Proofs.Ytdbbaopgmapmaaa
open Go Go.Hm

def minL (a : Int) : List Int → Int
  | [] => a
  | b :: l => minL (if b < a then b else a) l
def maxL (a : Int) : List Int → Int
  | [] => a
  | b :: l => maxL (if a < b then b else a) l
theorem min_code {lk lim : Nat} {H : Heap} (x : Int) (l : List Int) (hl : l.length ≤ 1000000000) :
    callW X A lk lim 43 [.sl (l.length + 1) (I x :: ints l)] H = some (I (minL x l), H) := by
  refine wb_callB [] rfl A43 rfl rfl ?_
  unfold t43B
  have h0 : ¬ ((l.length : Int) + 1 < 1) := by omega
  have h0' : (0 : Int) < (l.length : Int) + 1 := by omega
  simp [h0, h0']
  refine wb_loop (σ := Nat × Int) (fun s => [(0, .sl (l.length + 1) (I x :: ints l)), (3, I s.2), (4, I (s.1 + 1 : Nat))])
    (fun _ => H) (fun s => s.1 ≤ l.length ∧ minL s.2 (l.drop s.1) = minL x l)
    (fun s => l.length - s.1) ?_ (0, x) (by simp) (by simp) rfl
  rintro ⟨k, m⟩ ⟨hk, hinv⟩
  simp only at hk hinv
  unfold t43L1
  have hw : IntKind.i64.wrap ((k : Int) + 1 + 1) = (k : Int) + 1 + 1 := wrap64 (by omega) (by omega)
  have ht : ((k : Int) + 1).toNat = k + 1 := by omega
  have hp : (0 : Int) ≤ (k : Int) + 1 := by omega
  simp
  refine wb_if (k < l.length) (by simp) (fun hlt => ?_) (fun hge => ?_)
  · obtain ⟨y, hy⟩ : ∃ y, l[k] = y := ⟨_, rfl⟩
    rw [List.drop_eq_getElem_cons hlt, hy] at hinv
    simp [hlt, ht, hy, hw, hp, mmFold, rnd_nrm]
    exact ⟨k + 1, _, ⟨by omega, hinv⟩, by omega, rfl, by simp⟩
  · obtain rfl : k = l.length := by omega
    simp only [List.drop_length, minL] at hinv
    simp [hinv]
theorem max_code {lk lim : Nat} {H : Heap} (x : Int) (l : List Int) (hl : l.length ≤ 1000000000) :
    callW X A lk lim 44 [.sl (l.length + 1) (I x :: ints l)] H = some (I (maxL x l), H) := by
  refine wb_callB [] rfl A44 rfl rfl ?_
  unfold t44B
  have h0 : ¬ ((l.length : Int) + 1 < 1) := by omega
  have h0' : (0 : Int) < (l.length : Int) + 1 := by omega
  simp [h0, h0']
  refine wb_loop (σ := Nat × Int) (fun s => [(0, .sl (l.length + 1) (I x :: ints l)), (3, I s.2), (4, I (s.1 + 1 : Nat))])
    (fun _ => H) (fun s => s.1 ≤ l.length ∧ maxL s.2 (l.drop s.1) = maxL x l)
    (fun s => l.length - s.1) ?_ (0, x) (by simp) (by simp) rfl
  rintro ⟨k, m⟩ ⟨hk, hinv⟩
  simp only at hk hinv
  unfold t44L1
  have hw : IntKind.i64.wrap ((k : Int) + 1 + 1) = (k : Int) + 1 + 1 := wrap64 (by omega) (by omega)
  have ht : ((k : Int) + 1).toNat = k + 1 := by omega
  have hp : (0 : Int) ≤ (k : Int) + 1 := by omega
  simp
  refine wb_if (k < l.length) (by simp) (fun hlt => ?_) (fun hge => ?_)
  · obtain ⟨y, hy⟩ : ∃ y, l[k] = y := ⟨_, rfl⟩
    rw [List.drop_eq_getElem_cons hlt, hy] at hinv
    simp [hlt, ht, hy, hw, hp, mmFold, rnd_nrm]
    exact ⟨k + 1, _, ⟨by omega, hinv⟩, by omega, rfl, by simp⟩
  · obtain rfl : k = l.length := by omega
    simp only [List.drop_length, maxL] at hinv
    simp [hinv]

/-! The same, for runs. -/
noncomputable section
def isI64 (q : IntKind) : Bool := Nat.beq (kN q) 3
theorem isI64_true {q : IntKind} (h : isI64 q = true) : q = .i64 := by
  cases q <;> first | rfl | exact absurd h (by decide)
def mmR (lt : Int → Int → Bool) (cs : List AV) : Int → Nat → (Int → Nat → R) → R := List.rec (motive := fun _ => Int → Nat → (Int → Nat → R) → R) (fun m n k => k m n) (fun a _ ih m n k => aInt a fun q x => bIf (isI64 q) (pN n fun n => Bool.rec (motive := fun _ => R) (ih m (Nat.succ n) k) (ih x (Nat.succ n) k) (lt x m))) cs
def foldL (lt : Int → Int → Bool) (m : Int) : List Int → Int
  | [] => m
  | x :: l => foldL lt (if lt x m = true then x else m) l
theorem mmR_some {lt : Int → Int → Bool} : ∀ {cs : List AV} {m : Int} {n : Nat} {k : Int → Nat → R} {r : AV × Heap}, mmR lt cs m n k = some r → ∃ l, cs = ints l ∧ k (foldL lt m l) (n + l.length) = some r
  | [], m, n, k, r, h => ⟨[], rfl, h⟩
  | a :: cs, m, n, k, r, h => by
    obtain ⟨q, x, e, h1⟩ := aInt_some (show (aInt a fun q x => bIf (isI64 q) (pN n fun n => Bool.rec (motive := fun _ => R) (mmR lt cs m (Nat.succ n) k) (mmR lt cs x (Nat.succ n) k) (lt x m))) = some r from h)
    clear h
    subst e
    obtain ⟨hq, h2⟩ := bIf_some h1
    clear h1
    rw [pN_eq] at h2
    have hq := isI64_true hq
    subst hq
    cases hl : lt x m with
    | true =>
      rw [hl] at h2
      obtain ⟨l, e, h3⟩ := mmR_some (show mmR lt cs x (Nat.succ n) k = some r from h2)
      refine ⟨x :: l, by rw [e]; rfl, ?_⟩
      simp only [foldL, hl, if_true, List.length_cons]
      rw [show n + (l.length + 1) = Nat.succ n + l.length by omega]
      exact h3
    | false =>
      rw [hl] at h2
      obtain ⟨l, e, h3⟩ := mmR_some (show mmR lt cs m (Nat.succ n) k = some r from h2)
      refine ⟨x :: l, by rw [e]; rfl, ?_⟩
      simp only [foldL, hl, List.length_cons]
      rw [show n + (l.length + 1) = Nat.succ n + l.length by omega]
      exact h3
def mmC (lt : Int → Int → Bool) (H : Heap) (n : Nat) (cs : List AV) : R := List.rec (motive := fun _ => R) none (fun c cs _ => aInt c fun q x => bIf (isI64 q) (mmR lt cs x (Nat.succ Nat.zero) fun m k => bIf (Nat.beq k n) (bIf (Nat.ble n 1000000000) (pI m fun m => some (I m, H))))) cs
def mmV (lt : Int → Int → Bool) (H : Heap) (a : AV) : R := match a with
  | .sl n cs => mmC lt H n cs
  | _ => none
def mmX (lt : Int → Int → Bool) (_ : Nat) (l : List AV) (H : Heap) : R := List.rec (motive := fun _ => R) none (fun a t _ => List.rec (motive := fun _ => R) (mmV lt H a) (fun _ _ _ => none) t) l
theorem mmX_ok {lt : Int → Int → Bool} {f : Nat} (hF : ∀ lk lim H x l, l.length ≤ 1000000000 → callW X A lk lim f [.sl (l.length + 1) (I x :: ints l)] H = some (I (foldL lt x l), H)) (lk lim : Nat) (l : List AV) (H : Heap) (r : AV × Heap) (h : mmX lt lk l H = some r) : callW X A lk lim f l H = some r := by
  match l with
  | [] => cases h
  | a :: b :: t => cases h
  | [a] =>
    have h : mmV lt H a = some r := h
    cases a <;> try (cases h; done)
    rename_i n cs _
    have h : mmC lt H n cs = some r := h
    cases cs with
    | nil => cases h
    | cons c cs =>
      obtain ⟨q, x, e, h1⟩ := aInt_some (show (aInt c fun q x => bIf (isI64 q) (mmR lt cs x (Nat.succ Nat.zero) fun m k => bIf (Nat.beq k n) (bIf (Nat.ble n 1000000000) (pI m fun m => some (I m, H))))) = some r from h)
      clear h
      obtain ⟨hq, h2⟩ := bIf_some h1
      clear h1
      have hq := isI64_true hq
      subst hq
      obtain ⟨l, e2, h3⟩ := mmR_some h2
      obtain ⟨h4, h5⟩ := bIf_some h3
      obtain ⟨h6, h7⟩ := bIf_some h5
      rw [pI_eq] at h7
      have h4 : 1 + l.length = n := Nat.eq_of_beq_eq_true h4
      have h6 := Nat.le_of_ble_eq_true h6
      have h8 : n = l.length + 1 := by omega
      rw [e, e2, h8, ← h7]
      exact hF _ _ _ _ _ (by omega)
theorem minL_fold : ∀ (l : List Int) (x : Int), minL x l = foldL iLt x l
  | [], _ => rfl
  | y :: l, x => by simp only [minL, foldL, iLt_eq, decide_eq_true_eq]; exact minL_fold l _
theorem maxL_fold : ∀ (l : List Int) (x : Int), maxL x l = foldL iGt x l
  | [], _ => rfl
  | y :: l, x => by simp only [maxL, foldL, iGt_eq, decide_eq_true_eq, gt_iff_lt]; exact maxL_fold l _
end
end Go.Proofs.Ytdbbaopgmapmaaa

namespace Go.Proofs.Ytdbbaopgmapmaaa
open Go Go.Hm

def nxA (nx : List Int) (st : Int) (b : UInt8) : Int := nx.getD (256 * st.toNat + b.toNat) 0
def rlA (rl : List Int) (st : Int) : Int := rl.getD st.toNat 0
/-- A table that may be. -/
structure TOk (nx rl : List Int) : Prop where
  one : 1 ≤ rl.length
  most : rl.length ≤ 1000000
  len : nx.length = 256 * rl.length
  nxb : ∀ x ∈ nx, -1 ≤ x ∧ x < rl.length
  rlb : ∀ x ∈ rl, -1 ≤ x ∧ x < 1000000
abbrev Dv (nx rl : List Int) : List AV := [.sl nx.length (ints nx), .sl rl.length (ints rl)]
theorem light_code {lk lim : Nat} {H : Heap} (nx rl : List Int) (most : Nat) (hm : most ≤ 1000) : callW X A lk lim 10 [.agg (Dv nx rl), I most] H = some (Bo (decide (rl.length ≤ most) && decide (nx.length ≤ 256 * most)), H) := by
  refine wb_callB [2] rfl A10 rfl rfl ?_
  unfold t10B
  have w : IntKind.i64.wrap (256 * (most : Int)) = 256 * (most : Int) := wrap64 (by omega) (by omega)
  by_cases h : rl.length ≤ most
  · by_cases h2 : nx.length ≤ 256 * most
    · have h2' : (nx.length : Int) ≤ 256 * (most : Int) := by omega
      simp [h, h2, h2', w]
    · have h2' : ¬ (nx.length : Int) ≤ 256 * (most : Int) := by omega
      simp [h, h2, h2', w]
  · simp [h]

/-- May it be a table? -/
def inB (a b : Int) (l : List Int) : Bool := l.all fun x => decide (a ≤ x) && decide (x < b)
def chk (nx rl : List Int) : Bool := decide (1 ≤ rl.length) && decide (rl.length ≤ 512) && decide (nx.length = 256 * rl.length) && inB (-1) 16 rl && inB (-1) rl.length nx
def chkE (nx rl : List Int) : Int := if chk nx rl = true then 0 else 2
theorem inB_cons (a b x : Int) (l : List Int) : inB a b (x :: l) = (decide (a ≤ x) && decide (x < b) && inB a b l) := rfl
theorem chk_ok {nx rl : List Int} (h : chk nx rl = true) : TOk nx rl ∧ rl.length ≤ 512 ∧ ∀ x ∈ rl, x < 16 := by
  simp only [chk, inB, Bool.and_eq_true, decide_eq_true_eq, List.all_eq_true] at h
  obtain ⟨⟨⟨⟨h1, h2⟩, h3⟩, h4⟩, h5⟩ := h
  exact ⟨⟨h1, by omega, h3, h5, fun x hx => ⟨(h4 x hx).1, by have := (h4 x hx).2; omega⟩⟩, h2, fun x hx => (h4 x hx).2⟩

theorem check_code {lk lim : Nat} {H : Heap} (nx rl : List Int) (h1 : nx.length ≤ 1000000) (h2 : rl.length ≤ 1000000) : callW X A lk lim 11 [.agg (Dv nx rl)] H = some (I (chkE nx rl), H) := by
  refine wb_callB [1] rfl A11 rfl rfl ?_
  unfold t11B
  have w : IntKind.i64.wrap (256 * (rl.length : Int)) = 256 * (rl.length : Int) := wrap64 (by omega) (by omega)
  by_cases a1 : rl.length < 1
  · have a1' : (rl.length : Int) < 1 := by omega
    have e : chkE nx rl = 2 := by
      unfold chkE chk
      rw [if_neg]; simp; omega
    rw [e]
    simp [a1']
  have a1' : ¬ (rl.length : Int) < 1 := by omega
  by_cases a2 : rl.length > 512
  · have a2' : (rl.length : Int) > 512 := by omega
    have e : chkE nx rl = 2 := by
      unfold chkE chk
      rw [if_neg]; simp; omega
    rw [e]
    simp [a1', a2']
  have a2' : ¬ (512 : Int) < rl.length := by omega
  by_cases a3 : nx.length = 256 * rl.length
  case neg =>
    have a3' : ¬ ((nx.length : Int) = 256 * (rl.length : Int)) := by omega
    have e : chkE nx rl = 2 := by
      unfold chkE chk
      rw [if_neg]; simp [a3]
    rw [e]
    simp [a1', a2', a3', w]
  have a3' : ((nx.length : Int) = 256 * (rl.length : Int)) := by omega
  have e0 : chkE nx rl = if inB (-1) 16 rl = true then (if inB (-1) rl.length nx = true then 0 else 2) else 2 := by
    unfold chkE chk
    have b1 : decide (1 ≤ rl.length) = true := by simp; omega
    have b2 : decide (rl.length ≤ 512) = true := by simp; omega
    have b3 : decide (nx.length = 256 * rl.length) = true := by simp; omega
    simp only [b1, b2, b3, Bool.true_and, Bool.and_eq_true]
    by_cases c1 : inB (-1) 16 rl = true <;> by_cases c2 : inB (-1) rl.length nx = true <;> simp [c1, c2]
  rw [e0]
  simp [a1', a2', a3', w]
  let bx : AV := .box (Dv nx rl)
  refine wb_loop (σ := Nat) (fun k => [(1, bx), (3, I rl.length), (4, I k)])
    (fun _ => H) (fun k => k ≤ rl.length ∧ inB (-1) 16 rl = inB (-1) 16 (rl.drop k)) (fun k => rl.length - k) ?_ 0 (by simp) (by simp [bx]) rfl
  rintro k ⟨hk, hinv⟩
  unfold t11L1
  have hw : IntKind.i64.wrap ((k : Int) + 1) = (k : Int) + 1 := wrap64 (by omega) (by omega)
  simp [bx]
  refine wb_if (k < rl.length) (by simp) (fun hlt => ?_) (fun hge => ?_)
  · obtain ⟨x, hx⟩ : ∃ x, rl[k] = x := ⟨_, rfl⟩
    rw [List.drop_eq_getElem_cons hlt, hx, inB_cons] at hinv
    by_cases c1 : x < -1
    · have hf : inB (-1) 16 rl = false := by rw [hinv]; simp; omega
      simp [hlt, hx, c1, hf]
    · have c1' : decide (-1 ≤ x) = true := by simp; omega
      by_cases c2 : 16 ≤ x
      · have hf : inB (-1) 16 rl = false := by rw [hinv]; simp; omega
        simp [hlt, hx, c1, c2, hf]
      · have c2' : decide (x < 16) = true := by simp; omega
        simp [hlt, hx, c1, c2, hw, rnd_nrm]
        refine ⟨k + 1, ⟨by omega, ?_⟩, by omega, by simp⟩
        rw [hinv, c1', c2']; rfl
  · obtain rfl : k = rl.length := by omega
    rw [List.drop_length] at hinv
    have hr : inB (-1) 16 rl = true := by rw [hinv]; rfl
    simp [hr]
    refine wb_loop (σ := Nat) (fun k => [(1, bx), (3, I rl.length), (5, I k)])
      (fun _ => H) (fun k => k ≤ nx.length ∧ inB (-1) rl.length nx = inB (-1) rl.length (nx.drop k)) (fun k => nx.length - k) ?_ 0 (by simp) (by simp [bx]) rfl
    rintro k ⟨hk, hinv⟩
    unfold t11L2
    have hw : IntKind.i64.wrap ((k : Int) + 1) = (k : Int) + 1 := wrap64 (by omega) (by omega)
    simp [bx]
    refine wb_if (k < nx.length) (by simp) (fun hlt => ?_) (fun hge => ?_)
    · obtain ⟨x, hx⟩ : ∃ x, nx[k] = x := ⟨_, rfl⟩
      rw [List.drop_eq_getElem_cons hlt, hx, inB_cons] at hinv
      by_cases c1 : x < -1
      · have hf : inB (-1) rl.length nx = false := by rw [hinv]; simp; omega
        simp [hlt, hx, c1, hf]
      · have c1' : decide (-1 ≤ x) = true := by simp; omega
        by_cases c2 : (rl.length : Int) ≤ x
        · have hf : inB (-1) rl.length nx = false := by rw [hinv]; simp; omega
          simp [hlt, hx, c1, c2, hf]
        · have c2' : decide (x < rl.length) = true := by simp; omega
          simp [hlt, hx, c1, c2, hw, rnd_nrm]
          refine ⟨k + 1, ⟨by omega, ?_⟩, by omega, by simp⟩
          rw [hinv, c1', c2']; rfl
    · obtain rfl : k = nx.length := by omega
      rw [List.drop_length] at hinv
      have hr2 : inB (-1) rl.length nx = true := by rw [hinv]; rfl
      simp [hr2]

/-! ### The program's check -/
theorem foldL_lt : ∀ (l : List Int) (x : Int) (a : Int), (minL x l < a ↔ x < a ∨ ∃ y ∈ l, y < a)
  | [], x, a => by simp [minL]
  | y :: l, x, a => by
    simp only [minL, foldL_lt l, List.mem_cons, exists_eq_or_imp]
    generalize (∃ z, z ∈ l ∧ z < a) = P
    by_cases hP : P <;> simp only [hP, or_true, or_false] <;> split <;> omega
theorem foldG_ge : ∀ (l : List Int) (x : Int) (a : Int), (a ≤ maxL x l ↔ a ≤ x ∨ ∃ y ∈ l, a ≤ y)
  | [], x, a => by simp [maxL]
  | y :: l, x, a => by
    simp only [maxL, foldG_ge l, List.mem_cons, exists_eq_or_imp]
    generalize (∃ z, z ∈ l ∧ a ≤ z) = P
    by_cases hP : P <;> simp only [hP, or_true, or_false] <;> split <;> omega
theorem inB_iff (a b : Int) (x : Int) (l : List Int) : inB a b (x :: l) = true ↔ ¬ (minL x l < a) ∧ ¬ (b ≤ maxL x l) := by
  rw [foldL_lt, foldG_ge]
  simp only [inB, List.all_eq_true, List.mem_cons, Bool.and_eq_true, decide_eq_true_eq, not_or, not_exists, not_and]
  constructor
  · intro h
    have h0 := h x (.inl rfl)
    exact ⟨⟨by omega, fun y hy => by have := h y (.inr hy); omega⟩, ⟨by omega, fun y hy => by have := h y (.inr hy); omega⟩⟩
  · rintro ⟨⟨h1, h2⟩, h3, h4⟩ y hy
    rcases hy with rfl | hy
    · omega
    · have := h2 y hy; have := h4 y hy; omega

set_option maxRecDepth 20000 in
theorem dcheck_code {lk lim : Nat} {H : Heap} (nx rl : List Int) (h1 : nx.length ≤ 1000000) (h2 : rl.length ≤ 1000000) : callW X A lk lim 27 [.agg (Dv nx rl)] H = some (I (chkE nx rl), H) := by
  refine wb_callB [1] rfl A27 rfl rfl ?_
  unfold t27B
  have w : IntKind.i64.wrap (256 * (rl.length : Int)) = 256 * (rl.length : Int) := wrap64 (by omega) (by omega)
  by_cases a1 : rl.length < 1
  · have a1' : (rl.length : Int) < 1 := by omega
    have e : chkE nx rl = 2 := by
      unfold chkE chk
      rw [if_neg]; simp; omega
    rw [e]
    simp [a1']
  have a1' : ¬ (rl.length : Int) < 1 := by omega
  by_cases a2 : rl.length > 512
  · have a2' : (rl.length : Int) > 512 := by omega
    have e : chkE nx rl = 2 := by
      unfold chkE chk
      rw [if_neg]; simp; omega
    rw [e]
    simp [a1', a2']
  have a2' : ¬ (512 : Int) < rl.length := by omega
  by_cases a3 : nx.length = 256 * rl.length
  case neg =>
    have a3' : ¬ ((nx.length : Int) = 256 * (rl.length : Int)) := by omega
    have e : chkE nx rl = 2 := by
      unfold chkE chk
      rw [if_neg]; simp [a3]
    rw [e]
    simp [a1', a2', a3', w]
  have a3' : ((nx.length : Int) = 256 * (rl.length : Int)) := by omega
  have e0 : chkE nx rl = if inB (-1) 16 rl = true then (if inB (-1) rl.length nx = true then 0 else 2) else 2 := by
    unfold chkE chk
    have b1 : decide (1 ≤ rl.length) = true := by simp; omega
    have b2 : decide (rl.length ≤ 512) = true := by simp; omega
    have b3 : decide (nx.length = 256 * rl.length) = true := by simp; omega
    simp only [b1, b2, b3, Bool.true_and, Bool.and_eq_true]
    by_cases c1 : inB (-1) 16 rl = true <;> by_cases c2 : inB (-1) rl.length nx = true <;> simp [c1, c2]
  rw [e0]
  obtain ⟨x, rl', hrl⟩ : ∃ x l, rl = x :: l := by
    cases rl with
    | nil => simp at a1
    | cons x l => exact ⟨x, l, rfl⟩
  obtain ⟨y, nx', hnx⟩ : ∃ x l, nx = x :: l := by
    cases nx with
    | nil => simp at a3; omega
    | cons x l => exact ⟨x, l, rfl⟩
  have k1 := min_code (lk := lk) (lim := H.length) (H := H) x rl' (by rw [hrl] at h2; simp at h2; omega)
  have k2 := max_code (lk := lk) (lim := H.length) (H := H) x rl' (by rw [hrl] at h2; simp at h2; omega)
  have k3 := min_code (lk := lk) (lim := H.length) (H := H) y nx' (by rw [hnx] at h1; simp at h1; omega)
  have k4 := max_code (lk := lk) (lim := H.length) (H := H) y nx' (by rw [hnx] at h1; simp at h1; omega)
  have s1 : ints (x :: rl') = I x :: ints rl' := rfl
  have s2 : ints (y :: nx') = I y :: ints nx' := rfl
  have l1 : rl.length = rl'.length + 1 := by rw [hrl]; rfl
  have l2 : nx.length = nx'.length + 1 := by rw [hnx]; rfl
  rw [← l1, ← s1, ← hrl] at k1 k2
  rw [← l2, ← s2, ← hnx] at k3 k4
  have i1 := inB_iff (-1) 16 x rl'
  have i2 := inB_iff (-1) rl.length y nx'
  rw [← hrl] at i1
  rw [← hnx] at i2
  by_cases c1 : minL x rl' < -1
  · have hf : inB (-1) 16 rl = false := by
      cases h : inB (-1) 16 rl with
      | false => rfl
      | true => exact absurd c1 (i1.1 h).1
    simp [a1', a2', a3', w, k1, c1, hf]
  by_cases c2 : (16 : Int) ≤ maxL x rl'
  · have hf : inB (-1) 16 rl = false := by
      cases h : inB (-1) 16 rl with
      | false => rfl
      | true => exact absurd c2 (i1.1 h).2
    simp [a1', a2', a3', w, k1, c1, k2, c2, hf]
  have ht : inB (-1) 16 rl = true := i1.2 ⟨c1, c2⟩
  by_cases c3 : minL y nx' < -1
  · have hf : inB (-1) rl.length nx = false := by
      cases h : inB (-1) rl.length nx with
      | false => rfl
      | true => exact absurd c3 (i2.1 h).1
    simp [a1', a2', a3', w, k1, c1, k2, c2, ht, k3, c3, hf]
  by_cases c4 : (rl.length : Int) ≤ maxL y nx'
  · have hf : inB (-1) rl.length nx = false := by
      cases h : inB (-1) rl.length nx with
      | false => rfl
      | true => exact absurd c4 (i2.1 h).2
    simp [a1', a2', a3', w, k1, c1, k2, c2, ht, k3, c3, k4, c4, hf]
  have ht2 : inB (-1) rl.length nx = true := i2.2 ⟨c3, c4⟩
  simp [a1', a2', a3', w, k1, c1, k2, c2, ht, k3, c3, k4, c4, ht2]

theorem chkE_pos {nx rl : List Int} (h : chk nx rl = true) : chkE nx rl = 0 := by unfold chkE; rw [if_pos h]
theorem chkE_neg {nx rl : List Int} (h : ¬ chk nx rl = true) : chkE nx rl = 2 := by unfold chkE; rw [if_neg h]
end Go.Proofs.Ytdbbaopgmapmaaa
