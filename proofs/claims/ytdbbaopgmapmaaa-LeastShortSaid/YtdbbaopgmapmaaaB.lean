import Derived.Test.YtdbbaopgmapmaaaA
set_option linter.unusedSimpArgs false
set_option linter.unusedVariables false
namespace Go.Proofs.Ytdbbaopgmapmaaa
open Go Go.Hm

abbrev Ucl (c : List Int) : List AV := c.map fun x => .val (.int .u64 x)
def clsOk (c : List Int) : Prop := c.length = 4 ∧ ∀ x ∈ c, 0 ≤ x ∧ x ≤ 18446744073709551615
theorem has_walk {lk lim : Nat} {H : Heap} (c : List Int) (hc : clsOk c) (n : Nat) (hx : n ≤ 255) :
    callW X A lk lim 65 [.agg (Ucl c), .val (.int .u8 n)] H = some (Bo (hasB c n), H) := by
  obtain ⟨h1, h2⟩ := hc
  match c, h1, h2 with
  | [a, b, c, d], _, h2 => exact has_code a b c d (h2 a (by simp)) (h2 b (by simp)) (h2 c (by simp)) (h2 d (by simp)) n hx

/-- A row's step. -/
def hitR (cls : List (List Int)) (b : Nat) (h : List Bool) : List Nat → List Bool
  | [] => h
  | x :: r => hitR cls b (if hasB (cls.getD x []) b then h.set x true else h) r
def hitS (cls : List (List Int)) (rows : List (List Nat)) (b : Nat) (h : List Bool) : List Nat → List Bool
  | [] => h
  | s :: r => hitS cls rows b (hitR cls b h (rows.getD s [])) r
def outS (o : List Nat) (i : Nat) : List Bool → List Nat
  | [] => o
  | t :: r => outS (if t then o ++ [i] else o) (i + 1) r
def slv (o : List Nat) : AV := if o = [] then .e0 else .sl o.length (nts o)
def outV (H : Heap) (o : List Nat) : AV := if o = [] then .e0 else .hs (H.length + 1) o.length 0 o.length 1
def outH (H : Heap) (x : HB) (o : List Nat) : Heap := if o = [] then H ++ [x] else H ++ [x, .cells (nts o)]

theorem hitR_len (cls : List (List Int)) (b : Nat) : ∀ (r : List Nat) (h : List Bool), (hitR cls b h r).length = h.length
  | [], _ => rfl
  | x :: r, h => by
    simp only [hitR]; rw [hitR_len cls b r]; split <;> simp
theorem go_code {lk lim : Nat} {H : Heap} (cls : List (List Int)) (clc nx : List AV) (rul : AV) (rows : List (List Nat)) (set : List Nat) (b : Nat)
    (hc : ∀ c ∈ cls, clsOk c) (hfl : ∀ y (h : y < cls.length), (clc.drop (y * 4)).take 4 = Ucl cls[y] ∧ y * 4 + 4 ≤ clc.length) (hcl : cls.length ≤ 100000) (hr : nx.length = cls.length) (hrow : ∀ i, i < cls.length → ∃ v r, nx[i]? = some v ∧ rows[i]? = some r ∧ Sln v r ∧ r.length ≤ 100000 ∧ ∀ x ∈ r, x < cls.length)
    (hset : ∀ x ∈ set, x < cls.length) (hlk : lk ≤ H.length) (hsl : set.length ≤ 100000) (hb : b ≤ 255) :
    callW X A lk lim 57 [.agg [.sl cls.length clc, .sl cls.length nx, rul], .sl set.length (nts set), .val (.int .u8 b)] H =
      some (slv (outS [] 0 (hitS cls rows b (List.replicate cls.length false) set)), H) := by
  refine wb_callB [3] rfl A57 rfl rfl ?_
  unfold t57B
  have hroom : (cls.length : Int) ≤ (room : Int) := by unfold room; omega
  simp [hroom]
  let box : AV := .box [.sl cls.length clc, .sl cls.length nx, rul]
  let hitv : AV := .hs H.length cls.length 0 cls.length 1
  refine wb_loop (σ := Nat × List Bool) (fun s => [(1, .sl set.length (nts set)), (2, .val (.int .u8 b)), (3, box), (7, hitv), (8, I s.1)])
    (fun s => H ++ [.cells (bools s.2)]) (fun s => s.1 ≤ set.length ∧ s.2.length = cls.length ∧ hitS cls rows b s.2 (set.drop s.1) = hitS cls rows b (List.replicate cls.length false) set)
    (fun s => set.length - s.1) ?_ (0, List.replicate cls.length false) (by simp) (by simp [box, hitv]) (by simp [repl, bools])
  rintro ⟨k, h⟩ ⟨hk, hh, hinv⟩
  simp only at hk hh hinv
  unfold t57L2
  simp [box, hitv]
  refine wb_if (k < set.length) (by simp) (fun hlt => ?_) (fun hge => ?_)
  · obtain ⟨x, hx⟩ : ∃ x, set[k] = x := ⟨_, rfl⟩
    have hxc : x < cls.length := hset x (hx ▸ List.getElem_mem hlt)
    obtain ⟨v, r, hv, hrr, hsln, hrl, hbd⟩ := hrow x hxc
    have h1 : ¬ ((x : Int) < 0) := by omega
    have h2 : ¬ ((cls.length : Int) ≤ x) := by omega
    have h3 : one v = true := by rcases hsln with rfl | ⟨rfl, _⟩ <;> rfl
    have hxn : x < nx.length := by omega
    have hv' : nx[x] = v := by rw [List.getElem?_eq_getElem hxn] at hv; simpa using hv
    have hS : hitS cls rows b h (set.drop k) = hitS cls rows b (hitR cls b h r) (set.drop (k + 1)) := by
      rw [List.drop_eq_getElem_cons hlt, hx]
      simp only [hitS, List.getD_eq_getElem?_getD, hrr, Option.getD_some]
    have hw : IntKind.i64.wrap ((k : Int) + 1) = ((k + 1 : Nat) : Int) := wrap64 (by omega) (by omega)
    rcases hsln with rfl | ⟨rfl, rfl⟩
    · simp [hlt, nts_get, hx, h1, h2, hxc, hv', hr]
      refine wb_loop (σ := Nat × List Bool) (fun s => [(1, .sl set.length (nts set)), (2, .val (.int .u8 b)), (3, box), (7, hitv), (8, I k), (9, .sl r.length (nts r)), (10, I s.1)])
        (fun s => H ++ [.cells (bools s.2)]) (fun s => s.1 ≤ r.length ∧ s.2.length = cls.length ∧ hitR cls b s.2 (r.drop s.1) = hitR cls b h r)
        (fun s => r.length - s.1) ?_ (0, h) (by simp [hh]) (by simp [box, hitv]) (by simp)
      rintro ⟨m, h'⟩ ⟨hk', hh', hinv'⟩
      simp only at hk' hh' hinv'
      unfold t57L1
      simp [box, hitv]
      refine wb_if (m < r.length) (by simp) (fun hlt' => ?_) (fun hge' => ?_)
      · obtain ⟨y, hy⟩ : ∃ y, r[m] = y := ⟨_, rfl⟩
        have hyc : y < cls.length := hbd y (hy ▸ List.getElem_mem hlt')
        obtain ⟨hf1, hf2⟩ := hfl y hyc
        have hw' : IntKind.i64.wrap ((m : Int) + 1) = ((m + 1 : Nat) : Int) := wrap64 (by omega) (by omega)
        have hhas := has_walk (lk := lk) (lim := H.length) (H := H ++ [.cells (bools h')]) cls[y] (hc _ (List.getElem_mem hyc)) b hb
        have hR : hitR cls b h' (r.drop m) = hitR cls b (if hasB cls[y] b then h'.set y true else h') (r.drop (m + 1)) := by
          rw [List.drop_eq_getElem_cons hlt', hy]
          simp only [hitR, List.getD_eq_getElem?_getD, List.getElem?_eq_getElem hyc, Option.getD_some]
        cases hb2 : hasB cls[y] b with
        | true =>
          rw [hb2] at hhas
          rw [hb2, if_pos rfl] at hR
          have hyb : y < (bools h').length := by rw [bools_len]; omega
          have hyc1 : y + 1 ≤ cls.length := hyc
          simp [hlt', nts_get, hy, hyc, hyc1, hf1, hf2, hhas, hw', bools_len, hh', rnd_nrm, setH, replaceAt_one _ hyb, bools_set, hlk]
          exact ⟨m + 1, _, ⟨by omega, by simpa using hh', by rw [← hR]; exact hinv'⟩, by omega, by simp, rfl⟩
        | false =>
          rw [hb2] at hhas
          rw [hb2, if_neg (by simp)] at hR
          simp [hlt', nts_get, hy, hyc, hf1, hf2, hhas, hw', rnd_nrm]
          exact ⟨m + 1, _, ⟨by omega, hh', by rw [← hR]; exact hinv'⟩, by omega, by simp, rfl⟩
      · obtain rfl : m = r.length := by omega
        simp only [List.drop_length, hitR] at hinv'
        simp [hw, rnd_nrm]
        exact ⟨k + 1, _, ⟨by omega, hh', by rw [hinv', ← hS]; exact hinv⟩, by omega, by simp, rfl⟩
    · simp [hlt, nts_get, hx, h1, h2, hxc, hv', hr]
      refine wb_loop0 ?_
      unfold t57L1
      simp [hw, rnd_nrm]
      exact ⟨k + 1, _, ⟨by omega, hh, by rw [← hinv, hS]; rfl⟩, by omega, by simp, rfl⟩
  · obtain rfl : k = set.length := by omega
    simp only [List.drop_length, hitS] at hinv
    rw [← hinv]
    simp
    refine wb_loop (σ := Nat × List Nat) (fun s => [(7, hitv), (11, outV H s.2), (12, I s.1)])
      (fun s => outH H (.cells (bools h)) s.2) (fun s => s.1 ≤ cls.length ∧ s.2.length ≤ s.1 ∧ outS s.2 s.1 (h.drop s.1) = outS [] 0 h)
      (fun s => cls.length - s.1) ?_ (0, []) (by simp) (by simp [hitv, outV]) (by simp [outH])
    rintro ⟨m, o⟩ ⟨hm, ho, hinv'⟩
    simp only at hm ho hinv'
    unfold t57L3
    have hw : IntKind.i64.wrap ((m : Int) + 1) = ((m + 1 : Nat) : Int) := wrap64 (by omega) (by omega)
    by_cases hlt : m < cls.length
    · have hlh : m < h.length := by omega
      obtain ⟨t, ht⟩ : ∃ t, h[m] = t := ⟨_, rfl⟩
      have hO : outS o m (h.drop m) = outS (if t then o ++ [m] else o) (m + 1) (h.drop (m + 1)) := by
        rw [List.drop_eq_getElem_cons hlh, ht]; rfl
      have hro1 : 8 ≤ room := by unfold room; omega
      have hro : (o.length + 1) * 8 ≤ room := by unfold room; omega
      cases t with
      | false =>
        by_cases ho0 : o = []
        · subst ho0
          simp [hitv, outV, outH, hlt, hlh, bools_get, bools_ge, ht, hw, rnd_nrm, bools_len, hh]
          exact ⟨m + 1, [], ⟨by omega, by simp, by rw [← hinv', hO]; rfl⟩, by omega, by simp, rfl⟩
        · simp [hitv, outV, outH, ho0, hlt, hlh, bools_get, bools_ge, ht, hw, rnd_nrm, bools_len, hh]
          exact ⟨m + 1, o, ⟨by omega, by omega, by rw [← hinv', hO]; rfl⟩, by omega, by simp [ho0], by simp [ho0]⟩
      | true =>
        by_cases ho0 : o = []
        · subst ho0
          simp [hitv, outV, outH, hlt, hlh, bools_get, bools_ge, ht, hw, rnd_nrm, bools_len, hh, hro1, srcCells]
          exact ⟨m + 1, [m], ⟨by omega, by simp, by rw [← hinv', hO]; rfl⟩, by omega, by simp, by simp [nts]⟩
        · simp [hitv, outV, outH, ho0, hlt, hlh, bools_get, bools_ge, ht, hw, rnd_nrm, bools_len, hh, hro, srcCells, setH, nts_len, (by omega : lk ≤ H.length + 1)]
          exact ⟨m + 1, o ++ [m], ⟨by omega, by simp; omega, by rw [← hinv', hO]; rfl⟩, by omega, by simp, by simp [nts]⟩
    · obtain rfl : m = cls.length := by omega
      rw [← hh, List.drop_length] at hinv'
      simp only [outS] at hinv'
      rw [← hinv']
      by_cases ho0 : o = []
      · subst ho0
        simp [hitv, outV, outH, slv]
        done
      · simp [hitv, outV, outH, slv, ho0]
        done
end Go.Proofs.Ytdbbaopgmapmaaa
