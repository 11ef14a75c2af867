import Derived.Test.YtpaocofhpdmjpaaGB
set_option linter.unusedSimpArgs false
set_option linter.unusedVariables false
namespace Go.Proofs.Ytpaocofhpdmjpaa
open Go Go.Hm

theorem gok_of {g : Gm} (h : chkE g = 0) : GOk g := by
  unfold chkE at h
  split at h
  · omega
  · split at h
    · omega
    · split at h
      · omega
      · split at h
        · omega
        · rename_i h1 h2 h3 h4
          simp only [Bool.not_eq_true, List.any_eq_false, decide_eq_true_eq] at h2 h4
          refine ⟨by omega, by omega, by omega, by omega, by omega, by omega, by omega, by omega, fun p hp => ?_⟩
          have h5 := h2 p hp
          have h6 := h4 p hp
          have h6 : badP g p = false := by simpa using h6
          simp only [badP, Bool.or_eq_false_iff, decide_eq_false_iff_not, List.any_eq_false] at h6
          refine ⟨by omega, by omega, by omega, fun x hx => ?_⟩
          have h7 := h6.2 x hx
          simp only [badS, Bool.or_eq_true, decide_eq_true_eq, not_or] at h7
          omega
theorem chkE_cases (g : Gm) : chkE g = 0 ∨ chkE g = 2 ∨ chkE g = 3 := by
  unfold chkE
  repeat' split
  all_goals omega
theorem rnd_take {α : Type} (st : List Bool → α → List Bool) (ps : List α) (o : List Bool) (i : Nat) (h : i < ps.length) : rnd st (ps.take (i + 1)) o = st (rnd st (ps.take i) o) ps[i] := by
  rw [List.take_succ_eq_append_getElem h]
  simp only [rnd, List.foldl_append, List.foldl_cons, List.foldl_nil]
theorem bools_rep (n : Nat) : repl n [Bo false] = bools (List.replicate n false) := by
  simp [repl, bools]
theorem frz_bools (lim : Nat) (H : Heap) (d : Nat) (l : List Bool) : mapO (frz lim H d) (bools l) = some (bools l) := by
  induction l with
  | nil => rfl
  | cons a l ih =>
    simp only [bools, List.map_cons, mapO, frz_val] at ih ⊢
    rw [ih]
theorem bel_bools (lim : Nat) (l : List Bool) : belowL lim (bools l) = true := by
  induction l with
  | nil => rfl
  | cons a l ih => simp only [bools, List.map_cons, belowL, Hm.below, Bool.true_and]; exact ih
theorem getD_of {o : List Bool} {i : Nat} (h : i < o.length) : o.getD i false = o[i] := by
  rw [List.getD_eq_getElem?_getD, List.getElem?_eq_getElem h]; rfl
theorem all_nil {α : Type} (P : α → Bool) : ([] : List α).all P = true := rfl
set_option maxRecDepth 20000 in
theorem rder_code {lk lim : Nat} {H : Heap} (g : Gm) (tok : Bool) (hl : g.ps.length ≤ 1000000) (hr : ∀ p ∈ g.ps, p.r.length ≤ 1000000) (hlk : lk ≤ H.length) :
    callW X A lk lim 48 [gV g, Bo tok] H = some (if chkE g = 0 then .sl g.n.toNat (bools (derM g tok)) else .e0, H) := by
  have kc := fun (L : Nat) => rcheck_code (lk := lk) (lim := L) (H := H) g hl hr
  refine wb_callB [2, 8] rfl A48 rfl rfl ?_
  unfold t48B
  by_cases hc : chkE g = 0
  case neg =>
    have h3 : ((chkE g) != 0) = true := by simp [hc]
    rw [if_neg hc]
    obtain ⟨t, n, k, ps⟩ := g
    simp only [gV, Gm.cells] at kc
    generalize callW X A = C at kc ⊢
    simp [Gm.cells, kc, hc]
  have ok := gok_of hc
  rw [if_pos hc]
  rw [hc] at kc
  obtain ⟨t, n, k, ps⟩ := g
  have ok2 := ok
  obtain ⟨t1, t2, n1, n2, k1, k2, l1, l2, okp⟩ := ok2
  simp only at t1 t2 n1 n2 k1 k2 l1 l2 okp
  obtain ⟨n, rfl⟩ := Int.eq_ofNat_of_zero_le (by omega : 0 ≤ n)
  simp only [gV, Gm.cells] at kc
  have hro : (n : Int) ≤ (room : Int) := by unfold room; omega
  simp [Gm.cells, kc, hro, bools_rep]
  let bx : AV := .box [I t, I n, I k, .sl ps.length (psC ps)]
  let f := rnd (derP ⟨t, n, k, ps⟩ tok) ps
  have hf : Grows f := rnd_grows (fun p => derP_grows _ _ p) ps
  refine wb_loop (σ := List Bool × Bool) (fun s => [(1, Bo tok), (2, bx), (5, .hs H.length n 0 n 1), (6, Bo s.2)]) (fun s => H ++ [.cells (bools s.1)])
    (fun s => s.1.length = n ∧ fin f s.1 = derM ⟨t, n, k, ps⟩ tok ∧ (s.2 = false → f s.1 = s.1)) (fun s => cntF s.1 + if s.2 = true then 1 else 0) ?_ (List.replicate n false, true) ⟨by simp, rfl, by simp⟩ (by simp [bx]) (by simp)
  rintro ⟨o, more⟩ ⟨ho, hfin, hmore⟩
  simp only at ho hfin hmore
  unfold t48L3
  cases more with
  | false =>
    have h1 : fin f o = o := by rw [fin_step hf, if_pos (hmore rfl)]
    rw [h1] at hfin
    rw [← hfin]
    have hb := frz_bools H.length (H ++ [.cells (bools o)]) 7 o
    have hb2 := bel_bools 0 o
    have htk : (bools o).take n = bools o := List.take_of_length_le (by rw [bools_len]; omega)
    simp [bx, bools_len, ho, htk, hb, hb2]
    done
  | true =>
    simp
    let hsV : AV := .hs H.length n 0 n 1
    let st := derP ⟨t, n, k, ps⟩ tok
    refine wb_loop (σ := Nat × List Bool × Bool) (fun s => [(1, Bo tok), (2, bx), (5, hsV), (6, Bo s.2.2), (7, I s.1)]) (fun s => H ++ [.cells (bools s.2.1)])
      (fun s => s.1 ≤ ps.length ∧ s.2.1 = rnd st (ps.take s.1) o ∧ s.2.2 = decide (s.2.1 ≠ o)) (fun s => ps.length - s.1) ?_ (0, o, false) ⟨Nat.zero_le _, rfl, by simp⟩ (by simp [bx, hsV]) rfl
    rintro ⟨i, o2, more⟩ ⟨hi, ho2, hm⟩
    simp only at hi ho2 hm
    unfold t48L2
    have w1 : IntKind.i64.wrap ((i : Int) + 1) = (i : Int) + 1 := wrap64 (by omega) (by omega)
    have hlen2 : o2.length = n := by
      rw [ho2, ← ho]
      have : ∀ (l : List Pr) (q : List Bool), (rnd st l q).length = q.length := by
        intro l
        induction l with
        | nil => intro q; rfl
        | cons p l ih => intro q; simp only [rnd, List.foldl_cons] at ih ⊢; rw [ih]; exact derP_len _ _ _ _
      exact this _ _
    by_cases hil : i < ps.length
    case neg =>
      obtain rfl : i = ps.length := by omega
      rw [List.take_of_length_le (Nat.le_refl _)] at ho2
      have hfo : f o = o2 := ho2.symm
      have hstep := fin_step hf o
      rw [hfo] at hstep
      simp [bx, hsV, rnd_nrm]
      by_cases he : o2 = o
      · subst he
        refine ⟨o2, .inl ⟨⟨hlen2, by rw [← hfin], hfo⟩, by omega, by simpa using hm, rfl⟩⟩
      · rw [if_neg he] at hstep
        refine ⟨o2, .inr ⟨⟨hlen2, by rw [← hfin, hstep]⟩, ?_, by simpa [he] using hm, rfl⟩⟩
        have := hf o
        rw [hfo] at this
        rcases this with h | h
        · exact absurd h he
        · exact h
    obtain ⟨p, hp⟩ : ∃ p, ps[i] = p := ⟨_, rfl⟩
    have pok := okp p (hp ▸ List.getElem_mem hil)
    have hs := psC_sub hil
    have hll := psC_len ps
    have h2 : i * 2 + 2 ≤ 2 * ps.length := by omega
    rw [hp] at hs
    simp only [Pr.cells] at hs
    have hnext : rnd st (ps.take (i + 1)) o = derP ⟨t, n, k, ps⟩ tok o2 p := by rw [rnd_take _ _ _ _ hil, ← ho2, hp]
    obtain ⟨pl, pr⟩ := p
    obtain ⟨q1, q2, q3, q4⟩ := pok
    simp only at q1 q2 q3 q4 hs
    obtain ⟨pl, rfl⟩ := Int.eq_ofNat_of_zero_le q2
    have hpl : pl < n := by omega
    have hpl2 : pl < o2.length := by omega
    have hpl3 : pl < (bools o2).length := by rw [bools_len]; omega
    obtain ⟨v, hv⟩ : ∃ v, o2[pl] = v := ⟨_, rfl⟩
    have hbl : (bools o2).length = n := by rw [bools_len]; exact hlen2
    have hpn1 : pl + 1 ≤ n := hpl
    simp [-wi_stL, bx, hil, hll, hs, h2]
    rw [wi_stL]
    simp [replaceAt, hsV, hpl, hpl2, hbl, bools_get, hv]
    have hgD : o2.getD pl false = v := by rw [getD_of hpl2, hv]
    obtain ⟨want, hwant⟩ : ∃ want, (!v && pr.all (okS ⟨t, n, k, ps⟩ tok o2)) = want := ⟨_, rfl⟩
    have hder : derP ⟨t, n, k, ps⟩ tok o2 ⟨pl, pr⟩ = if want = true then o2.set pl true else o2 := by
      unfold derP
      simp only [Int.toNat_natCast, hgD]
      cases v <;> cases hq : pr.all (okS ⟨t, n, k, ps⟩ tok o2) <;> rw [hq] at hwant <;> subst hwant <;> simp
    rw [hder] at hnext
    refine wb_loop (σ := Nat × Bool) (fun s => [(1, Bo tok), (2, bx), (5, hsV), (6, Bo more), (7, I i), (8, .box [I pl, .sl pr.length (ints pr)]), (9, Bo s.2), (10, I s.1)]) (fun _ => H ++ [.cells (bools o2)])
      (fun s => s.1 ≤ pr.length ∧ (s.2 && (pr.drop s.1).all (okS ⟨t, n, k, ps⟩ tok o2)) = want) (fun s => pr.length - s.1) ?_ (0, !v) ⟨Nat.zero_le _, by rw [← hwant]; rfl⟩ (by simp [bx, hsV]) rfl
    rintro ⟨m, okb⟩ ⟨hmm, hinv2⟩
    simp only at hmm hinv2
    unfold t48L1
    have w2 : IntKind.i64.wrap ((m : Int) + 1) = (m : Int) + 1 := wrap64 (by omega) (by omega)
    by_cases hgo : m < pr.length ∧ okb = true
    case neg =>
      have hw : okb = want := by
        by_cases h1 : m < pr.length
        · have h2 : okb = false := by
            cases okb with
            | false => rfl
            | true => exact absurd ⟨h1, rfl⟩ hgo
          rw [h2] at hinv2 ⊢
          simpa using hinv2
        · obtain rfl : m = pr.length := by omega
          rw [List.drop_length, all_nil, Bool.and_true] at hinv2
          exact hinv2
      subst hw
      cases okb with
      | false =>
        have hc : ∀ q : Prop, (if m < pr.length then AV.val (Value.bool false) else AV.val (Value.bool false)) = AV.val (Value.bool false) := fun _ => by split <;> rfl
        by_cases h1 : m < pr.length
        · simp [bx, hsV, h1, w1]
          rw [rnd_nrm]
          exact ⟨(i + 1, o2, more), ⟨by simp only; omega, by rw [hnext]; rfl, by simpa using hm⟩, by simp only; omega, by simp, rfl⟩
        · simp [bx, hsV, h1, w1]
          rw [rnd_nrm]
          exact ⟨(i + 1, o2, more), ⟨by simp only; omega, by rw [hnext]; rfl, by simpa using hm⟩, by simp only; omega, by simp, rfl⟩
      | true =>
        have h1 : ¬ m < pr.length := fun h => hgo ⟨h, rfl⟩
        have hwv : v = false := by
          cases v with
          | false => rfl
          | true => simp at hwant
        rw [if_pos rfl] at hnext
        have hcn := cntF_set o2 pl hpl2 (by rw [hv, hwv])
        have hle := rnd_le (fun p => derP_grows ⟨t, n, k, ps⟩ tok p) (ps.take i) o
        have hle : cntF o2 ≤ cntF o := by rw [ho2]; exact hle
        have hne : o2.set pl true ≠ o := fun h => by rw [h] at hcn; omega
        simp [bx, hsV, h1, w1, hpl, hbl, hpn1, setH, hlk, replaceAt_one _ hpl3, bools_set]
        rw [rnd_nrm]
        exact ⟨(i + 1, o2.set pl true, true), ⟨by simp only; omega, hnext.symm, by simp [hne]⟩, by simp only; omega, by simp, rfl⟩
    obtain ⟨hml, rfl⟩ := hgo
    obtain ⟨x, hx⟩ : ∃ x, pr[m] = x := ⟨_, rfl⟩
    obtain ⟨x1, x2⟩ := q4 x (hx ▸ List.getElem_mem hml)
    rw [List.drop_eq_getElem_cons hml, hx, List.all_cons, Bool.true_and] at hinv2
    by_cases hxt : x < t
    · have hok : okS ⟨t, n, k, ps⟩ tok o2 x = tok := by unfold okS; rw [if_pos hxt]
      rw [hok] at hinv2
      have hxt2 : ¬ t ≤ x := by omega
      cases tok with
      | true =>
        simp [bx, hsV, hml, hx, hxt, hxt2, w2]
        rw [rnd_nrm]
        exact ⟨(m + 1, true), ⟨by simp only; omega, hinv2⟩, by simp only; omega, by simp, rfl⟩
      | false =>
        simp [bx, hsV, hml, hx, hxt, hxt2, w2]
        rw [rnd_nrm]
        exact ⟨(m + 1, false), ⟨by simp only; omega, hinv2⟩, by simp only; omega, by simp, rfl⟩
    · have hxt2 : t ≤ x := by omega
      have hxn : (x - t).toNat < o2.length := by omega
      obtain ⟨u, hu⟩ : ∃ u, o2[(x - t).toNat] = u := ⟨_, rfl⟩
      have hok : okS ⟨t, n, k, ps⟩ tok o2 x = u := by unfold okS; rw [if_neg hxt]; simp only; rw [getD_of hxn, hu]
      rw [hok] at hinv2
      have w3 : IntKind.i64.wrap (x - t) = x - t := wrap64 (by omega) (by omega)
      have y1 : 0 ≤ x - t := by omega
      have y2 : x - t < n := by omega
      have y3 : (x - t).toNat < n := by omega
      simp [bx, hsV, hml, hx, hxt, hxt2, w2, w3, y1, y2, hbl, bools_get, hxn, hu]
      rw [rnd_nrm]
      exact ⟨(m + 1, u), ⟨by simp only; omega, hinv2⟩, by simp only; omega, by simp, rfl⟩
end Go.Proofs.Ytpaocofhpdmjpaa

namespace Go.Proofs.Ytpaocofhpdmjpaa
open Go Go.Hm

def derV (g : Gm) (tok : Bool) : AV := if chkE g = 0 then .sl g.n.toNat (bools (derM g tok)) else .e0
theorem derV_arg (g : Gm) (tok : Bool) : (derV g tok = .e0) ∨ ∃ n c, derV g tok = .sl n c := by
  unfold derV
  split
  · exact .inr ⟨_, _, rfl⟩
  · exact .inl rfl
section
variable {lk lim : Nat} {H : Heap} (g : Gm) (hl : g.ps.length ≤ 1000000) (hr : ∀ p ∈ g.ps, p.r.length ≤ 1000000) (hlk : lk ≤ H.length)
include hl hr hlk
theorem rnull_code : callW X A lk lim 21 [gV g] H = some (derV g false, H) := by
  have k := rder_code (lk := lk) (lim := H.length) (H := H) g false hl hr hlk
  have e : (if chkE g = 0 then AV.sl g.n.toNat (bools (derM g false)) else AV.e0) = derV g false := rfl
  rw [e] at k
  refine wb_callB [1] rfl A21 rfl rfl ?_
  unfold t21B
  simp only [gV, Gm.cells] at k
  generalize callW X A = C at k ⊢
  rcases derV_arg g false with h | ⟨n, c, h⟩ <;> rw [h] at k ⊢ <;> simp [Gm.cells, k]
theorem rprod_code : callW X A lk lim 22 [gV g] H = some (derV g true, H) := by
  have k := rder_code (lk := lk) (lim := H.length) (H := H) g true hl hr hlk
  have e : (if chkE g = 0 then AV.sl g.n.toNat (bools (derM g true)) else AV.e0) = derV g true := rfl
  rw [e] at k
  refine wb_callB [1] rfl A22 rfl rfl ?_
  unfold t22B
  simp only [gV, Gm.cells] at k
  generalize callW X A = C at k ⊢
  rcases derV_arg g true with h | ⟨n, c, h⟩ <;> rw [h] at k ⊢ <;> simp [Gm.cells, k]
end

end Go.Proofs.Ytpaocofhpdmjpaa

namespace Go.Proofs.Ytpaocofhpdmjpaa
open Go Go.Hm

theorem sg_toList (a : List UInt8) : (⟨⟨a⟩⟩ : ByteArray).toList = a := by rw [ByteArray.toList_eq]
theorem sg_neq (a b : List UInt8) : abins .neq ⟨⟨a⟩⟩ ⟨⟨b⟩⟩ = some (Bo (!(a == b))) := by
  simp only [abins, sg_toList]
theorem sg_eql (a b : List UInt8) : abins .eql ⟨⟨a⟩⟩ ⟨⟨b⟩⟩ = some (Bo (a == b)) := by
  simp only [abins, sg_toList]
theorem sg_neqN (a : List UInt8) : abins .neq ⟨⟨a⟩⟩ ⟨#[]⟩ = some (Bo (!(a == []))) := sg_neq a []
theorem sg_eqlN (a : List UInt8) : abins .eql ⟨⟨a⟩⟩ ⟨#[]⟩ = some (Bo (a == [])) := sg_eql a []
theorem sg_leq (a b : List UInt8) : abins .leq ⟨⟨a⟩⟩ ⟨⟨b⟩⟩ = some (Bo (Op.bytesLess a b || a == b)) := by
  simp only [abins, sg_toList]
theorem sg_geq (a b : List UInt8) : abins .geq ⟨⟨a⟩⟩ ⟨⟨b⟩⟩ = some (Bo (!Op.bytesLess a b)) := by
  simp only [abins, sg_toList]
theorem Sg_app (a b : List UInt8) : (⟨⟨a⟩⟩ : ByteArray) ++ ⟨⟨b⟩⟩ = ⟨⟨a ++ b⟩⟩ := by
  apply ByteArray.ext
  simp [ByteArray.data_append]
theorem sg_add {a b : List UInt8} (h : a.length + b.length ≤ 9223372036854775807) : abins .add ⟨⟨a⟩⟩ ⟨⟨b⟩⟩ = some (Sg (a ++ b)) := by
  have hm : IntKind.i64.max = 9223372036854775807 := by decide
  show (if (((a.length + b.length : Nat) : Int)) > IntKind.i64.max then none else some (AV.val (.string (⟨⟨a⟩⟩ ++ ⟨⟨b⟩⟩)))) = _
  rw [hm, if_neg (by omega), Sg_app]

theorem byte_eq (c : UInt8) : ((c.toNat : Int) == 255) = (c == 255) := by
  rw [Bool.eq_iff_iff, beq_iff_eq, beq_iff_eq]
  constructor
  · intro h
    exact UInt8.toNat_inj.1 (by rw [show (255 : UInt8).toNat = 255 from rfl]; omega)
  · rintro rfl; rfl
theorem last_get {x : List UInt8} (h : x ≠ []) : ∃ c, x[x.length - 1]? = some c ∧ x.getLast? = some c := by
  refine ⟨x.getLast h, ?_, List.getLast?_eq_some_getLast h⟩
  rw [← List.getLast?_eq_getElem?, List.getLast?_eq_some_getLast h]
theorem whole_code {lk lim : Nat} {H : Heap} (k : Nat) (x : List UInt8) (hx : x.length ≤ 1000000000000000) : callW X A lk lim 36 [I k, Sg x] H = some (Bo (whole k x), H) := by
  refine wb_callB [] rfl A36 rfl rfl ?_
  unfold t36B
  by_cases h1 : k ≤ x.length
  · have h1' : (k : Int) ≤ x.length := by omega
    have hw : whole k x = true := whole_len h1
    rw [hw]
    simp [Sg_size, h1, h1']
  have h1' : ¬ (k : Int) ≤ x.length := by omega
  by_cases h2 : x = []
  · subst h2
    have hw : whole k [] = false := by simp at h1; simp [whole]; omega
    rw [hw]
    have hk : ¬ k = 0 := by simp at h1; omega
    simp [Sg_size, hk, sg_neqN]
  obtain ⟨c, hc, hl⟩ := last_get h2
  have hpos : 0 < x.length := List.length_pos_iff.2 h2
  have w1 : IntKind.i64.wrap ((x.length : Int) - 1) = ((x.length - 1 : Nat) : Int) := by rw [wrap64 (by omega) (by omega)]; omega
  have hw : whole k x = (c == 255) := by simp [whole, h1, hl]
  have hx2 : (x == []) = false := by simp [h2]
  rw [hw]
  simp [Sg_size, h1', sg_neqN, hx2, w1, Sg_get, hc, byte_eq]

/-! ### A set of rows -/
def putK (ks : List (List UInt8)) (x : List UInt8) : List (List UInt8) := if x ∈ ks then ks else ks ++ [x]
def entK (ks : List (List UInt8)) : List (AV × AV) := ks.map fun x => (Sg x, .agg [])
theorem mem_putK {ks : List (List UInt8)} {x z : List UInt8} : z ∈ putK ks x ↔ z ∈ ks ∨ z = x := by
  unfold putK
  split
  · rename_i h
    constructor
    · exact .inl
    · rintro (h1 | rfl)
      · exact h1
      · exact h
  · simp
theorem putK_len (ks : List (List UInt8)) (x : List UInt8) : (putK ks x).length ≤ ks.length + 1 := by
  unfold putK
  split <;> simp
theorem eqK (a b : List UInt8) : eqKey false [2] (Sg a) (Sg b) = some (a == b) := by
  simp [eqKey, eqScalar, sg_toList]
theorem mset_K (x : List UInt8) : ∀ ks : List (List UInt8), mset false [2] (Sg x) (.agg []) (entK ks) = some (entK (putK ks x))
  | [] => by simp [entK, putK, mset]
  | y :: ks => by
    have ih := mset_K x ks
    show mset false [2] (Sg x) (.agg []) ((Sg y, .agg []) :: entK ks) = _
    unfold mset
    rw [eqK]
    by_cases h : x = y
    · subst h
      simp [entK, putK]
    · have hb : (x == y) = false := by simp [h]
      rw [hb]
      simp only [ih]
      unfold putK
      by_cases hm : x ∈ ks
      · rw [if_pos hm, if_pos (List.mem_cons_of_mem _ hm)]; rfl
      · rw [if_neg hm, if_neg (by simp [h, hm])]; rfl
theorem keysL_K : ∀ ks : List (List UInt8), keysL (entK ks) = some ks
  | [] => rfl
  | x :: ks => by
    show keysL ((Sg x, .agg []) :: entK ks) = _
    simp only [keysL, keysL_K ks]
end Go.Proofs.Ytpaocofhpdmjpaa

namespace Go.Proofs.Ytpaocofhpdmjpaa
open Go Go.Hm

theorem put_code {lk lim : Nat} {H : Heap} {b : Nat} {ks : List (List UInt8)} (x : List UInt8) (hb : H[b]? = some (.map (entK ks))) (hlk : lk ≤ b) :
    callW X A lk lim 37 [.mp b, .sl 1 [Sg x]] H = some (.tup [], H.set b (.map (entK (putK ks x)))) := by
  have hbl : b < H.length := (List.getElem?_eq_some_iff.1 hb).1
  have ha : argOk (.agg []) = true := rfl
  have hbel : Hm.below 0 (.agg []) = true := rfl
  have hko : keyOk false [2] (Sg x) = true := by simp [keyOk, eqK]
  refine wb_callB [] rfl A37 rfl rfl ?_
  unfold t37B
  simp
  refine wb_loop (σ := Nat) (fun i => [(0, .mp b), (6, .sl 1 [Sg x]), (7, I 1), (8, I i)]) (fun i => if i = 0 then H else H.set b (.map (entK (putK ks x)))) (fun i => i ≤ 1) (fun i => 1 - i) ?_ 0 (by omega) (by simp [restrict, find]) rfl
  intro i hi
  unfold t37L1
  by_cases h0 : i = 0
  · subst h0
    simp [-wi_mup, -wb_regN]
    rw [wb_regN]
    simp [-wi_mup]
    rw [wi_mup]
    simp [hb, mset_K, hko, ha, hbel, hlk, rnd_nrm]
    exact ⟨1, by omega, by omega, by decide, fun h => by omega⟩
  · obtain rfl : i = 1 := by omega
    simp
    exact List.take_of_length_le (by simp)
end Go.Proofs.Ytpaocofhpdmjpaa
