import Derived.Test.YtpaocofhpdmjpaaGI
set_option linter.unusedSimpArgs false
set_option linter.unusedVariables false
namespace Go.Proofs.Ytpaocofhpdmjpaa
open Go Go.Hm

theorem hasV_drop {l : List (List UInt8)} {i : Nat} (hi : i < l.length) (x : List UInt8) : hasV (l.drop i) x = (x == l[i] || hasV (l.drop (i + 1)) x) := by
  rw [List.drop_eq_getElem_cons hi]
  rfl
set_option maxRecDepth 20000 in
theorem has2_code {lk lim : Nat} {H : Heap} {v : AV} {l : List (List UInt8)} (hv : RV v l) (x : List UInt8) (hl : l.length ≤ 1000000000) : callW X A lk lim 32 [v, Sg x] H = some (Bo (hasV l x), H) := by
  rcases hv with rfl | ⟨rfl, rfl⟩
  · refine wb_callB [] rfl A32 rfl rfl ?_
    unfold t32B
    generalize callW X A = C
    simp
    refine wb_loop (σ := Nat) (fun i => [(0, rowsV l), (1, Sg x), (5, I i)]) (fun _ => H) (fun i => i ≤ l.length ∧ hasV l x = hasV (l.drop i) x) (fun i => l.length - i) ?_ 0 ⟨Nat.zero_le _, rfl⟩ (by simp [restrict, find]) rfl
    rintro i ⟨hi, hinv⟩
    unfold t32L1
    rw [hinv]
    by_cases hil : i < l.length
    · have hil' : (i : Int) < l.length := by omega
      have w1 : IntKind.i64.wrap ((i : Int) + 1) = (i : Int) + 1 := wrap64 (by omega) (by omega)
      have ga := rowsB_getE hil
      rw [hasV_drop hil]
      have hinv2 := hasV_drop hil x
      generalize l[i] = y at *
      by_cases hxy : y = x
      · subst hxy
        simp [hil, hil', rowsB_len, ga, sg_eql]
      · have h1 : (y == x) = false := by simp [hxy]
        have h2 : (x == y) = false := by simp [Ne.symm hxy]
        rw [h2, Bool.false_or] at hinv2 ⊢
        simp [hil, hil', rowsB_len, ga, sg_eql, h1, w1, rnd_nrm]
        exact ⟨i + 1, ⟨by omega, rfl⟩, by omega, by omega⟩
    · obtain rfl : i = l.length := by omega
      rw [List.drop_length]
      simp [hasV]
  · refine wb_callB [] rfl A32 rfl rfl ?_
    unfold t32B
    generalize callW X A = C
    simp
    refine wb_loop (σ := Unit) (fun i => [(0, .e0), (1, Sg x), (5, I 0)]) (fun i => H) (fun i => True) (fun i => 0) ?_ () trivial (by simp [restrict, find]) (by simp)
    intro i _
    unfold t32L1
    simp [hasV]

theorem any_drop {r : List Int} {i : Nat} (hi : i < r.length) (P : Int → Bool) : (r.drop i).any P = (P r[i] || (r.drop (i + 1)).any P) := by
  rw [List.drop_eq_getElem_cons hi]
  rfl
set_option maxRecDepth 20000 in
theorem of33_code {lk lim : Nat} {H : Heap} (hlk : lk ≤ H.length) (g : Gm) (hl : g.ps.length ≤ 1000000) (hr : ∀ p ∈ g.ps, p.r.length ≤ 1000000) {cs : List AV} {S : Ss} (hS : SC cs S) (r : List Int) (hrl : r.length ≤ 1000000) (hSl : S.length ≤ 1000000)
    (hO : OfOk g S r → (∀ i, (ofM g S (r.take i)).length ≤ 2000000 ∧ ∀ x ∈ ofM g S (r.take i), x.length ≤ 1000000) ∧ ∀ s ∈ r, (nxt g S s).length ≤ 2000000 ∧ ∀ x ∈ nxt g S s, x.length ≤ 1000000) :
    callW X A lk lim 33 [gV g, .sl cs.length cs, .sl r.length (ints r)] H = some (if OfOk g S r then rV (ofM g S r) else .e0, H) := by
  have kc := fun (L : Nat) => rcheck_code (lk := lk) (lim := L) (H := H) g hl hr
  have k45 := fun (L : Nat) h1 h2 h3 h4 => of2_code1 (lk := lk) (lim := L) (H := H) hlk g (.sl g.ps.length (psC g.ps)) hS r h1 h2 hrl hSl h3 h4
  have hcl := hS.1
  refine wb_callB [3] rfl A33 rfl rfl ?_
  unfold t33B
  by_cases hc : chkE g = 0
  case neg =>
    rw [if_neg (fun h : OfOk g S r => hc h.1)]
    have hc2 : (chkE g != 0) = true := by simpa using hc
    generalize chkE g = e at kc hc2 hc
    obtain ⟨t, n, k, ps⟩ := g
    simp only [gV, Gm.cells] at kc
    generalize callW X A = C at kc ⊢
    simp [Gm.cells, kc, hc2, hc]
  have ok := gok_of hc
  by_cases hn : (S.length : Int) = g.n
  case neg =>
    rw [if_neg (fun h : OfOk g S r => hn h.2.1)]
    rw [hc] at kc
    obtain ⟨t, n, k, ps⟩ := g
    simp only [gV, Gm.cells] at kc hn
    have hn2 : ((cs.length : Int) != n) = true := by rw [hcl]; simpa using hn
    have hn3 : ¬ (cs.length : Int) = n := by rw [hcl]; exact hn
    generalize callW X A = C at kc ⊢
    simp [Gm.cells, kc, hn2, hn3]
  have hn2 : ((cs.length : Int) != g.n) = false := by rw [hcl]; simpa using hn
  have hn3 : (cs.length : Int) = g.n := by rw [hcl]; exact hn
  have hw : IntKind.i64.wrap (g.t + g.n) = g.t + g.n := by have := ok.t1; have := ok.t2; have := ok.n1; have := ok.n2; exact wrap64 (by omega) (by omega)
  have hokE : OfOk g S r ↔ r.any (badS g) = false := ⟨fun h => h.2.2, fun h => ⟨hc, hn, h⟩⟩
  have k45 := fun L (h : r.any (badS g) = false) => k45 L (fun s hs => by
    have := List.any_eq_false.1 h s hs
    simp only [badS, Bool.or_eq_true, decide_eq_true_eq, not_or] at this
    omega) ⟨by have := ok.t1; omega, by have := ok.t2; omega⟩ (hO (hokE.2 h)).1 (hO (hokE.2 h)).2
  have e : (if OfOk g S r then rV (ofM g S r) else .e0) = (if r.any (badS g) = false then rV (ofM g S r) else .e0) := by
    by_cases h : r.any (badS g) = false
    · rw [if_pos h, if_pos (hokE.2 h)]
    · rw [if_neg h, if_neg (fun h2 => h (hokE.1 h2))]
  rw [e]
  rw [hc] at kc
  have hov := rV_rv (ofM g S r)
  generalize rV (ofM g S r) = ov at k45 hov ⊢
  have hbd : ∀ s, badS g s = (decide (s < 0) || decide (g.t + g.n ≤ s)) := fun s => rfl
  generalize badS g = P at *
  obtain ⟨t, n, k, ps⟩ := g
  simp only [gV, Gm.cells] at kc hn2 hn3 k45 hw hbd
  obtain ⟨w, hPw⟩ : ∃ w, r.any P = w := ⟨_, rfl⟩
  rw [hPw]
  simp only [hPw] at k45
  generalize callW X A = C at kc k45 ⊢
  simp [Gm.cells, kc, hn2, hn3]
  refine wb_loop (σ := Nat) (fun i => [(1, .sl cs.length cs), (2, .sl r.length (ints r)), (3, .box [I t, I n, I k, .sl ps.length (psC ps)]), (7, I i)]) (fun _ => H) (fun i => i ≤ r.length ∧ w = (r.drop i).any P) (fun i => r.length - i) ?_ 0 ⟨Nat.zero_le _, hPw.symm⟩ (by simp [restrict, find, hn3]) rfl
  rintro i ⟨hi, hinv⟩
  unfold t33L1
  by_cases hil : i < r.length
  · have hil' : (i : Int) < r.length := by omega
    have w1 : IntKind.i64.wrap ((i : Int) + 1) = (i : Int) + 1 := wrap64 (by omega) (by omega)
    have ha := any_drop hil P
    rw [← hinv] at ha
    obtain ⟨s, hs⟩ : ∃ s, r[i] = s := ⟨_, rfl⟩
    rw [hs, hbd] at ha
    by_cases h1 : s < 0
    · have hb : w = true := by rw [ha]; simp [h1]
      subst hb
      simp [hil, hil', hs, h1]
    · by_cases h2 : t + n ≤ s
      · have hb : w = true := by rw [ha]; simp [h2]
        subst hb
        simp [hil, hil', hs, h1, h2, hw]
      · have hb : w = (r.drop (i + 1)).any P := by rw [ha]; simp [h1, h2]
        simp [hil, hil', hs, h1, h2, hw, w1, rnd_nrm]
        exact ⟨i + 1, ⟨by omega, hb⟩, by omega, by omega⟩
  · obtain rfl : i = r.length := by omega
    have hb : w = false := by rw [hinv, List.drop_length]; rfl
    have k45 := fun L => k45 L hb
    subst hb
    rcases rv_noRp hov with rfl | rfl
    all_goals simp [hn3, k45]
theorem srows_e0 {lk lim : Nat} {H : Heap} : callW X A lk lim 34 [.e0, .e0] H = some (Bo true, H) := by
  refine wb_callB [] rfl A34 rfl rfl ?_
  unfold t34B
  generalize callW X A = C
  simp
  refine wb_loop (σ := Unit) (fun i => [(0, .e0), (1, .e0), (5, I 0)]) (fun i => H) (fun i => True) (fun i => 0) ?_ () trivial (by simp [restrict, find]) (by simp)
  intro i _
  unfold t34L1
  simp
end Go.Proofs.Ytpaocofhpdmjpaa
