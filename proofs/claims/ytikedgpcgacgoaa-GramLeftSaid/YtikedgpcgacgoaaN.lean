import Derived.Test.YtikedgpcgacgoaaM
set_option linter.unusedSimpArgs false
set_option linter.unusedVariables false
namespace Go.Proofs.Ytikedgpcgacgoaa
open Go Go.Hm
def isPrim (f : Nat) : Bool := Nat.beq f 44 || Nat.beq f 45
noncomputable def ans : Ans := []
theorem ans_ok : ∀ p ∈ ans, ∀ lk lim l H r, p.2 lk l H = some r → callW X A lk lim p.1 l H = some r := fun p hp => by
  simp [ans] at hp
noncomputable def E : Orc := callE (gF X isPrim A ans) 100000 300
theorem X_none (f : FuncId) (h : isPrim f = false) (lk lim : Nat) (l : List AV) (H : Heap) : X lk lim f l H = none := by
  simp only [isPrim, Bool.or_eq_false_iff] at h
  have h1 : ¬ 44 = f := fun e => by subst e; exact absurd h.1 (by decide)
  have h2 : ¬ 45 = f := fun e => by subst e; exact absurd h.2 (by decide)
  have h1 : ¬ f = 44 := fun e => h1 e.symm
  have h2 : ¬ f = 45 := fun e => h2 e.symm
  simp only [X, prims, primX, if_neg h1, if_neg h2]
theorem lives_ok : callW X A 0 0 9 [] [] = some (Bo true, []) :=
  run_W X_none ans_ok 100000 300 E rfl _ _ _ _ _ _ rfl (by kernel_rfl)
theorem lives_code (lim : Nat) : callW X A 0 lim 9 [] [] = some (Bo true, []) := by
  rw [← lives_ok, callW_eq (f := 9) (fd := t9) rfl A9 rfl, callW_eq (f := 9) (fd := t9) (lim := 0) rfl A9 rfl]
  rfl

/-- A row of truths, in memory or frozen. -/
def BS (H : Heap) (n : Nat) (o : List Bool) (v : AV) : Prop := v = .sl n (bools o) ∨ ∃ b, v = .hs b n 0 n 1 ∧ H[b]? = some (.cells (bools o))
set_option maxRecDepth 20000 in
theorem holds_code {lk lim : Nat} {H : Heap} (g : Gm) (ok : GOk g) (r : List Int) (hr : r.length ≤ 8) (hs : ∀ x ∈ r, 0 ≤ x ∧ x < g.t + g.n) (tok : Bool) (o : List Bool) (ho : o.length = g.n.toNat) (v : AV) (hv : BS H g.n.toNat o v) :
    callW X A lk lim 14 [gV g, .sl r.length (ints r), Bo tok, v] H = some (Bo (r.all (okS g tok o)), H) := by
  have hone : argOk v = true := by rcases hv with rfl | ⟨b, rfl, _⟩ <;> rfl
  refine wb_callB [4] rfl A14 rfl (by rcases hv with rfl | ⟨b, rfl, _⟩ <;> rfl) ?_
  unfold t14B
  obtain ⟨t, n, k, ps⟩ := g
  obtain ⟨t1, t2, n1, n2, k1, k2, l1, l2, okp⟩ := ok
  simp only at t1 t2 n1 n2 ho hs hv
  obtain ⟨n, rfl⟩ := Int.eq_ofNat_of_zero_le (by omega : 0 ≤ n)
  simp only [Int.toNat_natCast] at ho hv
  let bx : AV := .box [I t, I n, I k, .sl ps.length (psC ps)]
  have main : WB ⟨callW X A, lk, if true = true then H.length else lim, [4]⟩ (.loop [1, 2, 3, 4, 9] t14L1) (BlkE 0 (Fol ⟨callW X A, lk, if true = true then H.length else lim, [4]⟩ (.seq (.regN [] [⟨(some 8), none, .mv (.con (.val (.bool true))), 0, false⟩]) .ret) (FinT [.tmp 8] true H (Bo (r.all (okS ⟨t, n, k, ps⟩ tok o)), H))))
      [(9, I 0), (1, .sl r.length (ints r)), (2, Bo tok), (3, v), (4, bx)] H := by
    refine wb_loop (σ := Nat) (fun i => [(1, .sl r.length (ints r)), (2, Bo tok), (3, v), (4, bx), (9, I i)]) (fun _ => H) (fun i => i ≤ r.length ∧ r.all (okS ⟨t, n, k, ps⟩ tok o) = (r.drop i).all (okS ⟨t, n, k, ps⟩ tok o)) (fun i => r.length - i) ?_ 0 (by simp) (by simp [bx]) rfl
    rintro i ⟨hi, hinv⟩
    unfold t14L1
    have w1 : IntKind.i64.wrap ((i : Int) + 1) = (i : Int) + 1 := wrap64 (by omega) (by omega)
    by_cases hil : i < r.length
    case neg =>
      obtain rfl : i = r.length := by omega
      rw [List.drop_length, all_nil] at hinv
      rw [hinv]
      simp
    obtain ⟨x, hx⟩ : ∃ x, r[i] = x := ⟨_, rfl⟩
    obtain ⟨x1, x2⟩ := hs x (hx ▸ List.getElem_mem hil)
    rw [List.drop_eq_getElem_cons hil, hx, List.all_cons] at hinv
    by_cases hxt : x < t
    · have hok : okS ⟨t, n, k, ps⟩ tok o x = tok := by unfold okS; rw [if_pos hxt]
      rw [hok] at hinv
      have hxt2 : ¬ t ≤ x := by omega
      cases tok with
      | true =>
        rw [Bool.true_and] at hinv
        simp [bx, hil, hx, hxt, hxt2, w1]
        rw [rnd_nrm]
        exact ⟨i + 1, ⟨by omega, hinv⟩, by omega, by simp, rfl⟩
      | false =>
        rw [Bool.false_and] at hinv
        rw [hinv]
        simp [bx, hil, hx, hxt, hxt2, w1]
    · have hxt2 : t ≤ x := by omega
      have hxn : (x - t).toNat < o.length := by omega
      obtain ⟨u, hu⟩ : ∃ u, o[(x - t).toNat] = u := ⟨_, rfl⟩
      have hok : okS ⟨t, n, k, ps⟩ tok o x = u := by unfold okS; rw [if_neg hxt]; simp only; rw [getD_of hxn, hu]
      rw [hok] at hinv
      have w3 : IntKind.i64.wrap (x - t) = x - t := wrap64 (by omega) (by omega)
      have y1 : 0 ≤ x - t := by omega
      have y2 : x - t < n := by omega
      have hbl : (bools o).length = n := by rw [bools_len]; exact ho
      cases u with
      | true =>
        rw [Bool.true_and] at hinv
        rcases hv with rfl | ⟨b, rfl, hb⟩
        · simp [bx, hil, hx, hxt, hxt2, w1, w3, y1, y2, hbl, bools_get, hxn, hu]
          rw [rnd_nrm]
          exact ⟨i + 1, ⟨by omega, hinv⟩, by omega, by simp, rfl⟩
        · simp [bx, hil, hx, hxt, hxt2, w1, w3, y1, y2, hbl, bools_get, hxn, hu, hb]
          rw [rnd_nrm]
          exact ⟨i + 1, ⟨by omega, hinv⟩, by omega, by simp, rfl⟩
      | false =>
        rw [Bool.false_and] at hinv
        rw [hinv]
        rcases hv with rfl | ⟨b, rfl, hb⟩
        · simp [bx, hil, hx, hxt, hxt2, w1, w3, y1, y2, hbl, bools_get, hxn, hu]
        · simp [bx, hil, hx, hxt, hxt2, w1, w3, y1, y2, hbl, bools_get, hxn, hu, hb]
  have hnr : noRp 4 [(3, v)] = true := by rcases hv with rfl | ⟨b, rfl, _⟩ <;> rfl
  simpa [Gm.cells, hnr] using main
/-- Same, of truths. -/
theorem sameB_code {lk lim : Nat} {H : Heap} (n m : Nat) (a b : List Bool) (ha : a.length = n) (hb : b.length = m) (hn : n ≤ 1000000) (hm : m ≤ 1000000) (v w : AV) (hv : BS H n a v) (hw : BS H m b w) :
    callW X A lk lim 15 [v, w] H = some (Bo (decide (a = b)), H) := by
  have hone : argOk v = true := by rcases hv with rfl | ⟨b, rfl, _⟩ <;> rfl
  have hone2 : argOk w = true := by rcases hw with rfl | ⟨b, rfl, _⟩ <;> rfl
  refine wb_callB [] rfl A15 rfl (by rcases hv with rfl | ⟨b, rfl, _⟩ <;> rcases hw with rfl | ⟨b, rfl, _⟩ <;> rfl) ?_
  unfold t15B
  by_cases hnm : n = m
  case neg =>
    have hne : ¬ a = b := fun h => by rw [h] at ha; omega
    have hnm2 : ¬ (n : Int) = m := by omega
    rcases hv with rfl | ⟨c, rfl, hc⟩ <;> rcases hw with rfl | ⟨d, rfl, hd⟩ <;> simp [hnm, hnm2, hne]
  subst hnm
  have main : WB ⟨callW X A, lk, if true = true then H.length else lim, []⟩ (.loop [0, 1, 5] t15L1) (BlkE 0 (Fol ⟨callW X A, lk, if true = true then H.length else lim, []⟩ (.seq (.regN [] [⟨(some 4), none, .mv (.con (.val (.bool true))), 0, false⟩]) .ret) (FinT [.tmp 4] true H (Bo (decide (a = b)), H))))
      [(5, I 0), (0, v), (1, w)] H := by
    refine wb_loop (σ := Nat) (fun i => [(0, v), (1, w), (5, I i)]) (fun _ => H) (fun i => i ≤ n ∧ (a = b ↔ a.drop i = b.drop i)) (fun i => n - i) ?_ 0 (by simp) (by simp) rfl
    rintro i ⟨hi, hinv⟩
    unfold t15L1
    have w1 : IntKind.i64.wrap ((i : Int) + 1) = (i : Int) + 1 := wrap64 (by omega) (by omega)
    by_cases hil : i < n
    case neg =>
      obtain rfl : i = n := by omega
      rw [List.drop_of_length_le (by omega), List.drop_of_length_le (by omega)] at hinv
      have hinv : decide (a = b) = true := by simpa using hinv
      rw [hinv]
      rcases hv with rfl | ⟨c, rfl, hc⟩ <;> rcases hw with rfl | ⟨d, rfl, hd⟩ <;> simp
    have hia : i < a.length := by omega
    have hib : i < b.length := by omega
    obtain ⟨x, hx⟩ : ∃ x, a[i] = x := ⟨_, rfl⟩
    obtain ⟨y, hy⟩ : ∃ y, b[i] = y := ⟨_, rfl⟩
    rw [List.drop_eq_getElem_cons hia, List.drop_eq_getElem_cons hib, hx, hy] at hinv
    by_cases hxy : x = y
    · subst hxy
      have hinv2 : a = b ↔ a.drop (i + 1) = b.drop (i + 1) := by rw [hinv]; simp
      rcases hv with rfl | ⟨c, rfl, hc⟩ <;> rcases hw with rfl | ⟨d, rfl, hd⟩
      · cases x <;> (simp [hil, hia, hib, bools_get, hx, hy, w1, ha, hb]; rw [rnd_nrm]; exact ⟨i + 1, ⟨by omega, hinv2⟩, by omega, by simp, rfl⟩)
      · cases x <;> (simp [hil, hia, hib, bools_get, hx, hy, w1, ha, hb, hd]; rw [rnd_nrm]; exact ⟨i + 1, ⟨by omega, hinv2⟩, by omega, by simp, rfl⟩)
      · cases x <;> (simp [hil, hia, hib, bools_get, hx, hy, w1, ha, hb, hc]; rw [rnd_nrm]; exact ⟨i + 1, ⟨by omega, hinv2⟩, by omega, by simp, rfl⟩)
      · cases x <;> (simp [hil, hia, hib, bools_get, hx, hy, w1, ha, hb, hc, hd]; rw [rnd_nrm]; exact ⟨i + 1, ⟨by omega, hinv2⟩, by omega, by simp, rfl⟩)
    · have hinv : decide (a = b) = false := decide_eq_false (fun h => by have := hinv.1 h; simp [hxy] at this)
      rw [hinv]
      rcases hv with rfl | ⟨c, rfl, hc⟩ <;> rcases hw with rfl | ⟨d, rfl, hd⟩
      · cases x <;> cases y <;> first | (exact absurd rfl hxy) | simp [hil, hia, hib, bools_get, hx, hy, w1, ha, hb]
      · cases x <;> cases y <;> first | (exact absurd rfl hxy) | simp [hil, hia, hib, bools_get, hx, hy, w1, ha, hb, hd]
      · cases x <;> cases y <;> first | (exact absurd rfl hxy) | simp [hil, hia, hib, bools_get, hx, hy, w1, ha, hb, hc]
      · cases x <;> cases y <;> first | (exact absurd rfl hxy) | simp [hil, hia, hib, bools_get, hx, hy, w1, ha, hb, hc, hd]
  rcases hv with rfl | ⟨c, rfl, hc⟩ <;> rcases hw with rfl | ⟨d, rfl, hd⟩ <;> simpa using main
end Go.Proofs.Ytikedgpcgacgoaa
