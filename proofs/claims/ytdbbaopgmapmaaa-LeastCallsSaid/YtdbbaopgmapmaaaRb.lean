import Derived.Test.YtdbbaopgmapmaaaRa
set_option linter.unusedSimpArgs false
set_option linter.unusedVariables false
namespace Go.Proofs.Ytdbbaopgmapmaaa
open Go Go.Hm
/-! ### Where a state leads, as the document has it -/
theorem to2_code {lk lim : Nat} {H : Heap} (nx rl : List Int) (ok : TOk nx rl) (a : Int) (ha : InS rl a) (c : Nat) (hc : c < 256) : callW X A lk lim 40 [.agg (Dv nx rl), I (ixI rl.length a), I (c : Int)] H = some (I (ixI rl.length (toV nx a c)), H) := by
  have hl := ok.len
  have hm := ok.most
  refine wb_callB [3] rfl A40 rfl rfl ?_
  unfold t40B
  by_cases h : a < 0
  · have e1 : ixI rl.length a = rl.length := by unfold ixI; rw [if_pos h]
    have e2 : ixI rl.length (toV nx a c) = rl.length := by unfold toV; rw [if_pos h]; rfl
    rw [e1, e2]
    simp
  · obtain ⟨k, rfl⟩ := Int.eq_ofNat_of_zero_le (by omega : 0 ≤ a)
    have hk : k < rl.length := by have := ha.2; omega
    have e1 : ixI rl.length (k : Int) = k := by unfold ixI; rw [if_neg h]
    rw [e1]
    have w1 : IntKind.i64.wrap (256 * (k : Int)) = 256 * (k : Int) := wrap64 (by omega) (by omega)
    have w2 : IntKind.i64.wrap (256 * (k : Int) + (c : Int)) = 256 * (k : Int) + (c : Int) := wrap64 (by omega) (by omega)
    have n1 : (256 * (k : Int) + (c : Int)).toNat = 256 * k + c := by omega
    have n2 : 0 ≤ 256 * (k : Int) + (c : Int) := by omega
    have n3 : 256 * (k : Int) + (c : Int) < (nx.length : Int) := by omega
    have hi : 256 * k + c < nx.length := by omega
    obtain ⟨x, hx⟩ : ∃ x, nx[256 * k + c] = x := ⟨_, rfl⟩
    have hxb := ok.nxb x (hx ▸ List.getElem_mem hi)
    have e3 : toV nx k c = x := by
      unfold toV
      rw [if_neg h, Int.toNat_natCast, List.getD_eq_getElem?_getD, List.getElem?_eq_getElem hi, hx]; rfl
    have hne : ((k : Int) == (rl.length : Int)) = false := by rw [beq_eq_false_iff_ne]; omega
    rw [e3]
    by_cases hx0 : x < 0
    · have e4 : ixI rl.length x = rl.length := by unfold ixI; rw [if_pos hx0]
      rw [e4]
      simp [hne, w1, w2, n1, n2, n3, hi, hx, hx0]
    · have e4 : ixI rl.length x = x := by unfold ixI; rw [if_neg hx0]
      rw [e4]
      simp [hne, w1, w2, n1, n2, n3, hi, hx, hx0]
theorem getR_ge {rl p : List Int} {a : Int} (hp : p.length = rl.length + 1) (ha : InS rl a) : (ixI rl.length a).toNat < p.length := by
  have := ixI_b ha; omega
theorem getR_get {rl p : List Int} {a : Int} (hp : p.length = rl.length + 1) (ha : InS rl a) : p[(ixI rl.length a).toNat]'(getR_ge hp ha) = getR p rl.length a := by
  unfold getR
  rw [List.getD_eq_getElem?_getD, List.getElem?_eq_getElem (getR_ge hp ha)]; rfl
set_option maxRecDepth 20000 in
theorem alike_code {lk lim : Nat} {H : Heap} (nx rl : List Int) (ok : TOk nx rl) {p : List Int} {b0 : Nat} (hp : p.length = rl.length + 1) (g : H[b0]? = some (.cells (ints p))) (a b : Int) (ha : InS rl a) (hb : InS rl b) :
    callW X A lk lim 58 [.agg (Dv nx rl), .hs b0 p.length 0 p.length 1, I (ixI rl.length a), I (ixI rl.length b)] H = some (Bo (decide (keyQ nx p rl.length a = keyQ nx p rl.length b)), H) := by
  have hm := ok.most
  have ia := ixI_b ha
  have ib := ixI_b hb
  have la := getR_ge hp ha
  have lb := getR_ge hp hb
  have va := getR_get hp ha
  have vb := getR_get hp hb
  have kt := fun (K L : Nat) (c : Nat) (hc : c < 256) (x : Int) (hx : InS rl x) => to2_code (lk := K) (lim := L) (H := H) nx rl ok x hx c hc
  have ka := keyQ_eq (nx := nx) (p := p) (n := rl.length) (a := a) (b := b)
  obtain ⟨r, hr⟩ : ∃ r, decide (keyQ nx p rl.length a = keyQ nx p rl.length b) = r := ⟨_, rfl⟩
  rw [hr]
  refine wb_callB [4] rfl A58 rfl rfl ?_
  unfold t58B
  generalize callW X A = C at kt ⊢
  have pa : ixI rl.length a < (p.length : Int) := by omega
  have pb : ixI rl.length b < (p.length : Int) := by omega
  obtain ⟨x, hx⟩ : ∃ x, getR p rl.length a = x := ⟨_, rfl⟩
  obtain ⟨y, hy⟩ : ∃ y, getR p rl.length b = y := ⟨_, rfl⟩
  rw [hx] at va
  rw [hy] at vb
  by_cases hxy : x = y
  case neg =>
    have e : r = false := by
      rw [← hr]; exact decide_eq_false fun h => hxy (by rw [← hx, ← hy]; exact (ka.1 h).1)
    have e1 : (x == y) = false := by rw [beq_eq_false_iff_ne]; exact hxy
    have e2 : (x != y) = true := by rw [bne_iff_ne]; exact hxy
    subst e
    simp [g, ia.1, ib.1, pa, pb, va, vb, la, lb, e1, e2]
  subst hxy
  simp [-wb_regN, -wb_regD]
  rw [wb_regN]
  simp [-wb_regN, -wb_regD]
  rw [wb_regD rfl]
  simp [-wb_regN, -wb_regD, g, ia.1, ib.1, pa, pb, va, vb, la, lb]
  rw [wb_regN]
  simp [-wb_regN, -wb_regD]
  let bx : AV := .box (Dv nx rl)
  let sl : AV := .hs b0 p.length 0 p.length 1
  refine wb_loop (σ := Nat) (fun c => [(1, sl), (2, I (ixI rl.length a)), (3, I (ixI rl.length b)), (4, bx), (9, I c)]) (fun _ => H) (fun c => c ≤ 256 ∧ ∀ d, d < c → getR p rl.length (toV nx a d) = getR p rl.length (toV nx b d)) (fun c => 256 - c) ?_ 0 ⟨Nat.zero_le _, fun d hd => by omega⟩ (by simp [bx, sl]) rfl
  rintro c ⟨hc, hinv⟩
  unfold t58L1
  have w1 : IntKind.i64.wrap ((c : Int) + 1) = (c : Int) + 1 := wrap64 (by omega) (by omega)
  by_cases hcl : c < 256
  case pos =>
    have hcI : (c : Int) < 256 := by omega
    have ta := toV_inN ok ha hcl
    have tb := toV_inN ok hb hcl
    have k1 := fun K L => kt K L c hcl a ha
    have k2 := fun K L => kt K L c hcl b hb
    have ja := ixI_b ta
    have jb := ixI_b tb
    have ma := getR_ge hp ta
    have mb := getR_ge hp tb
    have ua := getR_get hp ta
    have ub := getR_get hp tb
    have qa : ixI rl.length (toV nx a c) < (p.length : Int) := by omega
    have qb : ixI rl.length (toV nx b c) < (p.length : Int) := by omega
    obtain ⟨u, hu⟩ : ∃ u, getR p rl.length (toV nx a c) = u := ⟨_, rfl⟩
    obtain ⟨v, hv⟩ : ∃ v, getR p rl.length (toV nx b c) = v := ⟨_, rfl⟩
    rw [hu] at ua
    rw [hv] at ub
    simp [-wb_regN, -wb_regD, bx, sl]
    rw [wb_regN]
    simp [-wb_regN, -wb_regD, hcI]
    rw [wb_regD rfl]
    by_cases huv : u = v
    · subst huv
      simp [-wb_regN, -wb_regD, k1, k2, g, ja.1, jb.1, qa, qb, ma, mb, ua, ub]
      rw [wb_regN]
      simp [-wb_regN, -wb_regD, w1]
      rw [rnd_nrm]
      refine ⟨c + 1, ⟨hcl, fun d hd => ?_⟩, by omega, by simp [bx, sl], rfl⟩
      by_cases e : d = c
      · subst e; rw [hu, hv]
      · exact hinv d (by omega)
    · have e : r = false := by
        rw [← hr]
        refine decide_eq_false fun h => huv ?_
        have := (ka.1 h).2 (UInt8.ofNat c)
        rw [show (UInt8.ofNat c).toNat = c by rw [UInt8.toNat_ofNat', Nat.mod_eq_of_lt (by omega)]] at this
        rw [← hu, ← hv]; exact this
      have e1 : (u == v) = false := by rw [beq_eq_false_iff_ne]; exact huv
      have e2 : (u != v) = true := by rw [bne_iff_ne]; exact huv
      subst e
      simp [-wb_regN, -wb_regD, k1, k2, g, ja.1, jb.1, qa, qb, ma, mb, ua, ub, e1, e2]
      rw [wb_regN]
      simp
  obtain rfl : c = 256 := by omega
  have e : r = true := by
    rw [← hr]
    refine decide_eq_true (ka.2 ⟨by rw [hx, hy], fun d => hinv d.toNat d.toNat_lt⟩)
  subst e
  simp [bx, sl]
end Go.Proofs.Ytdbbaopgmapmaaa
