import Derived.Test.YtpaocofhpdmjpaaGF
set_option linter.unusedSimpArgs false
set_option linter.unusedVariables false
namespace Go.Proofs.Ytpaocofhpdmjpaa
open Go Go.Hm

def seqAt : Nat → AC → AC
  | n + 1, .seq _ b => seqAt n b
  | _, a => a
def setTail : Nat → AC → AC → AC
  | 0, _, R => R
  | n + 1, .seq a b, R => .seq a (setTail n b R)
  | _, a, _ => a
def t3R : AC := seqAt 6 t3B
theorem cat_nil (k : Nat) (b : List (List UInt8)) : cat k [] b = [] := by
  unfold cat
  split <;> rfl
theorem light_len {l : List (List UInt8)} (h : rightB l = true) : l.length ≤ 2000000 ∧ ∀ x ∈ l, x.length ≤ 1000000 := by
  obtain ⟨h1, h2⟩ := right_light h
  exact ⟨by omega, fun x hx => by have := h2 x hx; omega⟩
theorem cat_sz {k : Nat} {a b : List (List UInt8)} (hk : k ≤ 4) (ha : a.length ≤ 1000) (hb : b.length ≤ 1000) : (cat k a b).length ≤ 2000000 ∧ ∀ x ∈ cat k a b, x.length ≤ 1000000 := by
  refine ⟨?_, fun x hx => by have := cat_len x hx; omega⟩
  unfold cat
  split
  · simp
  · rename_i hb0
    have h1 := up_sub (up_norm (catL k a b)) (up_norm (catL k a b)) (fun _ h => h)
    have h2 : (norm (catL k a b)).length ≤ (catL k a b).length := norm_le _
    have h3 := catL_len k b hb0 a
    have h4 : a.length * b.length ≤ 1000 * 1000 := Nat.mul_le_mul ha hb
    omega
set_option maxRecDepth 20000 in
set_option maxHeartbeats 2000000 in
theorem cats_code (a b c : List (List UInt8)) (k : Int) (la : LR a) (lb : LR b) (lc : LR c) : callW X A 0 0 3 [rowsV a, rowsV b, rowsV c, I k] [] = some (Bo true, []) := by
  have kr := fun (L : Nat) (l : List (List UInt8)) (hl : LR l) => right_code (lk := 0) (lim := L) (H := []) hl
  have k10 := lives_ok
  have kc := fun (L : Nat) (va vb : AV) (a b : List (List UInt8)) (h1 : RV va a) (h2 : RV vb b) h3 h4 h5 h6 => cat_code (lk := 0) (lim := L) (H := []) (Nat.le_refl _) k h1 h2 h3 h4 h5 h6
  have ku := fun (L : Nat) (va vb : AV) (a b : List (List UInt8)) (ha : RV va a) (hb : RV vb b) h => union_code (lk := 0) (lim := L) (H := []) ha hb h
  have ks := fun (L : Nat) (va vb : AV) (a b : List (List UInt8)) (ha : RV va a) (hb : RV vb b) h => same_code (lk := 0) (lim := L) (H := []) ha hb h
  have kh := fun (L : Nat) (v : AV) (l : List (List UInt8)) (hv : RV v l) x h => has_code (lk := 0) (lim := L) (H := []) hv x h
  refine wb_callB [] rfl A3 rfl rfl ?_
  rw [show t3B = setTail 6 t3B t3R from rfl]
  simp only [t3B, setTail]
  generalize callW X A = C at kr k10 kc ku ks kh ⊢
  have kra := fun L => kr L a la
  have krb := fun L => kr L b lb
  have krc := fun L => kr L c lc
  cases ga : rightB a with
  | false => rw [ga] at kra; simp [k10, kra]
  | true =>
  cases gb : rightB b with
  | false => rw [ga] at kra; rw [gb] at krb; simp [k10, kra, krb]
  | true =>
  cases gc : rightB c with
  | false => rw [ga] at kra; rw [gb] at krb; rw [gc] at krc; simp [k10, kra, krb, krc]
  | true =>
  rw [ga] at kra; rw [gb] at krb; rw [gc] at krc
  by_cases hk1 : k < 1
  · simp [k10, kra, krb, krc, hk1]
  by_cases hk4 : 4 < k
  · simp [k10, kra, krb, krc, hk1, hk4]
  obtain ⟨k, rfl⟩ := Int.eq_ofNat_of_zero_le (by omega : 0 ≤ k)
  have hk : k ≤ 4 := by omega
  obtain ⟨ra, sa⟩ := right_light ga
  obtain ⟨rb, sb⟩ := right_light gb
  obtain ⟨rc, sc⟩ := right_light gc
  have tail : WB ⟨C, 0, 0, []⟩ t3R (FinT [.tmp 8] true [] (Bo true, [])) [(0, rowsV a), (1, rowsV b), (2, rowsV c), (3, I k)] [] := by
    have hup := up_cat k a [[]]
    have hcl := fun x hx => cat_len (k := k) (a := a) (b := [[]]) x hx
    have zcut := cat_sz (k := k) (a := a) (b := [[]]) hk (by omega) (by simp)
    have hmem := fun z => mem_cut (k := k) (a := a) (z := z)
    have Kc := fun L => kc L (rowsV a) (rowsV [[]]) a [[]] (.inl rfl) (.inl rfl) (by omega) (by simp) (fun x hx => by have := sa x hx; omega) (by simp)
    have Kd := fun L => kc L (rowsV (cat k a [[]])) (rowsV [[]]) (cat k a [[]]) [[]] (.inl rfl) (.inl rfl) zcut.1 (by simp) zcut.2 (by simp)
    have ecc := cut_cut k a
    have ec1 : ∀ d, catV k d [[]] = rowsV (cat k d [[]]) := fun d => if_neg (by simp)
    simp only [Int.toNat_natCast] at Kc Kd
    rw [ec1] at Kc Kd
    rw [ecc] at Kd
    have eb : rowsV [[]] = .sl 1 [Sg []] := rfl
    rw [eb] at Kc Kd
    have Kh := fun L x => kh L (rowsV (cat k a [[]])) (cat k a [[]]) (.inl rfl) x (by have := zcut.1; omega)
    have Ks := fun L => ks L (rowsV (cat k a [[]])) (rowsV (cat k a [[]])) _ _ (.inl rfl) (.inl rfl) (by have := zcut.1; omega)
    rw [decide_eq_true rfl] at Ks
    have zl := zcut.1
    unfold t3R t3B
    simp only [seqAt]
    generalize cat k a [[]] = cut at *
    simp [Kc]
    refine wb_loop (σ := Nat) (fun i => [(0, rowsV a), (1, rowsV b), (2, rowsV c), (3, I k), (11, rowsV cut), (12, I i)]) (fun _ => []) (fun i => i ≤ cut.length) (fun i => cut.length - i) ?_ 0 (by omega) (by simp [restrict, find]) rfl
    intro i hi
    unfold t3L1
    by_cases hil : i < cut.length
    · have w1 : IntKind.i64.wrap ((i : Int) + 1) = (i : Int) + 1 := wrap64 (by omega) (by omega)
      have ga := rowsB_getE hil
      have hx := hcl _ (List.getElem_mem hil)
      have hx' : ¬ k < cut[i].length := by omega
      by_cases h0 : i = 0
      · subst h0
        generalize cut[0] = x at ga hx hx'
        simp [hil, ga, Sg_size, hx', rnd_nrm]
        exact ⟨1, by omega, by omega, by decide⟩
      · obtain ⟨j, hj⟩ : ∃ j, j + 1 = i := ⟨i - 1, by omega⟩
        have hjl : j < cut.length := by omega
        have gj := rowsB_getE hjl
        have hlt := List.pairwise_iff_getElem.1 hup j i hjl hil (by omega)
        have w2 : IntKind.i64.wrap ((i : Int) - 1) = (j : Int) := by rw [wrap64 (by omega) (by omega)]; omega
        have hp : 0 < i := by omega
        generalize cut[i] = x at ga hx hx' hlt
        generalize cut[j] = y at gj hlt
        have hge := sg_geq y x
        rw [hlt] at hge
        simp [hil, hjl, ga, gj, Sg_size, hx', w2, hp, hge, w1, rnd_nrm]
        exact ⟨i + 1, by omega, by omega, by omega⟩
    · obtain rfl : i = cut.length := by omega
      simp
      refine wb_loop (σ := Nat) (fun i => [(0, rowsV a), (1, rowsV b), (2, rowsV c), (3, I k), (11, rowsV cut), (13, I i)]) (fun _ => []) (fun i => i ≤ a.length) (fun i => a.length - i) ?_ 0 (by omega) (by simp [restrict, find]) rfl
      intro i hi
      unfold t3L2
      by_cases hil : i < a.length
      · have w1 : IntKind.i64.wrap ((i : Int) + 1) = (i : Int) + 1 := wrap64 (by omega) (by omega)
        have ga := rowsB_getE hil
        have hm := (hmem (a[i].take k)).2 ⟨_, List.getElem_mem hil, rfl⟩
        generalize a[i] = x at ga hm
        have hmx : mmFold false [I (x.length : Int)] .i64 k = some (.i64, ((min k x.length : Nat) : Int)) := by
          simp [mmFold]; omega
        have hmk : min k x.length ≤ x.length := Nat.min_le_right ..
        have htk := take_min k x
        have Kh1 := fun L => Kh L (x.take k)
        rw [hasV_iff.2 hm] at Kh1
        generalize min k x.length = m at hmx hmk htk
        simp [hil, ga, Sg_size, hmx, Sg_ext, htk, Kh1, w1, rnd_nrm, hmk, bnd]
        exact ⟨i + 1, by omega, by omega, by omega⟩
      · obtain rfl : i = a.length := by omega
        have zab : a.length + b.length ≤ 12 := by omega
        have Ku := fun L => ku L (rowsV a) (rowsV b) a b (.inl rfl) (.inl rfl) (by omega)
        have hul : (uni a b).length ≤ 12 := by
          have := norm_le (a ++ b)
          rw [List.length_append] at this
          unfold uni; omega
        have hus : ∀ x ∈ uni a b, x.length ≤ 1000000 := fun x hx => by
          rcases mem_uni.1 hx with h | h
          · have := sa x h; omega
          · have := sb x h; omega
        have K6 := fun L => kc L (rowsV a) (rowsV c) a c (.inl rfl) (.inl rfl) (by omega) (by omega) (fun x hx => by have := sa x hx; omega) (fun x hx => by have := sc x hx; omega)
        have K7 := fun L => kc L (rowsV b) (rowsV c) b c (.inl rfl) (.inl rfl) (by omega) (by omega) (fun x hx => by have := sb x hx; omega) (fun x hx => by have := sc x hx; omega)
        have K8 := fun L => kc L (rowsV (uni a b)) (rowsV c) (uni a b) c (.inl rfl) (.inl rfl) (by omega) (by omega) hus (fun x hx => by have := sc x hx; omega)
        simp only [Int.toNat_natCast] at K6 K7 K8
        have z6 := cat_sz (k := k) (a := a) (b := c) hk (by omega) (by omega)
        have z7 := cat_sz (k := k) (a := b) (b := c) hk (by omega) (by omega)
        have K9 := fun L => ku L (catV k a c) (catV k b c) _ _ (RV.cat ..) (RV.cat ..) (Nat.le_trans (Nat.add_le_add z6.1 z7.1) (by decide))
        have zz : (uni (cat k a c) (cat k b c)).length ≤ 1000000000 := by
          have := norm_le (cat k a c ++ cat k b c)
          rw [List.length_append] at this
          have := z6.1; have := z7.1
          unfold uni; omega
        have K10 := fun L => ks L (rowsV (uni (cat k a c) (cat k b c))) (catV k (uni a b) c) _ _ (.inl rfl) (RV.cat ..) zz
        rw [cat_uni, decide_eq_true rfl] at K10
        rw [cat_uni] at K9
        have e6 : catV k a c = if c = [] then .e0 else rowsV (cat k a c) := rfl
        have e7 : catV k b c = if c = [] then .e0 else rowsV (cat k b c) := rfl
        have e8 : catV k (uni a b) c = if c = [] then .e0 else rowsV (cat k (uni a b) c) := rfl
        by_cases hc0 : c = []
        · rw [if_pos hc0] at e6 e7 e8
          rw [e6] at K6 K9; rw [e7] at K7 K9; rw [e8] at K8 K10
          simp [Kd, Ks, K6, K7, K8, K9, K10, Ku]
        · rw [if_neg hc0] at e6 e7 e8
          rw [e6] at K6 K9; rw [e7] at K7 K9; rw [e8] at K8 K10
          simp [Kd, Ks, K6, K7, K8, K9, K10, Ku]
  have K1 := fun L => kc L (rowsV a) (rowsV b) a b (.inl rfl) (.inl rfl) (by omega) (by omega) (fun x hx => by have := sa x hx; omega) (fun x hx => by have := sb x hx; omega)
  have K3 := fun L => kc L (rowsV b) (rowsV c) b c (.inl rfl) (.inl rfl) (by omega) (by omega) (fun x hx => by have := sb x hx; omega) (fun x hx => by have := sc x hx; omega)
  have zab := cat_sz (k := k) (a := a) (b := b) hk (by omega) (by omega)
  have zbc := cat_sz (k := k) (a := b) (b := c) hk (by omega) (by omega)
  have K2 := fun L => kc L (catV k a b) (rowsV c) (cat k a b) c (RV.cat ..) (.inl rfl) zab.1 (by omega) zab.2 (fun x hx => by have := sc x hx; omega)
  have K4 := fun L => kc L (rowsV a) (catV k b c) a (cat k b c) (.inl rfl) (RV.cat ..) (by omega) zbc.1 (fun x hx => by have := sa x hx; omega) zbc.2
  have K5 := fun L => ks L (catV k (cat k a b) c) (catV k a (cat k b c)) _ _ (RV.cat ..) (RV.cat ..) (by
    unfold cat
    split
    · simp
    · have := norm_le (catL k (cat k a b) c)
      have h1 := catL_len k c (by assumption) (cat k a b)
      have h2 : (cat k a b).length * c.length ≤ 2000000 * 6 := Nat.mul_le_mul zab.1 rc
      unfold cat at this h1 h2
      omega)
  rw [cat_assoc, decide_eq_true rfl] at K5
  simp only [Int.toNat_natCast] at K1 K2 K3 K4 K5
  have len0 : ∀ l : List (List UInt8), l = [] → l.length = 0 := fun l h => by rw [h]; rfl
  have len1 : ∀ l : List (List UInt8), l ≠ [] → 0 < l.length := fun l h => List.length_pos_iff.2 h
  have e1 : catV k a b = if b = [] then .e0 else rowsV (cat k a b) := rfl
  have e2 : catV k (cat k a b) c = if c = [] then .e0 else rowsV (cat k (cat k a b) c) := rfl
  have e3 : catV k b c = if c = [] then .e0 else rowsV (cat k b c) := rfl
  have e4 : catV k a (cat k b c) = if cat k b c = [] then .e0 else rowsV (cat k a (cat k b c)) := rfl
  have e5 : b = [] ∨ c = [] → cat k b c = [] := fun h => by
    rcases h with h | h
    · rw [h, cat_nil]
    · rw [h]; rfl
  have e6 : b ≠ [] → c ≠ [] → cat k b c ≠ [] := fun h1 h2 => cat_ne.2 ⟨h1, h2⟩
  by_cases hb0 : b = []
  · rw [if_pos hb0] at e1
    have hbl := len0 b hb0
    by_cases hc0 : c = []
    · rw [if_pos hc0] at e2 e3
      have hcl := len0 c hc0
      rw [if_pos (e5 (.inl hb0))] at e4
      rw [e1] at K1 K2; rw [e2] at K2 K5; rw [e3] at K3 K4; rw [e4] at K4 K5
      by_cases ha0 : a = []
      · have hal := len0 a ha0
        simp [k10, kra, krb, krc, hk1, hk4, K1, K2, K3, K4, K5, hal, hbl, hcl]
        exact tail
      · have hal := len1 a ha0
        simp [k10, kra, krb, krc, hk1, hk4, K1, K2, K3, K4, K5, hal, hbl, hcl]
        exact tail
    · rw [if_neg hc0] at e2 e3
      have hcl := len1 c hc0
      rw [if_pos (e5 (.inl hb0))] at e4
      rw [e1] at K1 K2; rw [e2] at K2 K5; rw [e3] at K3 K4; rw [e4] at K4 K5
      by_cases ha0 : a = []
      · have hal := len0 a ha0
        simp [k10, kra, krb, krc, hk1, hk4, K1, K2, K3, K4, K5, hal, hbl, hcl]
        exact tail
      · have hal := len1 a ha0
        simp [k10, kra, krb, krc, hk1, hk4, K1, K2, K3, K4, K5, hal, hbl, hcl]
        exact tail
  · rw [if_neg hb0] at e1
    have hbl := len1 b hb0
    by_cases hc0 : c = []
    · rw [if_pos hc0] at e2 e3
      have hcl := len0 c hc0
      rw [if_pos (e5 (.inr hc0))] at e4
      rw [e1] at K1 K2; rw [e2] at K2 K5; rw [e3] at K3 K4; rw [e4] at K4 K5
      by_cases ha0 : a = []
      · have hal := len0 a ha0
        simp [k10, kra, krb, krc, hk1, hk4, K1, K2, K3, K4, K5, hal, hbl, hcl]
        exact tail
      · have hal := len1 a ha0
        simp [k10, kra, krb, krc, hk1, hk4, K1, K2, K3, K4, K5, hal, hbl, hcl]
        exact tail
    · rw [if_neg hc0] at e2 e3
      have hcl := len1 c hc0
      rw [if_neg (e6 hb0 hc0)] at e4
      rw [e1] at K1 K2; rw [e2] at K2 K5; rw [e3] at K3 K4; rw [e4] at K4 K5
      by_cases ha0 : a = []
      · have hal := len0 a ha0
        simp [k10, kra, krb, krc, hk1, hk4, K1, K2, K3, K4, K5, hal, hbl, hcl]
        exact tail
      · have hal := len1 a ha0
        simp [k10, kra, krb, krc, hk1, hk4, K1, K2, K3, K4, K5, hal, hbl, hcl]
        exact tail
end Go.Proofs.Ytpaocofhpdmjpaa
