import Derived.Test.YtdbbaopgmapmaaaK
set_option linter.unusedSimpArgs false
set_option linter.unusedVariables false
namespace Go.Proofs.Ytdbbaopgmapmaaa
open Go Go.Hm
theorem Sg_ge (l : List UInt8) (i : Nat) (h : i < (⟨⟨l⟩⟩ : ByteArray).size) : (⟨⟨l⟩⟩ : ByteArray)[i]'h = l[i]'h := rfl
theorem nxA_lt {nx rl : List Int} (ok : TOk nx rl) (st : Int) (b : UInt8) : nxA nx st b < rl.length := by
  unfold nxA
  have h0 := ok.one
  rw [List.getD_eq_getElem?_getD]
  by_cases h : 256 * st.toNat + b.toNat < nx.length
  · rw [List.getElem?_eq_getElem h]
    exact (ok.nxb _ (List.getElem_mem h)).2
  · rw [List.getElem?_eq_none (by omega)]
    simp; omega
/-! ### What a text leads to -/
def stM (nx : List Int) : List UInt8 → Int → Int
  | [], st => st
  | b :: l, st => if nxA nx st b < 0 then -1 else stM nx l (nxA nx st b)
def runM (nx rl : List Int) (l : List UInt8) : Int := if stM nx l 0 < 0 then -1 else rlA rl (stM nx l 0)
theorem stM_b {nx rl : List Int} (ok : TOk nx rl) : ∀ (l : List UInt8) (st : Int), st < rl.length → stM nx l st < rl.length
  | [], _, h => h
  | b :: l, st, h => by
    simp only [stM]
    split
    · omega
    · exact stM_b ok l _ (nxA_lt ok st b)
theorem nxA_ge {nx rl : List Int} (ok : TOk nx rl) (st : Int) (b : UInt8) : -1 ≤ nxA nx st b := by
  unfold nxA
  rw [List.getD_eq_getElem?_getD]
  by_cases h : 256 * st.toNat + b.toNat < nx.length
  · rw [List.getElem?_eq_getElem h]
    exact (ok.nxb _ (List.getElem_mem h)).1
  · rw [List.getElem?_eq_none (by omega)]
    simp
theorem rlA_of {rl : List Int} {v : Nat} {q : Int} (h : v < rl.length) (hq : rl[v] = q) : rlA rl v = q := by simp [rlA, h, hq]
set_option maxRecDepth 20000 in
theorem run_code {lk lim : Nat} {H : Heap} (nx rl : List Int) (l : List UInt8) (c3 : chk nx rl = true) (h3 : l.length ≤ 1000000) : callW X A lk lim 15 [.agg (Dv nx rl), Sg l] H = some (I (runM nx rl l), H) := by
  have ok := (chk_ok c3).1
  have h512 := (chk_ok c3).2.1
  have hlen := ok.len
  have kc := check_code (lk := lk) (lim := H.length) (H := H) nx rl (by omega) (by omega)
  rw [chkE_pos c3] at kc
  refine wb_callB [2] rfl A15 rfl rfl ?_
  unfold t15B
  simp [kc]
  let bx : AV := .box (Dv nx rl)
  refine wb_loop (σ := Nat × Int) (fun s => [(1, Sg l), (2, bx), (5, I s.2), (6, I s.1)])
    (fun _ => H) (fun s => s.1 ≤ l.length ∧ -1 ≤ s.2 ∧ s.2 < rl.length ∧ stM nx l 0 = if s.2 < 0 then -1 else stM nx (l.drop s.1) s.2)
    (fun s => l.length - s.1) ?_ (0, 0) ⟨by simp, by simp, by have := ok.one; simp only; omega, by simp⟩ (by simp [bx]) rfl
  rintro ⟨i, st⟩ ⟨hi, hs1, hs2, hinv⟩
  simp only at hi hs1 hs2 hinv
  unfold t15L1
  have w1 : IntKind.i64.wrap ((i : Int) + 1) = (i : Int) + 1 := wrap64 (by omega) (by omega)
  have fin : ∀ v : Int, stM nx l 0 = v → v < 0 → runM nx rl l = -1 := fun v h1 h2 => by unfold runM; rw [h1, if_pos h2]
  have fin2 : ∀ v : Int, stM nx l 0 = v → ¬ v < 0 → runM nx rl l = rlA rl v := fun v h1 h2 => by unfold runM; rw [h1, if_neg h2]
  by_cases hs0 : st < 0
  · rw [if_pos hs0] at hinv
    have hr := fin _ hinv (by omega)
    have hs0' : ¬ 0 ≤ st := by omega
    by_cases hil : i < l.length
    · simp [bx, Sg_size, hil, hs0, hs0', hr]
    · simp [bx, Sg_size, hil, hs0, hs0', hr]
  rw [if_neg hs0] at hinv
  obtain ⟨st, rfl⟩ := Int.eq_ofNat_of_zero_le (by omega : 0 ≤ st)
  have hst : st < rl.length := by omega
  by_cases hil : i < l.length
  case neg =>
    obtain rfl : i = l.length := by omega
    rw [List.drop_length] at hinv
    have hr := fin2 _ hinv (by simp only [stM]; omega)
    simp only [stM] at hr
    obtain ⟨q, hq⟩ : ∃ q, rl[st] = q := ⟨_, rfl⟩
    rw [rlA_of hst hq] at hr
    simp [bx, Sg_size, hs0, hst, hq, hr]
  obtain ⟨b, hb⟩ : ∃ b, l[i] = b := ⟨_, rfl⟩
  rw [List.drop_eq_getElem_cons hil, hb] at hinv
  simp only [stM] at hinv
  have hb256 : b.toNat < 256 := b.toNat_lt
  have hix : 256 * st + b.toNat < nx.length := by rw [ok.len]; omega
  obtain ⟨v, hv⟩ : ∃ v, nx[256 * st + b.toNat] = v := ⟨_, rfl⟩
  have hvb := ok.nxb v (hv ▸ List.getElem_mem hix)
  have w5 : IntKind.i64.wrap (256 * (st : Int)) = 256 * (st : Int) := wrap64 (by omega) (by omega)
  have w6 : IntKind.i64.wrap (b.toNat : Int) = b.toNat := wrap64 (by omega) (by omega)
  have w7 : IntKind.i64.wrap (256 * (st : Int) + b.toNat) = 256 * (st : Int) + b.toNat := wrap64 (by omega) (by omega)
  have w8 : (256 * (st : Int) + b.toNat).toNat = 256 * st + b.toNat := by omega
  have w9 : 0 ≤ 256 * (st : Int) + b.toNat := by omega
  have w10 : 256 * (st : Int) + b.toNat < nx.length := by omega
  have hn : nxA nx st b = v := by
    simp [nxA, hix, hv]
  rw [hn] at hinv
  simp [bx, Sg_size, Sg_get, Sg_ge, w1, hil, hb, w5, w6, w7, w8, w9, w10, hix, hv, rnd_nrm]
  exact ⟨i + 1, v, ⟨by omega, by omega, by omega, hinv⟩, by omega, by simp⟩

theorem stM_app (nx : List Int) : ∀ (l : List UInt8) (b : UInt8) (st : Int), 0 ≤ st → stM nx (l ++ [b]) st = if stM nx l st < 0 then -1 else if nxA nx (stM nx l st) b < 0 then -1 else nxA nx (stM nx l st) b
  | [], b, st, h => by 
    show (if nxA nx st b < 0 then -1 else nxA nx st b) = if st < 0 then -1 else if nxA nx st b < 0 then -1 else nxA nx st b
    rw [if_neg (by omega : ¬ st < 0)]
  | a :: l, b, st, h => by
    simp only [List.cons_append, stM]
    split
    · simp
    · rename_i h2
      exact stM_app nx l b _ (by omega)
theorem stM_dead (nx : List Int) : ∀ (p q : List UInt8) (st : Int), 0 ≤ st → stM nx p st < 0 → stM nx (p ++ q) st < 0
  | [], q, st, h, h2 => by simp only [stM] at h2; omega
  | a :: p, q, st, h, h2 => by
    simp only [List.cons_append, stM] at h2 ⊢
    split
    · omega
    · rename_i h3
      rw [if_neg h3] at h2
      exact stM_dead nx p q _ (by omega) h2
end Go.Proofs.Ytdbbaopgmapmaaa
