import Derived.Test.YtmehaecclidfjaaV
set_option linter.unusedSimpArgs false
set_option linter.unusedVariables false
namespace Go.Proofs.Ytmehaecclidfjaa
open Go Go.Hm

set_option maxRecDepth 20000 in
/-- The example, its heap kept. -/
theorem lives_okG {H : Heap} : ∃ H', callW X A 0 0 1008 [] H = some (Bo true, H') ∧ H.length ≤ H'.length ∧ ∀ c, c < H.length → H'[c]? = H[c]? := by
  obtain ⟨H1, ns, k1, t1, e1, w1, f1⟩ := new_code (H := H) (s := [97, 98, 99]) (by decide)
  have z0 : Sz ([97, 98, 99] : List UInt8) [] := ⟨by decide, by decide⟩
  obtain ⟨H2, k2, cm', ns', t2, e2, f2, -, c2⟩ := edit_code (a := 1) (d := 1) (x := [120, 121]) (⟨by decide, by decide⟩) t1 (by rw [e1]; decide)
  rw [e1] at k2 t2 e2
  have q1 : editE ([97, 98, 99] : List UInt8) 1 1 [120, 121] = 0 := by decide
  have q2 : editV ([97, 98, 99] : List UInt8) 1 1 [120, 121] = [97, 120, 121, 99] := by decide
  rw [q1] at k2
  rw [q2] at t2 e2
  have z2 : Sz ([97, 98, 99] : List UInt8) cm' := ⟨by decide, by simp at c2; omega⟩
  have l2 := cnt_le t2.ok
  rw [e2] at l2
  have k3 := text_code (lk := 0) (lim := 0) (Nat.zero_le _) z2 t2 (Nat.le_trans l2 (by decide)) (by rw [e2]; decide)
  rw [e2] at k3
  have k4 := len_code (lk := 0) (lim := 0) t2
  have hH : ∀ c, c < H.length → H2[c]? = H[c]? := by
    intro c hc
    rw [f2.2 c (by have := f1.1; omega) (by
      intro hm
      rcases List.mem_cons.1 hm with h | h
      · omega
      · obtain ⟨n, hn, h⟩ := List.mem_map.1 h
        have := w1 n hn
        omega), f1.2 c hc (by simp)]
  have k1 : callW X A 0 0 11 [.val (.string ⟨#[97, 98, 99]⟩)] H = some (.tup [.hp H.length 4 0, I 0], H1) := k1
  have k2 : callW X A 0 0 12 [.hp H.length 4 0, I 1, I 1, .val (.string ⟨#[120, 121]⟩)] H1 = some (I 0, H2) := k2
  have k3 : callW X A 0 0 13 [.hp H.length 4 0] H2 = some (Sg [97, 120, 121, 99], H2) := k3
  have k4 : callW X A 0 0 17 [.hp H.length 4 0] H2 = some (I 4, H2) := k4
  have ee : abins .eql ⟨⟨[97, 120, 121, 99]⟩⟩ ⟨#[97, 120, 121, 99]⟩ = some (Bo true) := sg_eql [97, 120, 121, 99] [97, 120, 121, 99]
  refine ⟨H2, ?_, Nat.le_trans f1.1 f2.1, hH⟩
  refine wb_callB [] rfl A1008 rfl rfl ?_
  unfold t1008B
  generalize callW X A = C at k1 k2 k3 k4 ⊢
  simp [-wb_regN]
  rw [wb_regN]
  simp [-wb_regN]
  rw [wb_regN]
  simp [-wb_regN, k1]
  rw [wb_regN]
  simp [-wb_regN, eqPtr, isPtr]
  rw [wb_regN]
  simp [-wb_regN, k2]
  rw [wb_regN]
  simp [k3, k4, ee]

/-! ### A table beside blocks that are kept -/
def TG (H : Heap) (b : Nat) (s : List UInt8) (m : Nat) (K : List Nat) : Prop :=
  s.length ≤ 65536 ∧ ∃ fs cm ns, TB H b fs cm ns s.length ∧ alls fs cm ns = s ∧ fs.length ≤ 65536 ∧ cm.length ≤ m ∧ ∀ k ∈ K, k < H.length ∧ k ∉ b :: ns.map (·.b)
theorem TG.tx {H : Heap} {b : Nat} {s : List UInt8} {m : Nat} {K : List Nat} (h : TG H b s m K) : TX H b s m := by
  obtain ⟨h1, fs, cm, ns, h2, h3, h4, h5, _⟩ := h
  exact ⟨h1, fs, cm, ns, h2, h3, h4, h5⟩
theorem TG.mono {H : Heap} {b : Nat} {s : List UInt8} {m m' : Nat} {K : List Nat} (h : TG H b s m K) (hm : m ≤ m') : TG H b s m' K := by
  obtain ⟨u1, fs, cm, ns, u2, u3, u4, u5, u6⟩ := h
  exact ⟨u1, fs, cm, ns, u2, u3, u4, by omega, u6⟩
theorem TG.app {H : Heap} {b : Nat} {s : List UInt8} {m : Nat} {K : List Nat} (h : TG H b s m K) (X : Heap) (K' : List Nat) (hK : ∀ k ∈ K', k ∈ K ∨ (H.length ≤ k ∧ k < H.length + X.length)) : TG (H ++ X) b s m K' := by
  obtain ⟨u1, fs, cm, ns, u2, u3, u4, u5, u6⟩ := h
  have hlt := tb_lt u2
  refine ⟨u1, fs, cm, ns, ⟨?_, lst_same u2.lst fun n hn => List.getElem?_append_left (lst_lt u2.lst n hn), u2.nd, u2.ok⟩, u3, u4, u5, fun k hk => ?_⟩
  · rw [List.getElem?_append_left hlt.1]
    exact u2.tab
  · rw [List.length_append]
    rcases hK k hk with h | ⟨h1, h2⟩
    · exact ⟨by have := (u6 k h).1; omega, (u6 k h).2⟩
    · refine ⟨h2, fun hm => ?_⟩
      rcases List.mem_cons.1 hm with e | hm
      · have := hlt.1; omega
      · obtain ⟨n, hn, e⟩ := List.mem_map.1 hm
        have := lst_lt u2.lst n hn
        omega
theorem TG.set {H : Heap} {b : Nat} {s : List UInt8} {m k : Nat} {K : List Nat} (h : TG H b s m K) (hk : k ∈ K) (x : HB) : TG (H.set k x) b s m K := by
  obtain ⟨u1, fs, cm, ns, u2, u3, u4, u5, u6⟩ := h
  have hn := (u6 k hk).2
  refine ⟨u1, fs, cm, ns, ⟨?_, lst_same u2.lst fun n hn' => List.getElem?_set_ne (fun e => hn (by rw [e]; exact List.mem_cons_of_mem _ (List.mem_map_of_mem hn'))), u2.nd, u2.ok⟩, u3, u4, u5, fun k' hk' => ?_⟩
  · rw [List.getElem?_set_ne (fun e => hn (by rw [e]; exact List.mem_cons_self ..))]
    exact u2.tab
  · rw [List.length_set]; exact u6 k' hk'
theorem tg_new {H : Heap} {s : List UInt8} (K : List Nat) (hK : ∀ k ∈ K, k < H.length) (h : s.length ≤ 65536) : ∃ H', callW X A 0 0 11 [Sg s] H = some (.tup [.hp H.length 4 0, I 0], H') ∧ TG H' H.length s 0 K ∧ H.length < H'.length ∧ ∀ c, c < H.length → H'[c]? = H[c]? := by
  obtain ⟨H', ns, h1, h2, h3, h4, h5⟩ := new_code (H := H) h
  rw [h3] at h2
  refine ⟨H', h1, ⟨h, s, [], ns, h2, h3, h, Nat.le_refl _, fun k hk => ⟨by have := hK k hk; have := h5.1; omega, fun hm => ?_⟩⟩, (tb_lt h2).1, fun c hc => h5.2 c hc (by simp)⟩
  have := hK k hk
  rcases List.mem_cons.1 hm with e | hm
  · omega
  · obtain ⟨n, hn, e⟩ := List.mem_map.1 hm
    have := h4 n hn
    omega
theorem tg_edit {H : Heap} {b : Nat} {s : List UInt8} {m : Nat} {a d : Int} {x : List UInt8} {K : List Nat} (h : TG H b s m K) (hm : m + x.length ≤ 1000000000000) :
    ∃ H', callW X A 0 0 12 [.hp b 4 0, I a, I d, Sg x] H = some (I (editE s a d x), H') ∧ TG H' b (editV s a d x) (m + x.length) K ∧ H.length ≤ H'.length ∧ ∀ k ∈ K, H'[k]? = H[k]? := by
  obtain ⟨hs, fs, cm, ns, h1, rfl, h3, h4, h6⟩ := h
  obtain ⟨H', k, cm', ns', t1, t2, f1, f2, t5⟩ := edit_code (a := a) (d := d) (x := x) ⟨by omega, by omega⟩ h1 hs
  refine ⟨H', k, ⟨editV_len hs, fs, cm', ns', t1, t2, h3, by omega, fun k hk => ?_⟩, f1.1, fun k hk => f1.2 k (h6 k hk).1 (h6 k hk).2⟩
  have hk6 := h6 k hk
  refine ⟨by have := f1.1; omega, fun hm => ?_⟩
  rcases List.mem_cons.1 hm with e | hm
  · exact hk6.2 (by rw [e]; exact List.mem_cons_self ..)
  · obtain ⟨n, hn, e⟩ := List.mem_map.1 hm
    rcases f2 n hn with g | g
    · exact hk6.2 (by rw [← e]; exact List.mem_cons_of_mem _ g)
    · omega
end Go.Proofs.Ytmehaecclidfjaa
