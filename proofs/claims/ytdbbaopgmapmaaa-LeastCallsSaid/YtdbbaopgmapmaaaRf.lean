import Derived.Test.YtdbbaopgmapmaaaRe
set_option linter.unusedSimpArgs false
set_option linter.unusedVariables false
namespace Go.Proofs.Ytdbbaopgmapmaaa
open Go Go.Hm
/-! ### The document's witness -/
theorem end_code {lk lim : Nat} {H : Heap} (nx rl : List Int) (s : Int) (h2 : s < rl.length) : callW X A lk lim 41 [.agg (Dv nx rl), I s] H = some (I (rulV rl s), H) := by
  refine wb_callB [2] rfl A41 rfl rfl ?_
  unfold t41B
  unfold rulV
  by_cases h : s < 0
  · simp [h]
  · obtain ⟨k, rfl⟩ := Int.eq_ofNat_of_zero_le (by omega : 0 ≤ s)
    have hi : k < rl.length := by omega
    obtain ⟨x, hx⟩ : ∃ x, rl[k] = x := ⟨_, rfl⟩
    simp [h, hi, hx]
theorem after_code {lk lim : Nat} {H : Heap} (nx rl : List Int) (ok : TOk nx rl) (s : Int) (h2 : s < rl.length) (c : Nat) (hc : c < 256) : callW X A lk lim 42 [.agg (Dv nx rl), I s, I (c : Int)] H = some (I (toV nx s c), H) := by
  refine wb_callB [3] rfl A42 rfl rfl ?_
  unfold t42B
  unfold toV
  have hl := ok.len
  have hm := ok.most
  by_cases h : s < 0
  · simp [h]
  · obtain ⟨k, rfl⟩ := Int.eq_ofNat_of_zero_le (by omega : 0 ≤ s)
    have w1 : IntKind.i64.wrap (256 * (k : Int)) = 256 * (k : Int) := wrap64 (by omega) (by omega)
    have w2 : IntKind.i64.wrap (256 * (k : Int) + (c : Int)) = 256 * (k : Int) + (c : Int) := wrap64 (by omega) (by omega)
    have e1 : (256 * (k : Int) + (c : Int)).toNat = 256 * k + c := by omega
    have e2 : 0 ≤ 256 * (k : Int) + (c : Int) := by omega
    have e3 : 256 * (k : Int) + (c : Int) < (nx.length : Int) := by omega
    have hi : 256 * k + c < nx.length := by omega
    obtain ⟨x, hx⟩ : ∃ x, nx[256 * k + c] = x := ⟨_, rfl⟩
    simp [h, w1, w2, e1, e2, e3, hi, hx]
/-! Its row of pairs with texts. -/
abbrev P3 := Int × Int × List UInt8
def c3 (l : List P3) : List AV := l.flatMap fun x => [I x.1, I x.2.1, Sg x.2.2]
theorem c3_len : ∀ l : List P3, (c3 l).length = l.length * 3
  | [] => rfl
  | x :: l => by
    have ih := c3_len l
    unfold c3 at ih ⊢
    rw [List.flatMap_cons, List.length_append, ih]; simp; omega
theorem c3_app (l m : List P3) : c3 (l ++ m) = c3 l ++ c3 m := by unfold c3; rw [List.flatMap_append]
theorem c3_get : ∀ {l : List P3} {k : Nat} (h : k < l.length), (c3 l)[k * 3]? = some (I l[k].1) ∧ (c3 l)[k * 3 + 1]? = some (I l[k].2.1) ∧ (c3 l)[k * 3 + 2]? = some (Sg l[k].2.2)
  | [], _, h => by simp at h
  | x :: l, 0, _ => ⟨rfl, rfl, rfl⟩
  | x :: l, k + 1, h => by
    have ih := c3_get (l := l) (k := k) (by simpa using h)
    have e1 : (k + 1) * 3 = k * 3 + 1 + 1 + 1 := by omega
    have e3 : k * 3 + 1 + 1 + 1 + 2 = (k * 3 + 2) + 1 + 1 + 1 := by omega
    unfold c3 at ih ⊢
    rw [e1, e3, List.flatMap_cons]
    exact ih
def txt3 (Q : List Stp) : List P3 := (List.range Q.length).map fun k => match Q[k]? with
  | some s => (s.a, s.b, T Q k)
  | none => (0, 0, [])
theorem txt3_len (Q : List Stp) : (txt3 Q).length = Q.length := by simp [txt3]
theorem txt3_get {Q : List Stp} {k : Nat} {s : Stp} (h : Q[k]? = some s) : (txt3 Q)[k]? = some (s.a, s.b, T Q k) := by
  unfold txt3
  rw [List.getElem?_map, List.getElem?_range (lt_of_get h), Option.map_some, h]
theorem txt3_app {Q : List Stp} (hp : ParOk Q) {t : Stp} (hp2 : ParOk (Q ++ [t])) (h0 : Q ≠ []) : txt3 (Q ++ [t]) = txt3 Q ++ [(t.a, t.b, T Q t.par ++ [t.by_])] := by
  have hl : 0 < Q.length := List.length_pos_iff.2 h0
  have hn : (Q ++ [t])[Q.length]? = some t := by simp
  have hpar := hp2 Q.length (by simp) (by omega)
  rw [show (Q ++ [t])[Q.length]'(by simp) = t by simp] at hpar
  refine List.ext_getElem? fun k => ?_
  by_cases hk : k < Q.length
  · have g := List.getElem?_eq_getElem hk
    rw [List.getElem?_append_left (by rw [txt3_len]; exact hk), txt3_get g, txt3_get (by rw [List.getElem?_append_left hk]; exact g), T_app hp hp2 hk]
  · by_cases e : k = Q.length
    · subst e
      rw [txt3_get hn, List.getElem?_append_right (by rw [txt3_len]; exact Nat.le_refl _), txt3_len, Nat.sub_self, T_succ hp2 (by omega) hn, T_app hp hp2 hpar]; rfl
    · rw [List.getElem?_eq_none (by rw [txt3_len]; simp; omega), List.getElem?_eq_none (by simp [txt3_len]; omega)]
def pEnt1 (Q : List Stp) : List (AV × AV) := Q.map fun s => (.agg [I s.a, I s.b], I 1)
theorem mget_pair1 (a b : Int) : ∀ Q : List Stp, mget true [1, 1] (.agg [I a, I b]) (pEnt1 Q) = some (if (a, b) ∈ Q.map pairS then some (I 1) else none)
  | [] => rfl
  | s :: Q => by
    have ih := mget_pair1 a b Q
    simp only [pEnt1, List.map_cons, mget] at ih ⊢
    rw [eqKey_pair]
    by_cases h : (a, b) = (s.a, s.b)
    · rw [decide_eq_true h, if_pos (by rw [List.mem_cons]; exact .inl h)]
    · rw [decide_eq_false h]
      simp only
      rw [ih]
      by_cases h2 : (a, b) ∈ Q.map pairS
      · rw [if_pos h2, if_pos (List.mem_cons_of_mem _ h2)]
      · rw [if_neg h2, if_neg]
        intro h3
        rcases List.mem_cons.1 h3 with h3 | h3
        · exact h h3
        · exact h2 h3
theorem mset_pair1 (a b : Int) (c : UInt8) (i : Nat) : ∀ Q : List Stp, (a, b) ∉ Q.map pairS → mset true [1, 1] (.agg [I a, I b]) (I 1) (pEnt1 Q) = some (pEnt1 (Q ++ [⟨a, b, c, i⟩]))
  | [], _ => rfl
  | s :: Q, h => by
    have h1 : ¬ (a, b) = (s.a, s.b) := fun e => h (by rw [List.map_cons, e]; exact List.mem_cons_self ..)
    have ih := mset_pair1 a b c i Q (fun h2 => h (by rw [List.map_cons]; exact List.mem_cons_of_mem _ h2))
    simp only [pEnt1, List.map_cons, List.cons_append, mset] at ih ⊢
    rw [eqKey_pair, decide_eq_false h1]
    simp only
    rw [ih]
def QH (H : Heap) (c : List AV) (es : List (AV × AV)) : Heap := H ++ [.cells c, .map es]
theorem QH_0 (H : Heap) (c : List AV) (es : List (AV × AV)) : (QH H c es)[H.length]? = some (.cells c) := by unfold QH; rw [get_at0]; rfl
theorem QH_1 (H : Heap) (c : List AV) (es : List (AV × AV)) : (QH H c es)[H.length + 1]? = some (.map es) := by unfold QH; rw [Hm.get_at]; rfl
theorem QH_s0 (H : Heap) (c c2 : List AV) (es : List (AV × AV)) : (QH H c es).set H.length (.cells c2) = QH H c2 es := by unfold QH; rw [set_at0]; rfl
theorem QH_s1 (H : Heap) (c : List AV) (es es2 : List (AV × AV)) : (QH H c es).set (H.length + 1) (.map es2) = QH H c es2 := by unfold QH; rw [Hm.set_at]; rfl
theorem QH_take (H : Heap) (c : List AV) (es : List (AV × AV)) : (QH H c es).take H.length = H := by unfold QH; rw [take_at]
theorem Sg_app (a b : List UInt8) : (⟨⟨a⟩⟩ : ByteArray) ++ ⟨⟨b⟩⟩ = ⟨⟨a ++ b⟩⟩ := by
  apply ByteArray.ext
  simp
theorem sg_add {a b : List UInt8} (h : a.length + b.length ≤ 1000000000000000) : abins .add ⟨⟨a⟩⟩ ⟨⟨b⟩⟩ = some (Sg (a ++ b)) := by
  simp only [abins, Sg_size]
  have hm : IntKind.i64.max = 9223372036854775807 := by decide
  rw [hm, if_neg (by omega), Sg_app]
end Go.Proofs.Ytdbbaopgmapmaaa
