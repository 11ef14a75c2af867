import Derived.Test.YtoiolinclpiohaaR
set_option linter.unusedSimpArgs false
set_option linter.unusedVariables false
namespace Go.Proofs.Ytoiolinclpiohaa
open Go Go.Hm

/-! ### A scanner in memory -/
def scB (nx rl : List Int) (s : Sc) : HB := .cells [.sl nx.length (ints nx), .sl rl.length (ints rl), I s.a, I s.k, I s.st, I s.r, I s.f, I s.t, I s.e, Bo s.bg, Bo s.dn]
abbrev pS (b : Nat) : AV := .hp b 11 0
def sc0 (a : Int) : Sc := ⟨a, 0, 0, -1, a, IntKind.i64.wrap (a + 1), 0, true, false⟩
theorem get_lt {H : Heap} {b : Nat} {x : HB} (h : H[b]? = some x) : b < H.length := by
  rcases Nat.lt_or_ge b H.length with h1 | h1
  · exact h1
  · rw [List.getElem?_eq_none h1] at h; cases h
theorem take_set (H : Heap) (b : Nat) (x : HB) : (H.set b x).take H.length = H.set b x := List.take_of_length_le (by simp)
set_option maxRecDepth 20000 in
theorem hbegin_code {lk lim : Nat} {H : Heap} {nx rl : List Int} {s : Sc} {b : Nat} (hb : H[b]? = some (scB nx rl s)) (hlk : lk ≤ b) (a : Int) : callW X A lk lim 24 [pS b, I a] H = some (if a < 0 then (I 2, H) else (I 0, H.set b (scB nx rl (sc0 a)))) := by
  have kb := fun (lim : Nat) => begin_code (lk := lk) (lim := lim) (H := H) a
  refine wb_callB [] rfl A24 rfl rfl ?_
  unfold t24B
  have hl := get_lt hb
  have hs : H.length ≤ b ↔ False := by simp; omega
  unfold scB at hb
  by_cases h : a < 0
  · generalize callW X A = C at kb ⊢
    simp [eqPtr, isPtr, h]
  · generalize callW X A = C at kb ⊢
    simp only [Sc.cells] at kb
    simp [eqPtr, isPtr, h, kb, hb, setH, hlk, replaceAt, scB, sc0]
    exact take_set _ _ _
theorem hext_code {lk lim : Nat} {H : Heap} {nx rl : List Int} {s : Sc} {b : Nat} (hb : H[b]? = some (scB nx rl s)) : callW X A lk lim 26 [pS b] H = some (I (IntKind.i64.wrap (s.a + s.k)), H) := by
  refine wb_callB [] rfl A26 rfl rfl ?_
  unfold t26B
  unfold scB at hb
  simp [eqPtr, isPtr, hb]
theorem hsteps_code {lk lim : Nat} {H : Heap} {nx rl : List Int} {s : Sc} {b : Nat} (hb : H[b]? = some (scB nx rl s)) : callW X A lk lim 27 [pS b] H = some (I s.k, H) := by
  refine wb_callB [] rfl A27 rfl rfl ?_
  unfold t27B
  unfold scB at hb
  simp [eqPtr, isPtr, hb]
def hlexV (s : Sc) : AV := if s.dn = true then .tup [.agg [I s.r, I s.f, I s.t, I s.e], Bo true] else .tup [.agg zL, Bo false]
set_option maxRecDepth 20000 in
theorem hlex_code {lk lim : Nat} {H : Heap} {nx rl : List Int} {s : Sc} {b : Nat} (hb : H[b]? = some (scB nx rl s)) : callW X A lk lim 25 [pS b] H = some (hlexV s, H) := by
  refine wb_callB [2] rfl A25 rfl rfl ?_
  unfold t25B
  unfold scB at hb
  unfold hlexV
  cases hd : s.dn with
  | true =>
    rw [hd] at hb
    simp [-wi_stL, eqPtr, isPtr, hb]
    rw [wi_stL]
    simp [replaceAt]
  | false =>
    rw [hd] at hb
    simp [-wi_stL, eqPtr, isPtr, hb]
    rw [wi_stL]
    simp [replaceAt, zL]
set_option maxRecDepth 20000 in
theorem hstep_code {lk lim : Nat} {H : Heap} {nx rl : List Int} {s : Sc} {b : Nat} {l : List UInt8} (hb : H[b]? = some (scB nx rl s)) (hlk : lk ≤ b) (ok : TOk nx rl) (h1 : s.bg = true) (h2 : s.dn = false) (ha : 0 ≤ s.a) (ha2 : s.a < l.length) (hk : 0 ≤ s.k) (hl : s.a + s.k ≤ l.length) (hm : l.length ≤ 1000000000000000) (hs : 0 ≤ s.st) (hs2 : s.st < rl.length) :
    callW X A lk lim 23 [pS b, Sg l] H = some (.tup [Bo (lookM nx rl l s).dn, I 0], H.set b (scB nx rl (lookM nx rl l s))) := by
  have kl := fun (lim : Nat) => look_code (lk := lk) (lim := lim) (H := H) ok ha hk hl hm hs hs2
  refine wb_callB [] rfl A23 rfl rfl ?_
  unfold t23B
  have hlt := get_lt hb
  obtain ⟨s', hs'⟩ : ∃ s', lookM nx rl l s = s' := ⟨_, rfl⟩
  rw [hs'] at kl ⊢
  unfold scB at hb
  simp only [Sc.cells] at kl
  rw [h1, h2] at hb kl
  have w : IntKind.i64.wrap (s.a + s.k) = s.a + s.k := wrap64 (by omega) (by omega)
  have n1 : ¬ (l.length : Int) ≤ s.a := by omega
  have n2 : ¬ (l.length : Int) < s.a + s.k := by omega
  have gs : ∀ x : HB, (H.set b x)[b]? = some x := fun x => by rw [List.getElem?_set_self hlt]
  have ts := fun x : HB => take_set H b x
  have kl := kl H.length
  generalize callW X A = C at kl ⊢
  simp only [scB]
  simp [eqPtr, isPtr, hb, w, n1, n2, Sg_size, kl, setH, hlk, replaceAt, gs]
  exact take_set _ _ _

def scZ : Sc := ⟨0, 0, 0, 0, 0, 0, 0, false, false⟩
set_option maxRecDepth 20000 in
theorem new_code {lk lim : Nat} {H : Heap} (nx rl : List Int) (h1 : nx.length ≤ 1000000) (h2 : rl.length ≤ 1000000) : callW X A lk lim 22 [.agg (Dv nx rl)] H = some (if chk nx rl = true then (.tup [pS H.length, I 0], H ++ [scB nx rl scZ]) else (.tup [.val (.pointer none), I 2], H)) := by
  have kc := dcheck_code (lk := lk) (lim := lim) (H := H) nx rl h1 h2
  refine wb_callB [1] rfl A22 rfl rfl ?_
  unfold t22B
  by_cases c3 : chk nx rl = true
  case neg =>
    rw [chkE_neg c3] at kc
    rw [if_neg c3]
    generalize callW X A = C at kc ⊢
    simp [kc]
  rw [chkE_pos c3] at kc
  rw [if_pos c3]
  generalize callW X A = C at kc ⊢
  simp [kc, replaceAt, scB, scZ]
theorem lookM_bg (nx rl : List Int) (l : List UInt8) (s : Sc) : (lookM nx rl l s).bg = s.bg := by
  unfold lookM
  repeat' split
  all_goals rfl
theorem lookM_a (nx rl : List Int) (l : List UInt8) (s : Sc) : (lookM nx rl l s).a = s.a ∧ (lookM nx rl l s).k = s.k + 1 ∧ (lookM nx rl l s).f = s.f := by
  unfold lookM
  repeat' split
  all_goals exact ⟨rfl, rfl, rfl⟩
theorem lookM_e (nx rl : List Int) (l : List UInt8) (s : Sc) : (lookM nx rl l s).e = s.a + s.k + 1 := by
  unfold lookM
  repeat' split
  all_goals rfl
/-- The state ahead of look i. -/
def Stp (nx rl : List Int) (l : List UInt8) (a : Nat) (fin : Int × Int × Int) (e : Nat) (i : Nat) (s : Sc) : Prop :=
  (1 ≤ i ∧ a + i ≤ e ∧ SInv nx rl l a fin s ∧ s.k = (i : Int) - 1 ∧ s.bg = true) ∨ (i = e - a + 1 ∧ s.dn = true ∧ (s.r, s.t, s.e) = fin ∧ s.f = a)
theorem stp_step {nx rl : List Int} {l : List UInt8} {a : Nat} {fin : Int × Int × Int} {e i : Nat} {s : Sc} (ok : TOk nx rl) (hf : fin.2.2 = e) (h1 : 1 ≤ i) (h2 : a + i ≤ e) (hi : SInv nx rl l a fin s) (hk : s.k = (i : Int) - 1) (hb : s.bg = true) :
    (lookM nx rl l s).dn = decide (a + i = e) ∧ Stp nx rl l a fin e (i + 1) (lookM nx rl l s) := by
  have hia := hi.ia
  have he := lookM_e nx rl l s
  rcases look_step ok hi with ⟨d1, d2, d3, d4, d5⟩ | ⟨d1, d2, d3⟩
  · have : (lookM nx rl l s).e = e := by rw [← hf, ← d2]
    have hei : a + i = e := by omega
    exact ⟨by rw [d1, decide_eq_true hei], .inr ⟨by omega, d1, d2, d3⟩⟩
  · have hg := d1.igo
    have h3 := (goM_e nx rl (l.drop ((lookM nx rl l s).a + (lookM nx rl l s).k).toNat) ((lookM nx rl l s).a + (lookM nx rl l s).k) (lookM nx rl l s).st (lookM nx rl l s).r (lookM nx rl l s).t).1
    rw [hg, hf, d3, d1.ia] at h3
    have hei : ¬ a + i = e := by omega
    exact ⟨by rw [d1.idn, decide_eq_false hei], .inl ⟨by omega, by omega, d1, by omega, by rw [lookM_bg]; exact hb⟩⟩
end Go.Proofs.Ytoiolinclpiohaa
