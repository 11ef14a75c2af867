import Derived.Test.YtmehaecclidfjaaF
set_option linter.unusedSimpArgs false
set_option linter.unusedVariables false
namespace Go.Proofs.Ytmehaecclidfjaa
open Go Go.Hm

def okS (s : List UInt8) (a b : Int) : Prop := 0 ≤ a ∧ a ≤ b ∧ b ≤ s.length
instance (s : List UInt8) (a b : Int) : Decidable (okS s a b) := inferInstanceAs (Decidable (_ ∧ _))
def sliceV (s : List UInt8) (a b : Int) : AV := if okS s a b then .tup [Sg ((s.take b.toNat).drop a.toNat), I 0] else .tup [Sg [], I 2]
set_option maxRecDepth 20000 in
theorem slice_code {lk lim : Nat} {H : Heap} {b : Nat} {fs cm : List UInt8} {ns : List Nd} {x y : Int} (hlk : lk ≤ H.length) (hz : Sz fs cm) (h : TB H b fs cm ns (alls fs cm ns).length) (hr : ns.length ≤ 65536) (ht : (alls fs cm ns).length ≤ 1000000) :
    callW X A lk lim 14 [.hp b 4 0, I x, I y] H = some (sliceV (alls fs cm ns) x y, H) := by
  have k1 := text_code (lim := H.length) hlk hz h hr ht
  have tab := h.tab
  simp only [tbC] at tab
  generalize alls fs cm ns = s at k1 tab ht ⊢
  unfold sliceV
  refine wb_callB [] rfl A14 rfl rfl ?_
  unfold t14B
  generalize callW X A = C at k1 ⊢
  by_cases g1 : x < 0
  · rw [if_neg (c := okS s x y) (fun h => by have := h.1; omega)]
    simp [eqPtr, isPtr, g1]
  by_cases g2 : y < x
  · rw [if_neg (c := okS s x y) (fun h => by have := h.2.1; omega)]
    simp [eqPtr, isPtr, g1, g2]
  by_cases g3 : (s.length : Int) < y
  · rw [if_neg (c := okS s x y) (fun h => by have := h.2.2; omega)]
    simp [eqPtr, isPtr, g1, g2, g3, tab]
  obtain ⟨x, rfl⟩ : ∃ a0 : Nat, x = a0 := ⟨x.toNat, by omega⟩
  obtain ⟨y, rfl⟩ : ∃ a0 : Nat, y = a0 := ⟨y.toNat, by omega⟩
  rw [if_pos (c := okS s x y) ⟨by omega, by omega, by omega⟩]
  have e1 : x ≤ y := by omega
  have e2 : y ≤ s.length := by omega
  have e1' : ¬ y < x := by omega
  have e2' : ¬ s.length < y := by omega
  simp [eqPtr, isPtr, g1, g2, g3, tab, k1, bnd, Sg_size, Sg_ext, e1, e2, e1', e2']
abbrev U8 (b : UInt8) : AV := .val (.int .u8 b.toNat)
def byteV (s : List UInt8) (x : Int) : AV := if 0 ≤ x then match s[x.toNat]? with
  | some b => .tup [U8 b, Bo true]
  | none => .tup [.val (.int .u8 0), Bo false] else .tup [.val (.int .u8 0), Bo false]
set_option maxRecDepth 20000 in
theorem byte_loop {S : Cx} {Q : Ex → Kt} {env : Env} {H : Heap} {l : List (List UInt8)} {a : Nat} {c : UInt8} (hB : S.B = []) (hl : l.flatten.length ≤ 1000000) (hl2 : l.length ≤ 65536) (hc : l.flatten[a]? = some c)
    (hE : restrict [1, 17, 18, 19] env = [(1, I a), (17, .sl l.length (l.map Sg)), (18, I l.length), (19, I 0)])
    (hQ : ∀ env', find env' 4 = U8 c → find env' 5 = Bo true → Q .ret env' H) : WB S (.loop [1, 17, 18, 19] t18L1) Q env H := by
  refine wb_loop (σ := Nat × Nat) (fun s => [(1, I s.2), (17, .sl l.length (l.map Sg)), (18, I l.length), (19, I s.1)]) (fun _ => H) (fun s => (l.drop s.1).flatten[s.2]? = some c ∧ s.2 ≤ 1000000) (fun s => l.length - s.1) ?_ (0, a) ⟨hc, ?_⟩ hE rfl
  · rintro ⟨i, a⟩ ⟨hi, ha⟩
    dsimp only at *
    have hil : i < l.length := by
      rcases Nat.lt_or_ge i l.length with h | h
      · exact h
      · rw [List.drop_eq_nil_of_le h] at hi; simp at hi
    have hd := List.drop_eq_getElem_cons hil
    rw [hd, List.flatten_cons] at hi
    have hsz : l[i].length ≤ 1000000 := by
      have : l.flatten = (l.take i).flatten ++ (l[i] ++ (l.drop (i + 1)).flatten) := by
        rw [← List.flatten_cons, ← hd, ← List.flatten_append, List.take_append_drop]
      have := congrArg List.length this
      simp only [List.length_append] at this
      omega
    have w1 : IntKind.i64.wrap ((i : Int) + 1) = (i : Int) + 1 := wrap64 (by omega) (by omega)
    unfold t18L1
    by_cases hq : a < l[i].length
    · rw [List.getElem?_append_left hq] at hi
      have hi2 : l[i][a] = c := by
        rw [List.getElem?_eq_getElem hq] at hi
        exact Option.some.inj hi
      simp [hB, hil, Sg_size, hq, Sg_get, hi2]
      exact hQ _ (by rw [← hi2]; rfl) rfl
    · have w2 : IntKind.i64.wrap ((a : Int) - l[i].length) = ((a - l[i].length : Nat) : Int) := by rw [wrap64 (by omega) (by omega)]; omega
      rw [List.getElem?_append_right (by omega)] at hi
      simp [hB, hil, Sg_size, hq, w1, w2]
      rw [rnd_nrm]
      refine ⟨(i + 1, a - l[i].length), ⟨hi, ?_⟩, ?_, ?_, rfl⟩
      · show a - l[i].length ≤ 1000000; omega
      · show l.length - (i + 1) < l.length - i; omega
      · simp [restrict, find]
  · have := (List.getElem?_eq_some_iff.1 hc).1
    show a ≤ 1000000
    omega
set_option maxRecDepth 20000 in
theorem byte_code {lk lim : Nat} {H : Heap} {b : Nat} {fs cm : List UInt8} {ns : List Nd} {x : Int} (hlk : lk ≤ H.length) (hz : Sz fs cm) (h : TB H b fs cm ns (alls fs cm ns).length) (hr : ns.length ≤ 65536) (ht : (alls fs cm ns).length ≤ 1000000) :
    callW X A lk lim 18 [.hp b 4 0, I x] H = some (byteV (alls fs cm ns) x, H) := by
  have k1 := pieces_code (lim := H.length) hlk hz h hr
  have k2 := len_code (lk := lk) (lim := H.length) h
  obtain ⟨l, hl⟩ : ∃ l, ns.map (txt fs cm) = l := ⟨_, rfl⟩
  have hs : alls fs cm ns = l.flatten := by rw [← hl]; rfl
  have hll : l.length ≤ 65536 := by rw [← hl]; simpa using hr
  rw [hl] at k1
  rw [hs] at k2 ht ⊢
  unfold byteV
  by_cases g1 : x < 0
  · rw [if_neg (c := 0 ≤ x) (by omega)]
    refine wb_callB [] rfl A18 rfl rfl ?_
    unfold t18B
    generalize callW X A = C
    simp [g1]
  obtain ⟨x, rfl⟩ : ∃ a0 : Nat, x = a0 := ⟨x.toNat, by omega⟩
  rw [if_pos (c := (0 : Int) ≤ x) (by omega), Int.toNat_natCast]
  by_cases g2 : l.flatten.length ≤ x
  · rw [List.getElem?_eq_none g2]
    refine wb_callB [] rfl A18 rfl rfl ?_
    unfold t18B
    have g3 : (l.flatten.length : Int) ≤ x := by omega
    generalize callW X A = C at k2 ⊢
    generalize l.flatten = s at *
    simp [g1, k2, g2]
  obtain ⟨c, hc⟩ : ∃ c, l.flatten[x]? = some c := ⟨l.flatten[x]'(by omega), List.getElem?_eq_getElem (by omega)⟩
  rw [hc]
  have hne : l ≠ [] := fun e => by rw [e] at hc; simp at hc
  rw [slV, if_neg hne] at k1
  refine wb_callB [] rfl A18 rfl rfl ?_
  unfold t18B
  generalize callW X A = C at k1 k2 ⊢
  have main : ∀ env R, restrict [1, 17, 18, 19] env = [(1, I x), (17, .sl l.length (l.map Sg)), (18, I l.length), (19, I 0)] → (∀ env', find env' 4 = U8 c → find env' 5 = Bo true → R .ret env' H) → WB ⟨C, lk, H.length, []⟩ (.loop [1, 17, 18, 19] t18L1) R env H := fun env R he hq => byte_loop rfl ht hll hc he hq
  obtain ⟨s, hss⟩ : ∃ s, l.flatten = s := ⟨_, rfl⟩
  rw [hss] at k2 g2
  simp [g1, k1, k2, g2]
  refine main _ _ (by simp [restrict, find]) fun env' h4 h5 => ?_
  simp [h4, h5]
end Go.Proofs.Ytmehaecclidfjaa
