import Derived.Test.YtmehaecclidfjaaT
set_option linter.unusedSimpArgs false
set_option linter.unusedVariables false
namespace Go.Proofs.Ytmehaecclidfjaa
open Go Go.Hm

/-! ### Pieces in memory -/
structure Nd where
  b : Nat
  c : Bool
  f : Nat
  t : Nat
def ptr : List Nd → AV
  | [] => .val (.pointer none)
  | n :: _ => .hp n.b 4 0
def ndC (n : Nd) (r : List Nd) : List AV := [Bo n.c, I n.f, I n.t, ptr r]
def Lst (H : Heap) : List Nd → Prop
  | [] => True
  | n :: r => H[n.b]? = some (.cells (ndC n r)) ∧ Lst H r
def tbC (fs cm : List UInt8) (ns : List Nd) (k : Nat) : List AV := [Sg fs, Sg cm, ptr ns, I k]
def srcN (fs cm : List UInt8) (n : Nd) : List UInt8 := if n.c = true then cm else fs
def txt (fs cm : List UInt8) (n : Nd) : List UInt8 := ((srcN fs cm n).take n.t).drop n.f
def alls (fs cm : List UInt8) (ns : List Nd) : List UInt8 := (ns.map (txt fs cm)).flatten
def NdOk (fs cm : List UInt8) (n : Nd) : Prop := n.f < n.t ∧ n.t ≤ (srcN fs cm n).length
structure TB (H : Heap) (b : Nat) (fs cm : List UInt8) (ns : List Nd) (k : Nat) : Prop where
  tab : H[b]? = some (.cells (tbC fs cm ns k))
  lst : Lst H ns
  nd : (b :: ns.map (·.b)).Nodup
  ok : ∀ n ∈ ns, NdOk fs cm n
/-- What a place in the list is kept in. -/
def loc (b : Nat) (pre : List Nd) : Nat × Nat := match pre.getLast? with
  | none => (b, 2)
  | some n => (n.b, 3)
theorem loc_nil {b : Nat} : loc b [] = (b, 2) := rfl
theorem loc_snoc {b : Nat} {p : List Nd} {n : Nd} : loc b (p ++ [n]) = (n.b, 3) := by simp [loc]

theorem txt_len {fs cm : List UInt8} {n : Nd} (h : NdOk fs cm n) : (txt fs cm n).length = n.t - n.f := by
  have := h.2
  simp only [txt, List.length_drop, List.length_take]
  omega
theorem alls_nil {fs cm : List UInt8} : alls fs cm [] = [] := rfl
theorem alls_cons {fs cm : List UInt8} {n : Nd} {r : List Nd} : alls fs cm (n :: r) = txt fs cm n ++ alls fs cm r := by simp [alls]
theorem alls_app {fs cm : List UInt8} {p r : List Nd} : alls fs cm (p ++ r) = alls fs cm p ++ alls fs cm r := by simp [alls]

theorem lst_lt {H : Heap} : ∀ {ns : List Nd}, Lst H ns → ∀ n ∈ ns, n.b < H.length
  | [], _, n, h => by cases h
  | m :: r, hl, n, h => by
    rcases List.mem_cons.1 h with rfl | h
    · have := hl.1
      rcases Nat.lt_or_ge n.b H.length with h1 | h1
      · exact h1
      · rw [List.getElem?_eq_none h1] at this; cases this
    · exact lst_lt hl.2 n h
theorem lst_right {H : Heap} : ∀ {p r : List Nd}, Lst H (p ++ r) → Lst H r
  | [], _, h => h
  | _ :: p, _, h => lst_right (p := p) h.2
theorem lst_same {H H' : Heap} : ∀ {ns : List Nd}, Lst H ns → (∀ n ∈ ns, H'[n.b]? = H[n.b]?) → Lst H' ns
  | [], _, _ => trivial
  | m :: r, h, hs => ⟨by rw [hs m (List.mem_cons_self ..)]; exact h.1, lst_same h.2 fun n hn => hs n (List.mem_cons_of_mem _ hn)⟩
theorem ptr_app {p : List Nd} (h : p ≠ []) (r s : List Nd) : ptr (p ++ r) = ptr (p ++ s) := by
  cases p with
  | nil => exact (h rfl).elim
  | cons n p => rfl
/-- A list, of which the last one's next is other. -/
theorem lst_set {H H' : Heap} : ∀ {p : List Nd} {n n' : Nd} {rest new : List Nd}, Lst H (p ++ n :: rest) → n'.b = n.b → (∀ m ∈ p, H'[m.b]? = H[m.b]?) → H'[n.b]? = some (.cells (ndC n' new)) → Lst H' new → Lst H' (p ++ n' :: new)
  | [], n, n', rest, new, h, hb, hp, hn, hw => ⟨by rw [hb]; exact hn, hw⟩
  | m :: p, n, n', rest, new, h, hb, hp, hn, hw => by
    refine ⟨?_, lst_set (p := p) h.2 hb (fun q hq => hp q (List.mem_cons_of_mem _ hq)) hn hw⟩
    rw [hp m (List.mem_cons_self ..), show H[m.b]? = _ from h.1]
    have : ptr (p ++ n :: rest) = ptr (p ++ n' :: new) := by
      cases p with
      | nil => show AV.hp n.b 4 0 = AV.hp n'.b 4 0; rw [hb]
      | cons q p => rfl
    simp only [ndC, List.append_eq]
    rw [this]
theorem loc_get {H : Heap} {b : Nat} {fs cm : List UInt8} {pre rest : List Nd} {k : Nat} (h : TB H b fs cm (pre ++ rest) k) :
    ∃ cs, H[(loc b pre).1]? = some (.cells cs) ∧ cs.length = 4 ∧ cs[(loc b pre).2]? = some (ptr rest) := by
  rcases List.eq_nil_or_concat pre with rfl | ⟨p, n, rfl⟩
  · exact ⟨_, h.tab, rfl, rfl⟩
  · rw [List.concat_eq_append, loc_snoc]
    have := h.lst
    rw [List.concat_eq_append, List.append_assoc] at this
    have h1 := (lst_right this).1
    exact ⟨_, h1, rfl, rfl⟩
theorem nd_pre {b : Nat} {pre rest : List Nd} (h : (b :: (pre ++ rest).map (·.b)).Nodup) : (b :: pre.map (·.b)).Nodup := by
  rw [List.map_append, ← List.cons_append] at h
  exact (List.nodup_append.1 h).1
/-- The place is written: the list goes on otherwise. -/
theorem loc_set {H : Heap} {b : Nat} {fs cm : List UInt8} {pre rest new : List Nd} {k : Nat} (h : TB H b fs cm (pre ++ rest) k) {cs : List AV} (hc : H[(loc b pre).1]? = some (.cells cs))
    (hn : Lst H new) (hd : (b :: (pre ++ new).map (·.b)).Nodup) (hok : ∀ n ∈ new, NdOk fs cm n) :
    TB (H.set (loc b pre).1 (.cells (cs.set (loc b pre).2 (ptr new)))) b fs cm (pre ++ new) k ∧ ∀ c, c ∉ b :: pre.map (·.b) → (H.set (loc b pre).1 (.cells (cs.set (loc b pre).2 (ptr new))))[c]? = H[c]? := by
  have okk : ∀ n ∈ pre ++ new, NdOk fs cm n := fun n hn => by
    rcases List.mem_append.1 hn with h1 | h1
    · exact h.ok n (List.mem_append_left _ h1)
    · exact hok n h1
  have hlt : (loc b pre).1 < H.length := by
    rcases Nat.lt_or_ge (loc b pre).1 H.length with h1 | h1
    · exact h1
    · rw [List.getElem?_eq_none h1] at hc; cases hc
  rcases List.eq_nil_or_concat pre with rfl | ⟨p, n, rfl⟩
  · rw [loc_nil] at hc hlt ⊢
    have ht := h.tab
    rw [ht] at hc
    simp only [Option.some.injEq, HB.cells.injEq] at hc
    subst hc
    refine ⟨⟨by rw [List.getElem?_set_self hlt]; rfl, ?_, hd, okk⟩, fun c hc => ?_⟩
    · refine lst_same hn fun m hm => List.getElem?_set_ne ?_
      intro e
      have := (List.nodup_cons.1 hd).1
      have e : b = m.b := e
      exact this (by rw [e]; exact List.mem_map_of_mem hm)
    · refine List.getElem?_set_ne fun e => ?_
      have e : b = c := e
      rw [← e] at hc
      exact hc (List.mem_cons_self ..)
  · rw [List.concat_eq_append] at h hd okk ⊢
    rw [List.concat_eq_append, loc_snoc] at hc hlt
    rw [loc_snoc]
    have hl := h.lst
    rw [List.append_assoc] at hl
    have h1 := (lst_right hl).1
    rw [h1] at hc
    simp only [Option.some.injEq, HB.cells.injEq] at hc
    subst hc
    have hbn : b ≠ n.b := fun e => (List.nodup_cons.1 hd).1 (by rw [e]; exact List.mem_map_of_mem (by simp))
    have hd2 := (List.nodup_cons.1 hd).2
    simp only [List.map_append, List.map_cons, List.map_nil] at hd2
    have hd3 := List.nodup_append.1 hd2
    have hd4 := List.nodup_append.1 hd3.1
    refine ⟨⟨?_, ?_, hd, okk⟩, fun c hc => ?_⟩
    · rw [List.getElem?_set_ne (Ne.symm hbn), h.tab]
      simp only [tbC]
      rw [ptr_app (by simp) rest new]
    · rw [List.append_assoc]
      refine lst_set hl rfl (fun m hm => List.getElem?_set_ne ?_) (by rw [List.getElem?_set_self hlt]; rfl) ?_
      · intro e
        exact hd4.2.2 m.b (List.mem_map_of_mem hm) n.b (List.mem_singleton.2 rfl) e.symm
      · refine lst_same hn fun m hm => List.getElem?_set_ne fun e => ?_
        exact hd3.2.2 n.b (by simp) m.b (List.mem_map_of_mem hm) e
    · refine List.getElem?_set_ne fun e => ?_
      rw [← e] at hc
      exact hc (by simp)
/-- A piece in two. -/
theorem split_set {H : Heap} {b : Nat} {fs cm : List UInt8} {pre rest : List Nd} {n : Nd} {k a : Nat} (h : TB H b fs cm (pre ++ n :: rest) k) (h1 : 0 < a) (h2 : a < n.t - n.f) :
    TB ((H ++ [HB.cells (ndC ⟨H.length, n.c, n.f + a, n.t⟩ rest)]).set n.b (.cells (ndC ⟨n.b, n.c, n.f, n.f + a⟩ (⟨H.length, n.c, n.f + a, n.t⟩ :: rest)))) b fs cm (pre ++ ⟨n.b, n.c, n.f, n.f + a⟩ :: ⟨H.length, n.c, n.f + a, n.t⟩ :: rest) k := by
  have hl := h.lst
  have hr := lst_right hl
  have hlt := lst_lt hl
  have hnl := hlt n (by simp)
  have hbl : b < H.length := by
    rcases Nat.lt_or_ge b H.length with h1 | h1
    · exact h1
    · have := h.tab; rw [List.getElem?_eq_none h1] at this; cases this
  have hd := h.nd
  simp only [List.map_append, List.map_cons] at hd
  have hdb := (List.nodup_cons.1 hd).1
  have hd3 := List.nodup_append.1 (List.nodup_cons.1 hd).2
  have hd4 := List.nodup_cons.1 hd3.2.1
  have hbn : n.b ≠ b := fun e => hdb (by rw [← e]; simp)
  have hap : ∀ c, c < H.length → (H ++ [HB.cells (ndC ⟨H.length, n.c, n.f + a, n.t⟩ rest)])[c]? = H[c]? := fun c hc => List.getElem?_append_left hc
  have okn := h.ok n (by simp)
  refine ⟨?_, ?_, ?_, ?_⟩
  · rw [List.getElem?_set_ne hbn, hap b hbl, h.tab]
    have : ptr (pre ++ n :: rest) = ptr (pre ++ ⟨n.b, n.c, n.f, n.f + a⟩ :: ⟨H.length, n.c, n.f + a, n.t⟩ :: rest) := by
      cases pre <;> rfl
    simp only [tbC]
    rw [this]
  · refine lst_set hl rfl (fun m hm => ?_) (by rw [List.getElem?_set_self (by simp; omega)]) ⟨?_, ?_⟩
    · rw [List.getElem?_set_ne (fun e => hd3.2.2 m.b (List.mem_map_of_mem hm) n.b (by simp) e.symm), hap _ (hlt m (by simp [hm]))]
    · rw [List.getElem?_set_ne (by simp; omega)]
      simp
    · refine lst_same hr.2 fun m hm => ?_
      rw [List.getElem?_set_ne (fun e => hd4.1 (by rw [e]; exact List.mem_map_of_mem hm)), hap _ (hlt m (by simp [hm]))]
  · have hN : ∀ m ∈ pre ++ n :: rest, m.b ≠ H.length := fun m hm => by have := hlt m hm; omega
    simp only [List.map_append, List.map_cons]
    refine List.nodup_cons.2 ⟨?_, List.nodup_append.2 ⟨hd3.1, List.nodup_cons.2 ⟨?_, List.nodup_cons.2 ⟨?_, hd4.2⟩⟩, ?_⟩⟩
    · intro hm
      rcases List.mem_append.1 hm with h1 | h1
      · exact hdb (List.mem_append_left _ h1)
      · rcases List.mem_cons.1 h1 with h1 | h1
        · exact hbn h1.symm
        · rcases List.mem_cons.1 h1 with h1 | h1
          · omega
          · exact hdb (List.mem_append_right _ (List.mem_cons_of_mem _ h1))
    · intro hm
      rcases List.mem_cons.1 hm with h1 | h1
      · have : n.b = H.length := h1
        omega
      · exact hd4.1 h1
    · intro hm
      obtain ⟨m, hm, e⟩ := List.mem_map.1 hm
      exact hN m (by simp [hm]) e
    · intro x hx y hy
      rcases List.mem_cons.1 hy with rfl | hy
      · exact hd3.2.2 x hx n.b (by simp)
      · rcases List.mem_cons.1 hy with rfl | hy
        · intro e
          obtain ⟨m, hm, e'⟩ := List.mem_map.1 hx
          exact hN m (by simp [hm]) (by rw [e', e])
        · exact hd3.2.2 x hx y (List.mem_cons_of_mem _ hy)
  · intro m hm
    rcases List.mem_append.1 hm with h1 | h1
    · exact h.ok m (by simp [h1])
    · have o2 := okn.2
      rcases List.mem_cons.1 h1 with rfl | h1
      · refine ⟨?_, ?_⟩
        · show n.f < n.f + a; omega
        · show n.f + a ≤ (srcN fs cm n).length; omega
      · rcases List.mem_cons.1 h1 with rfl | h1
        · refine ⟨?_, ?_⟩
          · show n.f + a < n.t; omega
          · exact o2
        · exact h.ok m (by simp [h1])
end Go.Proofs.Ytmehaecclidfjaa
