import Derived.Test.YtmehaecclidfjaaB
set_option linter.unusedSimpArgs false
set_option linter.unusedVariables false
namespace Go.Proofs.Ytmehaecclidfjaa
open Go Go.Hm

theorem sg_toList (a : List UInt8) : (⟨⟨a⟩⟩ : ByteArray).toList = a := by rw [ByteArray.toList_eq]
theorem sg_neq (a b : List UInt8) : abins .neq ⟨⟨a⟩⟩ ⟨⟨b⟩⟩ = some (Bo (!(a == b))) := by
  simp only [abins, sg_toList]
theorem sg_eql (a b : List UInt8) : abins .eql ⟨⟨a⟩⟩ ⟨⟨b⟩⟩ = some (Bo (a == b)) := by
  simp only [abins, sg_toList]
theorem sg_neqN (a : List UInt8) : abins .neq ⟨⟨a⟩⟩ ⟨#[]⟩ = some (Bo (!(a == []))) := sg_neq a []
theorem Sg_app (a b : List UInt8) : (⟨⟨a⟩⟩ : ByteArray) ++ ⟨⟨b⟩⟩ = ⟨⟨a ++ b⟩⟩ := by
  apply ByteArray.ext
  simp [ByteArray.data_append]
theorem sg_add {a b : List UInt8} (h : a.length + b.length ≤ 1000000000000000) : abins .add ⟨⟨a⟩⟩ ⟨⟨b⟩⟩ = some (Sg (a ++ b)) := by
  have hm : IntKind.i64.max = 9223372036854775807 := by decide
  show (if (((a.length + b.length : Nat) : Int)) > IntKind.i64.max then none else some (AV.val (.string (⟨⟨a⟩⟩ ++ ⟨⟨b⟩⟩)))) = _
  rw [hm, if_neg (by omega), Sg_app]
/-! ### Edit -/
def editE (s : List UInt8) (a d : Int) (x : List UInt8) : Int :=
  if a < 0 ∨ d < 0 ∨ a > s.length ∨ d > s.length - a then 2 else if (s.length : Int) - d + x.length > 65536 then 3 else 0
def editV (s : List UInt8) (a d : Int) (x : List UInt8) : List UInt8 :=
  if editE s a d x = 0 then s.take a.toNat ++ x ++ s.drop (a.toNat + d.toNat) else s
theorem edit_pos {s : List UInt8} {a d : Nat} {x : List UInt8} (h : a + d ≤ s.length) (h2 : s.length - d + x.length ≤ 65536) : editE s a d x = 0 ∧ editV s a d x = s.take a ++ x ++ s.drop (a + d) := by
  have : editE s a d x = 0 := by
    unfold editE
    rw [if_neg (by omega), if_neg (by omega)]
  refine ⟨this, ?_⟩
  unfold editV
  rw [if_pos this]
  rfl
theorem tb_lt {H : Heap} {b : Nat} {fs cm : List UInt8} {ns : List Nd} {k : Nat} (h : TB H b fs cm ns k) : b < H.length ∧ ∀ n ∈ ns, n.b < H.length := by
  refine ⟨?_, lst_lt h.lst⟩
  rcases Nat.lt_or_ge b H.length with h1 | h1
  · exact h1
  · have := h.tab; rw [List.getElem?_eq_none h1] at this; cases this
theorem tb_same {H H' : Heap} {b : Nat} {fs cm : List UInt8} {ns : List Nd} {k : Nat} (h : TB H b fs cm ns k) (hs : ∀ c ∈ b :: ns.map (·.b), H'[c]? = H[c]?) : TB H' b fs cm ns k :=
  ⟨by rw [hs b (List.mem_cons_self ..)]; exact h.tab, lst_same h.lst fun n hn => hs n.b (List.mem_cons_of_mem _ (List.mem_map_of_mem hn)), h.nd, h.ok⟩
theorem tb_app {H : Heap} {b : Nat} {fs cm : List UInt8} {ns : List Nd} {k : Nat} (h : TB H b fs cm ns k) (x : List HB) : TB (H ++ x) b fs cm ns k :=
  tb_same h fun c hc => by
    have hl := tb_lt h
    refine List.getElem?_append_left ?_
    rcases List.mem_cons.1 hc with rfl | hc
    · exact hl.1
    · obtain ⟨n, hn, rfl⟩ := List.mem_map.1 hc
      exact hl.2 n hn
theorem txt_came {fs cm : List UInt8} {n : Nd} (x : List UInt8) (h : NdOk fs cm n) : txt fs (cm ++ x) n = txt fs cm n := by
  have := h.2
  unfold txt srcN at *
  split
  · rename_i hc
    rw [if_pos hc] at this
    rw [List.take_append_of_le_length this]
  · rfl
theorem ok_came {fs cm : List UInt8} {n : Nd} (x : List UInt8) (h : NdOk fs cm n) : NdOk fs (cm ++ x) n := by
  refine ⟨h.1, Nat.le_trans h.2 ?_⟩
  unfold srcN
  split
  · rw [List.length_append]; omega
  · exact Nat.le_refl _
theorem alls_came {fs cm : List UInt8} (x : List UInt8) : ∀ {ns : List Nd}, (∀ n ∈ ns, NdOk fs cm n) → alls fs (cm ++ x) ns = alls fs cm ns
  | [], _ => rfl
  | n :: r, h => by rw [alls_cons, alls_cons, txt_came x (h n (List.mem_cons_self ..)), alls_came x fun m hm => h m (List.mem_cons_of_mem _ hm)]
theorem tb_tab {H : Heap} {b : Nat} {fs cm : List UInt8} {ns : List Nd} {k : Nat} (h : TB H b fs cm ns k) (x : List UInt8) (k' : Nat) : TB (H.set b (.cells (tbC fs (cm ++ x) ns k'))) b fs (cm ++ x) ns k' := by
  have hl := tb_lt h
  refine ⟨List.getElem?_set_self hl.1, lst_same h.lst fun n hn => List.getElem?_set_ne fun e => ?_, h.nd, fun n hn => ok_came x (h.ok n hn)⟩
  exact (List.nodup_cons.1 h.nd).1 (by rw [e]; exact List.mem_map_of_mem hn)
theorem tb_n {H : Heap} {b : Nat} {fs cm : List UInt8} {ns : List Nd} {k : Nat} (h : TB H b fs cm ns k) (k' : Nat) : TB (H.set b (.cells (tbC fs cm ns k'))) b fs cm ns k' := by
  have := tb_tab h [] k'
  rwa [List.append_nil] at this
theorem fr_refl (H : Heap) (S : List Nat) : Fr H H S := ⟨Nat.le_refl _, fun _ _ _ => rfl⟩
theorem fr_trans {H H1 H2 : Heap} {S T : List Nat} (h1 : Fr H H1 S) (h2 : Fr H1 H2 T) (h : ∀ c ∈ T, c ∈ S ∨ H.length ≤ c) : Fr H H2 S := by
  refine ⟨Nat.le_trans h1.1 h2.1, fun c hc hs => ?_⟩
  have := h1.1
  rw [h2.2 c (by omega) (fun ht => ?_), h1.2 c hc hs]
  rcases h c ht with h | h
  · exact hs h
  · omega
/-- What an edit leaves. -/
def Edited (H : Heap) (b : Nat) (fs cm : List UInt8) (ns : List Nd) (x : List UInt8) (s : List UInt8) (H' : Heap) : Prop :=
  ∃ cm' ns', TB H' b fs cm' ns' s.length ∧ alls fs cm' ns' = s ∧ Fr H H' (b :: ns.map (·.b)) ∧ (∀ n ∈ ns', n.b ∈ ns.map (·.b) ∨ H.length ≤ n.b) ∧ cm'.length ≤ cm.length + x.length
theorem edited_none {H : Heap} {b : Nat} {fs cm : List UInt8} {ns : List Nd} {x : List UInt8} (h : TB H b fs cm ns (alls fs cm ns).length) : Edited H b fs cm ns x (alls fs cm ns) H :=
  ⟨cm, ns, h, rfl, fr_refl _ _, fun n hn => .inl (List.mem_map_of_mem hn), by omega⟩
/-- The second half: the list is cut at both ends. -/
theorem edit_tail {H2 H3 : Heap} {b : Nat} {fs cm x : List UInt8} {l1 l2 N : List Nd} {k a : Nat} {p : Nat × Nat} (h2 : TB H2 b fs cm (l1 ++ l2) k)
    (hN : Lst H2 (N ++ l2)) (hNd : (N.map (·.b)).Nodup) (hNn : ∀ n ∈ N, n.b ∉ b :: (l1 ++ l2).map (·.b)) (hNo : ∀ n ∈ N, NdOk fs cm n) (hNx : alls fs cm N = x)
    (h3 : Cut H2 b fs cm l1 l2 k a p H3) {cs : List AV} (hc : H3[p.1]? = some (.cells cs)) (k' : Nat) :
    ∃ ns', TB ((H3.set p.1 (.cells (cs.set p.2 (ptr (N ++ l2))))).set b (.cells (tbC fs cm ns' k'))) b fs cm ns' k' ∧ alls fs cm ns' = (alls fs cm l1).take a ++ x ++ alls fs cm l2 ∧
      (H3.set p.1 (.cells (cs.set p.2 (ptr (N ++ l2)))))[b]? = some (.cells (tbC fs cm ns' k)) ∧
      Fr H2 ((H3.set p.1 (.cells (cs.set p.2 (ptr (N ++ l2))))).set b (.cells (tbC fs cm ns' k'))) (b :: (l1 ++ l2).map (·.b)) ∧ ∀ n ∈ ns', n.b ∈ (l1 ++ N ++ l2).map (·.b) ∨ H2.length ≤ n.b := by
  obtain ⟨m1, m2, rfl, t3, e1, e2, fr, own⟩ := h3
  have hlt2 := tb_lt h2
  have hNl := lst_lt hN
  have hln : Lst H3 (N ++ l2) := by
    have hr : Lst H3 l2 := by
      have := t3.lst
      rw [← List.append_assoc] at this
      exact lst_right this
    have : ∀ (M : List Nd), (∀ n ∈ M, n ∈ N) → Lst H2 (M ++ l2) → Lst H3 (M ++ l2) := by
      intro M
      induction M with
      | nil => intro _ _; exact hr
      | cons n M ih =>
        intro hs hl
        refine ⟨?_, ih (fun q hq => hs q (List.mem_cons_of_mem _ hq)) hl.2⟩
        have hn := hs n (List.mem_cons_self ..)
        rw [fr.2 n.b (hNl n (List.mem_append_left _ hn)) (hNn n hn)]
        exact hl.1
    exact this N (fun _ h => h) hN
  have hnd3 := t3.nd
  have hm1 : ∀ n ∈ m1, n.b ∉ N.map (·.b) := fun n hn hm => by
    obtain ⟨q, hq, e⟩ := List.mem_map.1 hm
    rcases own n (List.mem_append_left _ hn) with h | h
    · refine hNn q hq ?_
      rw [e, List.map_append]
      exact List.mem_cons_of_mem _ (List.mem_append_left _ h)
    · have := hNl q (List.mem_append_left _ hq)
      omega
  have hnd : (b :: (m1 ++ (N ++ l2)).map (·.b)).Nodup := by
    simp only [List.map_append] at hnd3 ⊢
    have h4 := List.nodup_cons.1 hnd3
    have h5 := List.nodup_append.1 h4.2
    have h6 := List.nodup_append.1 h5.2.1
    refine List.nodup_cons.2 ⟨?_, List.nodup_append.2 ⟨h5.1, List.nodup_append.2 ⟨hNd, h6.2.1, ?_⟩, ?_⟩⟩
    · intro hm
      rcases List.mem_append.1 hm with h | h
      · exact h4.1 (List.mem_append_left _ h)
      · rcases List.mem_append.1 h with h | h
        · obtain ⟨q, hq, e⟩ := List.mem_map.1 h
          exact hNn q hq (by rw [e]; exact List.mem_cons_self ..)
        · exact h4.1 (List.mem_append_right _ (List.mem_append_right _ h))
    · intro u hu v hv e
      obtain ⟨q, hq, e'⟩ := List.mem_map.1 hu
      refine hNn q hq ?_
      rw [e', e, List.map_append]
      exact List.mem_cons_of_mem _ (List.mem_append_right _ hv)
    · intro u hu v hv e
      obtain ⟨q, hq, e'⟩ := List.mem_map.1 hu
      rcases List.mem_append.1 hv with h | h
      · exact hm1 q hq (by rw [e', e]; exact h)
      · exact h5.2.2 u hu v (List.mem_append_right _ h) e
  have okk : ∀ n ∈ N ++ l2, NdOk fs cm n := fun n hn => by
    rcases List.mem_append.1 hn with h | h
    · exact hNo n h
    · exact h2.ok n (List.mem_append_right _ h)
  obtain ⟨t4, fr4⟩ := loc_set t3 hc hln hnd okk
  refine ⟨m1 ++ (N ++ l2), tb_n t4 k', ?_, t4.tab, ⟨?_, fun c hcl hcs => ?_⟩, fun n hn => ?_⟩
  · rw [alls_app, alls_app, e1, hNx, List.append_assoc]
  · simp only [List.length_set]; exact fr.1
  · have hcb : b ≠ c := fun e => hcs (by rw [e]; exact List.mem_cons_self ..)
    rw [List.getElem?_set_ne hcb, fr4 c ?_, fr.2 c hcl hcs]
    intro hm
    rcases List.mem_cons.1 hm with h | h
    · exact hcb h.symm
    · obtain ⟨q, hq, e⟩ := List.mem_map.1 h
      rcases own q (List.mem_append_left _ hq) with h | h
      · refine hcs ?_
        rw [← e, List.map_append]
        exact List.mem_cons_of_mem _ (List.mem_append_left _ h)
      · omega
  · rw [List.map_append, List.map_append]
    rcases List.mem_append.1 hn with h | h
    · rcases own n (List.mem_append_left _ h) with h | h
      · left; simp [h]
      · exact .inr h
    · left
      rcases List.mem_append.1 h with h | h
      · exact List.mem_append_left _ (List.mem_append_right _ (List.mem_map_of_mem h))
      · exact List.mem_append_right _ (List.mem_map_of_mem h)
end Go.Proofs.Ytmehaecclidfjaa
