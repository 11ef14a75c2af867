/- A region in a drawn order is sound. -/
import Derived.Test.YtikedgpcgacgoaaHmDraw6
namespace Go.Hm
open Go Go.RowKit

section
variable {P : Program} {φ0 : Nat → Nat} {F0 : Nat → Nat → Prop} {H0 : Heap} {w0 : World} {T : Nat} {C : Orc} {lk lim base : Nat} {pm : Pm} {ops : Array Oper} {Q : Exit → Act → World → Prop}

/-- A row of what must have been done before. -/
def OkRow (ops : List Oper) (j : Nat) (row : List Nat) : Prop :=
  ∀ S : Nat → Prop, (∀ i o, ops[i]? = some o → S i → ∀ e ∈ directs o, S e) → (∀ o, ops[j]? = some o → ∀ e ∈ directs o, S e) → ∀ x ∈ row, S x

theorem befs_spec {ops : List Oper} : ∀ (l done : List Oper) (acc : List (List Nat)), done ++ l = ops → acc.length = done.length → (∀ (j : Nat) row, acc[j]? = some row → OkRow ops j row) → ∀ (j : Nat) row, (befs l acc)[j]? = some row → OkRow ops j row
  | [], done, acc, _, _, h, j, row, hj => h j row hj
  | o :: r, done, acc, hd, hl, h, j, row, hj => by
    refine befs_spec r (done ++ [o]) _ (by rw [List.append_assoc]; exact hd) (by simp [hl]) (fun k rw' hk => ?_) j row hj
    rw [List.getElem?_append] at hk
    split at hk
    · exact h k rw' hk
    · have hk0 : k - acc.length = 0 := by
        have := (List.getElem?_eq_some_iff.1 hk).1
        simp at this
        omega
      rw [hk0] at hk
      simp only [List.getElem?_cons_zero, Option.some.injEq] at hk
      subst hk
      have hke : k = done.length := by omega
      have hok : ops[k]? = some o := by rw [← hd, hke]; simp
      intro S hS hdir x hx
      rw [List.mem_eraseDups, List.mem_append, List.mem_flatMap] at hx
      rcases hx with hx | ⟨e, he, hx⟩
      · exact hdir o hok x hx
      · have hSe := hdir o hok e he
        rw [List.getD_eq_getElem?_getD] at hx
        cases hr : acc[e]? with
        | none => rw [hr] at hx; simp at hx
        | some row' =>
          rw [hr] at hx
          exact h e row' hr S hS (fun o' ho' e' he' => hS e o' ho' hSe e' he') x (by simpa using hx)

/-- What drawOk says. -/
structure DrawOk (ops : Array Oper) (l : List AI) : Prop where
  lt : ∀ j o, ops[j]? = some o → ∀ e ∈ directs o, e < j
  ind : ∀ i j, i < j → j < ops.size → Indep (l.getD i default) (l.getD j default) ∨ ∀ S : Nat → Prop, (∀ i o, ops[i]? = some o → S i → ∀ e ∈ directs o, S e) → (∀ o, ops[j]? = some o → ∀ e ∈ directs o, S e) → S i

theorem DrawOk.of {l : List AI} (h : drawOk ops l = true) : DrawOk ops l := by
  unfold drawOk at h
  simp only [Bool.and_eq_true, List.all_eq_true, List.mem_range, Bool.or_eq_true, decide_eq_true_eq] at h
  obtain ⟨_, h⟩ := h
  refine ⟨fun j o ho e he => ?_, fun i j hij hj => ?_⟩
  · have hlt : j < ops.size := (Array.getElem?_eq_some_iff.1 ho).1
    have hoo : ops.getD j default = o := by simp [Array.getD_eq_getD_getElem?, ho]
    exact (h j hlt).1 e (by rw [hoo]; exact he)
  · rcases (h j hj).2 i hij with hc | hc
    · refine .inr fun S hS hd => ?_
      rw [List.getD_eq_getElem?_getD] at hc
      cases hr : (befs ops.toList [])[j]? with
      | none => rw [hr] at hc; simp at hc
      | some row =>
        rw [hr] at hc
        exact befs_spec (ops := ops.toList) ops.toList [] [] rfl rfl (fun k row hk => by simp at hk) j row hr S (fun i o ho => hS i o (by simpa using ho)) (fun o ho => hd o (by simpa using ho)) i (by simpa using hc)
    · exact .inl (Indep.of hc)

theorem ready_iff {listed : Array Bool} {i : Nat} : i ∈ Region.ready .any ops listed ↔ ∃ o, ops[i]? = some o ∧ listed.getD i true = false ∧ ∀ e ∈ directs o, listed.getD e false = true := by
  unfold Region.ready directs
  simp only [List.mem_filter, List.mem_range, Bool.and_eq_true, Bool.not_eq_true']
  constructor
  · rintro ⟨hlt, h1, h2⟩
    have ho : ops[i]? = some ops[i] := by simp [hlt]
    rw [ho] at h2
    simp only [Option.map_some, Option.getD_some, Array.all_eq_true_iff_forall_mem, Bool.or_eq_true, Bool.not_eq_true'] at h2
    refine ⟨_, ho, h1, fun e he => ?_⟩
    simp only [List.mem_map, List.mem_filter, Array.mem_toList_iff] at he
    obtain ⟨x, ⟨hx, hb⟩, rfl⟩ := he
    rcases h2 x hx with h | h
    · rw [hb] at h; cases h
    · exact h
  · rintro ⟨o, ho, h1, h2⟩
    have hlt : i < ops.size := (Array.getElem?_eq_some_iff.1 ho).1
    refine ⟨hlt, h1, ?_⟩
    rw [ho]
    simp only [Option.map_some, Option.getD_some, Array.all_eq_true_iff_forall_mem, Bool.or_eq_true, Bool.not_eq_true']
    intro x hx
    cases hb : Region.binds .any x with
    | false => exact .inl rfl
    | true => exact .inr (h2 x.on (by simp only [List.mem_map, List.mem_filter, Array.mem_toList_iff]; exact ⟨x, ⟨hx, hb⟩, rfl⟩))

/-- What is still to be done. -/
def rest (n : Nat) (listed : Array Bool) : List Nat := (List.range n).filter fun i => !listed.getD i true

theorem rest_set {n i : Nat} {listed : Array Bool} (hs : listed.size = n) {pre post : List Nat} (h : rest n listed = pre ++ i :: post) : rest n (listed.setIfInBounds i true) = pre ++ post := by
  have hi : i ∈ rest n listed := by rw [h]; simp
  unfold rest at hi
  simp only [List.mem_filter, List.mem_range] at hi
  have hnd : (rest n listed).Nodup := List.Pairwise.filter _ List.nodup_range
  have e : rest n (listed.setIfInBounds i true) = (rest n listed).filter fun k => k != i := by
    unfold rest
    rw [List.filter_filter]
    apply List.filter_congr
    intro k hk
    simp only [List.mem_range] at hk
    simp only [Array.getD_eq_getD_getElem?, Array.getElem?_setIfInBounds]
    by_cases hki : i = k
    · subst hki; simp [hs, hk]
    · rw [if_neg hki]
      have : (k != i) = true := by simpa using fun h => hki h.symm
      rw [this, Bool.true_and]
  rw [e, h]
  rw [h] at hnd
  rw [List.filter_append, List.filter_cons]
  simp only [bne_self_eq_false, Bool.false_eq_true, if_false]
  have hp : ∀ k ∈ pre, (k != i) = true := fun k hk => by
    rw [bne_iff_ne]
    intro e
    subst e
    exact (List.nodup_append.1 hnd).2.2 k hk k (by simp) rfl
  have hq : ∀ k ∈ post, (k != i) = true := fun k hk => by
    rw [bne_iff_ne]
    intro e
    subst e
    exact (List.nodup_cons.1 (List.nodup_append.1 hnd).2.1).1 hk
  rw [List.filter_eq_self.2 hp, List.filter_eq_self.2 hq]

theorem any_sound (hC : OrcOk P C) (hF : OrcFr C) (hT : pm.T = T) {l : List AI} (hD : DrawOk ops l) (hl : ∀ j o, ops[j]? = some o → SameBut (l.getD j default) (compI P pm ops o)) {envf : Env} {Hf : Heap} (hQ : ∀ act' w', Post φ0 F0 H0 w0 Hf envf T act' w' → Q .normal act' w') :
    ∀ (fuel : Nat) (listed : Array Bool) {φ : Nat → Nat} {F : Nat → Nat → Prop} {H : Heap} {w : World} {β : Nat → Nat} {env : Env} {act : Act} {env2 : Env}, listed.size = ops.size → (rest ops.size listed).length = fuel →
    (∀ i o, ops[i]? = some o → listed.getD i true = true → ∀ e ∈ directs o, listed.getD e false = true) → Full φ0 F0 H0 w0 φ F H w β env act T → (((rest ops.size listed).map (l.getD · default)).any isCall = true → Cl base H) →
    Big base ((rest ops.size listed).map (l.getD · default)) H → runD C lk lim base ((rest ops.size listed).map (l.getD · default)) env H = some (env2, Hf) → EqE envf env2 → wpAny P .any ops Q fuel listed act w
  | 0, listed, φ, F, H, w, β, env, act, env2, hs, hfu, hcl, f, hca, hbig, hrun, heq => by
    have hnil : rest ops.size listed = [] := List.eq_nil_of_length_eq_zero hfu
    refine ⟨?_, ?_⟩
    · rw [List.eq_nil_iff_forall_not_mem]
      intro i hi
      obtain ⟨o, ho, h1, _⟩ := ready_iff.1 hi
      have : i ∈ rest ops.size listed := by
        unfold rest
        simp only [List.mem_filter, List.mem_range, h1]
        exact ⟨(Array.getElem?_eq_some_iff.1 ho).1, rfl⟩
      rw [hnil] at this
      simp at this
    · rw [hnil] at hrun
      simp only [List.map_nil, runD, Option.some.injEq, Prod.mk.injEq] at hrun
      obtain ⟨rfl, rfl⟩ := hrun
      exact hQ _ _ ⟨φ, F, β, f.sub fun t => .inl (heq.1 t)⟩
  | fuel + 1, listed, φ, F, H, w, β, env, act, env2, hs, hfu, hcl, f, hca, hbig, hrun, heq => by
    refine ⟨fun hr => ?_, fun i hi => ?_⟩
    · exfalso
      cases hR : rest ops.size listed with
      | nil => rw [hR] at hfu; simp at hfu
      | cons j0 R =>
        have hj0 : j0 ∈ rest ops.size listed := by rw [hR]; simp
        have hsorted : (rest ops.size listed).Pairwise (· < ·) := List.Pairwise.filter _ List.pairwise_lt_range
        unfold rest at hj0
        simp only [List.mem_filter, List.mem_range, Bool.not_eq_true'] at hj0
        have ho : ops[j0]? = some ops[j0] := by simp [hj0.1]
        have : j0 ∈ Region.ready .any ops listed := ready_iff.2 ⟨_, ho, hj0.2, fun e he => by
          have hlt := hD.lt j0 _ ho e he
          have hn : e ∉ rest ops.size listed := by
            intro hm
            rw [hR] at hm hsorted
            rcases List.mem_cons.1 hm with h | h
            · omega
            · have := (List.pairwise_cons.1 hsorted).1 e h; omega
          unfold rest at hn
          simp only [List.mem_filter, List.mem_range, Bool.not_eq_true'] at hn
          have hes : e < listed.size := by omega
          have : listed.getD e true = true := by
            cases hx : listed.getD e true with
            | true => rfl
            | false => exact absurd ⟨by omega, hx⟩ hn
          simpa [Array.getD_eq_getD_getElem?, hes] using this⟩
        rw [hr] at this
        simp at this
    · obtain ⟨o, ho, h1, h2⟩ := ready_iff.1 hi
      have hin : i < ops.size := (Array.getElem?_eq_some_iff.1 ho).1
      have hmem : i ∈ rest ops.size listed := by
        unfold rest
        simp only [List.mem_filter, List.mem_range, h1]
        exact ⟨hin, rfl⟩
      obtain ⟨pre, post, hR⟩ := List.append_of_mem hmem
      have hsorted : (rest ops.size listed).Pairwise (· < ·) := List.Pairwise.filter _ List.pairwise_lt_range
      have hind : ∀ p ∈ pre.map (l.getD · default), Indep p (l.getD i default) := by
        intro p hp
        obtain ⟨k, hk, rfl⟩ := List.mem_map.1 hp
        have hki : k < i := by
          rw [hR] at hsorted
          exact (List.pairwise_append.1 hsorted).2.2 k hk i (by simp)
        rcases hD.ind k i hki hin with h | h
        · exact h
        · exfalso
          have hSk := h (fun x => listed.getD x true = true) (fun x ox hox hx e he => by
              have := hcl x ox hox hx e he
              have hlt := hD.lt x ox hox e he
              have hxs := (Array.getElem?_eq_some_iff.1 hox).1
              have hes : e < listed.size := by omega
              simpa [Array.getD_eq_getD_getElem?, hes] using this) (fun ox hox e he => by
              rw [ho] at hox; cases hox
              have := h2 e he
              have hlt := hD.lt i o ho e he
              have hes : e < listed.size := by omega
              simpa [Array.getD_eq_getD_getElem?, hes] using this)
          have hkm : k ∈ rest ops.size listed := by rw [hR]; simp [hk]
          unfold rest at hkm
          simp only [List.mem_filter, Bool.not_eq_true'] at hkm
          rw [hkm.2] at hSk
          cases hSk
      rw [hR] at hrun hca hbig
      simp only [List.map_append, List.map_cons] at hrun hca hbig
      obtain ⟨env2', hrun', heq2⟩ := runD_front hind hbig hrun
      obtain ⟨env1, H1, hst, hrun'⟩ := runD_cons.1 hrun'
      have hrest := rest_set hs hR
      refine stepD_sound hC hF f ho (hl i o ho) hT hbig.1 (fun hc => hca ?_) (stepD_iff.2 hst) (fun act' w' ⟨φ', F', β', f'⟩ => ?_)
      · simp only [List.any_append, List.any_cons, hc]; simp
      · refine any_sound hC hF hT hD hl hQ fuel (listed.setIfInBounds i true) (by simpa using hs) ?_ (fun x ox hox hx e he => ?_) f' (fun hc => ?_) ?_ (by rw [hrest, List.map_append]; exact hrun') (heq.trans heq2)
        · rw [hrest]
          rw [hR] at hfu
          simp only [List.length_append, List.length_cons] at hfu ⊢
          omega
        · have hes : e < listed.size := by
            have := hD.lt x ox hox e he
            have := (Array.getElem?_eq_some_iff.1 hox).1
            omega
          have hold : listed.getD e false = true := by
            by_cases hxi : x = i
            · subst hxi; rw [ho] at hox; cases hox; exact h2 e he
            · refine hcl x ox hox ?_ e he
              simp only [Array.getD_eq_getD_getElem?, Array.getElem?_setIfInBounds] at hx ⊢
              rw [if_neg (fun e => hxi e.symm)] at hx
              exact hx
          simp only [Array.getD_eq_getD_getElem?, Array.getElem?_setIfInBounds] at hold ⊢
          by_cases hie : i = e
          · rw [if_pos hie, if_pos (by omega)]; rfl
          · rw [if_neg hie]; exact hold
        · rw [hrest, List.map_append] at hc
          have hcb : cbOf base (pre.map (l.getD · default) ++ post.map (l.getD · default)) = base := by
            unfold cbOf
            rw [if_pos hc]
          rw [hcb] at hst
          exact steps_clb hst hbig.1 (hca (by
            rw [List.any_append, Bool.or_eq_true] at hc
            simp only [List.any_append, List.any_cons, Bool.or_eq_true]
            rcases hc with h | h
            · exact .inl h
            · exact .inr (.inr h)))
        · rw [hrest, List.map_append]
          exact hbig.mono (fun q hq => by simp only [List.mem_append, List.mem_cons] at hq ⊢; rcases hq with h | h; exact .inl h; exact .inr (.inr h)) (steps_len hst)
end
end Go.Hm
