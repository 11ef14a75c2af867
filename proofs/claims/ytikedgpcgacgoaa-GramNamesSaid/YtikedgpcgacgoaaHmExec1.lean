/- The code is sound. -/
import Derived.Test.YtikedgpcgacgoaaHmDraw7
import Derived.Scope
namespace Go.Hm
open Go Go.RowKit

section
variable {P : Program} {φ0 : Nat → Nat} {F0 : Nat → Nat → Prop} {H0 : Heap} {w0 : World} {T : Nat} {C : Orc} {lk lim : Nat} {pm : Pm}

theorem Full.heap {φ : Nat → Nat} {F : Nat → Nat → Prop} {H H' : Heap} {w : World} {β : Nat → Nat} {env : Env} {act : Act} (f : Full φ0 F0 H0 w0 φ F H w β env act T) (h : ∀ (b : Nat) cs, H'[b]? = some (.cells cs) ↔ H[b]? = some (.cells cs)) :
    Full φ0 F0 H0 w0 φ F H' w β env act T := by
  have e : Ext φ F H w φ F H' w := ⟨fun b cs hb => ⟨cs, (h b cs).2 hb, Nat.le_refl _, fun _ => rfl⟩, fun k o hk => ⟨hk, rfl⟩, Wm.refl w⟩
  have lv : ∀ b, live H' b → live H b := fun b ⟨cs, h1, h2⟩ => ⟨cs, (h b cs).1 h1, h2⟩
  have sr : SR φ F H' w := ⟨fun b cs hb hne => by
    obtain ⟨arr, ty, ha, hc⟩ := f.st.sr.blk b cs ((h b cs).1 hb) hne
    exact ⟨arr, ty, ha, fun i a hi => by
      obtain ⟨v, hv, hr⟩ := hc i a hi
      exact ⟨v, hv, hr.mono e⟩⟩, fun b b' h1 h2 => f.st.sr.inj b b' (lv b h1) (lv b' h2), fun b o hl => f.st.sr.phiF b o (lv b hl), f.st.sr.fsz⟩
  exact ⟨f.st.mono e sr (fun t cs ht => ⟨rfl, fun b hl => f.st.bphi t cs b ht (lv b hl), fun o => f.st.bF t cs o ht⟩), f.ext.trans e, f.chg, fun b hl => f.phi b (lv b hl), f.beta, f.dfr, f.frn⟩

theorem numb_getD : ∀ (l : List AI) (k j : Nat), SameBut ((numb l k).getD j default) (l.getD j default)
  | [], k, j => ⟨rfl, rfl, rfl⟩
  | i :: r, k, 0 => by
    simp only [numb]
    split <;> exact ⟨rfl, rfl, rfl⟩
  | i :: r, k, j + 1 => by
    simp only [numb]
    split
    · simpa using numb_getD r (k + 1) j
    · simpa using numb_getD r k j
theorem numb_length : ∀ (l : List AI) (k : Nat), (numb l k).length = l.length
  | [], k => rfl
  | i :: r, k => by
    simp only [numb]
    split <;> simp [numb_length r]
theorem numb_make : ∀ (l : List AI) (k : Nat), ((numb l k).filter isMake).length = (l.filter isMake).length
  | [], k => rfl
  | i :: r, k => by
    simp only [numb]
    split
    · rename_i h
      have h' : isMake { i with at_ := k } = true := h
      simp [h, h', numb_make r]
    · rename_i h
      simp [h, numb_make r]

theorem map_getD_range (l : List AI) : (List.range l.length).map (l.getD · default) = l := by
  apply List.ext_getElem?
  intro j
  rw [List.getElem?_map]
  by_cases h : j < l.length
  · rw [List.getElem?_range h]
    simp [h]
  · rw [List.getElem?_eq_none (by simp; omega), List.getElem?_eq_none (by omega)]
    rfl

theorem regD_sound (hm : P.follows .mixedOrders = true) (hC : OrcOk P C) (hF : OrcFr C) (hT : pm.T = T) {φ : Nat → Nat} {F : Nat → Nat → Prop} {H : Heap} {w : World} {β : Nat → Nat} {env : Env} {act : Act} {ops : Array Oper} {keep : List Nat} {id : Nat} {env' : Env} {H' : Heap} {Q : Exit → Act → World → Prop}
    (f : Full φ0 F0 H0 w0 φ F H w β env act T) (hd : drawOk ops (numb (ops.toList.map (compI P pm ops)) 0) = true)
    (h : runD C lk lim H.length (numb (ops.toList.map (compI P pm ops)) 0) (restrict keep env) (H ++ List.replicate ((ops.toList.map (compI P pm ops)).filter isMake).length .hole) = some (env', H'))
    (hQ : ∀ act' w', Post φ0 F0 H0 w0 H' env' T act' w' → Q .normal act' w') : (Code.region id ops true).wp P Q act w := by
  refine wp_region_any hm ?_
  obtain ⟨φ1, F1, β1, f1⟩ : Post φ0 F0 H0 w0 H env T act w.drew := f_grow f (dst := none) (v := .und) (cv := undef) (F' := F) (fun d h => by cases h) rfl (Below.refl w.heap.size w).drew (fun _ _ h => h) (fun _ _ h => .inl h) rfl
  generalize hl : numb (ops.toList.map (compI P pm ops)) 0 = l at hd h
  have hlen : l.length = ops.size := by rw [← hl, numb_length, List.length_map, Array.length_toList]
  have hmk : ((ops.toList.map (compI P pm ops)).filter isMake).length = (l.filter isMake).length := by rw [← hl, numb_make]
  rw [hmk] at h
  have f2 : Full φ0 F0 H0 w0 φ1 F1 (H ++ List.replicate (l.filter isMake).length .hole) w.drew β1 (restrict keep env) act T := by
    refine (f1.sub (find_restrict keep env)).heap (fun b cs => ?_)
    by_cases hb : b < H.length
    · rw [List.getElem?_append_left hb]
    · rw [List.getElem?_append_right (by omega), List.getElem?_eq_none (l := H) (by omega), List.getElem?_replicate]
      split <;> simp
  have hrest : rest ops.size (Array.replicate ops.size false) = List.range ops.size := by
    unfold rest
    rw [List.filter_eq_self]
    intro i hi
    rw [List.mem_range] at hi
    simp [Array.getD_eq_getD_getElem?, hi]
  have hmap : (rest ops.size (Array.replicate ops.size false)).map (l.getD · default) = l := by rw [hrest, ← hlen]; exact map_getD_range l
  refine any_sound (w := w.drew) hC hF hT (DrawOk.of hd) (fun j o ho => ?_) hQ ops.size (Array.replicate ops.size false) (by simp) (by rw [hrest]; simp) (fun i o ho hi => ?_) f2 (fun _ => ?_) ?_ (by rw [hmap]; exact h) (EqE.refl _)
  · have := numb_getD (ops.toList.map (compI P pm ops)) 0 j
    rw [hl] at this
    have e : (ops.toList.map (compI P pm ops)).getD j default = compI P pm ops o := by
      rw [List.getD_eq_getElem?_getD, List.getElem?_map]
      simp [ho]
    rw [e] at this
    exact this
  · have hlt := (Array.getElem?_eq_some_iff.1 ho).1
    simp [Array.getD_eq_getD_getElem?, hlt] at hi
  · have : Cl H.length H := f1.st.sr.cl
    exact this.append (Nat.le_refl _)
  · rw [hmap]
    refine ⟨by simp, fun i hi hmi => ?_⟩
    have : 0 < (l.filter isMake).length := List.length_pos_of_mem (List.mem_filter.2 ⟨hi, by unfold isMake; rw [hmi]; rfl⟩)
    rw [List.length_append, List.length_replicate]
    omega

def exOf : Ex → Exit
  | .nrm => .normal
  | .exit id => .exit id
  | .ret => .ret

theorem exec_sound (hm : P.follows .mixedOrders = true) (hC : OrcOk P C) (hF : OrcFr C) (hT : pm.T = T) {n : Nat} : ∀ (c : Code) (ks : List (List Nat)) {φ : Nat → Nat} {F : Nat → Nat → Prop} {H : Heap} {w : World} {β : Nat → Nat} {env : Env} {act : Act} {ex : Ex} {env' : Env} {H' : Heap} {Q : Exit → Act → World → Prop},
    Full φ0 F0 H0 w0 φ F H w β env act T → exec C n lk lim (compC P pm c ks).1 env H = some (ex, env', H') → (∀ act' w', Post φ0 F0 H0 w0 H' env' T act' w' → Q (exOf ex) act' w') → c.wp P Q act w := by
  intro c
  induction c with
  | skip =>
    intro ks φ F H w β env act ex env' H' Q f h hQ
    simp only [compC, exec, Option.some.injEq, Prod.mk.injEq] at h
    obtain ⟨rfl, rfl, rfl⟩ := h
    exact wp_skip (hQ _ _ ⟨_, _, _, f⟩)
  | label l =>
    intro ks φ F H w β env act ex env' H' Q f h hQ
    simp only [compC, exec, Option.some.injEq, Prod.mk.injEq] at h
    obtain ⟨rfl, rfl, rfl⟩ := h
    exact wp_label (hQ _ _ ⟨_, _, _, f⟩)
  | exit id =>
    intro ks φ F H w β env act ex env' H' Q f h hQ
    simp only [compC, exec, Option.some.injEq, Prod.mk.injEq] at h
    obtain ⟨rfl, rfl, rfl⟩ := h
    exact wp_exit (hQ _ _ ⟨_, _, _, f⟩)
  | ret =>
    intro ks φ F H w β env act ex env' H' Q f h hQ
    simp only [compC, exec, Option.some.injEq, Prod.mk.injEq] at h
    obtain ⟨rfl, rfl, rfl⟩ := h
    exact wp_ret (hQ _ _ ⟨_, _, _, f⟩)
  | region id ops draw =>
    intro ks φ F H w β env act ex env' H' Q f h hQ
    simp only [compC] at h
    cases draw with
    | true =>
      simp only [if_true] at h
      split at h
      · rename_i hd
        simp only [exec] at h
        split at h
        case h_2 => simp at h
        rename_i e1 h1 hr
        simp only [Option.some.injEq, Prod.mk.injEq] at h
        obtain ⟨rfl, rfl, rfl⟩ := h
        exact regD_sound hm hC hF hT f hd hr hQ
      · simp [exec] at h
    | false =>
      simp only [Bool.false_eq_true, if_false, exec] at h
      split at h
      case h_2 => simp at h
      rename_i e1 h1 hr
      simp only [Option.some.injEq, Prod.mk.injEq] at h
      obtain ⟨rfl, rfl, rfl⟩ := h
      refine wp_region ?_
      have := runOps_sound (ops := ops) (Q := Q) hC hT ops.toList 0 rfl (f.sub (find_restrict (ks.headD []) env)) hr hQ
      simpa [List.range_eq_range'] using this
  | seq a b iha ihb =>
    intro ks φ F H w β env act ex env' H' Q f h hQ
    simp only [compC, exec] at h
    split at h
    · rename_i e1 h1 ha
      refine wp_seq (iha ks f ha (fun act' w' ⟨φ1, F1, β1, f1⟩ => ?_))
      exact ihb _ f1 h hQ
    · rename_i hne
      refine wp_seq (iha ks f h (fun act' w' hp => ?_))
      cases ex with
      | nrm => exact absurd h (hne _ _)
      | exit id => exact hQ _ _ hp
      | ret => exact hQ _ _ hp
  | cond cnd a b iha ihb =>
    intro ks φ F H w β env act ex env' H' Q f h hQ
    simp only [compC, exec] at h
    split at h
    case h_2 => simp at h
    rename_i t hc
    have hv := ev_val f.st hc
    refine wp_cond hv ?_
    cases t with
    | true => rw [if_pos rfl] at h ⊢; exact iha _ f h hQ
    | false => rw [if_neg (by simp)] at h ⊢; exact ihb _ f h hQ
  | block id b ih =>
    intro ks φ F H w β env act ex env' H' Q f h hQ
    simp only [compC, exec] at h
    split at h
    · rename_i id' e1 h1 hb
      refine wp_block (ih ks f hb (fun act' w' hp => ?_))
      show (if id' = id then Q .normal act' w' else Q (.exit id') act' w')
      split at h
      · rename_i he
        simp only [Option.some.injEq, Prod.mk.injEq] at h
        obtain ⟨rfl, rfl, rfl⟩ := h
        rw [if_pos he]; exact hQ _ _ hp
      · rename_i he
        simp only [Option.some.injEq, Prod.mk.injEq] at h
        obtain ⟨rfl, rfl, rfl⟩ := h
        rw [if_neg he]; exact hQ _ _ hp
    · rename_i hne
      refine wp_block (ih ks f h (fun act' w' hp => ?_))
      cases ex with
      | nrm => exact hQ _ _ hp
      | exit id' => exact absurd h (hne _ _ _)
      | ret => exact hQ _ _ hp
  | loop b ih =>
    intro ks φ F H w β env act ex env' H' Q f h hQ
    simp only [compC, exec] at h
    refine wp_loop_rounds n ?_
    have key : ∀ (k : Nat) {φ : Nat → Nat} {F : Nat → Nat → Prop} {H : Heap} {w : World} {β : Nat → Nat} {env : Env} {act : Act}, Full φ0 F0 H0 w0 φ F H w β env act T →
        iter (fun env H => exec C n lk lim (compC P pm b ks.tail).1 (restrict (ks.headD []) env) H) k env H = some (ex, env', H') → Code.rounds P b Q k act w := by
      intro k
      induction k with
      | zero => intro φ F H w β env act f h; simp [iter] at h
      | succ k ihk =>
        intro φ F H w β env act f h
        simp only [iter] at h
        rw [rounds_succ]
        split at h
        · rename_i e1 h1 hb
          exact ih ks.tail (f.sub (find_restrict _ env)) hb (fun act' w' ⟨φ1, F1, β1, f1⟩ => ihk f1 h)
        · rename_i hne
          refine ih ks.tail (f.sub (find_restrict _ env)) h (fun act' w' hp => ?_)
          cases ex with
          | nrm => exact absurd h (hne _ _)
          | exit id => exact hQ _ _ hp
          | ret => exact hQ _ _ hp
    exact key n f h
  | scope b ih =>
    intro ks φ F H w β env act ex env' H' Q f h hQ
    simp only [compC] at h
    refine wp_scope_straight (ih ks f h (fun act' w' hp => ?_))
    cases ex <;> exact hQ _ _ hp
  | _ =>
    intros
    rename_i h _
    simp [compC, exec] at h
end
end Go.Hm
