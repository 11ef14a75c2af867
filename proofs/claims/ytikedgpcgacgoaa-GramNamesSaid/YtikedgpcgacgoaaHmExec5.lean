/- Calls are sound: the induction. -/
import Derived.Test.YtikedgpcgacgoaaHmExec4
namespace Go.Hm
open Go Go.RowKit

theorem find_enter : ∀ (k : Nat) (as : List AV) (t : Nat), find (enterFrom k as) t = if k ≤ t then (as[t - k]?).getD .dead else .dead
  | k, [], t => by simp [enterFrom, find]
  | k, a :: r, t => by
    simp only [enterFrom, find, find_enter (k + 1) r t]
    by_cases h : k = t
    · subst h; simp
    · rw [if_neg h]
      by_cases h2 : k ≤ t
      · rw [if_pos h2, if_pos (by omega)]
        obtain ⟨m, hm⟩ : ∃ m, t - k = m + 1 := ⟨t - k - 1, by omega⟩
        rw [hm, show t - (k + 1) = m from by omega]; simp
      · rw [if_neg h2, if_neg (by omega)]

section
variable {P : Program} {X : Orc} {A : FuncId → Option AFn}

theorem VRel.notBox {φ : Nat → Nat} {F : Nat → Nat → Prop} {H : Heap} {w : World} {cs : List AV} {v : Value} (h : VRel φ F H w (.box cs) v) : False := by
  cases h with
  | one h => cases h

/-- The frame at a call's beginning. -/
theorem full_enter {φ : Nat → Nat} {F : Nat → Nat → Prop} {H : Heap} {w : World} {as : List AV} {vs : List Value} {T : Nat} (sr : SR φ F H w) (ha : ARel φ F H w as vs) (hT : as.length ≤ T) :
    Full φ F H w φ F H w (fun _ => w.heap.size) (enterFrom 0 as) { tmps := vs.toArray ++ Array.replicate (T - vs.toArray.size) undef, defers := [] } T := by
  have nb : ∀ t cs, find (enterFrom 0 as) t ≠ .box cs := fun t cs h => by
    rw [find_enter, if_pos (Nat.zero_le _), Nat.sub_zero] at h
    cases hx : as[t]? with
    | none => rw [hx] at h; cases h
    | some a =>
      rw [hx] at h
      simp only [Option.getD_some] at h
      subst h
      have hlt : t < vs.length := by rw [ha.1]; exact (List.getElem?_eq_some_iff.1 hx).1
      exact (ha.2 t _ vs[t] hx (by simp [hlt])).notBox
  have hl := ha.1
  refine ⟨⟨sr, by simp; omega, fun t => ?_, fun t cs b h => absurd h (nb t cs), fun t t' cs cs' h => absurd h (nb t cs), fun t cs o h => absurd h (nb t cs)⟩, Ext.refl _ _ _ _, Chg.refl _ _, fun b hb => .inl ⟨hb, rfl⟩, fun t cs h => absurd h (nb t cs), rfl, fun k o h => .inl h⟩
  rw [find_enter, if_pos (Nat.zero_le _), Nat.sub_zero]
  cases hx : as[t]? with
  | none => trivial
  | some a =>
    have hlt : t < vs.length := by rw [hl]; exact (List.getElem?_eq_some_iff.1 hx).1
    have hv : (vs.toArray ++ Array.replicate (T - vs.toArray.size) undef).getD t undef = vs[t] := by
      rw [Array.getD_eq_getD_getElem?, Array.getElem?_append_left (by simpa using hlt)]
      simp [hlt]
    have hr := ha.2 t a vs[t] hx (by simp [hlt])
    simp only [Option.getD_some]
    rw [hv]
    have ho : ORel φ F H w (fun _ => w.heap.size) a vs[t] := ORel.of hr
    cases a <;> first | exact ho | exact ho.elim

/-- What a call that cuts the heap back leaves. -/
theorem callR_cut {φ φ' : Nat → Nat} {F F' : Nat → Nat → Prop} {H H1 : Heap} {w w' : World} {β : Nat → Nat} {env : Env} {act : Act} {T d : Nat} {v v' : AV} {cv : Value} (f : Full φ F H w φ' F' H1 w' β env act T) (hcl : Cl H.length H1) (hv : VRel φ' F' H1 w' v cv)
    (hf : frz H.length H1 d v = some v') (hb : Hm.below H.length v' = true) : CallR φ F H w v' (H1.take H.length) cv w' := by
  have sr1 := f.st.sr.take hcl
  have lv : ∀ b, live (H1.take H.length) b → live H1 b ∧ b < H.length := fun b ⟨cs, h1, h2⟩ => ⟨⟨cs, (take_get h1).2, h2⟩, (take_get h1).1⟩
  have e2 : Ext φ' F' (H1.take H.length) w' φ' (F2 φ' F' H1 H.length) (H1.take H.length) w' := ⟨fun _ cs h => ⟨cs, h, Nat.le_refl _, fun _ => rfl⟩, fun _ _ h => ⟨.inl h, rfl⟩, Wm.refl w'⟩
  refine ⟨φ', F2 φ' F' H1 H.length, (frz_v f.st.sr d hf hv).shrink hb, ⟨fun b cs h hne => ?_, sr1.inj, fun b o hl h => ?_, fun k o h => ?_⟩, ⟨fun b cs h => ?_, fun k o h => ⟨.inl (f.ext.frz k o h).1, (f.ext.frz k o h).2⟩, f.ext.wm⟩, f.chg, fun b hl => f.phi b (lv b hl).1, fun k o h => ?_⟩
  · obtain ⟨arr, ty, ha, hr⟩ := sr1.blk b cs h hne
    exact ⟨arr, ty, ha, fun i a hi => by
      obtain ⟨u, hu, hrel⟩ := hr i a hi
      exact ⟨u, hu, hrel.mono e2⟩⟩
  · rcases h with h | ⟨b', hb', hl', he⟩
    · exact sr1.phiF b o hl h
    · have := f.st.sr.inj b' b hl' (lv b hl).1 he
      have := (lv b hl).2
      omega
  · rcases h with h | ⟨b', _, hl', he⟩
    · exact sr1.fsz k o h
    · rw [← he]; exact live_lt f.st.sr hl'
  · obtain ⟨cs', h1, h2, h3⟩ := f.ext.len b cs h
    have hlt : b < H.length := (List.getElem?_eq_some_iff.1 h).1
    exact ⟨cs', by rw [List.getElem?_take, if_pos hlt]; exact h1, h2, h3⟩
  · rcases h with h | ⟨b', hb', hl', he⟩
    · exact f.frn k o h
    · rcases f.phi b' hl' with ⟨⟨cs, h1, _⟩, _⟩ | h
      · have := (List.getElem?_eq_some_iff.1 h1).1
        omega
      · exact .inr (by omega)

/-- The functions' texts are compiled from the program. -/
def FnsOk (P : Program) (A : FuncId → Option AFn) : Prop := ∀ f fd, A f = some fd → ∃ pm ks, compF P (f % 1000) pm ks fd.trunc = some fd

/-- CONTRACTS OF ALL CALLS. -/
theorem callN_ok (hm : P.follows .mixedOrders = true) (hX : OrcOk P X) (hXF : OrcFr X) (hA : FnsOk P A) : ∀ n, OrcOk P (callN X A n)
  | 0 => fun _ _ _ _ _ _ _ h => by simp [callN] at h
  | n + 1 => by
    have ih := callN_ok hm hX hXF hA n
    have ihF := callN_fr (A := A) hXF n
    intro lk lim f as H r H' h
    simp only [callN] at h
    split at h
    · rename_i r' hx
      simp only [Option.some.injEq] at h
      subst h
      exact hX _ _ _ _ _ _ _ hx
    · split at h
      case h_1 => simp at h
      rename_i fd hfd
      split at h
      case isFalse => simp at h
      rename_i hnp
      obtain ⟨pm, ks, hcomp⟩ := hA f fd hfd
      unfold compF at hcomp
      split at hcomp
      case h_2 => simp at hcomp
      rename_i fn hfn
      split at hcomp
      case h_2 => simp at hcomp
      rename_i c hbody
      split at hcomp
      case isFalse => simp at hcomp
      rename_i hchk
      simp only [Option.some.injEq] at hcomp
      obtain ⟨hname, hsz, hres⟩ := hchk
      refine ⟨⟨fn, hfn, hname, by rw [hbody]; rfl⟩, fun φ F w vs sr ha => ?_⟩
      rw [← hcomp] at h hnp
      dsimp only at h hnp
      have f0 := full_enter (T := fn.ntmps) sr ha (by omega)
      unfold finish at h
      split at h
      · simp at h
      · rename_i ex env1 H1 hnx hex
        split at h
        case h_2 => simp at h
        rename_i v hv
        refine calls_of_wp hfn hbody (exec_sound hm ih ihF (pm := { pm with T := fn.ntmps }) rfl c ks f0 hex (fun act' w' ⟨φ', F', β', f'⟩ => ?_))
        obtain ⟨cv, hrun, hrel⟩ := results_run f'.st hres hv
        have hfr := exec_fr ihF _ hex
        have main : CallR φ F H w r H' cv w' := by
          split at h
          · rename_i ht
            rw [if_pos ht] at hfr
            split at h
            case h_2 => simp at h
            rename_i v' hfz
            split at h
            case isFalse => simp at h
            rename_i hbel
            simp only [Option.some.injEq, Prod.mk.injEq] at h
            obtain ⟨rfl, rfl⟩ := h
            exact callR_cut f' (hfr.cl _ (Nat.le_refl _) (Nat.le_refl _) sr.cl) hrel hfz hbel
          · simp only [Option.some.injEq, Prod.mk.injEq] at h
            obtain ⟨rfl, rfl⟩ := h
            exact ⟨φ', F', hrel, f'.st.sr, f'.ext, f'.chg, f'.phi, f'.frn⟩
        cases ex with
        | nrm => exact ⟨f'.dfr, cv, hrun, cv, rfl, main⟩
        | ret => exact ⟨f'.dfr, cv, hrun, cv, rfl, main⟩
        | exit id => exact (hnx id rfl).elim
      · simp at h
end
end Go.Hm
