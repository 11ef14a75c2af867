/- How states go on: a slot is written, the world grows, a block is made, a block is written. -/
import Derived.Test.YtikedgpcgacgoaaHmOps7
import Derived.Deep.AppendSrc
namespace Go.Hm
open Go Go.RowKit

section
variable {φ : Nat → Nat} {F : Nat → Nat → Prop} {H : Heap} {w : World} {β : Nat → Nat} {env : Env} {act : Act} {T : Nat}

theorem find_noRp {d : Nat} : ∀ {env : Env}, noRp d env = true → ∀ t o, find env t ≠ .rp d o
  | [], _, t, o => by simp [find]
  | (t', v) :: r, h, t, o => by
    simp only [find]
    have h2 : noRp d r = true ∧ ∀ o, v ≠ .rp d o := by
      cases v
      case rp t2 o2 =>
        simp only [noRp] at h
        split at h
        · simp at h
        · rename_i hne
          exact ⟨h, fun o e => hne (by cases e; rfl)⟩
      all_goals exact ⟨by simpa [noRp] using h, fun o e => by cases e⟩
    split
    · exact h2.2 o
    · exact find_noRp h2.1 t o

theorem SRel.beta {β' : Nat → Nat} {t : Nat} {a : AV} {v : Value} (h : SRel φ F H w β t a v) (ht : (∃ cs, a = .box cs) → β' t = β t) (hr : ∀ t' o, a = .rp t' o → β' t' = β t') : SRel φ F H w β' t a v := by
  cases a
  case box cs =>
    have := ht ⟨cs, rfl⟩
    simp only [SRel] at h ⊢
    rw [this]; exact h
  case rp t' o =>
    have := hr t' o rfl
    simp only [SRel, ORel] at h ⊢
    rw [this]; exact h
  all_goals exact h

/-- A slot is written. -/
theorem St.put (s : St φ F H w β env act T) {β' : Nat → Nat} {d : Nat} {v : AV} {cv : Value} (hd : d < T) (hn : noRp d env = true) (hβ : ∀ t, t ≠ d → β' t = β t) (hv : SRel φ F H w β' d v cv)
    (hbox : ∀ cs, v = .box cs → (∀ b, live H b → β' d ≠ φ b) ∧ (∀ t cs', t ≠ d → find env t = .box cs' → β t ≠ β' d) ∧ ∀ o, ¬ F (β' d) o) :
    St φ F H w β' ((d, v) :: env) (act.put (some d) cv) T := by
  have hsz : d < act.tmps.size := by rw [s.size]; exact hd
  have fd : ∀ t, find ((d, v) :: env) t = if d = t then v else find env t := fun t => rfl
  have tm : ∀ t, (act.put (some d) cv).tmps.getD t undef = if d = t then cv else act.tmps.getD t undef := fun t => by
    simp only [Act.put, Array.getD_eq_getD_getElem?, Array.getElem?_setIfInBounds]
    split
    · rename_i h; subst h; simp
    · rfl
  refine ⟨s.sr, by simp [Act.put, s.size], fun t => ?_, fun t cs b ht hl => ?_, fun t t' cs cs' ht ht' he => ?_, fun t cs o ht => ?_⟩
  · rw [fd, tm]
    by_cases h : d = t
    · subst h; simp only [if_true]; exact hv
    · simp only [if_neg h]
      exact (s.slot t).beta (fun _ => hβ t (fun e => h e.symm)) (fun t' o e => hβ t' (fun e' => by subst e'; exact find_noRp hn t o e))
  · rw [fd] at ht
    by_cases h : d = t
    · subst h; simp only [if_true] at ht; exact (hbox cs ht).1 b hl
    · simp only [if_neg h] at ht; rw [hβ t (fun e => h e.symm)]; exact s.bphi t cs b ht hl
  · rw [fd] at ht ht'
    by_cases h : d = t
    · by_cases h' : d = t'
      · omega
      · subst h
        simp only [if_true] at ht
        simp only [if_neg h'] at ht'
        rw [hβ t' (fun e => h' e.symm)] at he
        exact absurd he.symm ((hbox cs ht).2.1 t' cs' (fun e => h' e.symm) ht')
    · by_cases h' : d = t'
      · subst h'
        simp only [if_true] at ht'
        simp only [if_neg h] at ht
        rw [hβ t (fun e => h e.symm)] at he
        exact absurd he ((hbox cs' ht').2.1 t cs (fun e => h e.symm) ht)
      · simp only [if_neg h] at ht
        simp only [if_neg h'] at ht'
        rw [hβ t (fun e => h e.symm), hβ t' (fun e => h' e.symm)] at he
        exact s.binj t t' cs cs' ht ht' he
  · rw [fd] at ht
    by_cases h : d = t
    · subst h; simp only [if_true] at ht; exact (hbox cs ht).2.2 o
    · simp only [if_neg h] at ht; rw [hβ t (fun e => h e.symm)]; exact s.bF t cs o ht

/-- A slot is written by a value that is no boxed local. -/
theorem St.put1 (s : St φ F H w β env act T) {dst : Option Nat} {v : AV} {cv : Value} {env' : Env} (hd : ∀ d, dst = some d → d < T) (hp : Hm.put dst v env = some env') (hv : ORel φ F H w β v cv) : St φ F H w β env' (act.put dst cv) T := by
  cases dst with
  | none => simp [Hm.put] at hp; subst hp; exact s
  | some d =>
    simp only [Hm.put] at hp
    split at hp
    · rename_i hn
      simp at hp; subst hp
      refine s.put (hd d rfl) hn (fun _ _ => rfl) ?_ (fun cs hcs => by subst hcs; exact hv.elim)
      cases v <;> first | exact hv | exact hv.elim
    · simp at hp

/-- The frame in a later world. -/
theorem St.mono {φ' : Nat → Nat} {F' : Nat → Nat → Prop} {H' : Heap} {w' : World} (s : St φ F H w β env act T) (e : Ext φ F H w φ' F' H' w') (sr : SR φ' F' H' w')
    (hb : ∀ t cs, find env t = .box cs → w'.heap[β t]? = w.heap[β t]? ∧ (∀ b, live H' b → β t ≠ φ' b) ∧ ∀ o, ¬ F' (β t) o) : St φ' F' H' w' β env act T := by
  refine ⟨sr, s.size, fun t => ?_, fun t cs b ht hl => (hb t cs ht).2.1 b hl, s.binj, fun t cs o ht => (hb t cs ht).2.2 o⟩
  have h := s.slot t
  generalize hf : find env t = a at h
  cases a
  case box cs =>
    refine ⟨h.1, ?_⟩
    obtain ⟨arr, ty, ha, hc⟩ := h.2
    refine ⟨arr, ty, by rw [(hb t cs hf).1]; exact ha, fun i a hi => ?_⟩
    obtain ⟨v, hv, hr⟩ := hc i a hi
    exact ⟨v, hv, hr.mono e⟩
  case rp => exact h
  case und => exact h
  case dead => trivial
  all_goals exact VRel.mono e h

theorem wm_below {w' : World} (h : Below w.heap.size w w') : Wm w w' :=
  ⟨h.size, fun k arr ty fr hk => ⟨arr, by rw [h.block k (Array.getElem?_eq_some_iff.1 hk).1]; exact hk, rfl⟩⟩
theorem cell_below {w' : World} (h : Below w.heap.size w w') {k o : Nat} (hk : k < w.heap.size) : w'.cell? ⟨k, o, none⟩ = w.cell? ⟨k, o, none⟩ := h.cell hk

/-- The world has grown, some of what is new is frozen. -/
theorem grow (sr : SR φ F H w) {w' : World} {F' : Nat → Nat → Prop} (h : Below w.heap.size w w') (hF : ∀ k o, F k o → F' k o) (hN : ∀ k o, F' k o → F k o ∨ (w.heap.size ≤ k ∧ k < w'.heap.size)) :
    Ext φ F H w φ F' H w' ∧ SR φ F' H w' := by
  have e : Ext φ F H w φ F' H w' := ⟨fun b cs hb => ⟨cs, hb, Nat.le_refl _, fun _ => rfl⟩, fun k o hk => ⟨hF k o hk, cell_below h (sr.fsz k o hk)⟩, wm_below h⟩
  refine ⟨e, fun b cs hb hne => ?_, sr.inj, fun b o hl hf => ?_, fun k o hk => ?_⟩
  · obtain ⟨arr, ty, ha, hc⟩ := sr.blk b cs hb hne
    refine ⟨arr, ty, by rw [h.block _ (Array.getElem?_eq_some_iff.1 ha).1]; exact ha, fun i a hi => ?_⟩
    obtain ⟨v, hv, hr⟩ := hc i a hi
    exact ⟨v, hv, hr.mono e⟩
  · rcases hN _ o hf with hf | ⟨hk, _⟩
    · exact sr.phiF b o hl hf
    · obtain ⟨cs, hb, hne⟩ := hl
      obtain ⟨arr, ty, ha, _⟩ := sr.blk b cs hb hne
      have := (Array.getElem?_eq_some_iff.1 ha).1
      omega
  · rcases hN k o hk with hk | ⟨_, hk⟩
    · have := sr.fsz k o hk; have := h.size; omega
    · exact hk

/-- Block b of the abstract heap comes to be. -/
theorem made (sr : SR φ F H w) {w' : World} {H' : Heap} {b k : Nat} {cs : List AV} {arr : Array Value} {ty : TypeId} (h : Below w.heap.size w w') (hk : w.heap.size ≤ k) (hb : ∀ cs, H[b]? ≠ some (.cells cs)) (hb' : H'[b]? = some (.cells cs))
    (ho : ∀ b', b' ≠ b → (H'[b']? = H[b']?)) (hbl : w'.heap[k]? = some (.cells arr ty (0, 0))) (hc : ∀ (i : Nat) a, cs[i]? = some a → ∃ v, arr[i]? = some v ∧ CRel φ F H w a v) :
    let φ' := fun x => if x = b then k else φ x
    Ext φ F H w φ' F H' w' ∧ SR φ' F H' w' ∧ (∀ b', live H' b' → (b' ≠ b ∧ live H b' ∧ φ' b' = φ b') ∨ (b' = b ∧ φ' b' = k)) := by
  intro φ'
  have old : ∀ (b' : Nat) cs', H[b']? = some (.cells cs') → H'[b']? = some (.cells cs') ∧ φ' b' = φ b' := fun b' cs' hh => by
    have hne : b' ≠ b := fun e => by subst e; exact hb _ hh
    exact ⟨by rw [ho b' hne]; exact hh, if_neg hne⟩
  have e : Ext φ F H w φ' F H' w' := ⟨fun b' cs' hh => ⟨cs', (old b' cs' hh).1, Nat.le_refl _, fun _ => (old b' cs' hh).2⟩, fun k o hf => ⟨hf, cell_below h (sr.fsz k o hf)⟩, wm_below h⟩
  have lv : ∀ b', live H' b' → (b' ≠ b ∧ live H b' ∧ φ' b' = φ b') ∨ (b' = b ∧ φ' b' = k) := fun b' hl => by
    by_cases hbb : b' = b
    · exact .inr ⟨hbb, if_pos hbb⟩
    · obtain ⟨cs', h1, h2⟩ := hl
      exact .inl ⟨hbb, ⟨cs', by rw [← ho b' hbb]; exact h1, h2⟩, if_neg hbb⟩
  have phl : ∀ b', live H b' → φ b' < w.heap.size := fun b' ⟨cs', h1, h2⟩ => by
    obtain ⟨arr', ty', ha, _⟩ := sr.blk b' cs' h1 h2
    exact (Array.getElem?_eq_some_iff.1 ha).1
  refine ⟨e, ⟨fun b' cs' hh hne => ?_, fun b1 b2 h1 h2 he => ?_, fun b' o hl hf => ?_, fun k o hf => ?_⟩, lv⟩
  · by_cases hbb : b' = b
    · subst hbb
      rw [hb'] at hh; cases hh
      refine ⟨arr, ty, by simp [φ', hbl], fun i a hi => ?_⟩
      obtain ⟨v, hv, hr⟩ := hc i a hi
      exact ⟨v, hv, hr.mono e⟩
    · rw [ho b' hbb] at hh
      obtain ⟨arr', ty', ha, hc'⟩ := sr.blk b' cs' hh hne
      refine ⟨arr', ty', by rw [show φ' b' = φ b' from if_neg hbb, h.block _ (Array.getElem?_eq_some_iff.1 ha).1]; exact ha, fun i a hi => ?_⟩
      obtain ⟨v, hv, hr⟩ := hc' i a hi
      exact ⟨v, hv, hr.mono e⟩
  · rcases lv b1 h1 with ⟨n1, l1, p1⟩ | ⟨n1, p1⟩ <;> rcases lv b2 h2 with ⟨n2, l2, p2⟩ | ⟨n2, p2⟩
    · rw [p1, p2] at he; exact sr.inj b1 b2 l1 l2 he
    · have := phl b1 l1; omega
    · have := phl b2 l2; omega
    · omega
  · rcases lv b' hl with ⟨_, l, p⟩ | ⟨_, p⟩
    · rw [p] at hf; exact sr.phiF b' o l hf
    · rw [p] at hf; have := sr.fsz k o hf; omega
  · have := sr.fsz k o hf; have := h.size; omega

/-- Cells of a block are written in place. -/
structure Wr (w w' : World) (k : Nat) : Prop where
  os : w'.os = w.os
  tape : w'.tape = w.tape
  output : w'.output = w.output
  size : w'.heap.size = w.heap.size
  block : ∀ j, j ≠ k → w'.heap[j]? = w.heap[j]?

theorem setRow_wr (w : World) (k : Nat) (cs : Array Value) : Wr w (w.setRow k cs) k :=
  ⟨rfl, rfl, rfl, by simp [World.setRow], fun j hj => setRow_other w k j cs hj⟩

/-- The store of a row into the middle of a block. -/
theorem run_store_mid (P : Program) (w : World) (k o : Nat) (arr : Array Value) (ty : TypeId) (new : List Value) (hk : w.heap[k]? = some (.cells arr ty (0, 0))) (hl : o + new.length ≤ arr.size) (h1 : ∀ v ∈ new, v.oneCell' = true) :
    (storeCells ⟨k, o, none⟩ new).run P w = .ok () (w.setRow k (arr.toList.take o ++ new ++ arr.toList.drop (o + new.length)).toArray) := by
  have := run_storeCells_at P k o ty new 0 arr w hk (by simpa using hl) h1
  simpa using this
end
end Go.Hm
