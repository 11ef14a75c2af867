/- One instruction: the frame of a call; what leaves the world alone; what makes a block. -/
import Derived.Test.YtikedgpcgacgoaaHmOps8
namespace Go.Hm
open Go Go.RowKit

/-- What a step may have turned. -/
structure Chg (w w' : World) (S : Nat → Prop) : Prop where
  os : w'.os = w.os
  tape : w'.tape = w.tape
  output : w'.output = w.output
  size : w.heap.size ≤ w'.heap.size
  block : ∀ k, k < w.heap.size → ¬ S k → w'.heap[k]? = w.heap[k]?

theorem Chg.of_below {w w' : World} (h : Below w.heap.size w w') (S : Nat → Prop) : Chg w w' S := ⟨h.os, h.tape, h.output, h.size, fun k hk _ => h.block k hk⟩
theorem Chg.refl (w : World) (S : Nat → Prop) : Chg w w S := ⟨rfl, rfl, rfl, Nat.le_refl _, fun _ _ _ => rfl⟩

/-- THE STATE OF A CALL: φ0, F0, H0, w0: when it began. -/
structure Full (φ0 : Nat → Nat) (F0 : Nat → Nat → Prop) (H0 : Heap) (w0 : World) (φ : Nat → Nat) (F : Nat → Nat → Prop) (H : Heap) (w : World) (β : Nat → Nat) (env : Env) (act : Act) (T : Nat) : Prop where
  st : St φ F H w β env act T
  ext : Ext φ0 F0 H0 w0 φ F H w
  chg : Chg w0 w (fun k => ∃ b, live H0 b ∧ φ0 b = k)
  phi : ∀ b, live H b → (live H0 b ∧ φ0 b = φ b) ∨ w0.heap.size ≤ φ b
  beta : ∀ t cs, find env t = .box cs → w0.heap.size ≤ β t
  dfr : act.defers = []
  frn : ∀ k o, F k o → F0 k o ∨ w0.heap.size ≤ k

section
variable {P : Program} {φ0 : Nat → Nat} {F0 : Nat → Nat → Prop} {H0 : Heap} {w0 : World} {φ : Nat → Nat} {F : Nat → Nat → Prop} {H : Heap} {w : World} {β : Nat → Nat} {env : Env} {act : Act} {T : Nat}

theorem Full.next (f : Full φ0 F0 H0 w0 φ F H w β env act T) {φ' : Nat → Nat} {F' : Nat → Nat → Prop} {H' : Heap} {w' : World} {β' : Nat → Nat} {env' : Env} {act' : Act} {S : Nat → Prop}
    (hc : Chg w w' S) (hS : ∀ k, S k → (∃ b, live H b ∧ φ b = k) ∨ (∃ t cs, find env t = .box cs ∧ β t = k)) (st : St φ' F' H' w' β' env' act' T) (e : Ext φ F H w φ' F' H' w')
    (hp : ∀ b, live H' b → (live H b ∧ φ b = φ' b) ∨ w.heap.size ≤ φ' b)
    (hb : ∀ t cs, find env' t = .box cs → (∃ cs', find env t = .box cs' ∧ β' t = β t) ∨ w.heap.size ≤ β' t) (hd : act'.defers = act.defers) (hf : ∀ k o, F' k o → F k o ∨ w.heap.size ≤ k) :
    Full φ0 F0 H0 w0 φ' F' H' w' β' env' act' T := by
  refine ⟨st, f.ext.trans e, ⟨hc.os.trans f.chg.os, hc.tape.trans f.chg.tape, hc.output.trans f.chg.output, Nat.le_trans f.chg.size hc.size, fun k hk hn => ?_⟩, fun b hl => ?_, fun t cs ht => ?_, by rw [hd]; exact f.dfr, fun k o h => ?_⟩
  · have hk' : k < w.heap.size := Nat.lt_of_lt_of_le hk f.chg.size
    rw [hc.block k hk' (fun hs => ?_), f.chg.block k hk hn]
    rcases hS k hs with ⟨b, hl, rfl⟩ | ⟨t, cs, ht, rfl⟩
    · rcases f.phi b hl with h | h
      · exact hn ⟨b, h⟩
      · omega
    · have := f.beta t cs ht; omega
  · rcases hp b hl with ⟨hl0, he⟩ | h
    · rcases f.phi b hl0 with ⟨h1, h2⟩ | h
      · exact .inl ⟨h1, h2.trans he⟩
      · exact .inr (by omega)
    · exact .inr (Nat.le_trans f.chg.size h)
  · rcases hb t cs ht with ⟨cs', ht', he⟩ | h
    · rw [he]; exact f.beta t cs' ht'
    · exact Nat.le_trans f.chg.size h
  · rcases hf k o h with h | h
    · exact f.frn k o h
    · exact .inr (Nat.le_trans f.chg.size h)

/-- The post of one instruction. -/
def Post (φ0 : Nat → Nat) (F0 : Nat → Nat → Prop) (H0 : Heap) (w0 : World) (H' : Heap) (env' : Env) (T : Nat) (act' : Act) (w' : World) : Prop :=
  ∃ φ' F' β', Full φ0 F0 H0 w0 φ' F' H' w' β' env' act' T

theorem find_put {dst : Option Nat} {v : AV} {env env' : Env} (h : put dst v env = some env') (hv : ∀ cs, v ≠ .box cs) {t : Nat} {cs : List AV} (hf : find env' t = .box cs) : find env t = .box cs := by
  cases dst with
  | none => simp [put] at h; subst h; exact hf
  | some d =>
    simp only [put] at h
    split at h
    · simp at h; subst h
      simp only [find] at hf
      split at hf
      · exact absurd hf (hv cs)
      · exact hf
    · simp at h

theorem ORel.notBox {a : AV} {v : Value} (h : ORel φ F H w β a v) : ∀ cs, a ≠ .box cs := fun cs e => by subst e; exact h

/-- What leaves the world alone. -/
theorem f_pure (f : Full φ0 F0 H0 w0 φ F H w β env act T) {dst : Option Nat} {v : AV} {cv : Value} {env' : Env} (hd : ∀ d, dst = some d → d < T) (hp : put dst v env = some env') (hv : ORel φ F H w β v cv) :
    Post φ0 F0 H0 w0 H env' T (act.put dst cv) w :=
  ⟨φ, F, β, f.next (Chg.refl w fun _ => False) (fun _ h => h.elim) (f.st.put1 hd hp hv) (Ext.refl _ _ _ _) (fun b hl => .inl ⟨hl, rfl⟩) (fun t cs ht => .inl ⟨cs, find_put hp hv.notBox ht, rfl⟩) (by cases dst <;> rfl) (fun _ _ h => .inl h)⟩

/-- What makes a block that is frozen, or garbage: the world grows. -/
theorem f_grow (f : Full φ0 F0 H0 w0 φ F H w β env act T) {dst : Option Nat} {v : AV} {cv : Value} {env' : Env} {w' : World} {F' : Nat → Nat → Prop} (hd : ∀ d, dst = some d → d < T) (hp : put dst v env = some env')
    (hb : Below w.heap.size w w') (hF : ∀ k o, F k o → F' k o) (hN : ∀ k o, F' k o → F k o ∨ (w.heap.size ≤ k ∧ k < w'.heap.size)) (hv : ORel φ F' H w' β v cv) :
    Post φ0 F0 H0 w0 H env' T (act.put dst cv) w' := by
  obtain ⟨e, sr⟩ := grow f.st.sr hb hF hN
  have bl : ∀ t cs, find env t = .box cs → β t < w.heap.size := fun t cs ht => by
    have h := f.st.slot t
    rw [ht] at h
    obtain ⟨arr, ty, ha, _⟩ := h.2
    exact (Array.getElem?_eq_some_iff.1 ha).1
  have st' : St φ F' H w' β env act T := f.st.mono e sr (fun t cs ht => ⟨hb.block _ (bl t cs ht), fun b hl => f.st.bphi t cs b ht hl, fun o hf => by
    rcases hN _ o hf with hf | ⟨h, _⟩
    · exact f.st.bF t cs o ht hf
    · have := bl t cs ht; omega⟩)
  exact ⟨φ, F', β, f.next (Chg.of_below hb fun _ => False) (fun _ h => h.elim) (st'.put1 hd hp hv) e (fun b hl => .inl ⟨hl, rfl⟩) (fun t cs ht => .inl ⟨cs, find_put hp hv.notBox ht, rfl⟩) (by cases dst <;> rfl) (fun k o h => (hN k o h).imp id And.left)⟩

theorem box_lt (s : St φ F H w β env act T) {t : Nat} {cs : List AV} (ht : find env t = .box cs) : β t < w.heap.size := by
  have h := s.slot t
  rw [ht] at h
  obtain ⟨arr, ty, ha, _⟩ := h.2
  exact (Array.getElem?_eq_some_iff.1 ha).1
theorem live_lt (s : SR φ F H w) {b : Nat} (hl : live H b) : φ b < w.heap.size := by
  obtain ⟨cs, h1, h2⟩ := hl
  obtain ⟨arr, ty, ha, _⟩ := s.blk b cs h1 h2
  exact (Array.getElem?_eq_some_iff.1 ha).1

/-- A boxed local is made. -/
theorem f_box (f : Full φ0 F0 H0 w0 φ F H w β env act T) {d : Nat} {cs : List AV} {vs : Array Value} {env' : Env} {ty : TypeId} (hd : d < T) (hp : put (some d) (.box cs) env = some env') (hc : CL φ F H w cs vs.toList) :
    Post φ0 F0 H0 w0 H env' T (act.put (some d) (.pointer (some ⟨w.heap.size, 0, none⟩))) (w.alloc (.cells vs ty)) := by
  have hb : Below w.heap.size w (w.alloc (.cells vs ty)) := (Below.refl _ _).alloc (Nat.le_refl _) _
  obtain ⟨e, sr⟩ := grow (F' := F) f.st.sr hb (fun _ _ h => h) (fun _ _ h => .inl h)
  have st' : St φ F H (w.alloc (.cells vs ty)) β env act T := f.st.mono e sr (fun t cs ht => ⟨hb.block _ (box_lt f.st ht), fun b hl => f.st.bphi t cs b ht hl, fun o hf => f.st.bF t cs o ht hf⟩)
  simp only [put] at hp
  split at hp
  · rename_i hn
    simp only [Option.some.injEq] at hp; subst hp
    let β' : Nat → Nat := fun t => if t = d then w.heap.size else β t
    have hnew : (w.alloc (.cells vs ty)).heap[w.heap.size]? = some (.cells vs ty (0, 0)) := heap_alloc_new w _
    refine ⟨φ, F, β', f.next (Chg.of_below hb fun _ => False) (fun _ h => h.elim) (st'.put hd hn (fun t ht => if_neg ht) ⟨by simp [β'], vs, ty, by rw [show β' d = w.heap.size from if_pos rfl]; exact hnew, fun i a ha => ?_⟩ (fun cs' hcs => ⟨fun b hl => ?_, fun t cs'' ht hf => ?_, fun o hf => ?_⟩)) e (fun b hl => .inl ⟨hl, rfl⟩) (fun t cs' ht => ?_) rfl (fun _ _ h => .inl h)⟩
    · obtain ⟨v, hv, hr⟩ := hc.get ha
      exact ⟨v, by simpa using hv, hr.mono e⟩
    · have := live_lt f.st.sr hl
      simp only [β', if_true]; omega
    · have := box_lt f.st hf
      simp only [β', if_true]; omega
    · have := f.st.sr.fsz _ _ hf
      simp only [β', if_true] at this; omega
    · simp only [find] at ht
      by_cases h : d = t
      · subst h; exact .inr (by simp [β'])
      · rw [if_neg h] at ht
        exact .inl ⟨cs', ht, if_neg (fun e => h e.symm)⟩
  · simp at hp

/-- A block of the heap is made. -/
theorem f_make (f : Full φ0 F0 H0 w0 φ F H w β env act T) {dst : Option Nat} {v : AV} {cv : Value} {cs : List AV} {arr : Array Value} {env' : Env} {H' : Heap} {b : Nat} {ty : TypeId} {w' : World} (hd : ∀ d, dst = some d → d < T) (hp : put dst v env = some env')
    (hbw : Below w.heap.size w w') {k : Nat} (hk : w.heap.size ≤ k) (hbl : w'.heap[k]? = some (.cells arr ty (0, 0))) (hb : ∀ cs, H[b]? ≠ some (.cells cs)) (hb' : H'[b]? = some (.cells cs)) (ho : ∀ b', b' ≠ b → H'[b']? = H[b']?)
    (hc : ∀ (i : Nat) a, cs[i]? = some a → ∃ v, arr[i]? = some v ∧ CRel φ F H w a v)
    (hv : ∀ φ', (∀ x, x ≠ b → φ' x = φ x) → φ' b = k → ORel φ' F H' w' β v cv) :
    Post φ0 F0 H0 w0 H' env' T (act.put dst cv) w' := by
  obtain ⟨e, sr, lv⟩ := made f.st.sr hbw hk hb hb' ho hbl hc
  have hv' := hv (fun x => if x = b then k else φ x) (fun x hx => if_neg hx) (if_pos rfl)
  generalize (fun x => if x = b then k else φ x) = φ' at *
  have st' := f.st.mono e sr (fun t cs ht => ⟨hbw.block _ (box_lt f.st ht), fun b' hl => by
    rcases lv b' hl with ⟨_, l, p⟩ | ⟨_, p⟩
    · rw [p]; exact f.st.bphi t cs b' ht l
    · rw [p]; have := box_lt f.st ht; omega, fun o hf => f.st.bF t cs o ht hf⟩)
  refine ⟨_, F, β, f.next (Chg.of_below hbw fun _ => False) (fun _ h => h.elim) (st'.put1 hd hp hv') e (fun b' hl => ?_) (fun t cs ht => .inl ⟨cs, find_put hp hv'.notBox ht, rfl⟩) (by cases dst <;> rfl) (fun _ _ h => .inl h)⟩
  rcases lv b' hl with ⟨_, l, p⟩ | ⟨_, p⟩
  · exact .inl ⟨l, p.symm⟩
  · exact .inr (by rw [p]; exact hk)
end
end Go.Hm
