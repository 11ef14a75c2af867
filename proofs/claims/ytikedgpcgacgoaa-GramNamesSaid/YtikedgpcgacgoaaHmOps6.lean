/- The reading instructions are sound: 6, bytes, functions, least and greatest, literals. -/
import Derived.Test.YtikedgpcgacgoaaHmOps5
import Derived.Laws.BytesArg
namespace Go.Hm
open Go

section
variable {P : Program} {φ : Nat → Nat} {F : Nat → Nat → Prop} {H : Heap} {w : World} {β : Nat → Nat} {env : Env} {act : Act} {T : Nat}

theorem p_sl00 (s : St φ F H w β env act T) (t : TypeId) (x : Operand) (lo hi mx : Option Operand) {v : AV} {e : TypeId} {k : Nat} (hu : P.underlying t = some (.slice e)) (hk : szOf P e = some k) (h0 : isZero mx = true ∧ isZero hi = true ∧ (isZero lo = true ∨ lo = none))
    (h : rdOp (.sl00 (cO x)) env H = some v) : Pure P φ F H w β act (.slice t x lo hi mx) v := by
  have zero : ∀ {o : Option Operand}, isZero o = true → ∃ k, o = some (.const (.int k 0)) := by
    intro o ho
    unfold isZero at ho
    split at ho
    · exact ⟨_, rfl⟩
    · simp at ho
  obtain ⟨k1, rfl⟩ := zero h0.1
  obtain ⟨k2, rfl⟩ := zero h0.2.1
  have key : ∃ xx n cap, act.eval x = .slice xx n cap ∧ v = .e0 := by
    simp only [rdOp] at h
    split at h <;> simp at h
    · rename_i hx; obtain ⟨xx, cap, hc, _⟩ := slice_shape (ev_of s hx) (.inl ⟨rfl, rfl⟩); exact ⟨_, _, _, hc, h.symm⟩
    · rename_i hx; obtain ⟨xx, cap, hc, _⟩ := slice_shape (ev_of s hx) (.inr (.inl ⟨_, rfl⟩)); exact ⟨_, _, _, hc, h.symm⟩
    · rename_i hx; obtain ⟨xx, cap, hc, _⟩ := slice_shape (ev_of s hx) (.inr (.inr ⟨_, _, _, _, rfl⟩)); exact ⟨_, _, _, hc, h.symm⟩
  obtain ⟨xx, n, cap, hx, rfl⟩ := key
  intro dst type pos after guard
  refine ⟨.slice xx 0 0, ?_, VRel.one (.e0 _)⟩
  have c1 : act.eval (.const (.int k1 0)) = .int k1 0 := rfl
  have c2 : act.eval (.const (.int k2 0)) = .int k2 0 := rfl
  rcases h0.2.2 with hlo | rfl
  · obtain ⟨k3, rfl⟩ := zero hlo
    have c3 : act.eval (.const (.int k3 0)) = .int k3 0 := rfl
    simp [execOp, hx, Instr.sliceAt, Instr.slice, run_underlying hu, Instr.sliceBounds, Instr.sliceBound, c1, c2, c3, asIntOf, szOf_run hk]
  · simp [execOp, hx, Instr.sliceAt, Instr.slice, run_underlying hu, Instr.sliceBounds, Instr.sliceBound, c1, c2, asIntOf, szOf_run hk]

theorem p_mkf (s : St φ F H w β env act T) (f : FuncId) (first caps : Array Operand) {v : AV} (hf : f < 1000) (h0 : first.size = 0) (h : rdOp (.mkf f (caps.toList.map cO)) env H = some v) : Pure P φ F H w β act (.makeFunc (.func f) first caps) v := by
  have hfirst : first = #[] := Array.eq_empty_of_size_eq_zero h0
  subst hfirst
  simp only [rdOp] at h
  split at h
  · rename_i hall
    simp only [Option.some.injEq] at h; subst h
    intro dst type pos after guard
    refine ⟨.func (.func f) #[] (caps.map act.eval), by simp [execOp, Instr.makeFunc], VRel.one ?_⟩
    have := CRel.fn (φ := φ) (F := F) (H := H) (w := w) f (caps.toList.map cO |>.map (ev env)) (caps.toList.map act.eval) (by simp) (fun i a u ha hu => by
      simp only [List.map_map, List.getElem?_map, Option.map_eq_some_iff, Function.comp] at ha hu
      obtain ⟨o, ho, rfl⟩ := ha
      obtain ⟨o', ho', rfl⟩ := hu
      rw [ho] at ho'; cases ho'
      have h1 : one (ev env (cO o)) = true := by
        rw [List.all_eq_true] at hall
        exact hall _ (by
          simp only [List.map_map, List.mem_map, Function.comp]
          exact ⟨o, List.mem_of_getElem? ho, rfl⟩)
      have hr := ev_rel s o
      generalize ev env (cO o) = a at hr h1
      cases a <;> simp [one] at h1
      all_goals exact VRel.cell hr rfl)
    rw [Nat.mod_eq_of_lt hf] at this
    have e : (caps.toList.map act.eval).toArray = caps.map act.eval := by
      apply Array.ext'; simp
    rw [e] at this
    exact this
  · simp at h

/-- The cells of a slice. -/
theorem slCells_rel (s : SR φ F H w) {a : AV} {v : Value} {cs : List AV} (h : ORel φ F H w β a v) (hc : slCells H a = some cs) :
    ∃ x n cap, v = .slice x n cap ∧ slN a = n ∧ (cs = [] ∨ ∃ k o, x = some ⟨k, o, none⟩ ∧ RowAt φ F H w k o cs) ∧ (x = none → n = 0) := by
  unfold slCells at hc
  split at hc
  · simp at hc; subst hc
    obtain ⟨x, rfl⟩ := VRel.inv_e0 h
    exact ⟨_, _, _, rfl, rfl, .inl rfl, fun _ => rfl⟩
  · rename_i n cs'
    simp at hc; subst hc
    have h' : VRel φ F H w (.sl n cs') v := h
    cases h' with
    | one h' =>
      cases h' with
      | sl b o n' cap cells vs hn hl hb hF hcc hr =>
        refine ⟨_, _, _, rfl, rfl, .inr ⟨b, o, rfl, fun i a ha => ?_⟩, fun h => by cases h⟩
        have hi : i < vs.length := by rw [hl]; exact (List.getElem?_eq_some_iff.1 ha).1
        exact ⟨vs[i], hcc i _ (by simp [hi]), hr i a _ ha (by simp [hi])⟩
      | slnil => exact ⟨_, _, _, rfl, rfl, .inl rfl, fun _ => rfl⟩
  · rename_i b g off n es
    split at hc
    · rename_i cs' hb
      split at hc
      · rename_i hg
        simp at hc; subst hc
        have h' : VRel φ F H w (.hs b g off n es) v := h
        cases h' with
        | one h' =>
          cases h' with
          | hs b g off n' es cs2 xx cap hb2 hg2 hn hxn h2 =>
            rw [hb] at hb2; cases hb2
            refine ⟨_, _, _, rfl, rfl, ?_, hxn⟩
            rcases h2 hg.1 with ⟨_, hx2, _⟩ | ⟨h0, _⟩
            · by_cases hne : cs' = []
              · left; simp [hne]
              · right
                refine ⟨φ b, off, hx2, fun i a ha => ?_⟩
                rw [List.getElem?_take] at ha
                split at ha
                · rw [List.getElem?_drop] at ha
                  obtain ⟨u, hu, hr⟩ := (s.blk b cs' hb hne).row (off + i) a ha
                  rw [Nat.zero_add] at hu
                  exact ⟨u, hu, hr⟩
                · simp at ha
            · left; simp [h0]
      · simp at hc
    · simp at hc
  · simp at hc

theorem bytes_row {k o : Nat} : ∀ {cs : List AV} {l : List UInt8}, bytesOf cs = some l → RowAt φ F H w k o cs → ∃ ns : List Int, ns.length = cs.length ∧ l = ns.map (fun n => UInt8.ofNat n.toNat) ∧ ∀ (i : Nat) n, ns[i]? = some n → w.cell? ⟨k, o + i, none⟩ = some (.int .u8 n)
  | [], l, h, _ => by
    simp [bytesOf] at h; subst h
    exact ⟨[], rfl, rfl, fun i n hn => by simp at hn⟩
  | a :: cs, l, h, hr => by
    unfold bytesOf at h
    split at h
    · rename_i hh; cases hh
    · rename_i n r hh
      cases hh
      split at h
      · rename_i l' hl'
        simp at h; subst h
        have hr' : RowAt φ F H w k (o + 1) cs := fun i a ha => by
          have := hr (i + 1) a (by simpa using ha)
          rwa [show o + 1 + i = o + (i + 1) from by omega]
        obtain ⟨ns, h1, h2, h3⟩ := bytes_row hl' hr'
        refine ⟨n :: ns, by simp [h1], by simp [h2], fun i m hm => ?_⟩
        cases i with
        | zero =>
          simp at hm; subst hm
          obtain ⟨u, hu, hrel⟩ := hr 0 _ rfl
          rw [hu, hrel.inv_val.1]
        | succ i =>
          have := h3 i m (by simpa using hm)
          rwa [show o + 1 + i = o + (i + 1) from by omega] at this
      · simp at h
    · simp at h

theorem foldl_push (ns : List Int) : ∀ (s0 : ByteArray), ns.foldl (fun r n => r.push (UInt8.ofNat n.toNat)) s0 = ⟨s0.data ++ (ns.map (fun n => UInt8.ofNat n.toNat)).toArray⟩ := by
  induction ns with
  | nil => intro s0; simp
  | cons n ns ih =>
    intro s0
    rw [List.foldl_cons, ih]
    congr 1
    simp [ByteArray.push]

theorem p_b2s (s : St φ F H w β env act T) (src dt : TypeId) (x : Operand) {v : AV} {e : TypeId} (hs : P.underlying src = some (.slice e)) (he : P.underlying e = some (.int .u8)) (hd : P.underlying dt = some .string)
    (h : rdOp (.b2s (cO x)) env H = some v) : Pure P φ F H w β act (.convert src dt x) v := by
  simp only [rdOp] at h
  split at h
  · rename_i cs hcs
    split at h
    · rename_i hlen
      split at h
      · rename_i l hl
        simp only [Option.some.injEq] at h; subst h
        obtain ⟨xx, n, cap, hx, hn, hrow, hnil⟩ := slCells_rel s.sr (ev_rel s x) hcs
        intro dst type pos after guard
        refine ⟨.string ⟨l.toArray⟩, ?_, VRel.one (.val _ rfl)⟩
        have conv : (convert src dt (act.eval x)).run P w = (Conv.bytesToString (act.eval x)).run P w := by
          simp [convert, run_underlying hs, run_underlying hd, run_underlying he, hx]
        have fin : (Conv.bytesToString (act.eval x)).run P w = .ok (.string ⟨l.toArray⟩) w := by
          rw [hx]
          rcases hrow with rfl | ⟨k, o, rfl, hrow⟩
          · simp [bytesOf] at hl; subst hl
            simp only [List.length_nil] at hlen
            have e0 : n = 0 := by omega
            subst e0
            cases xx with
            | none => simp [Conv.bytesToString]; rfl
            | some ad =>
              rw [run_bytesToString w ad 0 cap [] (by simp [loadCells, loadCellsFrom])]
              rfl
          · obtain ⟨ns, h1, h2, h3⟩ := bytes_row hl hrow
            have hload : (loadCells ⟨k, o, none⟩ n).run P w = .ok (ns.map (Value.int .u8)).toArray w := by
              have := run_loadCells_list (P := P) w ⟨k, o, none⟩ (ns.map (Value.int .u8)) (fun j v hv => by
                simp only [List.getElem?_map, Option.map_eq_some_iff] at hv
                obtain ⟨m, hm, rfl⟩ := hv
                rw [add_none]; exact h3 j m hm)
              rw [List.length_map, h1, hlen, hn] at this
              exact this
            rw [run_bytesToString w _ n cap ns hload, foldl_push, h2]
            simp
        simp [execOp, conv, fin]
      · simp at h
    · simp at h
  · simp at h

/-! ### least and greatest -/
theorem mm_run (s : St φ F H w β env act T) (mx : Bool) : ∀ (args : List Operand) (k : IntKind) (a : Int) (k' : IntKind) (m : Int), mmFold mx (args.map (fun o => ev env (cO o))) k a = some (k', m) →
    ((args.map act.eval).foldlM (if mx then Builtin.max2 else Builtin.min2) (.int k a)).run P w = .ok (.int k' m) w
  | [], k, a, k', m, h => by
    simp [mmFold] at h
    obtain ⟨rfl, rfl⟩ := h
    simp
  | o :: r, k, a, k', m, h => by
    simp only [List.map_cons] at h ⊢
    unfold mmFold at h
    split at h
    · rename_i hh; cases hh
    · rename_i q b rr hh
      injection hh with h1 h2
      subst h2
      have hv := ev_val s h1
      rw [List.foldlM_cons, Sem.run_bind, hv]
      cases mx
      · simp only [Bool.false_eq_true, if_false, Builtin.min2, Sem.run_pure, Result.andThen_ok] at h ⊢
        exact mm_run s false r _ _ k' m h
      · simp only [if_true, Builtin.max2, Sem.run_pure, Result.andThen_ok] at h ⊢
        exact mm_run s true r _ _ k' m h
    · simp at h

theorem p_mm (s : St φ F H w β env act T) (mx : Bool) {args : Array Operand} {ats : Array TypeId} {v : AV} (h : rdOp (.mm mx (args.toList.map cO)) env H = some v) :
    Pure P φ F H w β act (.call { callee := .builtin (if mx then .max else .min), args, argTypes := ats }) v := by
  simp only [rdOp] at h
  split at h
  · simp at h
  · rename_i x r hargs
    split at h
    · rename_i k a hx
      split at h
      · rename_i k' m hm
        simp only [Option.some.injEq] at h; subst h
        obtain ⟨o, os, hl, rfl, rfl⟩ : ∃ o os, args.toList = o :: os ∧ x = cO o ∧ r = os.map cO := by
          cases hal : args.toList with
          | nil => simp [hal] at hargs
          | cons o os => simp [hal] at hargs; exact ⟨o, os, rfl, hargs.1.symm, hargs.2.symm⟩
        have ha : args = (o :: os).toArray := by apply Array.ext'; simpa using hl
        subst ha
        have hrun := mm_run (P := P) s mx os k a k' m (by rw [List.map_map] at hm; exact hm)
        intro dst type pos after guard
        refine ⟨.int k' m, ?_, VRel.one (.val _ rfl)⟩
        cases mx
        · simp only [Bool.false_eq_true, if_false] at hrun ⊢
          simp [execOp, resolve, invoke, builtin, Builtin.min_, ev_val s hx, hrun]
        · simp only [if_true] at hrun ⊢
          simp [execOp, resolve, invoke, builtin, Builtin.max_, ev_val s hx, hrun]
      · simp at h
    · simp at h
end
end Go.Hm
