/- One instruction: frozen rows, stores. -/
import Derived.Test.YtikedgpcgacgoaaHmStep3
namespace Go.Hm
open Go Go.RowKit

section
variable {P : Program} {φ0 : Nat → Nat} {F0 : Nat → Nat → Prop} {H0 : Heap} {w0 : World} {φ : Nat → Nat} {F : Nat → Nat → Prop} {H : Heap} {w : World} {β : Nat → Nat} {env : Env} {act : Act} {T : Nat}

/-- A new row that nobody writes to. -/
theorem s_row (f : Full φ0 F0 H0 w0 φ F H w β env act T) {dst : Option Nat} {op : Op} {m : Sem Value} {cs : List AV} {vs : List Value} {n cap : Nat} {env' : Env} {w' : World} {arr : Array Value} {ty : TypeId} {fr : Nat × Nat} (hd : ∀ d, dst = some d → d < T)
    (hop : ∀ type pos after guard, execOp act.eval { dst, op, type, pos, after, guard } = (do pure (.value (← m)))) (hr : m.run P w = .ok (.slice (some ⟨w.heap.size, 0, none⟩) n cap) w') (hbw : Below w.heap.size w w') (hbl : w'.heap[w.heap.size]? = some (.cells arr ty fr))
    (hc : CL φ F H w cs vs) (hv : ∀ (i : Nat) v, vs[i]? = some v → arr[i]? = some v) (hn : n ≤ cap) (hb : belowL 0 cs = true) (hp : put dst (.sl n cs) env = some env') :
    Sound P φ0 F0 H0 w0 T act w dst op H env' := by
  intro type pos after guard next Q hk
  have hrun : (execOp act.eval { dst, op, type, pos, after, guard }).run P w = .ok (.value (.slice (some ⟨w.heap.size, 0, none⟩) n cap)) w' := by
    rw [hop, Sem.run_bind, hr]; rfl
  unfold Oper.wp
  rw [hrun]
  have hlt : w.heap.size < w'.heap.size := (Array.getElem?_eq_some_iff.1 hbl).1
  have hF : ∀ k o, F k o → F k o ∨ k = w.heap.size := fun k o h => .inl h
  have hN : ∀ k o, (F k o ∨ k = w.heap.size) → F k o ∨ (w.heap.size ≤ k ∧ k < w'.heap.size) := fun k o h => by
    rcases h with h | h
    · exact .inl h
    · exact .inr (by omega)
  obtain ⟨e, _⟩ := grow (F' := fun k o => F k o ∨ k = w.heap.size) f.st.sr hbw hF hN
  refine hk _ _ (f_grow f hd hp hbw hF hN ?_)
  refine VRel.one (.sl _ 0 n cap cs vs hn hc.1 hb (fun i _ => .inr rfl) (fun i v hi => ?_) (fun i a v ha hi => (hc.2 i a v ha hi).mono e))
  have := hv i v hi
  simp only [World.cell?, hbl, Nat.zero_add]
  simpa using this

theorem s_buildS (f : Full φ0 F0 H0 w0 φ F H w β env act T) {dst : Option Nat} {t e : TypeId} {n k : Nat} {parts : Array (Nat × Operand)} {z : List AV} {v : AV} {l : List (Nat × Nat × AO)} {env' : Env} (hd : ∀ d, dst = some d → d < T) (hu : P.underlying t = some (.slice e)) (hk : szOf P e = some k) (hz : zOf P e = some z) (hn : n * k ≤ 65536) (hzl : z.length = k)
    (hl : partsC (fun i => some (i * k, k)) parts.toList = some l) (h : rdOp (.buildS n (repl n z) l) env H = some v) (hp : put dst v env = some env') :
    Sound P φ0 F0 H0 w0 T act w dst (.buildSlice t n parts) H env' := by
  simp only [rdOp] at h
  split at h
  case h_2 => simp at h
  rename_i cs hcs
  obtain ⟨vs, hr, hcl⟩ := run_buildSliceI f.st hu hk hz hn hzl hl hcs
  have hbw : Below w.heap.size w (w.alloc (.cells vs e)) := (Below.refl _ _).alloc (Nat.le_refl _) _
  have hnew : (w.alloc (.cells vs e)).heap[w.heap.size]? = some (.cells vs e (0, 0)) := heap_alloc_new w _
  split at h
  · rename_i h0
    simp only [Option.some.injEq] at h
    subst h0; subst h
    intro type pos after guard next Q hkk
    unfold Oper.wp
    have hrun : (execOp act.eval { dst, op := .buildSlice t 0 parts, type, pos, after, guard }).run P w = .ok (.value (.slice (some ⟨w.heap.size, 0, none⟩) 0 0)) (w.alloc (.cells vs e)) := by
      simp only [execOp, Sem.run_bind, hr]; rfl
    rw [hrun]
    exact hkk _ _ (f_grow f hd hp hbw (fun _ _ h => h) (fun _ _ h => .inl h) (VRel.one (.e0 _)))
  · split at h
    · rename_i hb
      simp only [Option.some.injEq] at h
      subst h
      exact s_row f hd (fun type pos after guard => rfl) hr hbw hnew hcl (fun i v hi => by simpa using hi) (Nat.le_refl _) hb hp
    · simp at h

theorem freeze_below {w w' : World} {k : Nat} (hk : w.heap.size ≤ k) (h : Below w.heap.size w w') (o n : Nat) : Below w.heap.size w (w'.freeze ⟨k, o, none⟩ n) := by
  unfold World.freeze
  split
  · exact h
  · refine ⟨h.os, h.tape, h.output, by simpa using h.size, fun i hi => ?_⟩
    simp only [Array.getElem?_modify]
    rw [if_neg (by omega)]
    exact h.block i hi

theorem bytes_below (s : ByteArray) : belowL 0 (s.data.toList.map fun b => AV.val (.int .u8 b.toNat)) = true :=
  belowL_iff.2 fun a ha => by
    obtain ⟨b, _, rfl⟩ := List.mem_map.1 ha
    rfl
theorem bytes_CL (s : ByteArray) : CL φ F H w (s.data.toList.map fun b => AV.val (.int .u8 b.toNat)) (byteCells s) :=
  ⟨by simp [byteCells], fun i a v ha hv => by
    simp only [byteCells, List.getElem?_map] at ha hv
    cases hb : s.data.toList[i]? with
    | none => rw [hb] at ha; simp at ha
    | some b =>
      rw [hb] at ha hv
      simp at ha hv
      subst ha; subst hv
      exact .val _ rfl⟩

theorem run_s2b (e : TypeId) (s : ByteArray) (w : World) : ∃ w' cap arr fr, (Conv.stringToBytes e s).run P w = .ok (.slice (some ⟨w.heap.size, 0, none⟩) s.size cap) w' ∧ Below w.heap.size w w' ∧ w'.heap[w.heap.size]? = some (.cells arr e fr) ∧ (∀ (i : Nat) v, (byteCells s)[i]? = some v → arr[i]? = some v) ∧ s.size ≤ cap := by
  let arr : Array Value := (s.data.map fun b => Value.int .u8 b.toNat) ++ Array.replicate (grownCap w s.size 0 e - s.size) (.int .u8 0)
  have hnew : ((w.drew).alloc (.cells arr e)).heap[w.heap.size]? = some (.cells arr e (0, 0)) := heap_alloc_new w.drew _
  have hsh : ((w.drew).alloc (.cells arr e)).shape? w.heap.size = some (e, arr.size) := by simp only [World.shape?, hnew]
  have hbw : Below w.heap.size w ((w.drew).alloc (.cells arr e)) := (Below.refl w.heap.size w).drew.alloc (Nat.le_refl _) _
  refine ⟨((w.drew).alloc (.cells arr e)).freeze ⟨w.heap.size, arr.size, none⟩ 1, grownCap w s.size 0 e, arr, (arr.size, arr.size + 1), ?_, freeze_below (Nat.le_refl _) hbw _ _, ?_, fun i v hi => ?_, grownCap_ge w _ _ e⟩
  · have hpush : ∀ o, (⟨w.heap.push o, w.tape, w.drawn + 1, w.os, w.output⟩ : World) = (w.drew).alloc o := fun o => rfl
    simp only [Conv.stringToBytes, Sem.run_bind, run_choose, Question.forced, Bool.false_eq_true, if_false, Result.andThen_ok, newRow, run_newObj, Sem.run_pure, markStringish, run_shape]
    rw [show (Question.appendCap s.size 0 e).cut (w.tape w.drawn (Question.appendCap s.size 0 e)) = grownCap w s.size 0 e from rfl]
    change (Sem.run P (match (w.drew.alloc (.cells arr e)).shape? w.heap.size with
      | some (_, n) => freeze { block := w.heap.size, off := n } 1
      | _ => pure ()) (w.drew.alloc (.cells arr e))).andThen _ = _
    rw [hsh]
    rfl
  · unfold World.freeze
    simp only [Nat.one_ne_zero, if_false, Array.getElem?_modify, if_true, hnew, Option.map_some]
    simp
  · have hl : i < (byteCells s).length := (List.getElem?_eq_some_iff.1 hi).1
    have : i < (s.data.map fun b => Value.int .u8 b.toNat).size := by simpa [byteCells] using hl
    rw [Array.getElem?_append_left this]
    simpa [byteCells] using hi

theorem s_s2b (f : Full φ0 F0 H0 w0 φ F H w β env act T) {dst : Option Nat} {src dt e : TypeId} {x : Operand} {v : AV} {env' : Env} (hd : ∀ d, dst = some d → d < T) (hs : P.underlying src = some .string) (hu : P.underlying dt = some (.slice e)) (he : P.underlying e = some (.int .u8))
    (h : rdOp (.s2b (cO x)) env H = some v) (hp : put dst v env = some env') : Sound P φ0 F0 H0 w0 T act w dst (.convert src dt x) H env' := by
  simp only [rdOp] at h
  split at h
  case h_2 => simp at h
  rename_i s hx
  simp only [Option.some.injEq] at h
  subst h
  obtain ⟨w', cap, arr, fr, hr, hbw, hbl, hv, hcap⟩ := run_s2b (P := P) e s w
  refine s_row f hd (fun type pos after guard => rfl) (m := convert src dt (act.eval x)) ?_ hbw hbl (bytes_CL s) hv hcap (bytes_below s) hp
  rw [ev_val f.st hx]
  simp only [convert, Sem.run_bind, run_underlying hs, Result.andThen_ok, run_underlying hu, run_underlying he, hr]

/-! ### Stores -/
theorem run_storeAt {t : TypeId} {n : Nat} {a : Addr} {v : Value} {w' : World} (hn : szOf P t = some n) (hs : v.cells.size = n) (h : (storeCells a v.cells.toList).run P w = .ok () w') : (Instr.storeAt t (.pointer (some a)) v).run P w = .ok () w' := by
  simp only [Instr.storeAt, Instr.sureAddr, Sem.run_bind, Sem.run_pure, Result.andThen_ok, storeVar, szOf_run hn]
  rw [if_neg (by omega)]
  exact h

theorem s_st (f : Full φ0 F0 H0 w0 φ F H w β env act T) {dst : Option Nat} {t : TypeId} {a x : Operand} {l : Option Nat} {n lk lim base : Nat} {env' : Env} {H' : Heap} (hn : szOf P t = some n)
    (h : exOp lk lim base dst (.st l n (cO a) (cO x)) env H = some (env', H')) : Sound P φ0 F0 H0 w0 T act w dst (.store t a x) H' env' := by
  simp only [exOp] at h
  split at h
  case h_2 => simp at h
  rename_i new hnew
  split at h
  case isFalse => simp at h
  rename_i hlen
  obtain ⟨hcl, hone⟩ := cellsV_rel (ev_rel f.st x) hnew
  have h1 : ∀ v ∈ (act.eval x).cells.toList, v.oneCell' = true := by
    intro v hv
    rw [Array.all_eq_true_iff_forall_mem] at hone
    exact hone v (Array.mem_toList_iff.1 hv)
  have hsz : (act.eval x).cells.size = n := by rw [← hlen, ← hcl.1, Array.length_toList]
  split at h
  · rename_i t1 t' off ha
    split at h
    case isFalse => simp at h
    rename_i ht; subst ht
    split at h
    case h_2 => simp at h
    rename_i cs hcs
    split at h
    case isFalse => simp at h
    rename_i hc
    obtain ⟨hc, hdst⟩ := hc
    simp only [Option.some.injEq, Prod.mk.injEq] at h
    obtain ⟨rfl, rfl⟩ := h
    subst hdst
    have hptr : act.eval a = .pointer (some ⟨β t', off, none⟩) := ev_of f.st ha
    obtain ⟨w', hr, hpost⟩ := f_stL (P := P) (off := off) f hcs hcl h1 (by omega)
    intro type pos after guard next Q hk
    unfold Oper.wp
    have hrun : (execOp act.eval { dst := none, op := .store t a x, type, pos, after, guard }).run P w = .ok .skip w' := by
      simp only [execOp, hptr, Sem.run_bind, run_storeAt hn hsz hr]; rfl
    rw [hrun]
    exact hk _ _ hpost
  · rename_i b g off ha
    split at h
    case h_2 => simp at h
    rename_i cs hb
    split at h
    case isFalse => simp at h
    rename_i hc
    obtain ⟨hg, hoff, h0, hdst⟩ := hc
    split at h
    case h_2 => simp at h
    rename_i H2 hset
    simp only [Option.some.injEq, Prod.mk.injEq] at h
    obtain ⟨rfl, rfl⟩ := h
    subst hdst
    unfold setH at hset
    split at hset
    case isFalse => simp at hset
    simp only [Option.some.injEq] at hset
    subst hset
    have hptr : act.eval a = .pointer (some ⟨φ b, off, none⟩) := by
      have h' : VRel φ F H w (.hp b g off) (act.eval a) := ev_of f.st ha
      generalize act.eval a = v at h'
      cases h' with
      | one h' =>
        cases h' with
        | hp b g off cs2 ad hb2 hg2 h2 => rw [hb] at hb2; cases hb2; rw [h2 hg]
    have hne : cs ≠ [] := by intro e; subst e; simp at hg; omega
    obtain ⟨arr, ty, ha2, hc2⟩ := f.st.sr.blk b cs hb hne
    have hle : cs.length ≤ arr.size := by
      obtain ⟨v, hv, _⟩ := hc2 (cs.length - 1) cs[cs.length - 1] (by simp)
      have := (Array.getElem?_eq_some_iff.1 hv).1
      omega
    have hnl := hcl.1
    have hr := run_store_mid P w (φ b) off arr ty (act.eval x).cells.toList ha2 (by omega) h1
    generalize harr' : (arr.toList.take off ++ (act.eval x).cells.toList ++ arr.toList.drop (off + (act.eval x).cells.toList.length)).toArray = arr' at hr
    have hsz' : arr'.size = arr.size := by
      rw [← harr']; simp only [List.size_toArray, List.length_append, List.length_take, List.length_drop, Array.length_toList] at hnl ⊢; omega
    have hrow := row_replace (arr := arr.toList) (off := off) (by simpa using hc2) hcl (by omega) (by simpa using hle)
    obtain ⟨e, post⟩ := f_wrH f hb hne (Nat.le_of_eq (replaceAt_length (off := off) (new := new) (by omega)).symm) ha2 hsz' (fun i a hi => by
      obtain ⟨v, hv, hr⟩ := hrow i a hi
      exact ⟨v, by rw [← harr']; simpa using hv, hr⟩)
    intro type pos after guard next Q hk
    unfold Oper.wp
    have hrun : (execOp act.eval { dst := none, op := .store t a x, type, pos, after, guard }).run P w = .ok .skip (w.setRow (φ b) arr') := by
      simp only [execOp, hptr, Sem.run_bind, run_storeAt hn hsz hr]; rfl
    rw [hrun]
    exact hk _ _ (post (dst := none) (v := .und) (cv := undef) (fun d h => by cases h) rfl rfl)
  · simp at h
end
end Go.Hm
