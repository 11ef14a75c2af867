/- Literals; what makes a block. -/
import Derived.Test.YtikedgpcgacgoaaHmOps6
import Derived.Great.BuildSlice
namespace Go.Hm
open Go

theorem set_fold : ∀ (new : List Value) (k : Nat) (off : Nat) (cells : Array Value), off + k + new.length ≤ cells.size →
    ((new.zipIdx k).foldl (fun cs (c, j) => cs.setIfInBounds (off + j) c) cells).toList = cells.toList.take (off + k) ++ new ++ cells.toList.drop (off + k + new.length)
  | [], k, off, cells, h => by simp
  | v :: r, k, off, cells, h => by
    simp only [List.zipIdx_cons, List.foldl_cons]
    rw [set_fold r (k + 1) off _ (by simp at h ⊢; omega)]
    have e := list_seg_step cells.toList (off + k) v r (by simp at h ⊢; omega)
    simp only [Array.toList_setIfInBounds]
    rw [show off + (k + 1) = off + k + 1 from by omega]
    simp only [List.length_cons] at e ⊢
    simpa [Nat.add_assoc, Nat.add_comm, Nat.add_left_comm] using e

section
variable {P : Program} {φ : Nat → Nat} {F : Nat → Nat → Prop} {H : Heap} {w : World} {β : Nat → Nat} {env : Env} {act : Act} {T : Nat}

theorem fill_rel (s : St φ F H w β env act T) (place : Nat → Option (Nat × Nat)) : ∀ (parts : List (Nat × Operand)) (l : List (Nat × Nat × AO)) (z cs : List AV) (zv : Array Value),
    partsC place parts = some l → fillP env l z = some cs → CL φ F H w z zv.toList →
    ∃ out, Instr.fill place zv (parts.map fun (i, x) => (i, act.eval x)) = some out ∧ CL φ F H w cs out.toList
  | [], l, z, cs, zv, hp, hf, hz => by
    simp [partsC] at hp; subst hp
    simp [fillP] at hf; subst hf
    exact ⟨zv, rfl, hz⟩
  | (i, x) :: r, l, z, cs, zv, hp, hf, hz => by
    simp only [partsC] at hp
    split at hp
    · rename_i off n hpl
      split at hp
      · rename_i l' hl'
        simp at hp; subst hp
        simp only [fillP] at hf
        split at hf
        · rename_i new hnew
          split at hf
          · rename_i hc
            obtain ⟨hcl, _⟩ := cellsV_rel (ev_rel s x) hnew
            have hsz : (act.eval x).cells.size = n := by have := hcl.1; simp at this; omega
            have hzs : zv.size = z.length := by have := hz.1; simpa using this
            have hset := set_fold (act.eval x).cells.toList 0 off zv (by simp [hsz, hzs]; exact hc.2)
            have hz' : CL φ F H w (replaceAt z off new) (((act.eval x).cells.zipIdx.foldl (fun cs (c, j) => cs.setIfInBounds (off + j) c) zv).toList) := by
              have e : (act.eval x).cells.zipIdx.foldl (fun cs (c, j) => cs.setIfInBounds (off + j) c) zv = ((act.eval x).cells.toList.zipIdx 0).foldl (fun cs (c, j) => cs.setIfInBounds (off + j) c) zv := by
                rw [← Array.foldl_toList]; simp
              rw [e, hset]
              unfold replaceAt
              have hl2 : (act.eval x).cells.toList.length = new.length := hcl.1
              rw [Nat.add_zero, hl2]
              exact ((hz.take off).append hcl).append (hz.drop _)
            obtain ⟨out, ho, hcs⟩ := fill_rel s place r l' _ cs _ hl' hf hz'
            refine ⟨out, ?_, hcs⟩
            simp only [List.map_cons, Instr.fill, hpl]
            rw [if_neg (by simp [hsz, hzs]; exact hc.2)]
            exact ho
          · simp at hf
        · simp at hf
      · simp at hp
    · simp at hp

theorem zOf_run {t : TypeId} {z : List AV} (h : zOf P t = some z) : ∃ i zv, P.info? t = some i ∧ i.zero = some zv ∧ of1s zv.cells.toList = some z := by
  unfold zOf at h
  split at h
  · rename_i zv hz
    cases hi : P.info? t with
    | none => simp [hi] at hz
    | some i => simp [hi] at hz; exact ⟨i, zv, rfl, hz, h⟩
  · simp at h
theorem zeroValue_run {t : TypeId} {i : TypeInfo} {zv : Value} (hi : P.info? t = some i) (hz : i.zero = some zv) (w : World) : (zeroValue t).run P w = .ok zv w := by
  simp [zeroValue, typeInfo, hi, hz]

theorem places_run : ∀ (fs : List Field), fs.all (fun f => (szOf P f.type).isSome) = true → ∀ w : World,
    (fs.mapM (m := Sem) fun (f : Field) => do pure (f.offset, ← sizeOf f.type)).run P w = .ok (fs.map fun (f : Field) => (f.offset, (szOf P f.type).getD 0)) w
  | [], _, w => by simp
  | f :: fs, h, w => by
    simp only [List.all_cons, Bool.and_eq_true] at h
    obtain ⟨n, hn⟩ := Option.isSome_iff_exists.1 h.1
    simp only [List.mapM_cons, Sem.run_bind, szOf_run hn, Result.andThen_ok, Sem.run_pure, places_run fs h.2, List.map_cons, hn, Option.getD_some]

theorem p_build_struct (s : St φ F H w β env act T) (t : TypeId) (parts : Array (Nat × Operand)) {fs : Array Field} {z : List AV} {l : List (Nat × Nat × AO)} {v : AV} (hu : P.underlying t = some (.struct fs)) (hz : zOf P t = some z)
    (hall : fs.toList.all (fun (f : Field) => (szOf P f.type).isSome) = true)
    (hl : partsC (fun (i : Nat) => match (fs[i]? : Option Field) with
          | some (f : Field) => (szOf P f.type).map fun n => (f.offset, n)
          | none => none) parts.toList = some l)
    (h : rdOp (.build z l) env H = some v) : Pure P φ F H w β act (.build t parts) v := by
  simp only [rdOp] at h
  split at h
  · rename_i cs hcs
    simp only [Option.some.injEq] at h; subst h
    obtain ⟨i, zv, hi, hzv, hof⟩ := zOf_run hz
    obtain ⟨out, ho, hcl⟩ := fill_rel s _ parts.toList l z cs zv.cells hl hcs (of1s_rel hof)
    intro dst type pos after guard
    refine ⟨.agg out, ?_, ?_⟩
    · have hp := places_run fs.toList hall w
      have hpa : (fs.mapM (m := Sem) fun (f : Field) => do pure (f.offset, ← sizeOf f.type)).run P w = .ok (fs.map fun (f : Field) => (f.offset, (szOf P f.type).getD 0)) w := by
        obtain ⟨fl⟩ := fs
        simp only [List.mapM_toArray, Sem.run_map, hp, Result.andThen_ok]
        simp
      have hplace : (fun i => (fs.map fun (f : Field) => (f.offset, (szOf P f.type).getD 0))[i]?) = (fun (i : Nat) => match (fs[i]? : Option Field) with
          | some (f : Field) => (szOf P f.type).map fun n => (f.offset, n)
          | none => none) := by
        funext i
        simp only [Array.getElem?_map]
        cases hfi : fs[i]? with
        | none => rfl
        | some f =>
          have : (szOf P f.type).isSome = true := by
            rw [List.all_eq_true] at hall
            exact hall f (Array.mem_toList_iff.2 (Array.mem_of_getElem? hfi))
          obtain ⟨n, hn⟩ := Option.isSome_iff_exists.1 this
          simp [hn]
      have hmap : (parts.map fun (i, x) => (i, act.eval x)).toList = parts.toList.map fun (i, x) => (i, act.eval x) := by simp
      simp only [execOp, Instr.build, Sem.run_bind, zeroValue_run hi hzv, Result.andThen_ok, run_underlying hu, hpa, hplace, hmap, ho, Sem.run_pure]
    · exact ORel.of (by simpa using VRel.agg cs out.toList hcl)
  · simp at h

theorem p_build_array (s : St φ F H w β env act T) (t : TypeId) (parts : Array (Nat × Operand)) {n : Nat} {e : TypeId} {k : Nat} {z : List AV} {l : List (Nat × Nat × AO)} {v : AV} (hu : P.underlying t = some (.array n e)) (hz : zOf P t = some z) (hk : szOf P e = some k)
    (hl : partsC (fun i => some (i * k, k)) parts.toList = some l)
    (h : rdOp (.build z l) env H = some v) : Pure P φ F H w β act (.build t parts) v := by
  simp only [rdOp] at h
  split at h
  · rename_i cs hcs
    simp only [Option.some.injEq] at h; subst h
    obtain ⟨i, zv, hi, hzv, hof⟩ := zOf_run hz
    obtain ⟨out, ho, hcl⟩ := fill_rel s _ parts.toList l z cs zv.cells hl hcs (of1s_rel hof)
    intro dst type pos after guard
    refine ⟨.agg out, ?_, ?_⟩
    · have hmap : (parts.map fun (i, x) => (i, act.eval x)).toList = parts.toList.map fun (i, x) => (i, act.eval x) := by simp
      simp only [execOp, Instr.build, Sem.run_bind, zeroValue_run hi hzv, Result.andThen_ok, run_underlying hu, szOf_run hk, hmap, ho, Sem.run_pure]
    · exact ORel.of (by simpa using VRel.agg cs out.toList hcl)
  · simp at h

/-- The row of zeros. -/
theorem zero_row (z : Array Value) (n : Nat) : ((Array.range (n * z.size)).map (z[· % z.size]!)).toList = (List.replicate n z.toList).flatten := by
  apply List.ext_getElem?
  intro i
  simp only [Array.toList_map, Array.toList_range, List.getElem?_map]
  by_cases hi : i < n * z.size
  · rw [List.getElem?_range hi]
    have : ∀ (n i : Nat), i < n * z.size → (List.replicate n z.toList).flatten[i]? = some z[i % z.size]! := by
      intro n
      induction n with
      | zero => intro i hi; simp at hi
      | succ n ih =>
        intro i hi
        rw [List.replicate_succ, List.flatten_cons, List.getElem?_append]
        split
        · rename_i hlt
          have hlt' : i < z.size := by simpa using hlt
          rw [Nat.mod_eq_of_lt hlt']
          simp [hlt']
        · rename_i hge
          have hge' : z.size ≤ i := by simpa using hge
          rw [Nat.add_mul, Nat.one_mul] at hi
          have := ih (i - z.size) (by omega)
          simp only [Array.length_toList] at this ⊢
          rw [this, Nat.mod_eq_sub_mod hge']
    simp [this n i hi]
  · have h1 : (List.range (n * z.size))[i]? = none := by simp; omega
    have h2 : (List.replicate n z.toList).flatten[i]? = none := by simp; omega
    rw [h1, h2]; rfl

theorem CL.repl {z : List AV} {zv : List Value} (h : CL φ F H w z zv) : ∀ n, CL φ F H w (Hm.repl n z) (List.replicate n zv).flatten
  | 0 => ⟨rfl, fun i a v ha => by simp [Hm.repl] at ha⟩
  | n + 1 => by
    have := h.append (CL.repl h n)
    simpa [Hm.repl, List.replicate_succ] using this
end
end Go.Hm
