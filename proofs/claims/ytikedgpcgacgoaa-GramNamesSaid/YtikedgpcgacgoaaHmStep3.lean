/- One instruction: what makes a block. -/
import Derived.Test.YtikedgpcgacgoaaHmStep2
import Derived.Laws.MakeOwn
namespace Go.Hm
open Go Go.RowKit

/-- One instruction is sound: whatever goes on from its posts. -/
def Sound (P : Program) (φ0 : Nat → Nat) (F0 : Nat → Nat → Prop) (H0 : Heap) (w0 : World) (T : Nat) (act : Act) (w : World) (dst : Option Nat) (op : Op) (H' : Heap) (env' : Env) : Prop :=
  ∀ (type : TypeId) (pos : String) (after : Array Edge) (guard : Option (Nat × Bool)) (next : Act → World → Prop) (Q : Exit → Act → World → Prop),
    (∀ act' w', Post φ0 F0 H0 w0 H' env' T act' w' → next act' w') → Oper.wp P { dst, op, type, pos, after, guard } act w next Q

/-- A part of the model makes a block: v is its value at index b. -/
def Makes (P : Program) (φ : Nat → Nat) (F : Nat → Nat → Prop) (H : Heap) (w : World) (β : Nat → Nat) (m : Sem Value) (b : Nat) (v : AV) (cs : List AV) : Prop :=
  ∃ cv arr ty, m.run P w = .ok cv (w.alloc (.cells arr ty)) ∧ (∀ (i : Nat) a, cs[i]? = some a → ∃ u, arr[i]? = some u ∧ CRel φ F H w a u) ∧
    ∀ (φ' : Nat → Nat) (F' : Nat → Nat → Prop) (H' : Heap) (w' : World), φ' b = w.heap.size → H'[b]? = some (.cells cs) → w'.heap[w.heap.size]? = some (.cells arr ty (0, 0)) → ORel φ' F' H' w' β v cv

section
variable {P : Program} {φ0 : Nat → Nat} {F0 : Nat → Nat → Prop} {H0 : Heap} {w0 : World} {φ : Nat → Nat} {F : Nat → Nat → Prop} {H : Heap} {w : World} {β : Nat → Nat} {env : Env} {act : Act} {T : Nat}

theorem s_pure (f : Full φ0 F0 H0 w0 φ F H w β env act T) {dst : Option Nat} {op : Op} {v : AV} {env' : Env} (hd : ∀ d, dst = some d → d < T) (hp : put dst v env = some env') (h : Pure P φ F H w β act op v) :
    Sound P φ0 F0 H0 w0 T act w dst op H env' := by
  intro type pos after guard next Q hk
  obtain ⟨cv, hr, hv⟩ := h dst type pos after guard
  unfold Oper.wp
  rw [hr]
  exact hk _ _ (f_pure f hd hp hv)

theorem s_make (f : Full φ0 F0 H0 w0 φ F H w β env act T) {dst : Option Nat} {op : Op} {m : Sem Value} {v : AV} {cs : List AV} {b : Nat} {env' : Env} {H' : Heap} (hd : ∀ d, dst = some d → d < T) (hp : put dst v env = some env')
    (hop : ∀ type pos after guard, execOp act.eval { dst, op, type, pos, after, guard } = (do pure (.value (← m)))) (h : Makes P φ F H w β m b v cs)
    (hb : ∀ cs, H[b]? ≠ some (.cells cs)) (hb' : H'[b]? = some (.cells cs)) (ho : ∀ b', b' ≠ b → H'[b']? = H[b']?) : Sound P φ0 F0 H0 w0 T act w dst op H' env' := by
  intro type pos after guard next Q hk
  obtain ⟨cv, arr, ty, hr, hc, hv⟩ := h
  have hrun : (execOp act.eval { dst, op, type, pos, after, guard }).run P w = .ok (.value cv) (w.alloc (.cells arr ty)) := by
    rw [hop, Sem.run_bind, hr]; rfl
  unfold Oper.wp
  rw [hrun]
  have hbw : Below w.heap.size w (w.alloc (.cells arr ty)) := (Below.refl _ _).alloc (Nat.le_refl _) _
  have hnew : (w.alloc (.cells arr ty)).heap[w.heap.size]? = some (.cells arr ty (0, 0)) := heap_alloc_new w _
  exact hk _ _ (f_make f hd hp hbw (Nat.le_refl _) hnew hb hb' ho hc (fun φ' _ hφ => hv φ' F H' _ hφ hb' hnew))

theorem run_allocI {e : TypeId} {z : List AV} (h : zOf P e = some z) (w : World) : ∃ zv : Value, of1s zv.cells.toList = some z ∧ (Instr.alloc e true (.tuple #[])).run P w = .ok (.pointer (some ⟨w.heap.size, 0, none⟩)) (w.alloc (.cells zv.cells e)) := by
  obtain ⟨i, zv, hi, hzv, hof⟩ := zOf_run h
  exact ⟨zv, hof, by simp [Instr.alloc, zeroValue_run hi hzv, newVar, newRow]⟩
theorem run_boxI (e : TypeId) (v : Value) (w : World) : (Instr.box e v).run P w = .ok (.pointer (some ⟨w.heap.size, 0, none⟩)) (w.alloc (.cells v.cells e)) := by
  simp [Instr.box, newVar, newRow]

theorem CL.arr {cs : List AV} {vs : Array Value} (h : CL φ F H w cs vs.toList) : ∀ (i : Nat) a, cs[i]? = some a → ∃ u, vs[i]? = some u ∧ CRel φ F H w a u := fun i a ha => by
  obtain ⟨v, hv, hr⟩ := h.get ha
  exact ⟨v, by simpa using hv, hr⟩

theorem hp_new {n b : Nat} {cs : List AV} (hn : cs.length = n) (k : Nat) : ∀ (φ' : Nat → Nat) (F' : Nat → Nat → Prop) (H' : Heap) (w' : World), φ' b = k → H'[b]? = some (.cells cs) → ORel φ' F' H' w' β (.hp b n 0) (.pointer (some ⟨k, 0, none⟩)) :=
  fun φ' F' H' w' hφ hb => VRel.one (.hp b n 0 cs _ hb (by omega) (fun _ => by rw [hφ]))
theorem hs_new {n es b cap : Nat} {cs : List AV} {arr : Array Value} {ty : TypeId} (hn : cs.length = n * es) (hes : 0 < es) (k : Nat) (hcap : n ≤ cap) (harr : cap * es ≤ arr.size) (hz : n = 0 → cap = 0) :
    ∀ (φ' : Nat → Nat) (F' : Nat → Nat → Prop) (H' : Heap) (w' : World), φ' b = k → H'[b]? = some (.cells cs) → w'.heap[k]? = some (.cells arr ty (0, 0)) → ORel φ' F' H' w' β (.hs b (n * es) 0 n es) (.slice (some ⟨k, 0, none⟩) n cap) :=
  fun φ' F' H' w' hφ hb hk => VRel.one (.hs b (n * es) 0 n es cs _ cap hb (by omega) hcap (fun h => by cases h) (fun _ => by
    by_cases h0 : n = 0
    · exact .inr ⟨h0, hz h0⟩
    · exact .inl ⟨Nat.mul_pos (by omega) hes, by rw [hφ], arr, ty, by rw [hφ]; exact hk, by omega⟩))

theorem m_alloc {e : TypeId} {z : List AV} (h : zOf P e = some z) (b : Nat) : Makes P φ F H w β (Instr.alloc e true (.tuple #[])) b (.hp b z.length 0) z := by
  obtain ⟨zv, hof, hr⟩ := run_allocI h w
  exact ⟨_, _, _, hr, (of1s_rel hof).arr, fun φ' F' H' w' h1 h2 _ => hp_new rfl _ φ' F' H' w' h1 h2⟩

theorem m_box (s : St φ F H w β env act T) (e : TypeId) (x : Operand) {n : Nat} {cs : List AV} (hc : cellsV (ev env (cO x)) = some cs) (hn : cs.length = n) (b : Nat) : Makes P φ F H w β (Instr.box e (act.eval x)) b (.hp b n 0) cs := by
  obtain ⟨hcl, _⟩ := cellsV_rel (ev_rel s x) hc
  exact ⟨_, _, _, run_boxI e _ w, hcl.arr, fun φ' F' H' w' h1 h2 _ => hp_new hn _ φ' F' H' w' h1 h2⟩

theorem CL.size {cs : List AV} {vs : List Value} (h : CL φ F H w cs vs) : vs.length = cs.length := h.1

theorem run_buildSliceI (s : St φ F H w β env act T) {t e : TypeId} {n k : Nat} {parts : Array (Nat × Operand)} {z cs : List AV} {l : List (Nat × Nat × AO)} (hu : P.underlying t = some (.slice e)) (hk : szOf P e = some k) (hz : zOf P e = some z) (hn : n * k ≤ 65536) (hzl : z.length = k)
    (hl : partsC (fun i => some (i * k, k)) parts.toList = some l) (hf : fillP env l (repl n z) = some cs) :
    ∃ vs : Array Value, (Instr.buildSlice t n (parts.map fun (i, x) => (i, act.eval x))).run P w = .ok (.slice (some ⟨w.heap.size, 0, none⟩) n n) (w.alloc (.cells vs e)) ∧ CL φ F H w cs vs.toList := by
  obtain ⟨i, zv, hi, hzv, hof⟩ := zOf_run hz
  have hrel : CL φ F H w z zv.cells.toList := of1s_rel hof
  have hzs : zv.cells.size = k := by rw [← hzl, ← hrel.1, Array.length_toList]
  have hmap : (parts.map fun (i, x) => (i, act.eval x)).toList = parts.toList.map fun (i, x) => (i, act.eval x) := by simp
  have hlim : ¬ (n * k > 2 ^ 24) := by omega
  by_cases h0 : n * k = 0
  · have hrow : CL φ F H w (repl n z) ((Array.range (n * k)).map ((#[] : Array Value)[· % (#[] : Array Value).size]!)).toList := by
      have hr0 : repl n z = [] := by
        apply List.eq_nil_of_length_eq_zero
        have := (CL.repl hrel n).1
        simp only [List.length_flatten, List.map_replicate, List.sum_replicate_nat, Array.length_toList, hzs] at this
        omega
      rw [hr0, h0]
      exact ⟨by simp, fun i a v ha => by simp at ha⟩
    obtain ⟨out, ho, hcl⟩ := fill_rel s _ parts.toList l (repl n z) cs _ hl hf hrow
    refine ⟨out, ?_, hcl⟩
    simp only [Instr.buildSlice, Sem.run_bind, run_underlying hu, Result.andThen_ok, szOf_run hk, if_neg hlim, Sem.run_pure, if_pos h0, hmap, ho, newRow, run_newObj]
    rfl
  · have hrow : CL φ F H w (repl n z) ((Array.range (n * k)).map (zv.cells[· % zv.cells.size]!)).toList := by
      have := zero_row zv.cells n
      rw [hzs] at this ⊢
      rw [this]
      exact CL.repl hrel n
    obtain ⟨out, ho, hcl⟩ := fill_rel s _ parts.toList l (repl n z) cs _ hl hf hrow
    refine ⟨out, ?_, hcl⟩
    simp only [Instr.buildSlice, Sem.run_bind, run_underlying hu, Result.andThen_ok, szOf_run hk, if_neg hlim, Sem.run_pure, if_neg h0, zeroValue_run hi hzv, hmap, ho, newRow, run_newObj]
    rfl

theorem m_build (s : St φ F H w β env act T) {t e : TypeId} {n k : Nat} {parts : Array (Nat × Operand)} {z cs : List AV} {l : List (Nat × Nat × AO)} (hu : P.underlying t = some (.slice e)) (hk : szOf P e = some k) (hz : zOf P e = some z) (hn : n * k ≤ 65536) (hzl : z.length = k) (hk0 : 0 < k)
    (hl : partsC (fun i => some (i * k, k)) parts.toList = some l) (hf : fillP env l (repl n z) = some cs) (hlen : cs.length = n * k) (b : Nat) :
    Makes P φ F H w β (Instr.buildSlice t n (parts.map fun (i, x) => (i, act.eval x))) b (.hs b (n * k) 0 n k) cs := by
  obtain ⟨vs, hr, hcl⟩ := run_buildSliceI s hu hk hz hn hzl hl hf
  have hs := hcl.1
  rw [Array.length_toList] at hs
  exact ⟨_, _, _, hr, hcl.arr, fun φ' F' H' w' h1 h2 h3 => hs_new hlen hk0 _ (Nat.le_refl _) (by omega) (fun h => h) φ' F' H' w' h1 h2 h3⟩

theorem m_mks {t e : TypeId} {k bytes : Nat} {z : List AV} {l c : Value} {n : Int} {kl kc : IntKind} (hu : P.underlying t = some (.slice e)) (hk : szOf P e = some k) (hby : byOf P e = some bytes) (hz : zOf P e = some z) (hl : l = .int kl n) (hc : c = .int kc n) (h0 : 0 ≤ n)
    (hroom : n * bytes ≤ (room : Int)) (hzl : z.length = k) (hk0 : 0 < k) (hb0 : 0 < bytes) (b : Nat) : Makes P φ F H w β (Instr.makeSlice t l c) b (.hs b (n.toNat * k) 0 n.toNat k) (repl n.toNat z) := by
  obtain ⟨i, zv, hi, hzv, hof⟩ := zOf_run hz
  have hrel : CL φ F H w z zv.cells.toList := of1s_rel hof
  have hzs : zv.cells.size = k := by rw [← hzl, ← hrel.1, Array.length_toList]
  have hik : i.size = k := by simpa [szOf, hi] using hk
  have hib : i.bytes = bytes := by simpa [byOf, hi] using hby
  have hbig : n ≤ n * bytes := by
    have := Int.mul_le_mul_of_nonneg_left (a := 1) (b := (bytes : Int)) (c := n) (by omega) h0
    omega
  unfold room at hroom
  have hr := run_make (P := P) (w := w) t e i zv hu hi hzv kl kc n n h0 (Int.le_refl _) (by rw [hib, Int.mul_comm]; omega) (by omega)
  have hrow : CL φ F H w (repl n.toNat z) (madeCells zv.cells (n.toNat * i.size)).toList := by
    have := zero_row zv.cells n.toNat
    unfold madeCells
    rw [hik]
    rw [hzs] at this ⊢
    rw [this]
    exact CL.repl hrel _
  have hlen : (repl n.toNat z).length = n.toNat * k := by
    rw [← hrow.1, Array.length_toList, size_madeCells, hik]
  subst hl; subst hc
  exact ⟨_, _, _, hr, hrow.arr, fun φ' F' H' w' h1 h2 h3 => hs_new hlen hk0 _ (Nat.le_refl _) (by rw [size_madeCells, hik]; omega) (fun h => h) φ' F' H' w' h1 h2 h3⟩
end
end Go.Hm
