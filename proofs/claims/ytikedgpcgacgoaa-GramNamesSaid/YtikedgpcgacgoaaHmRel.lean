/- The relation between abstract and concrete states, and what keeps it. -/
import Derived.Test.YtikedgpcgacgoaaHmComp
import Derived.Below
namespace Go.Hm
open Go

/-- Scalars: values without memory behind them. -/
def scal : Value → Bool
  | .bool _ | .int .. | .string _ | .pointer none | .map none | .nilFunc => true
  | _ => false

def blkOf (H : Heap) (b : Nat) (cs : List AV) : Prop := H[b]? = some (.cells cs)

/-- A cell's value. φ: where a block lies; F: which cells are frozen. -/
inductive CRel (φ : Nat → Nat) (F : Nat → Nat → Prop) (H : Heap) (w : World) : AV → Value → Prop
  | val (v : Value) (h : scal v = true) : CRel φ F H w (.val v) v
  | e0 (x : Option Addr) : CRel φ F H w .e0 (.slice x 0 0)
  | sl (b o n cap : Nat) (cells : List AV) (vs : List Value) (hn : n ≤ cap) (hl : vs.length = cells.length) (hb : belowL 0 cells = true)
      (hF : ∀ i, i < cells.length → F b (o + i)) (hc : ∀ (i : Nat) v, vs[i]? = some v → w.cell? ⟨b, o + i, none⟩ = some v)
      (hr : ∀ (i : Nat) a v, cells[i]? = some a → vs[i]? = some v → CRel φ F H w a v) : CRel φ F H w (.sl n cells) (.slice (some ⟨b, o, none⟩) n cap)
  | slnil (x : Option Addr) : CRel φ F H w (.sl 0 []) (.slice x 0 0)
  | rop (b o off : Nat) (cells : List AV) (vs : List Value) (hl : vs.length = cells.length) (hb : belowL 0 cells = true)
      (hF : ∀ i, i < cells.length → F b (o + i)) (hc : ∀ (i : Nat) v, vs[i]? = some v → w.cell? ⟨b, o + i, none⟩ = some v)
      (hr : ∀ (i : Nat) a v, cells[i]? = some a → vs[i]? = some v → CRel φ F H w a v) : CRel φ F H w (.rop cells off) (.pointer (some ⟨b, o + off, none⟩))
  | hp (b g off : Nat) (cs : List AV) (a : Addr) (hb : H[b]? = some (.cells cs)) (hg : g ≤ cs.length) (h : cs.length = g → a = ⟨φ b, off, none⟩) : CRel φ F H w (.hp b g off) (.pointer (some a))
  | hs (b g off n es : Nat) (cs : List AV) (x : Option Addr) (cap : Nat) (hb : H[b]? = some (.cells cs)) (hg : g ≤ cs.length) (hn : n ≤ cap) (hx : x = none → n = 0)
      (h : cs.length = g → (0 < g ∧ x = some ⟨φ b, off, none⟩ ∧ ∃ arr ty, w.heap[φ b]? = some (.cells arr ty (0, 0)) ∧ off + cap * es ≤ arr.size) ∨ (n = 0 ∧ cap = 0)) :
      CRel φ F H w (.hs b g off n es) (.slice x n cap)
  | fn (f : FuncId) (caps : List AV) (vs : List Value) (hl : vs.length = caps.length)
      (hr : ∀ (i : Nat) a v, caps[i]? = some a → vs[i]? = some v → CRel φ F H w a v) : CRel φ F H w (.fn f caps) (.func (.func (f % 1000)) #[] vs.toArray)

def CL (φ : Nat → Nat) (F : Nat → Nat → Prop) (H : Heap) (w : World) (as : List AV) (vs : List Value) : Prop :=
  vs.length = as.length ∧ ∀ (i : Nat) a v, as[i]? = some a → vs[i]? = some v → CRel φ F H w a v

inductive VRel (φ : Nat → Nat) (F : Nat → Nat → Prop) (H : Heap) (w : World) : AV → Value → Prop
  | one {a : AV} {v : Value} (h : CRel φ F H w a v) : VRel φ F H w a v
  | agg (cs : List AV) (vs : List Value) (h : CL φ F H w cs vs) : VRel φ F H w (.agg cs) (.agg vs.toArray)
  | tup (as : List AV) (vs : List Value) (hl : vs.length = as.length) (h : ∀ (i : Nat) a v, as[i]? = some a → vs[i]? = some v → VRel φ F H w a v) : VRel φ F H w (.tup as) (.tuple vs.toArray)

/-- A block of cells. -/
def Blk (φ : Nat → Nat) (F : Nat → Nat → Prop) (H : Heap) (w : World) (k : Nat) (cs : List AV) : Prop :=
  ∃ arr ty, w.heap[k]? = some (.cells arr ty (0, 0)) ∧ ∀ (i : Nat) a, cs[i]? = some a → ∃ v, arr[i]? = some v ∧ CRel φ F H w a v

def live (H : Heap) (b : Nat) : Prop := ∃ cs, H[b]? = some (.cells cs) ∧ cs ≠ []

/-- The heap. -/
structure SR (φ : Nat → Nat) (F : Nat → Nat → Prop) (H : Heap) (w : World) : Prop where
  blk : ∀ (b : Nat) cs, H[b]? = some (.cells cs) → cs ≠ [] → Blk φ F H w (φ b) cs
  inj : ∀ b b', live H b → live H b' → φ b = φ b' → b = b'
  phiF : ∀ b o, live H b → ¬ F (φ b) o
  fsz : ∀ k o, F k o → k < w.heap.size

/-- Blocks keep their sizes. -/
def Wm (w w' : World) : Prop := w.heap.size ≤ w'.heap.size ∧ ∀ (k : Nat) arr ty fr, w.heap[k]? = some (.cells arr ty fr) → ∃ arr', w'.heap[k]? = some (.cells arr' ty fr) ∧ arr'.size = arr.size

theorem Wm.refl (w : World) : Wm w w := ⟨Nat.le_refl _, fun _ _ _ _ h => ⟨_, h, rfl⟩⟩
theorem Wm.trans {a b c : World} (h : Wm a b) (k : Wm b c) : Wm a c :=
  ⟨Nat.le_trans h.1 k.1, fun i arr ty fr hi => by
    obtain ⟨arr1, h1, s1⟩ := h.2 i arr ty fr hi
    obtain ⟨arr2, h2, s2⟩ := k.2 i arr1 ty fr h1
    exact ⟨arr2, h2, s2.trans s1⟩⟩

/-- From one state to a later one. -/
structure Ext (φ : Nat → Nat) (F : Nat → Nat → Prop) (H : Heap) (w : World) (φ' : Nat → Nat) (F' : Nat → Nat → Prop) (H' : Heap) (w' : World) : Prop where
  len : ∀ (b : Nat) cs, H[b]? = some (.cells cs) → ∃ cs', H'[b]? = some (.cells cs') ∧ cs.length ≤ cs'.length ∧ (cs'.length = cs.length → φ' b = φ b)
  frz : ∀ k o, F k o → F' k o ∧ w'.cell? ⟨k, o, none⟩ = w.cell? ⟨k, o, none⟩
  wm : Wm w w'

theorem Ext.refl (φ : Nat → Nat) (F : Nat → Nat → Prop) (H : Heap) (w : World) : Ext φ F H w φ F H w :=
  ⟨fun _ cs h => ⟨cs, h, Nat.le_refl _, fun _ => rfl⟩, fun _ _ h => ⟨h, rfl⟩, Wm.refl w⟩
theorem Ext.trans {φ φ' φ'' : Nat → Nat} {F F' F'' : Nat → Nat → Prop} {H H' H'' : Heap} {w w' w'' : World}
    (h : Ext φ F H w φ' F' H' w') (k : Ext φ' F' H' w' φ'' F'' H'' w'') : Ext φ F H w φ'' F'' H'' w'' :=
  ⟨fun b cs hb => by
    obtain ⟨cs1, h1, l1, p1⟩ := h.len b cs hb
    obtain ⟨cs2, h2, l2, p2⟩ := k.len b cs1 h1
    exact ⟨cs2, h2, Nat.le_trans l1 l2, fun e => (p2 (by omega)).trans (p1 (by omega))⟩,
   fun b o hF => ⟨(k.frz b o (h.frz b o hF).1).1, (k.frz b o (h.frz b o hF).1).2.trans (h.frz b o hF).2⟩, h.wm.trans k.wm⟩

/-- A related value stays related. -/
theorem CRel.mono {φ φ' : Nat → Nat} {F F' : Nat → Nat → Prop} {H H' : Heap} {w w' : World} (e : Ext φ F H w φ' F' H' w') {a : AV} {v : Value}
    (h : CRel φ F H w a v) : CRel φ' F' H' w' a v := by
  induction h with
  | val v h => exact .val v h
  | e0 x => exact .e0 x
  | sl b o n cap cells vs hn hl hb hF hc _ ih =>
    refine .sl b o n cap cells vs hn hl hb (fun i hi => (e.frz _ _ (hF i hi)).1) (fun i v hv => ?_) ih
    have hi : i < cells.length := by
      rw [← hl]; exact (List.getElem?_eq_some_iff.1 hv).1
    rw [(e.frz _ _ (hF i hi)).2]; exact hc i v hv
  | slnil x => exact .slnil x
  | rop b o off cells vs hl hb hF hc _ ih =>
    refine .rop b o off cells vs hl hb (fun i hi => (e.frz _ _ (hF i hi)).1) (fun i v hv => ?_) ih
    have hi : i < cells.length := by
      rw [← hl]; exact (List.getElem?_eq_some_iff.1 hv).1
    rw [(e.frz _ _ (hF i hi)).2]; exact hc i v hv
  | hp b g off cs a hb hg h =>
    obtain ⟨cs', h1, l1, p1⟩ := e.len b cs hb
    exact .hp b g off cs' a h1 (by omega) (fun eg => by rw [h (by omega), p1 (by omega)])
  | hs b g off n es cs x cap hb hg hn hx h =>
    obtain ⟨cs', h1, l1, p1⟩ := e.len b cs hb
    refine .hs b g off n es cs' x cap h1 (by omega) hn hx (fun eg => ?_)
    rcases h (by omega) with ⟨h0g, hx', arr, ty, ha, hs⟩ | hnil
    · obtain ⟨arr', ha', sz⟩ := e.wm.2 _ _ _ _ ha
      rw [p1 (by omega)]
      exact .inl ⟨h0g, hx', arr', ty, ha', by omega⟩
    · exact .inr hnil
  | fn f caps vs hl _ ih => exact .fn f caps vs hl ih

theorem CL.mono {φ φ' : Nat → Nat} {F F' : Nat → Nat → Prop} {H H' : Heap} {w w' : World} (e : Ext φ F H w φ' F' H' w') {as : List AV} {vs : List Value}
    (h : CL φ F H w as vs) : CL φ' F' H' w' as vs := ⟨h.1, fun i a v ha hv => (h.2 i a v ha hv).mono e⟩
theorem VRel.mono {φ φ' : Nat → Nat} {F F' : Nat → Nat → Prop} {H H' : Heap} {w w' : World} (e : Ext φ F H w φ' F' H' w') {a : AV} {v : Value}
    (h : VRel φ F H w a v) : VRel φ' F' H' w' a v := by
  induction h with
  | one h => exact .one (h.mono e)
  | agg cs vs h => exact .agg cs vs (h.mono e)
  | tup as vs hl _ ih => exact .tup as vs hl ih

/-! ### References below a limit -/
theorem belowL_iff {n : Nat} {l : List AV} : belowL n l = true ↔ ∀ a ∈ l, below n a = true := by
  induction l with
  | nil => simp [belowL]
  | cons a r ih => simp [belowL, ih]
theorem belowL_get {n : Nat} {l : List AV} (h : belowL n l = true) {i : Nat} {a : AV} (ha : l[i]? = some a) : below n a = true :=
  belowL_iff.1 h a (List.mem_of_getElem? ha)
theorem belowL_of_get {n : Nat} {l : List AV} (h : ∀ (i : Nat) a, l[i]? = some a → below n a = true) : belowL n l = true :=
  belowL_iff.2 fun a ha => by
    obtain ⟨i, hi⟩ := List.getElem?_of_mem ha
    exact h i a hi

mutual
theorem below_mono {n m : Nat} (h : n ≤ m) : ∀ (a : AV), Hm.below n a = true → Hm.below m a = true
  | .hp b _ _ => by simp only [Hm.below, Nat.blt_eq]; omega
  | .hs b _ _ _ _ => by simp only [Hm.below, Nat.blt_eq]; omega
  | .mp b => by simp only [Hm.below, Nat.blt_eq]; omega
  | .fn _ cap => by simp only [Hm.below]; exact belowL_mono h cap
  | .agg cs => by simp only [Hm.below]; exact belowL_mono h cs
  | .tup vs => by simp only [Hm.below]; exact belowL_mono h vs
  | .val _ | .e0 | .sl _ _ | .rop _ _ => by simp [Hm.below]
  | .rp _ _ | .box _ | .und | .dead => by simp [Hm.below]
theorem belowL_mono {n m : Nat} (h : n ≤ m) : ∀ (l : List AV), belowL n l = true → belowL m l = true
  | [] => by simp [belowL]
  | a :: r => by
    simp only [belowL, Bool.and_eq_true]
    exact fun ⟨x, y⟩ => ⟨below_mono h a x, belowL_mono h r y⟩
end

/-- Related values refer into the heap. -/
theorem CRel.refs {φ : Nat → Nat} {F : Nat → Nat → Prop} {H : Heap} {w : World} {a : AV} {v : Value} (h : CRel φ F H w a v) : Hm.below H.length a = true := by
  induction h with
  | val v h => rfl
  | e0 x => rfl
  | sl => rfl
  | slnil => rfl
  | rop => rfl
  | hp b g off cs a hb hg h =>
    have := (List.getElem?_eq_some_iff.1 hb).1
    simpa [Hm.below, Nat.blt_eq] using this
  | hs b g off n es cs x cap hb hg hn hx h =>
    have := (List.getElem?_eq_some_iff.1 hb).1
    simpa [Hm.below, Nat.blt_eq] using this
  | fn f caps vs hl _ ih =>
    simp only [Hm.below]
    exact belowL_of_get fun i a ha => by
      have hi : i < vs.length := by rw [hl]; exact (List.getElem?_eq_some_iff.1 ha).1
      exact ih i a vs[i] ha (by simp [hi])

/-- A value without references above a place is related in the heap cut there. -/
theorem CRel.shrink {φ : Nat → Nat} {F : Nat → Nat → Prop} {H : Heap} {w : World} {n : Nat} {a : AV} {v : Value} (h : CRel φ F H w a v) (hb : Hm.below n a = true) : CRel φ F (H.take n) w a v := by
  induction h with
  | val v h => exact .val v h
  | e0 x => exact .e0 x
  | sl b o n' cap cells vs hn hl hb' hF hc _ ih =>
    refine .sl b o n' cap cells vs hn hl hb' hF hc fun i a v ha hv => ih i a v ha hv ?_
    exact below_mono (Nat.zero_le _) a (belowL_get hb' ha)
  | slnil x => exact .slnil x
  | rop b o off cells vs hl hb' hF hc _ ih =>
    exact .rop b o off cells vs hl hb' hF hc fun i a v ha hv => ih i a v ha hv (below_mono (Nat.zero_le _) a (belowL_get hb' ha))
  | hp b g off cs a h1 hg h =>
    have hbn : b < n := by simpa [Hm.below, Nat.blt_eq] using hb
    exact .hp b g off cs a (by rw [List.getElem?_take]; simp [hbn, h1]) hg h
  | hs b g off n' es cs x cap h1 hg hn hx h =>
    have hbn : b < n := by simpa [Hm.below, Nat.blt_eq] using hb
    exact .hs b g off n' es cs x cap (by rw [List.getElem?_take]; simp [hbn, h1]) hg hn hx h
  | fn f caps vs hl _ ih =>
    exact .fn f caps vs hl fun i a v ha hv => ih i a v ha hv (belowL_get (by simpa [Hm.below] using hb) ha)
end Go.Hm
