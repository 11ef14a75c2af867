/- What an operation is compiled to: the list of the cases. -/
import Derived.Test.YtikedgpcgacgoaaHmStep5
namespace Go.Hm
open Go Go.RowKit

section
variable (P : Program)

/-- The cases. -/
inductive CompR : Op → AOp → Prop
  | mv (x : Operand) : CompR (.move x) (.mv (cO x))
  | assign (x : Operand) : CompR (.assign x) (.mv (cO x))
  | pick (c a b : Operand) : CompR (.pick c a b) (.pick (cO c) (cO a) (cO b))
  | allocR (e : TypeId) (z : List AV) (hz : zOf P e = some z) : CompR (.alloc e) (.allocR z)
  | allocH (e : TypeId) (z : List AV) (hz : zOf P e = some z) : CompR (.alloc e) (.allocH z)
  | boxR (e : TypeId) (n : Nat) (x : Operand) : CompR (.box e x) (.boxR n (cO x))
  | boxH (e : TypeId) (n : Nat) (x : Operand) : CompR (.box e x) (.boxH n (cO x))
  | build1 (t : TypeId) (parts : Array (Nat × Operand)) (fs : Array Field) (z : List AV) (l : List (Nat × Nat × AO)) (hu : P.underlying t = some (.struct fs)) (hz : zOf P t = some z) (ha : fs.toList.all (fun (f : Field) => (szOf P f.type).isSome) = true)
      (hl : partsC (fun (i : Nat) => match (fs[i]? : Option Field) with
          | some (f : Field) => (szOf P f.type).map fun n => (f.offset, n)
          | none => none) parts.toList = some l) : CompR (.build t parts) (.build z l)
  | build2 (t : TypeId) (parts : Array (Nat × Operand)) (n : Nat) (e : TypeId) (k : Nat) (z : List AV) (l : List (Nat × Nat × AO)) (hu : P.underlying t = some (.array n e)) (hz : zOf P t = some z) (hk : szOf P e = some k)
      (hl : partsC (fun i => some (i * k, k)) parts.toList = some l) : CompR (.build t parts) (.build z l)
  | buildS (t : TypeId) (n : Nat) (parts : Array (Nat × Operand)) (e : TypeId) (k : Nat) (z : List AV) (l : List (Nat × Nat × AO)) (hu : P.underlying t = some (.slice e)) (hk : szOf P e = some k) (hz : zOf P e = some z) (hn : n * k ≤ 65536) (hzl : z.length = k) (hk0 : 0 < k)
      (hl : partsC (fun i => some (i * k, k)) parts.toList = some l) : CompR (.buildSlice t n parts) (.buildS n (repl n z) l)
  | buildH (t : TypeId) (n : Nat) (parts : Array (Nat × Operand)) (e : TypeId) (k : Nat) (z : List AV) (l : List (Nat × Nat × AO)) (hu : P.underlying t = some (.slice e)) (hk : szOf P e = some k) (hz : zOf P e = some z) (hn : n * k ≤ 65536) (hzl : z.length = k) (hk0 : 0 < k)
      (hl : partsC (fun i => some (i * k, k)) parts.toList = some l) : CompR (.buildSlice t n parts) (.buildH n k (repl n z) l)
  | ldA (t : TypeId) (a : Operand) (l : Option Nat) (n : Nat) (ha : aggT P t = true) (hn : szOf P t = some n) : CompR (.load t a) (.ldA l n (cO a))
  | ld1 (t : TypeId) (a : Operand) (l : Option Nat) (ha : aggT P t = false) (hu : (P.underlying t).isSome = true) : CompR (.load t a) (.ld1 l (cO a))
  | st (t : TypeId) (a x : Operand) (l : Option Nat) (n : Nat) (hn : szOf P t = some n) : CompR (.store t a x) (.st l n (cO a) (cO x))
  | nilc (x : Operand) : CompR (.nilCheck x) (.nilc (cO x))
  | bini (op : BinOp) (t : TypeId) (x y : Operand) (yt : TypeId) : CompR (.binOp op t x y yt) (.bini op (cO x) (cO y))
  | bins (op : BinOp) (t : TypeId) (x y : Operand) (yt : TypeId) : CompR (.binOp op t x y yt) (.bins op (cO x) (cO y))
  | eqb (neg : Bool) (t : TypeId) (x y : Operand) (yt : TypeId) (hu : P.underlying t = some .bool) : CompR (.binOp (if neg then .neq else .eql) t x y yt) (.eqb neg (cO x) (cO y))
  | eqp (neg : Bool) (t : TypeId) (x y : Operand) (yt el : TypeId) (hu : P.underlying t = some (.pointer el)) : CompR (.binOp (if neg then .neq else .eql) t x y yt) (.eqp neg (cO x) (cO y))
  | eqf (neg : Bool) (t : TypeId) (x y : Operand) (yt : TypeId) (a b : Array TypeId) (c : Bool) (hu : P.underlying t = some (.func a b c)) : CompR (.binOp (if neg then .neq else .eql) t x y yt) (.eqf neg (cO x) (cO y))
  | eqa (neg : Bool) (t : TypeId) (x y : Operand) (yt : TypeId) (ks : List Nat) (ha : aggT P t = true) (hk : flatT P 8 t = some ks) (hg : P.eqGuardType P.depth t = false) : CompR (.binOp (if neg then .neq else .eql) t x y yt) (.eqa neg ks (cO x) (cO y))
  | not (t : TypeId) (x : Operand) : CompR (.unOp .not t x) (.not (cO x))
  | negi (t : TypeId) (x : Operand) : CompR (.unOp .neg t x) (.negi (cO x))
  | xori (t : TypeId) (x : Operand) : CompR (.unOp .xor t x) (.xori (cO x))
  | cvi (s d : TypeId) (x : Operand) (k k' : IntKind) (hs : P.underlying s = some (.int k')) (hd : P.underlying d = some (.int k)) : CompR (.convert s d x) (.cvi k (cO x))
  | cvs (s d : TypeId) (x : Operand) (hs : P.underlying s = some .string) (hd : P.underlying d = some .string) : CompR (.convert s d x) (.slS (cO x) none none)
  | b2s (s d : TypeId) (x : Operand) (e : TypeId) (hs : P.underlying s = some (.slice e)) (he : P.underlying e = some (.int .u8)) (hd : P.underlying d = some .string) : CompR (.convert s d x) (.b2s (cO x))
  | s2b (s d : TypeId) (x : Operand) (e : TypeId) (hs : P.underlying s = some .string) (hd : P.underlying d = some (.slice e)) (he : P.underlying e = some (.int .u8)) : CompR (.convert s d x) (.s2b (cO x))
  | mkf (f : FuncId) (first caps : Array Operand) (h0 : first.size = 0) (hf : f < 1000) : CompR (.makeFunc (.func f) first caps) (.mkf f (caps.toList.map cO))
  | mks (t : TypeId) (l c : Operand) (e : TypeId) (k by' : Nat) (z : List AV) (hlc : c = l) (hu : P.underlying t = some (.slice e)) (hk : szOf P e = some k) (hb : byOf P e = some by') (hz : zOf P e = some z) (hk0 : 0 < k) (hb0 : 0 < by') : CompR (.makeSlice t l c) (.mks k by' z (cO l))
  | slS (t : TypeId) (x : Operand) (lo hi : Option Operand) (hu : P.underlying t = some .string) : CompR (.slice t x lo hi none) (.slS (cO x) (lo.map cO) (hi.map cO))
  | slC (t : TypeId) (x : Operand) (lo hi : Option Operand) (e : TypeId) (k : Nat) (hu : P.underlying t = some (.slice e)) (hk : szOf P e = some k) : CompR (.slice t x lo hi none) (.slC k (cO x) (lo.map cO) (hi.map cO))
  | sl00 (t : TypeId) (x : Operand) (lo hi mx : Option Operand) (e : TypeId) (k : Nat) (hu : P.underlying t = some (.slice e)) (hk : szOf P e = some k) (h0 : isZero mx = true ∧ isZero hi = true ∧ (isZero lo = true ∨ lo = none)) : CompR (.slice t x lo hi mx) (.sl00 (cO x))
  | fldA (s : TypeId) (x : Operand) (f : Nat) (fs : Array Field) (fd : Field) (n : Nat) (hu : P.underlying s = some (.struct fs)) (hf : fs[f]? = some fd) (hn : szOf P fd.type = some n) (h0 : n ≠ 0) : CompR (.fieldAddr s x f) (.fldA fd.offset (cO x))
  | fld (t : TypeId) (x : Operand) (f : Nat) (fs : Array Field) (fd : Field) (n : Nat) (hu : P.underlying t = some (.struct fs)) (hf : fs[f]? = some fd) (hn : szOf P fd.type = some n) (hs : (P.underlying fd.type).isSome = true) : CompR (.field t x f) (.fld fd.offset n (aggT P fd.type) (cO x))
  | ixA (t : TypeId) (x i : Operand) (e : TypeId) (k : Nat) (hu : P.underlying t = some (.slice e)) (hk : szOf P e = some k) : CompR (.indexAddr t x i) (.ixA k (cO x) (cO i))
  | ixR (t : TypeId) (x i : Operand) (n : Nat) (e : TypeId) (k : Nat) (hu : P.underlying t = some (.array n e)) (hk : szOf P e = some k) : CompR (.indexAddr t x i) (.ixR n k (cO x) (cO i))
  | ixS (t : TypeId) (x i : Operand) (hu : P.underlying t = some .string) : CompR (.index t x i) (.ixS (cO x) (cO i))
  | ixG (t : TypeId) (x i : Operand) (n : Nat) (e : TypeId) (k : Nat) (hu : P.underlying t = some (.array n e)) (hk : szOf P e = some k) (hs : (P.underlying e).isSome = true) : CompR (.index t x i) (.ixG n k (aggT P e) (cO x) (cO i))
  | ext (x : Operand) (i : Nat) : CompR (.extract x i) (.ext (cO x) i)
  | call (c : Call) (f g : FuncId) (hc : c.callee = .value (.func f)) (hg : g % 1000 = f) : CompR (.call c) (.call g (c.args.toList.map cO))
  | callv (c : Call) (x : Operand) (hc : c.callee = .value x) : CompR (.call c) (.callv (cO x) (c.args.toList.map cO))
  | lenS (c : Call) (t : TypeId) (x : Operand) (hc : c.callee = .builtin .len) (ht : c.argTypes[0]? = some t) (hx : c.args.toList = [x]) (hu : P.underlying t = some .string) : CompR (.call c) (.len true (cO x))
  | lenC (c : Call) (t : TypeId) (x : Operand) (e : TypeId) (hc : c.callee = .builtin .len) (ht : c.argTypes[0]? = some t) (hx : c.args.toList = [x]) (hu : P.underlying t = some (.slice e)) : CompR (.call c) (.len false (cO x))
  | lenK (c : Call) (t : TypeId) (x : Operand) (n : Nat) (hc : c.callee = .builtin .len) (ht : c.argTypes[0]? = some t) (hx : c.args.toList = [x]) (hu : (∃ e, P.underlying t = some (.array n e)) ∨ (∃ a e, P.underlying t = some (.pointer a) ∧ P.underlying a = some (.array n e))) : CompR (.call c) (.lenK n)
  | app (c : Call) (t tx : TypeId) (x y : Operand) (e : TypeId) (k by' : Nat) (hc : c.callee = .builtin .append) (ht : c.argTypes.toList = [t, tx]) (hx : c.args.toList = [x, y]) (hu : P.underlying t = some (.slice e)) (hk : (∃ e', P.underlying tx = some (.slice e')) ∨ P.underlying tx = some .string)
      (hs : szOf P e = some k) (hb : byOf P e = some by') (hk0 : 0 < k) (hb0 : 0 < by') (hz : (zOf P e).map (·.length) = some k) : CompR (.call c) (.app k by' (cO x) (cO y))
  | mm (c : Call) (mx : Bool) (hc : c.callee = .builtin (if mx then .max else .min)) : CompR (.call c) (.mm mx (c.args.toList.map cO))

variable {P}

theorem compOp_rel (pm : Pm) (o : Oper) : compOp P pm o = .bad ∨ CompR P o.op (compOp P pm o) := by
  obtain ⟨dst, op, type, pos, after, guard⟩ := o
  cases op
  case move x => exact .inr (.mv x)
  case assign x => exact .inr (.assign x)
  case pick c a b => exact .inr (.pick c a b)
  case alloc e =>
    rcases dst with _ | d <;> simp only [compOp]
    all_goals
      split
      · split
        · exact .inr (.allocH e _ ‹_›)
        · exact .inr (.allocR e _ ‹_›)
      · exact .inl rfl
  case box e x =>
    rcases dst with _ | d <;> simp only [compOp]
    all_goals
      split
      · split
        · exact .inr (.boxH e _ x)
        · exact .inr (.boxR e _ x)
      · exact .inl rfl
  case build t parts =>
    simp only [compOp]
    split
    · split
      · split
        · exact .inr (.build1 t parts _ _ _ ‹_› ‹_› ‹_› ‹_›)
        · exact .inl rfl
      · exact .inl rfl
    · split
      · split
        · exact .inr (.build2 t parts _ _ _ _ _ ‹_› ‹_› ‹_› ‹_›)
        · exact .inl rfl
      · exact .inl rfl
    · exact .inl rfl
  case buildSlice t n parts =>
    rcases dst with _ | d <;> simp only [compOp]
    all_goals
      split
      · split
        · split
          · rename_i hc
            split
            · split
              · exact .inr (.buildH t n parts _ _ _ _ ‹_› ‹_› ‹_› hc.1 hc.2.1 hc.2.2 ‹_›)
              · exact .inr (.buildS t n parts _ _ _ _ ‹_› ‹_› ‹_› hc.1 hc.2.1 hc.2.2 ‹_›)
            · exact .inl rfl
          · exact .inl rfl
        · exact .inl rfl
      · exact .inl rfl
  case load t a =>
    simp only [compOp]
    split
    · split
      · exact .inr (.ldA t a _ _ ‹_› ‹_›)
      · exact .inl rfl
    · rename_i h
      split
      · exact .inr (.ld1 t a _ (by simpa using h) ‹_›)
      · exact .inl rfl
  case store t a x =>
    simp only [compOp]
    split
    · exact .inr (.st t a x _ _ ‹_›)
    · exact .inl rfl
  case nilCheck x => exact .inr (.nilc x)
  case binOp op t x y yt =>
    simp only [compOp]
    split
    · exact .inr (.bini op t x y yt)
    · exact .inr (.bins op t x y yt)
    · split
      · exact .inr (.eqb false t x y yt ‹_›)
      · exact .inr (.eqb true t x y yt ‹_›)
      · exact .inl rfl
    · split
      · exact .inr (.eqp false t x y yt _ ‹_›)
      · exact .inr (.eqp true t x y yt _ ‹_›)
      · exact .inl rfl
    · split
      · exact .inr (.eqf false t x y yt _ _ _ ‹_›)
      · exact .inr (.eqf true t x y yt _ _ _ ‹_›)
      · exact .inl rfl
    · rename_i hu
      have ha : aggT P t = true := by unfold aggT; rw [hu]
      split
      · split
        · exact .inl rfl
        · rename_i hg
          split
          · exact .inr (.eqa false t x y yt _ ha ‹_› (by simpa using hg))
          · exact .inr (.eqa true t x y yt _ ha ‹_› (by simpa using hg))
          · exact .inl rfl
      · exact .inl rfl
    · rename_i hu
      have ha : aggT P t = true := by unfold aggT; rw [hu]
      split
      · split
        · exact .inl rfl
        · rename_i hg
          split
          · exact .inr (.eqa false t x y yt _ ha ‹_› (by simpa using hg))
          · exact .inr (.eqa true t x y yt _ ha ‹_› (by simpa using hg))
          · exact .inl rfl
      · exact .inl rfl
    · exact .inl rfl
  case unOp op t x =>
    cases op <;> first | exact .inr (.not t x) | exact .inr (.negi t x) | exact .inr (.xori t x) | exact .inl rfl
  case convert s d x =>
    simp only [compOp]
    split
    · exact .inr (.cvi s d x _ _ ‹_› ‹_›)
    · exact .inr (.cvs s d x ‹_› ‹_›)
    · split
      · exact .inr (.b2s s d x _ ‹_› ‹_› ‹_›)
      · exact .inl rfl
    · split
      · exact .inr (.s2b s d x _ ‹_› ‹_› ‹_›)
      · exact .inl rfl
    · exact .inl rfl
  case makeFunc f first caps =>
    cases f
    case func f =>
      simp only [compOp]
      split
      · rename_i h; exact .inr (.mkf f first caps h.1 h.2)
      · exact .inl rfl
    all_goals exact .inl rfl
  case makeSlice t l c =>
    rcases dst with _ | d <;> simp only [compOp]
    all_goals
      split
      · split
        · split
          · rename_i h
            obtain ⟨h1, _, h3, h4⟩ := h
            exact .inr (.mks t _ _ _ _ _ _ (by rw [h1]) ‹_› ‹_› ‹_› ‹_› h3 h4)
          · exact .inl rfl
        · exact .inl rfl
      · split
        · split
          · rename_i h
            obtain ⟨h1, _, h3, h4⟩ := h
            exact .inr (.mks t _ _ _ _ _ _ (by rw [h1]) ‹_› ‹_› ‹_› ‹_› h3 h4)
          · exact .inl rfl
        · exact .inl rfl
      · exact .inl rfl
  case slice t x lo hi mx =>
    simp only [compOp]
    split
    · split
      · exact .inr (.slS t x lo hi ‹_›)
      · exact .inl rfl
    · split
      · exact .inr (.slC t x lo hi _ _ ‹_› ‹_›)
      · split
        · rename_i h
          simp only [Bool.and_eq_true, Bool.or_eq_true, Option.isNone_iff_eq_none] at h
          exact .inr (.sl00 t x lo hi _ _ _ ‹_› ‹_› ⟨h.1.1, h.1.2, h.2⟩)
        · exact .inl rfl
      · exact .inl rfl
    · exact .inl rfl
  case fieldAddr s x f =>
    simp only [compOp]
    split
    · split
      · split
        · split
          · exact .inl rfl
          · exact .inr (.fldA s x f _ _ _ ‹_› ‹_› ‹_› ‹_›)
        · exact .inl rfl
      · exact .inl rfl
    · exact .inl rfl
  case field t x f =>
    simp only [compOp]
    split
    · split
      · split
        · split
          · exact .inr (.fld t x f _ _ _ ‹_› ‹_› ‹_› ‹_›)
          · exact .inl rfl
        · exact .inl rfl
      · exact .inl rfl
    · exact .inl rfl
  case indexAddr t x i =>
    simp only [compOp]
    split
    · split
      · exact .inr (.ixA t x i _ _ ‹_› ‹_›)
      · exact .inl rfl
    · split
      · exact .inr (.ixR t x i _ _ _ ‹_› ‹_›)
      · exact .inl rfl
    · exact .inl rfl
  case index t x i =>
    simp only [compOp]
    split
    · exact .inr (.ixS t x i ‹_›)
    · split
      · split
        · exact .inr (.ixG t x i _ _ _ ‹_› ‹_› ‹_›)
        · exact .inl rfl
      · exact .inl rfl
    · exact .inl rfl
  case extract x i => exact .inr (.ext x i)
  case call c =>
    simp only [compOp]
    split
    · rename_i f hc
      split
      · rename_i hf
        cases dst with
        | none => exact .inr (.call c f f hc (Nat.mod_eq_of_lt hf))
        | some d =>
          dsimp only
          split
          · exact .inr (.call c f (f + 1000) hc ((Nat.add_mod_right f 1000).trans (Nat.mod_eq_of_lt hf)))
          · exact .inr (.call c f f hc (Nat.mod_eq_of_lt hf))
      · exact .inl rfl
    · rename_i x _ hc; exact .inr (.callv c x hc)
    · split
      · split
        · exact .inr (.lenS c _ _ ‹_› ‹_› ‹_› ‹_›)
        · exact .inr (.lenC c _ _ _ ‹_› ‹_› ‹_› ‹_›)
        · exact .inr (.lenK c _ _ _ ‹_› ‹_› ‹_› (.inl ⟨_, ‹_›⟩))
        · split
          · exact .inr (.lenK c _ _ _ ‹_› ‹_› ‹_› (.inr ⟨_, _, ‹_›, ‹_›⟩))
          · exact .inl rfl
        · exact .inl rfl
      · exact .inl rfl
    · split
      · split
        · split
          · split
            · rename_i h
              exact .inr (.app c _ _ _ _ _ _ _ ‹_› ‹_› ‹_› ‹_› (.inl ⟨_, ‹_›⟩) ‹_› ‹_› h.1 h.2.1 h.2.2)
            · exact .inl rfl
          · exact .inl rfl
        · split
          · split
            · rename_i h
              exact .inr (.app c _ _ _ _ _ _ _ ‹_› ‹_› ‹_› ‹_› (.inr ‹_›) ‹_› ‹_› Nat.one_pos h.1 h.2)
            · exact .inl rfl
          · exact .inl rfl
        · exact .inl rfl
      · exact .inl rfl
    · exact .inr (.mm c true ‹_›)
    · exact .inr (.mm c false ‹_›)
    · exact .inl rfl
  all_goals exact .inl rfl
end
end Go.Hm
