/- The reading instructions are sound: 3, arithmetic, comparisons, slices, aggregates. -/
import Derived.Test.YtikedgpcgacgoaaHmOps2
namespace Go.Hm
open Go

section
variable {P : Program} {φ : Nat → Nat} {F : Nat → Nat → Prop} {H : Heap} {w : World} {β : Nat → Nat} {env : Env} {act : Act} {T : Nat}

theorem run_bini (op : BinOp) (t : TypeId) (x y : Operand) (k k' : IntKind) (a b : Int) {r : AV} (h : abin op k a k' b = some r) (w : World) :
    ∃ v, r = .val v ∧ scal v = true ∧ (do eqGuard op t x y (.int k a) (.int k' b); binOp op t (.int k a) (.int k' b)).run P w = .ok v w := by
  cases op <;> simp only [abin] at h
  case shl | shr =>
    split at h
    · simp at h
    · rename_i hb
      simp at h; subst h
      exact ⟨_, rfl, rfl, by simp [eqGuard, binOp, Op.shift, hb]⟩
  case quo | rem =>
    split at h
    · split at h
      · simp at h
      · rename_i hk hb
        simp at h; subst h
        exact ⟨_, rfl, rfl, by simp [eqGuard, binOp, Op.intDiv, hk, hb]⟩
    · simp at h
  all_goals
    split at h
    · rename_i hk
      simp at h; subst h
      exact ⟨_, rfl, rfl, by simp [eqGuard, binOp, Op.intArith, Op.intBits, Op.intCmp, hk]⟩
    · simp at h

theorem p_bini (s : St φ F H w β env act T) (op : BinOp) (t : TypeId) (x y : Operand) (yt : TypeId) {v : AV} (h : rdOp (.bini op (cO x) (cO y)) env H = some v) : Pure P φ F H w β act (.binOp op t x y yt) v := by
  simp only [rdOp] at h
  split at h
  · rename_i k a k' b hx hy
    obtain ⟨u, rfl, hs, hrun⟩ := run_bini (P := P) op t x y k k' a b h w
    intro dst type pos after guard
    refine ⟨u, ?_, VRel.one (.val u hs)⟩
    simp only [execOp, ev_val s hx, ev_val s hy, Sem.run_bind] at hrun ⊢
    rw [hrun]
    rfl
  · simp at h

theorem run_bins (op : BinOp) (t : TypeId) (x y : Operand) (a b : ByteArray) {r : AV} (h : abins op a b = some r) (w : World) :
    ∃ v, r = .val v ∧ scal v = true ∧ (do eqGuard op t x y (.string a) (.string b); binOp op t (.string a) (.string b)).run P w = .ok v w := by
  cases op <;> simp only [abins] at h
  case add =>
    split at h
    · simp at h
    · rename_i hb
      simp only [Option.some.injEq] at h; subst h
      exact ⟨_, rfl, rfl, by simp only [eqGuard, binOp, Op.stringOp, Sem.run_bind, if_neg hb]; simp⟩
  all_goals first
    | (simp at h; done)
    | (simp only [Option.some.injEq] at h; subst h; exact ⟨_, rfl, rfl, by simp [eqGuard, binOp, Op.stringOp]⟩)

theorem p_bins (s : St φ F H w β env act T) (op : BinOp) (t : TypeId) (x y : Operand) (yt : TypeId) {v : AV} (h : rdOp (.bins op (cO x) (cO y)) env H = some v) : Pure P φ F H w β act (.binOp op t x y yt) v := by
  simp only [rdOp] at h
  split at h
  · rename_i a b hx hy
    obtain ⟨u, rfl, hs, hrun⟩ := run_bins (P := P) op t x y a b h w
    intro dst type pos after guard
    refine ⟨u, ?_, VRel.one (.val u hs)⟩
    simp only [execOp, ev_val s hx, ev_val s hy, Sem.run_bind] at hrun ⊢
    rw [hrun]
    rfl
  · simp at h

theorem p_eqb (s : St φ F H w β env act T) (neg : Bool) (t : TypeId) (x y : Operand) (yt : TypeId) {v : AV} (hu : P.underlying t = some .bool) (h : rdOp (.eqb neg (cO x) (cO y)) env H = some v) :
    Pure P φ F H w β act (.binOp (if neg then .neq else .eql) t x y yt) v := by
  simp only [rdOp] at h
  split at h
  · rename_i a b hx hy
    simp only [Option.some.injEq] at h; subst h
    intro dst type pos after guard
    refine ⟨.bool (if neg then !(a == b) else a == b), ?_, VRel.one (.val _ rfl)⟩
    cases neg <;> simp [execOp, ev_val s hx, ev_val s hy, eqGuard, binOp, Op.equal, Op.maxDepth, run_equalIn_bool' w 9999 t a b hu]
  · simp at h

/-- Is a value a pointer, or a function, that is not nil? -/
theorem ptr_some {a : AV} {v : Value} (h : ORel φ F H w β a v) (ha : (∃ t o, a = .rp t o) ∨ (∃ b g o, a = .hp b g o) ∨ (∃ cs o, a = .rop cs o)) : ∃ ad, v = .pointer (some ad) := by
  rcases ha with ⟨t, o, rfl⟩ | ⟨b, g, o, rfl⟩ | ⟨cs, o, rfl⟩
  · exact ⟨_, h⟩
  · have h' : VRel φ F H w (.hp b g o) v := h
    cases h' with
    | one h' => cases h'; exact ⟨_, rfl⟩
  · have h' : VRel φ F H w (.rop cs o) v := h
    cases h' with
    | one h' => cases h'; exact ⟨_, rfl⟩
theorem fn_some {f : FuncId} {c : List AV} {v : Value} (h : ORel φ F H w β (.fn f c) v) : ∃ vs : Array Value, v = .func (.func (f % 1000)) #[] vs := by
  have h' : VRel φ F H w (.fn f c) v := h
  cases h' with
  | one h' => cases h'; exact ⟨_, rfl⟩

theorem equal_eq (t : TypeId) (a b : Value) : Op.equal t a b = Op.equalIn (9999 + 1) t a b := rfl

theorem eq_ptr1 {t el : TypeId} (hu : P.underlying t = some (.pointer el)) (d : Nat) (b : Option Addr) (w : World) : (Op.equalIn (d + 1) t (.pointer none) (.pointer b)).run P w = .ok b.isNone w := by
  simp only [Op.equalIn, Sem.run_bind, run_underlying hu, Result.andThen_ok]
  rfl
theorem eq_ptr2 {t el : TypeId} (hu : P.underlying t = some (.pointer el)) (d : Nat) (a : Addr) (w : World) : (Op.equalIn (d + 1) t (.pointer (some a)) (.pointer none)).run P w = .ok false w := by
  simp only [Op.equalIn, Sem.run_bind, run_underlying hu, Result.andThen_ok]
  rfl
theorem eq_fn1 {t : TypeId} {a b : Array TypeId} {c : Bool} (hu : P.underlying t = some (.func a b c)) (d : Nat) (w : World) : (Op.equalIn (d + 1) t .nilFunc .nilFunc).run P w = .ok true w := by
  simp only [Op.equalIn, Sem.run_bind, run_underlying hu, Result.andThen_ok]
  rfl
theorem eq_fn2 {t : TypeId} {a b : Array TypeId} {c : Bool} (hu : P.underlying t = some (.func a b c)) (d : Nat) (f : Fn) (x y : Array Value) (w : World) : (Op.equalIn (d + 1) t .nilFunc (.func f x y)).run P w = .ok false w := by
  simp only [Op.equalIn, Sem.run_bind, run_underlying hu, Result.andThen_ok]
  rfl
theorem eq_fn3 {t : TypeId} {a b : Array TypeId} {c : Bool} (hu : P.underlying t = some (.func a b c)) (d : Nat) (f : Fn) (x y : Array Value) (w : World) : (Op.equalIn (d + 1) t (.func f x y) .nilFunc).run P w = .ok false w := by
  simp only [Op.equalIn, Sem.run_bind, run_underlying hu, Result.andThen_ok]
  rfl

theorem p_cmp (neg e : Bool) (t : TypeId) (x y : Operand) (yt : TypeId) {a b : Value} (hx : act.eval x = a) (hy : act.eval y = b) (hg : ∀ op, eqGuard op t x y a b = pure ()) (he : (Op.equal t a b).run P w = .ok e w)
    (h1 : binOp .eql t a b = (do pure (.bool (← Op.equal t a b)))) (h2 : binOp .neq t a b = (do pure (.bool (!(← Op.equal t a b))))) :
    Pure P φ F H w β act (.binOp (if neg then .neq else .eql) t x y yt) (.val (.bool (if neg then !e else e))) := by
  intro dst type pos after guard
  refine ⟨.bool (if neg then !e else e), ?_, VRel.one (.val _ rfl)⟩
  cases neg
  · simp [execOp, hx, hy, hg, h1, he]
  · simp [execOp, hx, hy, hg, h2, he]

theorem isPtr_some {a : AV} {v : Value} (h : ORel φ F H w β a v) (ha : isPtr a = true) : ∃ ad, v = .pointer (some ad) := by
  cases a <;> simp [isPtr] at ha
  · rename_i cs o; exact ptr_some h (.inr (.inr ⟨_, _, rfl⟩))
  · exact ptr_some h (.inl ⟨_, _, rfl⟩)
  · exact ptr_some h (.inr (.inl ⟨_, _, _, rfl⟩))

theorem p_eqp (s : St φ F H w β env act T) (neg : Bool) (t : TypeId) (x y : Operand) (yt : TypeId) {v : AV} {el : TypeId} (hu : P.underlying t = some (.pointer el)) (h : rdOp (.eqp neg (cO x) (cO y)) env H = some v) :
    Pure P φ F H w β act (.binOp (if neg then .neq else .eql) t x y yt) v := by
  simp only [rdOp] at h
  split at h
  · rename_i e he
    simp only [Option.some.injEq] at h
    subst h
    unfold eqPtr at he
    split at he
    · rename_i hx
      split at he
      · rename_i hy
        simp at he; subst he
        refine p_cmp neg true t x y yt (ev_val s hx) (ev_val s hy) (fun op => by cases op <;> simp [eqGuard]) ?_ rfl rfl
        exact eq_ptr1 hu 9999 none w
      · rename_i b hb
        split at he
        · rename_i hp
          simp at he; subst he
          obtain ⟨ad, hy⟩ := isPtr_some (ev_of s rfl) hp
          refine p_cmp neg false t x y yt (ev_val s hx) hy (fun op => by cases op <;> simp [eqGuard]) ?_ rfl rfl
          exact eq_ptr1 hu 9999 (some ad) w
        · simp at he
    · split at he
      · rename_i hy
        split at he
        · rename_i hp
          simp at he; subst he
          obtain ⟨ad, hx⟩ := isPtr_some (ev_of s rfl) hp
          refine p_cmp neg false t x y yt hx (ev_val s hy) (fun op => by cases op <;> simp [eqGuard]) ?_ rfl rfl
          exact eq_ptr2 hu 9999 ad w
        · simp at he
      · simp at he
  · simp at h

theorem isFn_some {a : AV} {v : Value} (h : ORel φ F H w β a v) (ha : isFn a = true) : ∃ f vs, v = .func (.func f) #[] vs := by
  cases a <;> simp [isFn] at ha
  rename_i f c
  obtain ⟨vs, hv⟩ := fn_some h
  exact ⟨_, vs, hv⟩

theorem p_eqf (s : St φ F H w β env act T) (neg : Bool) (t : TypeId) (x y : Operand) (yt : TypeId) {v : AV} {a b : Array TypeId} {c : Bool} (hu : P.underlying t = some (.func a b c)) (h : rdOp (.eqf neg (cO x) (cO y)) env H = some v) :
    Pure P φ F H w β act (.binOp (if neg then .neq else .eql) t x y yt) v := by
  simp only [rdOp] at h
  split at h
  · rename_i e he
    simp only [Option.some.injEq] at h
    subst h
    unfold eqFn at he
    split at he
    · rename_i hx
      split at he
      · rename_i hy
        simp at he; subst he
        refine p_cmp neg true t x y yt (ev_val s hx) (ev_val s hy) (fun op => by cases op <;> simp [eqGuard]) ?_ rfl rfl
        exact eq_fn1 hu 9999 w
      · split at he
        · rename_i hp
          simp at he; subst he
          obtain ⟨f, vs, hy⟩ := isFn_some (ev_of s rfl) hp
          refine p_cmp neg false t x y yt (ev_val s hx) hy (fun op => by cases op <;> simp [eqGuard]) ?_ rfl rfl
          exact eq_fn2 hu 9999 _ _ _ w
        · simp at he
    · split at he
      · rename_i hy
        split at he
        · rename_i hp
          simp at he; subst he
          obtain ⟨f, vs, hx⟩ := isFn_some (ev_of s rfl) hp
          refine p_cmp neg false t x y yt hx (ev_val s hy) (fun op => by cases op <;> simp [eqGuard]) ?_ rfl rfl
          exact eq_fn3 hu 9999 _ _ _ w
        · simp at he
      · simp at he
  · simp at h

theorem p_not (s : St φ F H w β env act T) (t : TypeId) (x : Operand) {v : AV} (h : rdOp (.not (cO x)) env H = some v) : Pure P φ F H w β act (.unOp .not t x) v := by
  simp only [rdOp] at h
  split at h
  · rename_i b hx
    simp at h; subst h
    intro dst type pos after guard
    exact ⟨.bool (!b), by simp [execOp, ev_val s hx, Op.unary], VRel.one (.val _ rfl)⟩
  · simp at h
theorem p_negi (s : St φ F H w β env act T) (t : TypeId) (x : Operand) {v : AV} (h : rdOp (.negi (cO x)) env H = some v) : Pure P φ F H w β act (.unOp .neg t x) v := by
  simp only [rdOp] at h
  split at h
  · rename_i k n hx
    simp only [Option.some.injEq] at h; subst h
    intro dst type pos after guard
    exact ⟨.int k (k.wrap (0 - n)), by simp [execOp, ev_val s hx, Op.unary, Op.intArith], VRel.one (.val _ rfl)⟩
  · simp at h
theorem p_xori (s : St φ F H w β env act T) (t : TypeId) (x : Operand) {v : AV} (h : rdOp (.xori (cO x)) env H = some v) : Pure P φ F H w β act (.unOp .xor t x) v := by
  simp only [rdOp] at h
  split at h
  · rename_i k n hx
    simp only [Option.some.injEq] at h; subst h
    intro dst type pos after guard
    exact ⟨_, by simp [execOp, ev_val s hx, Op.unary, Op.intBits], VRel.one (.val _ rfl)⟩
  · simp at h
theorem p_cvi (s : St φ F H w β env act T) (src dt : TypeId) (x : Operand) {k k' : IntKind} {v : AV} (hs : P.underlying src = some (.int k')) (hd : P.underlying dt = some (.int k)) (h : rdOp (.cvi k (cO x)) env H = some v) : Pure P φ F H w β act (.convert src dt x) v := by
  simp only [rdOp] at h
  split at h
  · rename_i q n hx
    simp only [Option.some.injEq] at h; subst h
    intro dst type pos after guard
    exact ⟨.int k (k.wrap n), by simp [execOp, ev_val s hx, convert, run_underlying hs, run_underlying hd, Conv.intToInt], VRel.one (.val _ rfl)⟩
  · simp at h
/-- A conversion between types of strings. -/
theorem p_cvs (s : St φ F H w β env act T) (src dt : TypeId) (x : Operand) {a : ByteArray} (hs : P.underlying src = some .string) (hd : P.underlying dt = some .string) (hx : ev env (cO x) = .val (.string a)) : Pure P φ F H w β act (.convert src dt x) (.val (.string a)) := by
  intro dst type pos after guard
  exact ⟨.string a, by simp [execOp, ev_val s hx, convert, run_underlying hs, run_underlying hd], VRel.one (.val _ rfl)⟩
end
end Go.Hm
