/- One instruction: all of them; calls. -/
import Derived.Test.YtikedgpcgacgoaaHmStep6
namespace Go.Hm
open Go Go.RowKit

/-- What a call yields. -/
def CallR (φ : Nat → Nat) (F : Nat → Nat → Prop) (H : Heap) (w : World) (r : AV) (H' : Heap) (v : Value) (w' : World) : Prop :=
  ∃ φ' F', VRel φ' F' H' w' r v ∧ SR φ' F' H' w' ∧ Ext φ F H w φ' F' H' w' ∧ Chg w w' (fun k => ∃ b, live H b ∧ φ b = k) ∧
    (∀ b, live H' b → (live H b ∧ φ b = φ' b) ∨ w.heap.size ≤ φ' b) ∧ (∀ k o, F' k o → F k o ∨ w.heap.size ≤ k)

def Enters (P : Program) (f : FuncId) : Prop := ∃ fn, P.funcs[f]? = some fn ∧ fn.name ≠ "runtime.NumGoroutine" ∧ fn.body.isSome = true

/-- Related rows of values. -/
def ARel (φ : Nat → Nat) (F : Nat → Nat → Prop) (H : Heap) (w : World) (as : List AV) (vs : List Value) : Prop :=
  vs.length = as.length ∧ ∀ (i : Nat) a v, as[i]? = some a → vs[i]? = some v → VRel φ F H w a v

/-- Contracts: what the oracle says, the program does. -/
def OrcOk (P : Program) (C : Orc) : Prop := ∀ lk lim f as H r H', C lk lim f as H = some (r, H') → Enters P (f % 1000) ∧
  ∀ φ F w vs, SR φ F H w → ARel φ F H w as vs → Calls P (f % 1000) vs.toArray w (fun e w' => ∃ v, e = .returned v ∧ CallR φ F H w r H' v w')

section
variable {P : Program} {φ0 : Nat → Nat} {F0 : Nat → Nat → Prop} {H0 : Heap} {w0 : World} {φ : Nat → Nat} {F : Nat → Nat → Prop} {H : Heap} {w : World} {β : Nat → Nat} {env : Env} {act : Act} {T : Nat}

theorem s_rd (f : Full φ0 F0 H0 w0 φ F H w β env act T) {dst : Option Nat} {op : Op} {aop : AOp} {v : AV} {env' : Env} (h : CompR P op aop) (hd : ∀ d, dst = some d → d < T) (hr : rdOp aop env H = some v) (hp : put dst v env = some env') :
    Sound P φ0 F0 H0 w0 T act w dst op H env' := by
  cases h with
  | mv x => simp only [rdOp, Option.some.injEq] at hr; subst hr; exact s_pure f hd hp (p_mv f.st x)
  | assign x => simp only [rdOp, Option.some.injEq] at hr; subst hr; exact s_pure f hd hp (p_assign f.st x)
  | pick c a b => exact s_pure f hd hp (p_pick f.st c a b hr)
  | allocR e z hz =>
    simp only [rdOp, Option.some.injEq] at hr; subst hr
    obtain ⟨zv, hof, hrun⟩ := run_allocI hz w
    intro type pos after guard next Q hk
    unfold Oper.wp
    have hrun' : (execOp act.eval { dst, op := .alloc e, type, pos, after, guard }).run P w = .ok (.value (.pointer (some ⟨w.heap.size, 0, none⟩))) (w.alloc (.cells zv.cells e)) := by
      simp only [execOp, Sem.run_bind, hrun]; rfl
    rw [hrun']
    cases dst with
    | none =>
      simp only [put, Option.some.injEq] at hp; subst hp
      exact hk _ _ (f_grow f (dst := none) (v := .und) (cv := undef) hd rfl ((Below.refl _ _).alloc (Nat.le_refl _) _) (fun _ _ h => h) (fun _ _ h => .inl h) rfl)
    | some d => exact hk _ _ (f_box f (hd d rfl) hp (of1s_rel hof))
  | boxR e n x =>
    simp only [rdOp] at hr
    split at hr
    case h_2 => simp at hr
    rename_i cs hcs
    split at hr
    case isFalse => simp at hr
    simp only [Option.some.injEq] at hr; subst hr
    obtain ⟨hcl, _⟩ := cellsV_rel (ev_rel f.st x) hcs
    intro type pos after guard next Q hk
    unfold Oper.wp
    have hrun' : (execOp act.eval { dst, op := .box e x, type, pos, after, guard }).run P w = .ok (.value (.pointer (some ⟨w.heap.size, 0, none⟩))) (w.alloc (.cells (act.eval x).cells e)) := by
      simp only [execOp, Sem.run_bind, run_boxI]; rfl
    rw [hrun']
    cases dst with
    | none =>
      simp only [put, Option.some.injEq] at hp; subst hp
      exact hk _ _ (f_grow f (dst := none) (v := .und) (cv := undef) hd rfl ((Below.refl _ _).alloc (Nat.le_refl _) _) (fun _ _ h => h) (fun _ _ h => .inl h) rfl)
    | some d => exact hk _ _ (f_box f (hd d rfl) hp hcl)
  | build1 t parts fs z l hu hz ha hl => exact s_pure f hd hp (p_build_struct f.st t parts hu hz ha hl hr)
  | build2 t parts n e k z l hu hz hk hl => exact s_pure f hd hp (p_build_array f.st t parts hu hz hk hl hr)
  | buildS t n parts e k z l hu hk hz hn hzl hk0 hl => exact s_buildS f hd hu hk hz hn hzl hl hr hp
  | ldA t a l n ha hn =>
    obtain ⟨d, hu, hrow⟩ := aggT_run ha
    exact s_pure f hd hp (p_ldA f.st t a hu hrow hn hr)
  | ld1 t a l ha hu =>
    obtain ⟨d, hu⟩ := Option.isSome_iff_exists.1 hu
    exact s_pure f hd hp (p_ld1 f.st t a hu (by rw [← aggT_eq hu]; exact ha) hr)
  | nilc x => exact s_pure f hd hp (p_nilc f.st x hr)
  | bini op t x y yt => exact s_pure f hd hp (p_bini f.st op t x y yt hr)
  | bins op t x y yt => exact s_pure f hd hp (p_bins f.st op t x y yt hr)
  | eqb neg t x y yt hu => exact s_pure f hd hp (p_eqb f.st neg t x y yt hu hr)
  | eqp neg t x y yt el hu => exact s_pure f hd hp (p_eqp f.st neg t x y yt hu hr)
  | eqf neg t x y yt a b c hu => exact s_pure f hd hp (p_eqf f.st neg t x y yt hu hr)
  | eqa neg t x y yt ks ha hk hg => exact s_pure f hd hp (p_eqa f.st neg t x y yt ha hk hg hr)
  | not t x => exact s_pure f hd hp (p_not f.st t x hr)
  | negi t x => exact s_pure f hd hp (p_negi f.st t x hr)
  | xori t x => exact s_pure f hd hp (p_xori f.st t x hr)
  | cvi s d x k k' hs hdd => exact s_pure f hd hp (p_cvi f.st s d x hs hdd hr)
  | cvs s d x hs hdd =>
    simp only [rdOp] at hr
    split at hr
    · rename_i str hx
      simp only [bnd, Option.some.injEq] at hr
      have hv : v = .val (.string str) := by
        rw [← hr]
        congr 2
        simp
      subst hv
      exact s_pure f hd hp (p_cvs f.st s d x hs hdd hx)
    · simp at hr
  | b2s s d x e hs he hdd => exact s_pure f hd hp (p_b2s f.st s d x hs he hdd hr)
  | s2b s d x e hs hdd he => exact s_s2b f hd hs hdd he hr hp
  | mkf g first caps h0 hf => exact s_pure f hd hp (p_mkf f.st g first caps hf h0 hr)
  | slS t x lo hi hu => exact s_pure f hd hp (p_slS f.st t x lo hi hu hr)
  | slC t x lo hi e k hu hk => exact s_pure f hd hp (p_slC f.st t x lo hi hu hk hr)
  | sl00 t x lo hi mx e k hu hk h0 => exact s_pure f hd hp (p_sl00 f.st t x lo hi mx hu hk h0 hr)
  | fldA s x g fs fd n hu hf hn h0 => exact s_pure f hd hp (p_fldA f.st s x g hu hf hn h0 hr)
  | fld t x g fs fd n hu hf hn hs =>
    obtain ⟨d, hs⟩ := Option.isSome_iff_exists.1 hs
    exact s_pure f hd hp (p_fld f.st t x g hu hf hn hs hr)
  | ixA t x i e k hu hk => exact s_pure f hd hp (p_ixA f.st t x i hu hk hr)
  | ixR t x i n e k hu hk => exact s_pure f hd hp (p_ixR f.st t x i hu hk hr)
  | ixS t x i hu => exact s_pure f hd hp (p_ixS f.st t x i hu hr)
  | ixG t x i n e k hu hk hs =>
    obtain ⟨d, hs⟩ := Option.isSome_iff_exists.1 hs
    exact s_pure f hd hp (p_ixG f.st t x i hu hk hs hr)
  | ext x i => exact s_pure f hd hp (p_ext f.st x i hr)
  | lenS c t x hc ht hx hu => obtain ⟨_, _, _⟩ := c; dsimp only at hc ht hx; subst hc; exact s_pure f hd hp (p_lenS f.st t x hu hx ht hr)
  | lenC c t x e hc ht hx hu => obtain ⟨_, _, _⟩ := c; dsimp only at hc ht hx; subst hc; exact s_pure f hd hp (p_lenC f.st t x hu hx ht hr)
  | lenK c t x n hc ht hx hu =>
    obtain ⟨_, _, _⟩ := c; dsimp only at hc ht hx; subst hc
    simp only [rdOp, Option.some.injEq] at hr; subst hr
    exact s_pure f hd hp (p_lenK t x n hu hx ht)
  | mm c mx hc => obtain ⟨_, _, _⟩ := c; dsimp only at hc hr; subst hc; exact s_pure f hd hp (p_mm f.st mx hr)
  | _ => simp [rdOp] at hr

theorem s_mk (f : Full φ0 F0 H0 w0 φ F H w β env act T) {op : Op} {aop : AOp} {v : AV} {cs : List AV} {b : Nat} (h : CompR P op aop) (hm : mkOp aop env b = some (v, cs)) :
    ∃ m : Sem Value, (∀ dst type pos after guard, execOp act.eval { dst, op, type, pos, after, guard } = (do pure (.value (← m)))) ∧ Makes P φ F H w β m b v cs := by
  cases h with
  | allocH e z hz =>
    simp only [mkOp, Option.some.injEq, Prod.mk.injEq] at hm
    obtain ⟨rfl, rfl⟩ := hm
    exact ⟨_, fun _ _ _ _ _ => rfl, m_alloc hz b⟩
  | boxH e n x =>
    simp only [mkOp] at hm
    split at hm
    case h_2 => simp at hm
    rename_i cs' hcs
    split at hm
    case isFalse => simp at hm
    rename_i hn
    simp only [Option.some.injEq, Prod.mk.injEq] at hm
    obtain ⟨rfl, rfl⟩ := hm
    exact ⟨_, fun _ _ _ _ _ => rfl, m_box f.st e x hcs hn b⟩
  | buildH t n parts e k z l hu hk hz hn hzl hk0 hl =>
    simp only [mkOp] at hm
    split at hm
    case h_2 => simp at hm
    rename_i cs' hcs
    split at hm
    case isFalse => simp at hm
    rename_i hlen
    simp only [Option.some.injEq, Prod.mk.injEq] at hm
    obtain ⟨rfl, rfl⟩ := hm
    exact ⟨_, fun _ _ _ _ _ => rfl, m_build f.st hu hk hz hn hzl hk0 hl hcs hlen b⟩
  | mks t l c e k by' z hlc hu hk hb hz hk0 hb0 =>
    simp only [mkOp] at hm
    split at hm
    case h_2 => simp at hm
    rename_i n hx
    split at hm
    case isFalse => simp at hm
    rename_i hc
    simp only [Option.some.injEq, Prod.mk.injEq] at hm
    obtain ⟨rfl, rfl⟩ := hm
    subst hlc
    have hv := ev_val f.st hx
    exact ⟨_, fun _ _ _ _ _ => rfl, m_mks hu hk hb hz hv hv hc.1 hc.2.1 hc.2.2 hk0 hb0 b⟩
  | _ => simp [mkOp] at hm

theorem s_ex (f : Full φ0 F0 H0 w0 φ F H w β env act T) {dst : Option Nat} {op : Op} {aop : AOp} {lk lim base : Nat} {env' : Env} {H' : Heap} (h : CompR P op aop) (hd : ∀ d, dst = some d → d < T) (he : exOp lk lim base dst aop env H = some (env', H')) :
    Sound P φ0 F0 H0 w0 T act w dst op H' env' := by
  cases h with
  | st t a x l n hn => exact s_st f hn he
  | app c t tx x y e k by' hc ht hx hu hk hs hb hk0 hb0 hz =>
    obtain ⟨z, hz, hzl⟩ := Option.map_eq_some_iff.1 hz
    exact s_app f hd hc ht hx hu hk hs hb hk0 hb0 (by rw [hz]; rfl) (fun z' hz' => by rw [hz] at hz'; cases hz'; exact hzl) he
  | _ => simp [exOp] at he

/-! ### Calls -/
theorem ORel.arg {a : AV} {v : Value} (h : ORel φ F H w β a v) (ha : argOk a = true) : VRel φ F H w a v := by
  cases a <;> first | exact h | simp [argOk, one] at ha

theorem run_callFunc {f : FuncId} (h : Enters P f) (args : Array Value) (w : World) : (callFunc f args).run P w = .ok (.enter f args) w := by
  obtain ⟨fn, h1, h2, h3⟩ := h
  simp only [callFunc, Sem.run_bind, run_program, Result.andThen_ok, h1]
  have hb : fn.body.isNone = false := by cases hb : fn.body <;> simp_all
  have hn : (fn.name == "runtime.NumGoroutine") = false := by simpa using h2
  simp only [hn, hb]
  rfl

theorem s_args (f : Full φ0 F0 H0 w0 φ F H w β env act T) {op : Op} {aop : AOp} {g : FuncId} {as : List AV} (h : CompR P op aop) (hc : clArgs aop env = some (g, as)) (ha : as.all argOk = true) (hE : Enters P (g % 1000)) :
    ∃ vs, ARel φ F H w as vs ∧ ∀ dst type pos after guard, (execOp act.eval { dst, op, type, pos, after, guard }).run P w = .ok (.enter (g % 1000) vs.toArray) w := by
  have row : ∀ (l : List Operand), (l.map fun x => ev env (cO x)).all argOk = true → ARel φ F H w (l.map fun x => ev env (cO x)) (l.map act.eval) := fun l hl =>
    ⟨by simp, fun i a v hi hv => by
      simp only [List.getElem?_map] at hi hv
      cases hx : l[i]? with
      | none => rw [hx] at hi; simp at hi
      | some x =>
        rw [hx] at hi hv
        simp at hi hv
        subst hi; subst hv
        refine (ev_rel f.st x).arg ?_
        rw [List.all_eq_true] at hl
        exact hl _ (List.mem_map.2 ⟨x, List.mem_of_getElem? hx, rfl⟩)⟩
  have mm : ∀ (l : List Operand), (l.map cO).map (ev env) = l.map fun x => ev env (cO x) := fun l => by simp [List.map_map, Function.comp_def]
  cases h with
  | call c f' g' hcc hg =>
    simp only [clArgs, Option.some.injEq, Prod.mk.injEq] at hc
    obtain ⟨rfl, rfl⟩ := hc
    rw [mm] at ha ⊢
    refine ⟨_, row _ ha, fun dst type pos after guard => ?_⟩
    subst hg
    have hr := run_callFunc hE (c.args.map act.eval) w
    have hm : (c.args.toList.map act.eval).toArray = c.args.map act.eval := by apply Array.ext'; simp
    rw [hm]
    simp only [execOp, resolve, hcc, Deferred.ofValue, Act.eval, Sem.run_bind, Sem.run_pure, Result.andThen_ok, invoke]
    simpa using hr
  | callv c x hcc =>
    simp only [clArgs] at hc
    split at hc
    case h_2 => simp at hc
    rename_i f' cap hx
    simp only [Option.some.injEq, Prod.mk.injEq] at hc
    obtain ⟨rfl, rfl⟩ := hc
    rw [mm] at ha ⊢
    rw [List.all_append, Bool.and_eq_true] at ha
    have hfn : VRel φ F H w (.fn f' cap) (act.eval x) := ev_of f.st hx
    generalize hfv : act.eval x = fv at hfn
    cases hfn with
    | one hfn =>
    cases hfn with
    | fn _ _ cvs hl hrel =>
    have hrow := row _ ha.1
    refine ⟨c.args.toList.map act.eval ++ cvs, ⟨by simp [hl], fun i a v hi hv => ?_⟩, fun dst type pos after guard => ?_⟩
    · rw [List.getElem?_append] at hi hv
      simp only [List.length_map] at hi hv
      split at hi
      · rename_i hlt
        rw [if_pos hlt] at hv
        exact hrow.2 i a v hi hv
      · rename_i hlt
        rw [if_neg hlt] at hv
        exact .one (hrel _ a v hi hv)
    · have hr := run_callFunc hE (c.args.map act.eval ++ cvs.toArray) w
      have hm : (c.args.toList.map act.eval ++ cvs).toArray = c.args.map act.eval ++ cvs.toArray := by apply Array.ext'; simp
      rw [hm]
      simp only [execOp, resolve, hcc, hfv, Deferred.ofValue, Sem.run_bind, Sem.run_pure, Result.andThen_ok, invoke]
      simpa using hr
  | _ => simp [clArgs] at hc

/-- A call's answer is put into the frame. -/
theorem f_call (f : Full φ0 F0 H0 w0 φ F H w β env act T) {dst : Option Nat} {r : AV} {H' : Heap} {v : Value} {w' : World} {env' : Env} (hd : ∀ d, dst = some d → d < T) (hp : put dst r env = some env') (h : CallR φ F H w r H' v w') :
    Post φ0 F0 H0 w0 H' env' T (act.put dst v) w' := by
  obtain ⟨φ', F', hv, sr, e, chg, hphi, hF⟩ := h
  have st' := f.st.mono e sr (fun t cs ht => ⟨chg.block _ (box_lt f.st ht) (fun ⟨b, hl, hb⟩ => f.st.bphi t cs b ht hl hb.symm), fun b hl => by
    rcases hphi b hl with ⟨hl0, he⟩ | h
    · rw [← he]; exact f.st.bphi t cs b ht hl0
    · have := box_lt f.st ht; omega, fun o ho => by
    rcases hF _ o ho with h | h
    · exact f.st.bF t cs o ht h
    · have := box_lt f.st ht; omega⟩)
  have hv' : ORel φ' F' H' w' β r v := ORel.of hv
  exact ⟨φ', F', β, f.next chg (fun k hk => .inl hk) (st'.put1 hd hp hv') e hphi (fun t cs ht => .inl ⟨cs, find_put hp hv'.notBox ht, rfl⟩) (by cases dst <;> rfl) hF⟩

/-- A call in the heap's lower part. -/
theorem callR_lift {base : Nat} {r : AV} {H1 : Heap} {v : Value} {w' : World} (sr0 : SR φ F H w) (hlen : H1.length = base ∨ H.length = base) (hpre : ∀ b, b < base → H1[b]? = H[b]?) (h : CallR φ F (H.take base) w r H1 v w') :
    CallR φ F H w r (H ++ H1.drop base) v w' := by
  by_cases hl : H.length = base
  · have h1 : H.take base = H := by rw [← hl, List.take_length]
    have h2 : H ++ H1.drop base = H1 := by
      have : H1.take base = H := by
        apply List.ext_getElem?
        intro j
        rw [List.getElem?_take]
        split
        · rename_i hj; exact hpre j hj
        · rw [List.getElem?_eq_none (by omega)]
      rw [← this, List.take_append_drop]
    rw [h1] at h
    rw [h2]
    exact h
  · have hl1 : H1.length = base := hlen.resolve_right hl
    have h1 : H1 = H.take base := by
      apply List.ext_getElem?
      intro j
      rw [List.getElem?_take]
      split
      · rename_i hj; exact hpre j hj
      · rw [List.getElem?_eq_none (by omega)]
    subst h1
    have h2 : H ++ (H.take base).drop base = H := by simp
    rw [h2]
    obtain ⟨φ', F', hv, sr, e, chg, hphi, hF⟩ := h
    have tk : ∀ (b : Nat) x, b < base → (H[b]? = some x ↔ (H.take base)[b]? = some x) := fun b x hb => by rw [List.getElem?_take, if_pos hb]
    have tk' : ∀ (b : Nat) x, (H.take base)[b]? = some x → b < base ∧ H[b]? = some x := fun b x hx => by
      rw [List.getElem?_take] at hx
      split at hx
      · exact ⟨‹_›, hx⟩
      · simp at hx
    obtain ⟨φ2, hφ1, hφ2⟩ : ∃ φ2 : Nat → Nat, (∀ b, b < base → φ2 b = φ' b) ∧ ∀ b, ¬ b < base → φ2 b = φ b :=
      ⟨fun b => if b < base then φ' b else φ b, fun b h => if_pos h, fun b h => if_neg h⟩
    have same : ∀ (b : Nat) cs, H[b]? = some (.cells cs) → φ2 b = φ b := fun b cs hc => by
      by_cases hlt : b < base
      · obtain ⟨cs', h3, _, h5⟩ := e.len b cs ((tk b _ hlt).1 hc)
        rw [(tk b _ hlt).1 hc] at h3
        cases h3
        rw [hφ1 b hlt, h5 rfl]
      · exact hφ2 b hlt
    have E1 : Ext φ' F' (H.take base) w' φ2 F' H w' := ⟨fun b cs hc => ⟨cs, (tk' b _ hc).2, Nat.le_refl _, fun _ => hφ1 b (tk' b _ hc).1⟩, fun k o hk => ⟨hk, rfl⟩, Wm.refl _⟩
    have E2 : Ext φ F H w φ2 F' H w' := ⟨fun b cs hc => ⟨cs, hc, Nat.le_refl _, fun _ => same b cs hc⟩, e.frz, e.wm⟩
    have lvt : ∀ b, b < base → live H b → live (H.take base) b := fun b hb ⟨cs, h1, h2⟩ => ⟨cs, (tk b _ hb).1 h1, h2⟩
    have lvo : ∀ b, live (H.take base) b → live H b := fun b ⟨cs, h1, h2⟩ => ⟨cs, (tk' b _ h1).2, h2⟩
    have sm : ∀ b, live H b → φ2 b = φ b := fun b ⟨cs, h1, _⟩ => same b cs h1
    refine ⟨φ2, F', hv.mono E1, ⟨fun b cs hc hne => ?_, fun b b' l1 l2 he => ?_, fun b o hlv hf => ?_, sr.fsz⟩, E2, ⟨chg.os, chg.tape, chg.output, chg.size, fun k hk hn => chg.block k hk (fun ⟨b, h1, h2⟩ => hn ⟨b, lvo b h1, h2⟩)⟩, fun b hlv => .inl ⟨hlv, (sm b hlv).symm⟩, hF⟩
    · by_cases hlt : b < base
      · obtain ⟨arr, ty, ha, hcc⟩ := sr.blk b cs ((tk b _ hlt).1 hc) hne
        refine ⟨arr, ty, by rw [hφ1 b hlt]; exact ha, fun i a hi => ?_⟩
        obtain ⟨u, hu, hr⟩ := hcc i a hi
        exact ⟨u, hu, hr.mono E1⟩
      · obtain ⟨arr, ty, ha, hcc⟩ := sr0.blk b cs hc hne
        refine ⟨arr, ty, ?_, fun i a hi => ?_⟩
        · rw [hφ2 b hlt, chg.block _ (live_lt sr0 ⟨cs, hc, hne⟩) (fun ⟨b', h1, h3⟩ => ?_)]
          · exact ha
          · have := sr0.inj b' b (lvo b' h1) ⟨cs, hc, hne⟩ h3
            obtain ⟨cs', h4, _⟩ := h1
            have := (tk' b' _ h4).1
            omega
        · obtain ⟨u, hu, hr⟩ := hcc i a hi
          exact ⟨u, hu, hr.mono E2⟩
    · rw [sm b l1, sm b' l2] at he
      exact sr0.inj b b' l1 l2 he
    · rw [sm b hlv] at hf
      rcases hF _ o hf with h | h
      · exact sr0.phiF b o hlv h
      · have := live_lt sr0 hlv; omega

/-- The operation calls. -/
theorem s_call {g : FuncId} {vs : List Value} {dst : Option Nat} {op : Op} {env' : Env} {H' : Heap} (hrun : ∀ dst type pos after guard, (execOp act.eval { dst, op, type, pos, after, guard }).run P w = .ok (.enter (g % 1000) vs.toArray) w)
    (hcall : Calls P (g % 1000) vs.toArray w (fun e w' => ∃ v, e = .returned v ∧ Post φ0 F0 H0 w0 H' env' T (act.put dst v) w')) : Sound P φ0 F0 H0 w0 T act w dst op H' env' := by
  intro type pos after guard next Q hk
  unfold Oper.wp
  rw [hrun]
  exact Calls.mono hcall (fun e w' ⟨v, he, hpost⟩ => by subst he; exact hk _ _ hpost)
end
end Go.Hm
