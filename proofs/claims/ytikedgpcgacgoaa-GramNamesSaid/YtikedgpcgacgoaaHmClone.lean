/- slices.Clone: a primitive of the machine. -/
import Derived.Test.YtikedgpcgacgoaaHmW
namespace Go.Hm
open Go Go.RowKit

/-- The text of slices.Clone, at a slice type and the type bool. -/
def cloneCode (T B : TypeId) : Code :=
  .seq (.region 0 #[⟨some 2, .assign (.const (.slice none 0 0)), T, "slices.go:355", #[], none⟩] false)
  (.seq (.seq (.region 1 #[⟨some 3, .move (.tmp 0), T, "slices.go:357", #[], none⟩, ⟨some 4, .binOp .eql T (.tmp 3) (.const (.slice none 0 0)) T, B, "slices.go:357", #[⟨0, .data⟩], none⟩] false)
      (.cond (.tmp 4) (.seq (.region 2 #[⟨some 2, .assign (.const (.slice none 0 0)), T, "slices.go:358", #[], none⟩] false) .ret) .skip))
    (.seq (.region 3 #[⟨some 5, .buildSlice T 0 #[], T, "slices.go:362", #[], none⟩, ⟨some 6, .move (.tmp 0), T, "slices.go:362", #[], none⟩,
        ⟨some 7, .call ⟨.builtin .append, #[.tmp 5, .tmp 6], #[T, T]⟩, T, "slices.go:362", #[⟨0, .data⟩, ⟨1, .data⟩], none⟩,
        ⟨some 2, .assign (.tmp 7), T, "slices.go:362", #[⟨2, .data⟩, ⟨2, .chain⟩, ⟨0, .phase⟩, ⟨1, .phase⟩, ⟨2, .phase⟩], none⟩] false) .ret))

/-- What it yields. -/
def cloneX (es by_ : Nat) (args : List AV) (H : Heap) : Option (AV × Heap) :=
  match args with
  | [v] => match slCells H v with
    | some cs => if cs.length = slN v * es then if slN v = 0 then some (.e0, H) else if slN v * by_ ≤ room then some (.hs H.length cs.length 0 (slN v) es, H ++ [.cells cs]) else none else none
    | none => none
  | _ => none

def isSl : AV → Bool
  | .e0 | .sl .. | .hs .. => true
  | _ => false

section
variable {P : Program} {φ : Nat → Nat} {F : Nat → Nat → Prop} {H : Heap} {w : World}

theorem isSl_of {v : AV} {cs : List AV} (h : slCells H v = some cs) : isSl v = true := by
  cases v <;> simp_all [slCells, isSl]

theorem slice_of_rel {v : AV} {cv : Value} (h : VRel φ F H w v cv) (hs : isSl v = true) : ∃ x cap, cv = .slice x (slN v) cap ∧ (x = none → slN v = 0) := by
  cases h with
  | one h =>
    cases h with
    | e0 x => exact ⟨x, 0, rfl, fun _ => rfl⟩
    | sl b o n cap => exact ⟨_, _, rfl, fun h => by cases h⟩
    | slnil x => exact ⟨x, 0, rfl, fun _ => rfl⟩
    | hs b g off n es cs x cap hb hg hn hx => exact ⟨x, cap, rfl, hx⟩
    | _ => simp [isSl] at hs
  | _ => simp [isSl] at hs

theorem eq_sl1 {t el : TypeId} (hu : P.underlying t = some (.slice el)) (d n c : Nat) (w : World) : (Op.equalIn (d + 1) t (.slice none n c) (.slice none 0 0)).run P w = .ok true w := by
  simp only [Op.equalIn, Sem.run_bind, run_underlying hu, Result.andThen_ok]
  rfl
theorem eq_sl2 {t el : TypeId} (hu : P.underlying t = some (.slice el)) (d n c : Nat) (a : Addr) (w : World) : (Op.equalIn (d + 1) t (.slice (some a) n c) (.slice none 0 0)).run P w = .ok false w := by
  simp only [Op.equalIn, Sem.run_bind, run_underlying hu, Result.andThen_ok]
  rfl

theorem p_eqn {β : Nat → Nat} {act : Act} {env : Env} {T : Nat} (s : St φ F H w β env act T) (t : TypeId) (x : Operand) (yt : TypeId) {el : TypeId} (hu : P.underlying t = some (.slice el)) (hx : isSl (ev env (cO x)) = true) :
    ∃ b : Bool, (b = true → slN (ev env (cO x)) = 0) ∧ Pure P φ F H w β act (.binOp .eql t x (.const (.slice none 0 0)) yt) (.val (.bool b)) := by
  have h1 := ev_rel s x
  have h2 : VRel φ F H w (ev env (cO x)) (act.eval x) := by
    generalize hv : ev env (cO x) = v at h1 hx
    cases v <;> first | exact h1 | simp [isSl] at hx
  obtain ⟨a, cap, hcv, hn⟩ := slice_of_rel h2 hx
  cases a with
  | none => exact ⟨true, fun _ => hn rfl, p_cmp false true t x (.const (.slice none 0 0)) yt hcv rfl (fun op => by cases op <;> simp [eqGuard]) (eq_sl1 hu 9999 _ _ w) rfl rfl⟩
  | some a => exact ⟨false, fun h => by simp at h, p_cmp false false t x (.const (.slice none 0 0)) yt hcv rfl (fun op => by cases op <;> simp [eqGuard]) (eq_sl2 hu 9999 _ _ a w) rfl rfl⟩

def noOrc : Orc := fun _ _ _ _ _ => none
theorem noOrc_ok : OrcOk P noOrc := fun _ _ _ _ _ _ _ h => by simp [noOrc] at h
theorem noOrc_fr : OrcFr noOrc := ⟨fun _ _ _ _ _ _ _ h => by simp [noOrc] at h, fun _ _ _ _ _ _ _ h => by simp [noOrc] at h, fun _ _ _ _ _ _ _ h => by simp [noOrc] at h⟩

def clonePm : Pm := { T := 8 }
def cloneTail (k by' : Nat) : AC :=
  .seq (.regN [0] [⟨some 5, none, .buildS 0 [] [], 0⟩, ⟨some 6, none, .mv (.tmp 0), 0⟩, ⟨some 7, none, .app k by' (.tmp 5) (.tmp 6), 0⟩, ⟨some 2, none, .mv (.tmp 7), 0⟩]) .ret

theorem comp_tail {T el k by' : Nat} {z : List AV} (hu : P.underlying T = some (.slice el)) (hk : szOf P el = some k) (hb : byOf P el = some by') (hz : zOf P el = some z) (hzl : z.length = k) (hk0 : 0 < k) (hb0 : 0 < by') :
    (compC P clonePm (.seq (.region 3 #[⟨some 5, .buildSlice T 0 #[], T, "slices.go:362", #[], none⟩, ⟨some 6, .move (.tmp 0), T, "slices.go:362", #[], none⟩,
        ⟨some 7, .call ⟨.builtin .append, #[.tmp 5, .tmp 6], #[T, T]⟩, T, "slices.go:362", #[⟨0, .data⟩, ⟨1, .data⟩], none⟩,
        ⟨some 2, .assign (.tmp 7), T, "slices.go:362", #[⟨2, .data⟩, ⟨2, .chain⟩, ⟨0, .phase⟩, ⟨1, .phase⟩, ⟨2, .phase⟩], none⟩] false) .ret) [[0]]).1 = cloneTail k by' := by
  simp [compC, compI, bigDst, grdOf, compOp, hu, hk, hb, hz, hzl, hk0, hb0, partsC, repl, cO, clonePm, cloneTail]

theorem put_sl {v : AV} (hs : isSl v = true) (d : Nat) (env : Env) : noRp d ((0, v) :: env) = noRp d env := by
  cases v <;> simp [isSl] at hs <;> rfl

theorem find_hd (v : AV) (t : Nat) (env : Env) : find ((t, v) :: env) t = v := by simp [find]

theorem exec_tail {k by' : Nat} {v : AV} {cs : List AV} {env : Env} (hv : find env 0 = v) (hcs : slCells H v = some cs) (hn : slN v ≠ 0) (hl : cs.length = slN v * k) (hr : slN v * by' ≤ room) :
    ∃ env', exec noOrc 1 0 0 (cloneTail k by') env H = some (.ret, env', H ++ [.cells cs]) ∧ find env' 2 = .hs H.length cs.length 0 (slN v) k := by
  have hs := isSl_of hcs
  have hsrc : srcCells H v = some (slN v, cs) := by
    cases v <;> simp_all [srcCells, isSl]
  cases v with
  | e0 => simp [slN] at hn
  | sl n c =>
    simp only [slCells, Option.some.injEq] at hcs
    subst hcs
    simp only [slN] at hn hl hr
    refine ⟨_, by simp [cloneTail, exec, runOps, stepI, guardI, actOp, cls, rdOp, exOp, fillP, put, noRp, find, ev, restrict, hv, srcCells, slCells, hl, hr, hn, slN]; rfl, ?_⟩
    simp [find, hl, slN]
  | hs b g o n es =>
    simp only [slN] at hn hl hr
    simp only [slN] at hsrc
    refine ⟨_, by simp [cloneTail, exec, runOps, stepI, guardI, actOp, cls, rdOp, exOp, fillP, put, noRp, find, ev, restrict, hv, hsrc, hl, hr, hn, slN]; rfl, ?_⟩
    simp [find, hl, slN]
  | _ => simp [isSl] at hs

theorem exec_tail0 {k by' : Nat} {v : AV} {cs : List AV} {env : Env} (hv : find env 0 = v) (hcs : slCells H v = some cs) (hn : slN v = 0) (hl : cs.length = slN v * k) :
    ∃ env', exec noOrc 1 0 0 (cloneTail k by') env H = some (.ret, env', H) ∧ find env' 2 = .e0 := by
  have hs := isSl_of hcs
  have hsrc : srcCells H v = some (slN v, cs) := by
    cases v <;> simp_all [srcCells, isSl]
  have hc : cs = [] := by rw [hn] at hl; simpa using hl
  subst hc
  cases v with
  | e0 =>
    refine ⟨_, by simp [cloneTail, exec, runOps, stepI, guardI, actOp, cls, rdOp, exOp, fillP, put, noRp, find, ev, restrict, hv, srcCells, slCells, slN]; rfl, ?_⟩
    simp [find]
  | sl n c =>
    simp only [slN] at hn
    subst hn
    refine ⟨_, by simp [cloneTail, exec, runOps, stepI, guardI, actOp, cls, rdOp, exOp, fillP, put, noRp, find, ev, restrict, hv, hsrc, slN]; rfl, ?_⟩
    simp [find]
  | hs b g o n es =>
    simp only [slN] at hn
    subst hn
    simp only [slN] at hsrc
    refine ⟨_, by simp [cloneTail, exec, runOps, stepI, guardI, actOp, cls, rdOp, exOp, fillP, put, noRp, find, ev, restrict, hv, hsrc, slN]; rfl, ?_⟩
    simp [find]
  | _ => simp [isSl] at hs

theorem wpOps_step {ops : Array Oper} {Q : Exit → Act → World → Prop} {k : Nat} {r : List Nat} {a : Act} {w : World} {o : Oper} (ho : ops[k]? = some o) (hg : o.guard = none) (h : o.wp P a w (wpOps P ops Q r) Q) : wpOps P ops Q (k :: r) a w := by
  rw [wpOps_cons]
  unfold wpOp
  rw [ho]
  have : Region.wanted o (yielded ops a.tmps) = true := by unfold Region.wanted; rw [hg]
  simp only [this, if_true]
  exact .inl h

/-- THE PRIMITIVE's CONTRACT. -/
theorem clone_ok (hm : P.follows .mixedOrders = true) {f : FuncId} {fn : Func} {T B el k by' : Nat} {z : List AV} (hfn : P.funcs[f]? = some fn) (hname : fn.name ≠ "runtime.NumGoroutine") (hbody : fn.body = some (cloneCode T B)) (hpar : fn.params.size + fn.nfree = 1)
    (hres : fn.results = #[.tmp 2]) (hnt : fn.ntmps = 8) (hu : P.underlying T = some (.slice el)) (hk : szOf P el = some k) (hb : byOf P el = some by') (hz : zOf P el = some z) (hzl : z.length = k) (hk0 : 0 < k) (hb0 : 0 < by')
    {args : List AV} {r : AV} {H' : Heap} (h : cloneX k by' args H = some (r, H')) : Enters P f ∧
    ∀ φ F w vs, SR φ F H w → ARel φ F H w args vs → Calls P f vs.toArray w (fun e w' => ∃ v, e = .returned v ∧ CallR φ F H w r H' v w') := by
  refine ⟨⟨fn, hfn, hname, by rw [hbody]; rfl⟩, fun φ F w vs sr ha => ?_⟩
  unfold cloneX at h
  split at h
  case h_2 => simp at h
  rename_i v
  split at h
  case h_2 => simp at h
  rename_i cs hcs
  split at h
  case isFalse => simp at h
  rename_i hl
  have hs := isSl_of hcs
  have f0 := full_enter (T := fn.ntmps) sr ha (by simp [hnt])
  refine calls_of_wp hfn hbody ?_
  generalize hQ : bodyPost (P := P) fn _ = Q
  have hfin : ∀ act' w' φ' F' β' env' H1, Full φ F H w φ' F' H1 w' β' env' act' fn.ntmps → find env' 2 = r → argOk r = true → H1 = H' → Q .ret act' w' := by
    intro act' w' φ' F' β' env' H1 f' hv hok he
    subst he
    have hro : resOf env' H1 (fn.results.toList.map (compR P)) = some r := by
      rw [hres]
      simp [compR, resOf, resList, resOne, hv, hok]
    obtain ⟨cv, hrun, hrel⟩ := results_run f'.st (by rw [hres]; rfl) hro
    subst hQ
    exact ⟨f'.dfr, cv, hrun, cv, rfl, φ', F', hrel, f'.st.sr, f'.ext, f'.chg, f'.phi, f'.frn⟩
  have ho := noOrc_ok (P := P)
  have hof := noOrc_fr
  have hT : clonePm.T = fn.ntmps := by rw [hnt]; rfl
  unfold cloneCode
  refine wp_seq (exec_sound hm ho hof hT (n := 1) (lk := 0) (lim := 0) _ [[0]] (ex := .nrm) (env' := [(2, .e0), (0, v)]) (H' := H) f0 ?_ (fun act1 w1 ⟨φ1, F1, β1, f1⟩ => ?_))
  · simp [compC, compI, bigDst, grdOf, compOp, cO, clonePm, exec, runOps, stepI, guardI, actOp, cls, rdOp, put, ev, restrict, enterFrom, find, ofVal, of1, put_sl hs, noRp]
  refine wp_seq (wp_seq (wp_region ?_))
  have f1s : Full φ F H w φ1 F1 H w1 β1 [(0, v)] act1 fn.ntmps := f1.sub (fun t => by
    simp only [find]
    by_cases h2 : 2 = t
    · subst h2; simp
    · rw [if_neg h2]; exact .inl rfl)
  have two : ∀ Q', (∀ b : Bool, (b = true → slN v = 0) → ∀ act' w', Post φ F H w H [(4, .val (.bool b)), (3, v), (0, v)] fn.ntmps act' w' → Q' .normal act' w') →
      wpOps P #[⟨some 3, .move (.tmp 0), T, "slices.go:357", #[], none⟩, ⟨some 4, .binOp .eql T (.tmp 3) (.const (.slice none 0 0)) T, B, "slices.go:357", #[⟨0, .data⟩], none⟩] Q' (List.range 2) act1 w1 := by
    intro Q' hq
    show wpOps P _ Q' [0, 1] act1 w1
    have e0 : ev [(0, v)] (cO (.tmp 0)) = v := by
      cases v <;> simp [isSl] at hs <;> rfl
    refine wpOps_step rfl rfl ?_
    refine s_pure f1s (dst := some 3) (v := v) (env' := [(3, v), (0, v)]) (fun d hd => by simp only [Option.some.injEq] at hd; subst hd; rw [hnt]; decide) ?_ ?_ _ _ _ _ _ _ ?_
    · simp [put, put_sl hs, noRp]
    · have := p_mv (P := P) f1s.st (.tmp 0)
      rw [e0] at this
      exact this
    intro act2 w2 ⟨φ2, F2, β2, f2⟩
    have e3 : ev [(3, v), (0, v)] (cO (.tmp 3)) = v := by
      cases v <;> simp [isSl] at hs <;> rfl
    obtain ⟨b, hb1, hb2⟩ := p_eqn f2.st T (.tmp 3) T hu (by rw [e3]; exact hs)
    rw [e3] at hb1
    refine wpOps_step rfl rfl ?_
    refine s_pure f2 (dst := some 4) (v := .val (.bool b)) (env' := [(4, .val (.bool b)), (3, v), (0, v)]) (fun d hd => by simp only [Option.some.injEq] at hd; subst hd; rw [hnt]; decide) ?_ hb2 _ _ _ _ _ _ ?_
    · have : noRp 4 [(3, v), (0, v)] = true := by cases v <;> simp [isSl] at hs <;> rfl
      simp [put, this]
    intro act3 w3 hp
    exact hq b hb1 act3 w3 hp
  refine two _ (fun b hb4 act2 w2 ⟨φ2, F2, β2, f2⟩ => ?_)
  show (Code.cond (.tmp 4) _ .skip).wp P _ act2 w2
  cases b with
  | true =>
    have hn := hb4 rfl
    rw [if_pos hn] at h
    simp only [Option.some.injEq, Prod.mk.injEq] at h
    obtain ⟨rfl, rfl⟩ := h
    refine exec_sound hm ho hof hT (n := 1) (lk := 0) (lim := 0) _ [[0]] (ex := .ret) (env' := [(2, .e0), (0, v)]) (H' := H) f2 ?_ (fun act3 w3 ⟨φ3, F3, β3, f3⟩ => ?_)
    · simp [compC, compI, bigDst, grdOf, compOp, cO, clonePm, exec, runOps, stepI, guardI, actOp, cls, rdOp, put, ev, restrict, find, ofVal, of1, put_sl hs, noRp]
    · exact hfin _ _ _ _ _ _ _ f3 (by simp [find]) rfl rfl
  | false =>
    refine exec_sound hm ho hof hT (n := 1) (lk := 0) (lim := 0) _ [[0]] (ex := .nrm) (env' := [(4, .val (.bool false)), (3, v), (0, v)]) (H' := H) f2 ?_ (fun act3 w3 ⟨φ3, F3, β3, f3⟩ => ?_)
    · simp [compC, cO, exec, ev, find]
    show (Code.seq _ _).wp P Q act3 w3
    by_cases hn : slN v = 0
    · rw [if_pos hn] at h
      simp only [Option.some.injEq, Prod.mk.injEq] at h
      obtain ⟨rfl, rfl⟩ := h
      obtain ⟨env4, h4, h5⟩ := exec_tail0 (k := k) (by' := by') (env := [(4, .val (.bool false)), (3, v), (0, v)]) (v := v) (by simp [find]) hcs hn hl
      refine exec_sound hm ho hof hT (n := 1) (lk := 0) (lim := 0) _ [[0]] (ex := .ret) (env' := env4) (H' := H) f3 (by rw [comp_tail hu hk hb hz hzl hk0 hb0]; exact h4) (fun act4 w4 ⟨φ4, F4, β4, f4⟩ => ?_)
      exact hfin _ _ _ _ _ _ _ f4 h5 rfl rfl
    · rw [if_neg hn] at h
      split at h
      case isFalse => simp at h
      rename_i hr
      simp only [Option.some.injEq, Prod.mk.injEq] at h
      obtain ⟨rfl, rfl⟩ := h
      obtain ⟨env4, h4, h5⟩ := exec_tail (k := k) (by' := by') (env := [(4, .val (.bool false)), (3, v), (0, v)]) (v := v) (by simp [find]) hcs hn hl hr
      refine exec_sound hm ho hof hT (n := 1) (lk := 0) (lim := 0) _ [[0]] (ex := .ret) (env' := env4) (H' := H ++ [.cells cs]) f3 (by rw [comp_tail hu hk hb hz hzl hk0 hb0]; exact h4) (fun act4 w4 ⟨φ4, F4, β4, f4⟩ => ?_)
      exact hfin _ _ _ _ _ _ _ f4 h5 rfl rfl

theorem cloneX_fr {k by' : Nat} {args : List AV} {r : AV} {H' : Heap} (h : cloneX k by' args H = some (r, H')) : H' = H ∨ ∃ cs, H' = H ++ [.cells cs] := by
  unfold cloneX at h
  split at h
  case h_2 => simp at h
  split at h
  case h_2 => simp at h
  rename_i cs _
  split at h
  case isFalse => simp at h
  split at h
  · simp only [Option.some.injEq, Prod.mk.injEq] at h
    exact .inl h.2.symm
  · split at h
    · simp only [Option.some.injEq, Prod.mk.injEq] at h
      exact .inr ⟨cs, h.2.symm⟩
    · simp at h

/-- A table of primitives. -/
def primX : List (Nat × Nat × Nat) → Orc
  | [], _, _, _, _, _ => none
  | (g, k, by') :: r, lk, lim, f, args, H => if f = g then cloneX k by' args H else primX r lk lim f args H

theorem primX_some : ∀ {l : List (Nat × Nat × Nat)} {lk lim : Nat} {f : FuncId} {args : List AV} {q : AV × Heap}, primX l lk lim f args H = some q → ∃ k by', (f, k, by') ∈ l ∧ cloneX k by' args H = some q
  | [], _, _, _, _, _, h => by simp [primX] at h
  | (g, k, by') :: r, lk, lim, f, args, q, h => by
    simp only [primX] at h
    split at h
    · rename_i e
      subst e
      exact ⟨k, by', List.mem_cons_self .., h⟩
    · obtain ⟨k', b', h1, h2⟩ := primX_some h
      exact ⟨k', b', List.mem_cons_of_mem _ h1, h2⟩

theorem primX_fr (l : List (Nat × Nat × Nat)) : OrcFr (primX l) := by
  refine ⟨fun lk lim f as H r H' h => ?_, fun lk lim f as H r H' h hlk b hb => ?_, fun lk lim f as H r H' h m h1 h2 hc => ?_⟩
  all_goals
    obtain ⟨k, by', _, hx⟩ := primX_some h
    rcases cloneX_fr hx with e | ⟨cs, e⟩
    all_goals subst e
  · exact Nat.le_refl _
  · simp
  · rfl
  · rw [List.getElem?_append_left (by omega)]
  · exact hc
  · exact hc.append h2

/-- What a primitive's function is. -/
def IsClone (P : Program) (p : Nat × Nat × Nat) : Prop :=
  p.1 < 1000 ∧ ∃ (fn : Func) (T B el : Nat) (z : List AV), P.funcs[p.1]? = some fn ∧ fn.name ≠ "runtime.NumGoroutine" ∧ fn.body = some (cloneCode T B) ∧ fn.params.size + fn.nfree = 1 ∧ fn.results = #[.tmp 2] ∧ fn.ntmps = 8 ∧
    P.underlying T = some (.slice el) ∧ szOf P el = some p.2.1 ∧ byOf P el = some p.2.2 ∧ zOf P el = some z ∧ z.length = p.2.1 ∧ 0 < p.2.1 ∧ 0 < p.2.2

theorem primX_ok (hm : P.follows .mixedOrders = true) {l : List (Nat × Nat × Nat)} (h : ∀ p ∈ l, IsClone P p) : OrcOk P (primX l) := by
  intro lk lim f as H r H' hx
  obtain ⟨k, by', hmem, hc⟩ := primX_some hx
  obtain ⟨hf, fn, T, B, el, z, h1, h2, h3, h4, h5, h6, h7, h8, h9, h10, h11, h12, h13⟩ := h _ hmem
  rw [Nat.mod_eq_of_lt hf]
  exact clone_ok hm h1 h2 h3 h4 h5 h6 h7 h8 h9 h10 h11 h12 h13 hc
end
end Go.Hm
