import Derived.Test.YtmehaecclidfjaaT
import Derived.Test.YtmehaecclidfjaaHmG7
import Derived.SizedLaws
set_option linter.unusedSimpArgs false
set_option linter.unusedVariables false
namespace Go.Proofs.Ytmehaecclidfjaa
open Go Go.Hm Go.RowKit Go.ChangeShapes Go.WideShapes Go.ChangeAt

section
variable {P : Program} {HH : Type} {enc : TypeId × Value → HH} {W : World}

/-- A slice's length, in its reading. -/
theorem sl_len {φ : Nat → Nat} {F : Nat → Nat → Prop} {H : Heap} {n : Nat} {cells : List AV} {v : Value} {t e : TypeId} {d : DataW HH} {ps : List MemPlace} (h : VRel φ F H W (.sl n cells) v) (ht : P.underlying t = some (.slice e))
    (h2 : DataW.Trod enc P W 0 (fun _ => true) true t v d ps) : n = 0 ∨ ∃ elems spare, d = .slice elems spare ∧ elems.length = n := by
  obtain ⟨fuel, h2⟩ := h2
  cases h with
  | one h =>
    cases h with
    | slnil x => exact .inl rfl
    | sl b o n cap cells vs hn hl hb hF hc hr =>
      rcases DataW.trod_slice ht h2 with ⟨h, _⟩ | ⟨a, len, cap', elems, rest, m, _, h, hx, _, _, _, hel, _⟩
      · simp [Value.cells] at h
      · simp only [Value.cells, List.cons.injEq, Value.slice.injEq, and_true] at h
        obtain ⟨_, rfl, _⟩ := h
        exact .inr ⟨_, _, congrArg Prod.fst hx, by simp [hel]⟩
theorem trodAll_at : ∀ (ts : List TypeId) (vs : List Value) (ds : List (DataW HH)) (ps : List MemPlace), DataW.TrodAll enc P W 0 (fun _ => true) true ts vs ds ps → ∀ (j : Nat) t v, ts[j]? = some t → vs[j]? = some v → ∃ d p, ds[j]? = some d ∧ DataW.Trod enc P W 0 (fun _ => true) true t v d p
  | [], _, _, _, _, j, t, v, ht, _ => by simp at ht
  | t :: ts, vs, ds, ps, h, j, t', v', ht, hv => by
    obtain ⟨v, vs1, d1, ds1, p, q, rfl, rfl, rfl, h1, h2⟩ := trodAll_cons h
    cases j with
    | zero =>
      simp only [List.getElem?_cons_zero, Option.some.injEq] at ht hv
      subst ht; subst hv
      exact ⟨d1, p, rfl, h1⟩
    | succ j =>
      simp only [List.getElem?_cons_succ] at ht hv
      exact trodAll_at ts vs1 ds1 q h2 j t' v' ht hv

/-- THE ROW'S STEP, with the reach. -/
theorem law_contract_sized {C : Orc} (hC : OrcOk P C) {f : FuncId} (hf : f < 1000) {fn : Func} {s : ChangeSpec} {d tb base : Nat} (hl : laidOutB P = true) (hrd : fn.params.toList.all (fun t => P.readableRec t && decide (t < P.types.size)) = true)
    (hres : fn.resultTypes = #[tb]) (htb : P.underlying tb = some .bool) (hvars : s.vars = []) (hpl : fn.params.toList.all (plainT P d) = true)
    (hs : ∀ ds : List (DataW HH), ds.length = fn.params.toList.length → s.fn HH ds = { results := [.lit (.bool true)], args := ds })
    (hlaw : ∀ avs, ArgsC P d fn.params.toList avs → (∀ (j : Nat) t e n cells, fn.params.toList[j]? = some t → P.underlying t = some (.slice e) → avs[j]? = some (.sl n cells) → n * P.bytesOf e ≤ reachBytes) → ∃ lk lim H', C lk lim f avs [] = some (.val (.bool true), H'))
    {args : Array Value} {ds gs : List (DataW HH)} {before : List MemPlace} {ts' : List TypeId}
    (hval : ∀ (j : Nat) t v, fn.params[j]? = some t → args[j]? = some v → Value.okWide P W .any base t v)
    (hW : DataW.Whole enc P fn.params.toList s.vars false W args.toList ds gs before)
    (hz : (DataW.weightsEach P (fn.params.toList ++ ts') (ds ++ gs)).all (· ≤ reachBytes) = true) :
    Calls P f args W fun e W' => ∃ v, e = .returned v ∧ s.post enc P fn false true false false W args v W' := by
  have hW' := hW
  obtain ⟨p, q, hA, hV, rfl, hfz, hnd⟩ := hW
  rw [hvars] at hV
  obtain ⟨rfl, rfl⟩ := trodVars_none hV
  obtain ⟨avs, ha1, ha2⟩ := args_of_trod (φ := id) (d := d) _ _ _ _ hpl (fun j t v ht hv => hval j t v (by simpa using ht) (by simpa using hv)) hA
  have hlen : ∀ (ts : List TypeId) (vs : List Value) (ds : List (DataW HH)) (ps : List MemPlace), DataW.TrodAll enc P W 0 (fun _ => true) true ts vs ds ps → ds.length = ts.length := by
    intro ts
    induction ts with
    | nil => intro vs ds ps h; obtain ⟨_, rfl, _⟩ := trodAll_nil h; rfl
    | cons t ts ih =>
      intro vs ds ps h
      obtain ⟨v, vs1, d1, ds1, p, q, rfl, rfl, rfl, h1, h2⟩ := trodAll_cons h
      simp [ih _ _ _ h2]
  have hlds := hlen _ _ _ _ hA
  obtain ⟨lk, lim, H', h⟩ := hlaw avs ha2 (fun j t e n cells ht hu haj => by
    have hjl := (List.getElem?_eq_some_iff.1 haj).1
    have hvl := ha1.1
    obtain ⟨v, hv⟩ : ∃ v, args.toList[j]? = some v := ⟨_, List.getElem?_eq_getElem (by omega)⟩
    obtain ⟨dd, pp, hd, htr⟩ := trodAll_at _ _ _ _ hA j t v ht hv
    rcases sl_len (ha1.2 j _ _ haj hv) hu htr with rfl | ⟨elems, spare, rfl, he⟩
    · simp
    · have hjt := (List.getElem?_eq_some_iff.1 ht).1
      have hjd := (List.getElem?_eq_some_iff.1 hd).1
      have := sized_slice hz (j := j) (t := t) (e := e) (elems := elems) (spare := spare) (by rw [List.getElem?_append_left hjt]; exact ht) (by rw [List.getElem?_append_left hjd]; exact hd) hu
      rw [← he]
      exact Nat.le_trans (Nat.mul_le_mul_right _ (Nat.le_add_right _ _)) this)
  have hfn := hs ds hlds
  refine (law_calls hC hf ha1 h).mono fun e W' ⟨he, hb⟩ => ⟨_, he, post_of_below (pa := p) (pv := []) hW' ?_ ?_ ?_ rfl hb ?_⟩
  · intro b sp hd
    rw [List.append_nil, hfn, hres]
    exact trodAll_cons_mk (shut_bool htb _) trodAll_mk0
  · intro sp hsp
    rw [List.append_nil, hfn]
    simp only [List.all_eq_true, Bool.and_eq_true, decide_eq_true_eq] at hrd
    exact args_stay hl hb _ _ _ _ hrd (fun x hx => hW'.lt x (by simp [hx])) (fun x hx => hsp x (by simp [hx])) hA
  · intro sp hsp
    rw [List.append_nil, hfn, hvars]
    exact rfl
  · exact ok_one hres rfl (okWide_bool_mk htb _)
end
end Go.Proofs.Ytmehaecclidfjaa
