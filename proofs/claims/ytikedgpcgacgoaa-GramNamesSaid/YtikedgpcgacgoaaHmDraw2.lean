/- A region in a drawn order: what effects depend on. -/
import Derived.Test.YtikedgpcgacgoaaHmDraw1
namespace Go.Hm
open Go

section
variable {C : Orc} {lk lim base cb : Nat} {env env' : Env} {H H' : Heap}

def fin (base : Nat) (env : Env) (H : Heap) : Option (Ed × Hd) → Option (Env × Heap)
  | some (e, d) => match e.run env with
    | some env' => match d.run base H with
      | some H' => some (env', H')
      | none => none
    | none => none
  | none => none

theorem stepD_eq {i : AI} : stepD C lk lim base cb i env H = fin base env H (eff C lk lim base cb i env H) := by
  unfold stepD eff
  cases hg : guardI i env with
  | none => simp [fin]
  | some b =>
    cases b with
    | false =>
      dsimp only
      cases hp : put i.dst .und env <;> simp [fin, Ed.run, Hd.run, hp]
    | true =>
      dsimp only
      unfold actD effA
      cases hc : cls i.op with
      | actL t =>
        dsimp only
        rw [exOp_eq]
        cases hx : exE lk lim cb i.dst i.op env H with
        | none => simp [edRun, fin]
        | some p =>
          obtain ⟨e, H2⟩ := p
          obtain ⟨rfl, _⟩ := exE_actL hc hx
          cases he : e.run env <;> simp [edRun, fin, Hd.run, he]
      | actH =>
        dsimp only
        rw [exOp_eq]
        cases hx : exE lk lim cb i.dst i.op env H with
        | none => simp [edRun, fin]
        | some p =>
          obtain ⟨e, H2⟩ := p
          cases he : e.run env <;> simp [edRun, fin, Hd.run, he]
      | make =>
        dsimp only
        cases hm : mkOp i.op env (base + i.at_) with
        | none => simp [fin]
        | some p =>
          obtain ⟨v, cs⟩ := p
          dsimp only
          cases hk : H[base + i.at_]? with
          | none => cases hp : put i.dst v env <;> simp [fin, Ed.run, Hd.run, hk, hp]
          | some x =>
            cases x with
            | hole => cases hp : put i.dst v env <;> simp [fin, Ed.run, Hd.run, hk, hp]
            | cells c => cases hp : put i.dst v env <;> simp [fin, Ed.run, Hd.run, hk, hp]
            | map m => cases hp : put i.dst v env <;> simp [fin, Ed.run, Hd.run, hk, hp]
      | call =>
        dsimp only
        cases ha : clArgs i.op env with
        | none => simp [fin]
        | some p =>
          obtain ⟨g, as⟩ := p
          dsimp only
          by_cases hok : as.all argOk = true ∧ belowL base as = true
          · rw [if_pos hok, if_pos hok]
            cases hcc : C base lim g as (H.take base) with
            | none => simp [fin]
            | some q =>
              obtain ⟨v, H2⟩ := q
              dsimp only
              by_cases hr : isRp v = false
              · by_cases hl : H2.length ≤ base
                · have : H2.drop base = [] := List.drop_eq_nil_of_le hl
                  cases hp : put i.dst v env <;> simp [fin, Ed.run, Hd.run, hl, hr, hp, this]
                · by_cases hl2 : H.length = base
                  · cases hp : put i.dst v env <;> simp [fin, Ed.run, Hd.run, hl, hl2, hr, hp]
                  · cases hp : put i.dst v env <;> simp [fin, Ed.run, Hd.run, hl, hl2, hr, hp]
              · simp [fin, hr]
          · rw [if_neg hok, if_neg hok]; rfl
      | env =>
        dsimp only
        cases hr : rdOp i.op env (H.take base) with
        | none => simp [fin]
        | some v =>
          dsimp only
          by_cases hk : isRp v = false ∨ rpOp i.op = true
          · rw [if_pos hk, if_pos hk]
            cases hp : put i.dst v env <;> simp [fin, Ed.run, Hd.run, hp]
          · simp [fin, hk]
      | memL t =>
        dsimp only
        cases hr : rdOp i.op env (H.take base) with
        | none => simp [fin]
        | some v =>
          dsimp only
          by_cases hk : isRp v = false ∨ rpOp i.op = true
          · rw [if_pos hk, if_pos hk]
            cases hp : put i.dst v env <;> simp [fin, Ed.run, Hd.run, hp]
          · simp [fin, hk]
      | memH =>
        dsimp only
        cases hr : rdOp i.op env (H.take base) with
        | none => simp [fin]
        | some v =>
          dsimp only
          by_cases hk : isRp v = false ∨ rpOp i.op = true
          · rw [if_pos hk, if_pos hk]
            cases hp : put i.dst v env <;> simp [fin, Ed.run, Hd.run, hp]
          · simp [fin, hk]

theorem stepD_iff {i : AI} : stepD C lk lim base cb i env H = some (env', H') ↔ Steps1 C lk lim base cb i env H env' H' := by
  rw [stepD_eq]
  unfold Steps1
  cases eff C lk lim base cb i env H with
  | none => simp [fin]
  | some p =>
    obtain ⟨e, d⟩ := p
    simp only [fin]
    constructor
    · intro h
      refine ⟨e, d, rfl, ?_⟩
      split at h
      case h_2 => simp at h
      rename_i e1 he
      split at h
      case h_2 => simp at h
      rename_i h1 hd
      simp only [Option.some.injEq, Prod.mk.injEq] at h
      obtain ⟨rfl, rfl⟩ := h
      exact ⟨he, hd⟩
    · rintro ⟨e', d', h, h1, h2⟩
      simp only [Option.some.injEq, Prod.mk.injEq] at h
      obtain ⟨rfl, rfl⟩ := h
      rw [h1, h2]

/-! ### The frame -/
/-- An instruction sees the same in both frames. -/
structure Agree (i : AI) (env env' : Env) : Prop where
  ev : ∀ x ∈ opnds i.op, Hm.ev env x = Hm.ev env' x
  loc : ∀ t, locOf i.op = some t → find env t = find env' t
  grd : guardI i env = guardI i env'

theorem fillP_congr : ∀ {l : List (Nat × Nat × AO)} {z : List AV}, (∀ p ∈ l, ev env p.2.2 = ev env' p.2.2) → fillP env l z = fillP env' l z
  | [], z, _ => rfl
  | (off, n, x) :: r, z, h => by
    have h1 := h (off, n, x) (by simp)
    dsimp only at h1
    simp only [fillP, h1]
    split
    · split
      · exact fillP_congr (fun p hp => h p (List.mem_cons_of_mem _ hp))
      · rfl
    · rfl
theorem bnd_congr {x : Option AO} {d y : Nat} (h : ∀ a ∈ x.toList, ev env a = ev env' a) : bnd env x d y = bnd env' x d y := by
  cases x with
  | none => rfl
  | some a => simp only [bnd, h a (by simp)]
theorem map_ev_congr {l : List AO} (h : ∀ x ∈ l, ev env x = ev env' x) : l.map (ev env) = l.map (ev env') := List.map_congr_left h
theorem ptr_congr {l : Option Nat} {a : AV} (h : ∀ t, l = some t → find env t = find env' t) : ptrCells l env H a = ptrCells l env' H a := by
  cases l with
  | none => rfl
  | some t =>
    have := h t rfl
    simp only [ptrCells, this]

theorem rdOp_congr {op : AOp} (h : ∀ x ∈ opnds op, ev env x = ev env' x) (hl : ∀ t, locOf op = some t → find env t = find env' t) : rdOp op env H = rdOp op env' H := by
  cases op
  case build z l => simp only [rdOp, fillP_congr (fun p hp => h p.2.2 (List.mem_map.2 ⟨p, hp, rfl⟩))]
  case buildS n z l => simp only [rdOp, fillP_congr (fun p hp => h p.2.2 (List.mem_map.2 ⟨p, hp, rfl⟩))]
  case ld1 l a => simp only [rdOp, h a (by simp [opnds]), ptr_congr (l := l) (fun t ht => hl t (by simpa [locOf] using ht))]
  case ldA l n a => simp only [rdOp, h a (by simp [opnds]), ptr_congr (l := l) (fun t ht => hl t (by simpa [locOf] using ht))]
  case mkf f l => simp only [rdOp, map_ev_congr (l := l) h]
  case slS x lo hi =>
    have hx := h x (by simp [opnds])
    have h1 : ∀ d y, bnd env lo d y = bnd env' lo d y := fun d y => bnd_congr (fun a ha => h a (by simp [opnds]; exact .inr (.inl (by simpa using ha))))
    have h2 : ∀ d y, bnd env hi d y = bnd env' hi d y := fun d y => bnd_congr (fun a ha => h a (by simp [opnds]; exact .inr (.inr (by simpa using ha))))
    simp only [rdOp, hx, h1, h2]
  case slC es x lo hi =>
    have hx := h x (by simp [opnds])
    have h1 : ∀ d y, bnd env lo d y = bnd env' lo d y := fun d y => bnd_congr (fun a ha => h a (by simp [opnds]; exact .inr (.inl (by simpa using ha))))
    have h2 : ∀ d y, bnd env hi d y = bnd env' hi d y := fun d y => bnd_congr (fun a ha => h a (by simp [opnds]; exact .inr (.inr (by simpa using ha))))
    simp only [rdOp, hx, h1, h2]
  case mm mx l =>
    cases l with
    | nil => rfl
    | cons x r =>
      have h1 := h x (by simp [opnds])
      have h2 : r.map (ev env) = r.map (ev env') := map_ev_congr (fun y hy => h y (by simp [opnds, hy]))
      simp only [rdOp, h1, h2]
  case pick c a b => simp only [rdOp, h c (by simp [opnds]), h a (by simp [opnds]), h b (by simp [opnds])]
  case len b x => cases b <;> simp only [rdOp, h x (by simp [opnds])]
  case bini op x y => simp only [rdOp, h x (by simp [opnds]), h y (by simp [opnds])]
  case bins op x y => simp only [rdOp, h x (by simp [opnds]), h y (by simp [opnds])]
  case eqb op x y => simp only [rdOp, h x (by simp [opnds]), h y (by simp [opnds])]
  case eqp op x y => simp only [rdOp, h x (by simp [opnds]), h y (by simp [opnds])]
  case eqf op x y => simp only [rdOp, h x (by simp [opnds]), h y (by simp [opnds])]
  case eqa op ks x y => simp only [rdOp, h x (by simp [opnds]), h y (by simp [opnds])]
  case ixA k x y => simp only [rdOp, h x (by simp [opnds]), h y (by simp [opnds])]
  case ixR k n x y => simp only [rdOp, h x (by simp [opnds]), h y (by simp [opnds])]
  case ixS x y => simp only [rdOp, h x (by simp [opnds]), h y (by simp [opnds])]
  case ixG k n b x y => simp only [rdOp, h x (by simp [opnds]), h y (by simp [opnds])]
  case mv x => simp only [rdOp, h x (by simp [opnds])]
  case boxR n x => simp only [rdOp, h x (by simp [opnds])]
  case nilc x => simp only [rdOp, h x (by simp [opnds])]
  case not x => simp only [rdOp, h x (by simp [opnds])]
  case negi x => simp only [rdOp, h x (by simp [opnds])]
  case xori x => simp only [rdOp, h x (by simp [opnds])]
  case cvi k x => simp only [rdOp, h x (by simp [opnds])]
  case b2s x => simp only [rdOp, h x (by simp [opnds])]
  case s2b x => simp only [rdOp, h x (by simp [opnds])]
  case sl00 x => simp only [rdOp, h x (by simp [opnds])]
  case fldA o x => simp only [rdOp, h x (by simp [opnds])]
  case fld o n b x => simp only [rdOp, h x (by simp [opnds])]
  case ext x n => simp only [rdOp, h x (by simp [opnds])]
  all_goals rfl

theorem mkOp_congr {op : AOp} {b : Nat} (h : ∀ x ∈ opnds op, ev env x = ev env' x) : mkOp op env b = mkOp op env' b := by
  cases op
  case buildH n es z l => simp only [mkOp, fillP_congr (fun p hp => h p.2.2 (List.mem_map.2 ⟨p, hp, rfl⟩))]
  case boxH n x => simp only [mkOp, h x (by simp [opnds])]
  case mks es bytes z x => simp only [mkOp, h x (by simp [opnds])]
  all_goals rfl
theorem clArgs_congr {op : AOp} (h : ∀ x ∈ opnds op, ev env x = ev env' x) : clArgs op env = clArgs op env' := by
  cases op
  case call f l => simp only [clArgs, map_ev_congr (l := l) h]
  case callv x l =>
    have h1 := h x (by simp [opnds])
    have h2 : l.map (ev env) = l.map (ev env') := map_ev_congr (fun y hy => h y (by simp [opnds, hy]))
    simp only [clArgs, h1, h2]
  all_goals rfl
theorem exE_congr {dst : Option Nat} {op : AOp} (h : ∀ x ∈ opnds op, ev env x = ev env' x) (hl : ∀ t, locOf op = some t → find env t = find env' t) : exE lk lim cb dst op env H = exE lk lim cb dst op env' H := by
  cases op
  case st l n a x =>
    cases l with
    | none =>
      simp only [exE, h x (by simp [opnds]), h a (by simp [opnds])]
      generalize cellsV (ev env' x) = c
      cases c with
      | none => rfl
      | some new =>
        dsimp only
        split
        · generalize ev env' a = va
          cases va <;> rfl
        · rfl
    | some t =>
      have := hl t rfl
      simp only [exE, h x (by simp [opnds]), h a (by simp [opnds])]
      split
      · split
        · split
          · rename_i heq _
            cases heq
            rw [this]
          · rfl
          · rfl
        · rfl
      · rfl
  case app es bytes x y => simp only [exE, h x (by simp [opnds]), h y (by simp [opnds])]
  all_goals rfl

theorem eff_congr {i : AI} (h : Agree i env env') : eff C lk lim base cb i env H = eff C lk lim base cb i env' H := by
  unfold eff effA
  rw [h.grd, rdOp_congr h.ev h.loc, mkOp_congr h.ev, clArgs_congr h.ev, exE_congr h.ev h.loc]
end
end Go.Hm
