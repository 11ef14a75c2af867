/- A region in a drawn order: effects of instructions, what they depend on. -/
import Derived.Test.YtikedgpcgacgoaaHmStep8
namespace Go.Hm
open Go

/-- What an instruction does to the frame, to the heap. -/
inductive Ed where
  | put (dst : Option Nat) (v : AV)
  | box (t : Nat) (cs : List AV)
inductive Hd where
  | same
  | fill (k : Nat) (cs : List AV)
  | app (X : Heap)
  | to (H : Heap)

def Ed.run : Ed → Env → Option Env
  | .put dst v, env => Hm.put dst v env
  | .box t cs, env => some (setAt env t (.box cs))
def Hd.run (base : Nat) : Hd → Heap → Option Heap
  | .same, H => some H
  | .fill k cs, H => match H[k]? with
    | some .hole => some (H.set k (.cells cs))
    | _ => none
  | .app X, H => if H.length = base then some (H ++ X) else none
  | .to H', _ => some H'

def exE (lk lim base : Nat) (dst : Option Nat) (op : AOp) (env : Env) (H : Heap) : Option (Ed × Heap) :=
  match op with
  | .st l n a x =>
    match cellsV (ev env x) with
    | some new => if new.length = n then
        match l, ev env a with
        | some t, .rp t' off => if t' = t then match find env t with
            | .box cs => if off + n ≤ cs.length ∧ dst = none then some (.box t (replaceAt cs off new), H) else none
            | _ => none
          else none
        | none, .hp b g off => match H[b]? with
          | some (.cells cs) => if cs.length = g ∧ off + n ≤ g ∧ 0 < n ∧ dst = none then
              match setH lk lim base H b (replaceAt cs off new) new with
              | some H' => some (.put dst .und, H')
              | none => none
            else none
          | _ => none
        | _, _ => none
      else none
    | none => none
  | .app es bytes x y => match srcCells H (ev env y) with
    | some (m, new) => if new.length = m * es then
        match ev env x with
        | .e0 =>
          if m = 0 then some (.put dst .e0, H)
          else if m * bytes ≤ room then some (.put dst (.hs H.length (m * es) 0 m es), H ++ [.cells new])
          else none
        | .hs b g off n es' => match H[b]? with
          | some (.cells cs) =>
            if off = 0 ∧ cs.length = g ∧ n * es = g ∧ es' = es ∧ (n + m) * bytes ≤ room then
              match setH lk lim base H b (cs ++ new) new with
              | some H' => some (.put dst (.hs b (g + m * es) 0 (n + m) es), H')
              | none => none
            else none
          | _ => none
        | _ => none
      else none
    | none => none
  | _ => none

def effA (C : Orc) (lk lim base cb : Nat) (dst : Option Nat) (op : AOp) (k : Nat) (env : Env) (H : Heap) : Option (Ed × Hd) :=
  match cls op with
  | .actL _ => match exE lk lim cb dst op env H with
    | some (e, _) => some (e, .same)
    | none => none
  | .actH => match exE lk lim cb dst op env H with
    | some (e, H') => some (e, .to H')
    | none => none
  | .make => match mkOp op env (base + k) with
    | some (v, cs) => some (.put dst v, .fill (base + k) cs)
    | none => none
  | .call => match clArgs op env with
    | some (g, as) => if as.all argOk = true ∧ belowL base as = true then
        match C base lim g as (H.take base) with
        | some (v, H') => if isRp v = false then some (.put dst v, if H'.length ≤ base then .same else .app (H'.drop base)) else none
        | none => none
      else none
    | none => none
  | _ => match rdOp op env (H.take base) with
    | some v => if isRp v = false ∨ rpOp op = true then some (.put dst v, .same) else none
    | none => none

def eff (C : Orc) (lk lim base cb : Nat) (i : AI) (env : Env) (H : Heap) : Option (Ed × Hd) :=
  match guardI i env with
  | some true => effA C lk lim base cb i.dst i.op i.at_ env H
  | some false => some (.put i.dst .und, .same)
  | none => none

/-- One step by its effects. -/
def Steps1 (C : Orc) (lk lim base cb : Nat) (i : AI) (env : Env) (H : Heap) (env' : Env) (H' : Heap) : Prop :=
  ∃ e d, eff C lk lim base cb i env H = some (e, d) ∧ e.run env = some env' ∧ d.run base H = some H'

/-- The frame's edit, the heap. -/
def edRun (env : Env) : Option (Ed × Heap) → Option (Env × Heap)
  | some (e, H') => match e.run env with
    | some env' => some (env', H')
    | none => none
  | none => none

theorem exOp_st {lk lim cb : Nat} {dst : Option Nat} {l : Option Nat} {n : Nat} {a x : AO} {env : Env} {H : Heap} : exOp lk lim cb dst (.st l n a x) env H = edRun env (exE lk lim cb dst (.st l n a x) env H) := by
  simp only [exOp, exE]
  generalize cellsV (ev env x) = c
  cases c with
  | none => rfl
  | some new =>
    dsimp only
    by_cases hn : new.length = n
    · rw [if_pos hn, if_pos hn]
      generalize ev env a = va
      cases l with
      | some t =>
        cases va <;> try rfl
        rename_i t' off
        dsimp only
        by_cases ht : t' = t
        · rw [if_pos ht, if_pos ht]
          generalize find env t = fv
          cases fv <;> try rfl
          rename_i cs
          dsimp only
          by_cases hc : off + n ≤ cs.length ∧ dst = none
          · rw [if_pos hc, if_pos hc]; rfl
          · rw [if_neg hc, if_neg hc]; rfl
        · rw [if_neg ht, if_neg ht]; rfl
      | none =>
        cases va <;> try rfl
        rename_i b g off
        dsimp only
        generalize H[b]? = hb
        cases hb with
        | none => rfl
        | some hb =>
          cases hb <;> try rfl
          rename_i cs
          dsimp only
          by_cases hc : cs.length = g ∧ off + n ≤ g ∧ 0 < n ∧ dst = none
          · rw [if_pos hc, if_pos hc]
            obtain ⟨_, _, _, hd⟩ := hc
            subst hd
            generalize setH lk lim cb H b (replaceAt cs off new) new = s
            cases s <;> rfl
          · rw [if_neg hc, if_neg hc]; rfl
    · rw [if_neg hn, if_neg hn]; rfl

theorem exOp_app {lk lim cb : Nat} {dst : Option Nat} {es bytes : Nat} {x y : AO} {env : Env} {H : Heap} : exOp lk lim cb dst (.app es bytes x y) env H = edRun env (exE lk lim cb dst (.app es bytes x y) env H) := by
  simp only [exOp, exE]
  generalize srcCells H (ev env y) = c
  cases c with
  | none => rfl
  | some mn =>
    obtain ⟨m, new⟩ := mn
    dsimp only
    by_cases hn : new.length = m * es
    · rw [if_pos hn, if_pos hn]
      generalize ev env x = va
      cases va <;> try rfl
      · dsimp only
        by_cases hm : m = 0
        · rw [if_pos hm, if_pos hm]; rfl
        · rw [if_neg hm, if_neg hm]
          by_cases hr : m * bytes ≤ room
          · rw [if_pos hr, if_pos hr]; rfl
          · rw [if_neg hr, if_neg hr]; rfl
      · rename_i b g off n es'
        dsimp only
        generalize H[b]? = hb
        cases hb with
        | none => rfl
        | some hb =>
          cases hb <;> try rfl
          rename_i cs
          dsimp only
          by_cases hc : off = 0 ∧ cs.length = g ∧ n * es = g ∧ es' = es ∧ (n + m) * bytes ≤ room
          · rw [if_pos hc, if_pos hc]
            generalize setH lk lim cb H b (cs ++ new) new = s
            cases s <;> rfl
          · rw [if_neg hc, if_neg hc]; rfl
    · rw [if_neg hn, if_neg hn]; rfl

theorem exOp_eq {lk lim cb : Nat} {dst : Option Nat} {op : AOp} {env : Env} {H : Heap} : exOp lk lim cb dst op env H = edRun env (exE lk lim cb dst op env H) := by
  cases op
  case st => exact exOp_st
  case app => exact exOp_app
  all_goals rfl

theorem exE_actL {lk lim cb : Nat} {dst : Option Nat} {op : AOp} {env : Env} {H : Heap} {t : Nat} {e : Ed} {H' : Heap} (hc : cls op = .actL t) (h : exE lk lim cb dst op env H = some (e, H')) :
    H' = H ∧ ∃ cs cs0, e = .box t cs ∧ find env t = .box cs0 ∧ dst = none := by
  cases op
  case st l n a x =>
    cases l with
    | none => simp [cls] at hc
    | some t' =>
      simp only [cls, Cls.actL.injEq] at hc
      subst hc
      simp only [exE] at h
      split at h
      case h_2 => simp at h
      split at h
      case isFalse => simp at h
      generalize ev env a = va at h
      cases va <;> dsimp only at h <;> first | (simp at h; done) | skip
      split at h
      case isFalse => simp at h
      split at h
      case h_2 => simp at h
      rename_i cs hf
      split at h
      case isFalse => simp at h
      rename_i hcc
      simp only [Option.some.injEq, Prod.mk.injEq] at h
      obtain ⟨rfl, rfl⟩ := h
      exact ⟨rfl, _, _, rfl, hf, hcc.2⟩
  case app => simp [cls] at hc
  all_goals simp [exE] at h
end Go.Hm
