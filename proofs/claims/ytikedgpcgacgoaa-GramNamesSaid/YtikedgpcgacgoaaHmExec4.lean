/- Freezing. -/
import Derived.Test.YtikedgpcgacgoaaHmExec3
namespace Go.Hm
open Go Go.RowKit

theorem mapO_get {f : AV → Option AV} : ∀ {l l' : List AV}, mapO f l = some l' → l'.length = l.length ∧ ∀ (i : Nat) a', l'[i]? = some a' → ∃ a, l[i]? = some a ∧ f a = some a'
  | [], l', h => by simp only [mapO, Option.some.injEq] at h; subst h; exact ⟨rfl, fun i a ha => by simp at ha⟩
  | v :: r, l', h => by
    simp only [mapO] at h
    split at h
    case h_2 => simp at h
    rename_i v' hv
    split at h
    case h_2 => simp at h
    rename_i r' hr
    simp only [Option.some.injEq] at h; subst h
    obtain ⟨h1, h2⟩ := mapO_get hr
    refine ⟨by simp [h1], fun i a' ha => ?_⟩
    cases i with
    | zero => simp at ha; subst ha; exact ⟨v, rfl, hv⟩
    | succ i => simp at ha ⊢; exact h2 i a' ha

section
variable {φ : Nat → Nat} {F : Nat → Nat → Prop} {H : Heap} {w : World} {lim : Nat}

/-- What is frozen besides: all blocks from a number on. -/
def F2 (φ : Nat → Nat) (F : Nat → Nat → Prop) (H : Heap) (lim : Nat) (k o : Nat) : Prop := F k o ∨ ∃ b, lim ≤ b ∧ live H b ∧ φ b = k

theorem F2.ext : Ext φ F H w φ (F2 φ F H lim) H w := ⟨fun _ cs h => ⟨cs, h, Nat.le_refl _, fun _ => rfl⟩, fun _ _ h => ⟨.inl h, rfl⟩, Wm.refl w⟩

theorem frz_c (sr : SR φ F H w) : ∀ (d : Nat) {v v' : AV} {cv : Value}, frz lim H d v = some v' → CRel φ F H w v cv → CRel φ (F2 φ F H lim) H w v' cv
  | 0, v, v', cv, h, hc => by simp only [frz, Option.some.injEq] at h; subst h; exact hc.mono F2.ext
  | d + 1, v, v', cv, h, hc => by
    cases v
    case hs b g off n es =>
      simp only [frz] at h
      split at h
      · simp only [Option.some.injEq] at h; subst h; exact hc.mono F2.ext
      · rename_i hlt
        split at h
        case h_2 => simp at h
        rename_i cs hcs
        split at h
        case h_2 => simp at h
        rename_i cs' hm
        split at h
        case isFalse => simp at h
        rename_i hb
        simp only [Option.some.injEq] at h; subst h
        obtain ⟨hml, hmg⟩ := mapO_get hm
        simp only [slCells] at hcs
        split at hcs
        case h_2 => simp at hcs
        rename_i csb hbb
        split at hcs
        case isFalse => simp at hcs
        rename_i hg
        simp only [Option.some.injEq] at hcs
        cases hc with
        | hs _ _ _ _ _ cs2 x cap hb2 hg2 hn hx hcase =>
        rw [hbb] at hb2; cases hb2
        have hlen : cs.length = n * es := by rw [← hcs]; simp; omega
        rcases hcase hg.1 with ⟨h0g, hx', _⟩ | ⟨hn0, hc0⟩
        · subst hx'
          have hne : csb ≠ [] := by intro e; subst e; simp at hg; omega
          obtain ⟨vs, hcl, hrange, hvl⟩ := (sr.blk b csb hbb hne).row.range (off := off) (n := n * es) (by omega)
          rw [hcs] at hcl
          rw [Nat.zero_add] at hrange
          refine .sl (φ b) off n cap cs' vs hn (by rw [hml, ← hcl.1]) hb (fun i _ => .inr ⟨b, by omega, ⟨csb, hbb, hne⟩, rfl⟩) (fun i v hv => hrange i v hv) (fun i a v ha hv => ?_)
          obtain ⟨a0, ha0, hf⟩ := hmg i a ha
          exact frz_c sr d hf (hcl.2 i a0 v ha0 hv)
        · subst hn0; subst hc0
          have h0 : cs' = [] := List.eq_nil_of_length_eq_zero (by rw [hml, hlen]; omega)
          subst h0
          exact .slnil x
    case agg => cases hc
    case tup => cases hc
    all_goals (simp only [frz, Option.some.injEq] at h; subst h; exact hc.mono F2.ext)

theorem frz_v (sr : SR φ F H w) : ∀ (d : Nat) {v v' : AV} {cv : Value}, frz lim H d v = some v' → VRel φ F H w v cv → VRel φ (F2 φ F H lim) H w v' cv
  | 0, v, v', cv, h, hc => by simp only [frz, Option.some.injEq] at h; subst h; exact hc.mono F2.ext
  | d + 1, v, v', cv, h, hc => by
    cases hc with
    | one hc => exact .one (frz_c sr (d + 1) h hc)
    | agg cs vs hcl =>
      simp only [frz] at h
      split at h
      case h_2 => simp at h
      rename_i cs' hm
      simp only [Option.some.injEq] at h; subst h
      obtain ⟨hml, hmg⟩ := mapO_get hm
      refine .agg cs' vs ⟨by rw [hml, hcl.1], fun i a v ha hv => ?_⟩
      obtain ⟨a0, ha0, hf⟩ := hmg i a ha
      exact frz_c sr d hf (hcl.2 i a0 v ha0 hv)
    | tup as vs hl hrel =>
      simp only [frz] at h
      split at h
      case h_2 => simp at h
      rename_i as' hm
      simp only [Option.some.injEq] at h; subst h
      obtain ⟨hml, hmg⟩ := mapO_get hm
      refine .tup as' vs (by rw [hml, hl]) fun i a v ha hv => ?_
      obtain ⟨a0, ha0, hf⟩ := hmg i a ha
      exact frz_v sr d hf (hrel i a0 v ha0 hv)
end
end Go.Hm
