/- The machine HM, part 11. -/
import Derived.Test.YtmehaecclidfjaaHmG7
import Derived.Shelf.Strings.OnBuilder
import Derived.Test.YtmehaecclidfjaaHmG10
set_option linter.unusedSimpArgs false
set_option linter.unusedVariables false
/- strings.Join, by the shelf's contract: a primitive. -/
namespace Go.Hm
open Go Go.Proofs Go.Shelf Go.RowKit

/-- A row of texts. -/
def strsOf : List AV → Option (List ByteArray)
  | [] => some []
  | .val (.string s) :: r => match strsOf r with
    | some l => some (s :: l)
    | none => none
  | _ => none
def joinB (xs : List ByteArray) (sep : ByteArray) : ByteArray := ⟨(Lib.join (xs.map (·.data.toList)) sep.data.toList).toArray⟩
def joinX (args : List AV) (H : Heap) : Option (AV × Heap) :=
  match args with
  | [v, .val (.string sep)] => match slCells H v with
    | some cs => match strsOf cs with
      | some xs => if xs.length = slN v ∧ xs.length ≤ 140737488355328 ∧ (Lib.join (xs.map (·.data.toList)) sep.data.toList).length ≤ 140737488355328 then some (.val (.string (joinB xs sep)), H) else none
      | none => none
    | none => none
  | _ => none
theorem strsOf_get : ∀ {cs : List AV} {xs : List ByteArray}, strsOf cs = some xs → cs.length = xs.length ∧ ∀ (j : Nat) x, xs[j]? = some x → cs[j]? = some (.val (.string x))
  | [], xs, h => by simp only [strsOf, Option.some.injEq] at h; subst h; simp
  | a :: r, xs, h => by
    unfold strsOf at h
    split at h
    · rename_i h1; cases h1
    · rename_i s r' h1
      cases h1
      split at h
      · rename_i l hl
        simp only [Option.some.injEq] at h
        subst h
        obtain ⟨h1, h2⟩ := strsOf_get hl
        refine ⟨by simp [h1], fun j x hj => ?_⟩
        cases j with
        | zero => simp at hj; simp [hj]
        | succ j => exact h2 j x (by simpa using hj)
      · cases h
    · cases h
section
variable {P : Program} {ρ : Ren}
theorem join_ok (L : Lays.n156 P ρ) (X : Builder.Extra P ρ) {args : List AV} {H : Heap} {r : AV} {H' : Heap} (h : joinX args H = some (r, H')) : Enters P (ρ.f 156) ∧
    ∀ φ F w vs, SR φ F H w → ARel φ F H w args vs → Calls P (ρ.f 156) vs.toArray w (fun e w' => ∃ v, e = .returned v ∧ CallR φ F H w r H' v w') := by
  refine ⟨⟨_, L.f156, by show "strings.Join" ≠ "runtime.NumGoroutine"; decide, rfl⟩, fun φ F w vs sr ha => ?_⟩
  unfold joinX at h
  split at h
  case h_2 => cases h
  rename_i v sep
  split at h
  case h_2 => cases h
  rename_i cs hcs
  split at h
  case h_2 => cases h
  rename_i xs hxs
  split at h
  case isFalse => cases h
  rename_i hc
  obtain ⟨hn, h47, hj⟩ := hc
  simp only [Option.some.injEq, Prod.mk.injEq] at h
  obtain ⟨rfl, rfl⟩ := h
  obtain ⟨hl, hr⟩ := ha
  have hs := isSl_of hcs
  obtain ⟨hcl, hget⟩ := strsOf_get hxs
  match vs, hl with
  | [cv, sv], _ =>
    have h0 := hr 0 v cv rfl rfl
    have h1 := hr 1 _ sv rfl rfl
    obtain ⟨rfl, _⟩ := h1.inv_val
    have fin : ∀ w', Below w.heap.size w w' → CallR φ F H w (.val (.string (joinB xs sep))) H (.string (joinB xs sep)) w' := fun w' hb => by
      obtain ⟨e, s⟩ := grow sr (F' := F) hb (fun _ _ h => h) (fun _ _ h => .inl h)
      exact ⟨φ, F, .one (.val _ rfl), s, e, Chg.of_below hb _, fun b hb => .inl ⟨hb, rfl⟩, fun _ _ h => .inl h⟩
    have none' : ∀ a c, xs = [] → cv = .slice a 0 c → Calls P (ρ.f 156) [cv, .string sep].toArray w (fun e w' => ∃ v, e = .returned v ∧ CallR φ F H w (.val (.string (joinB xs sep))) H v w') := fun a c hx hv => by
      subst hv
      refine (Any.strings_Join_none L X a c sep w).mono fun e w' ⟨he, hw⟩ => ⟨_, he, ?_⟩
      subst hw
      have := fin w' (Below.refl _ _)
      rw [hx] at this ⊢
      exact this
    have many : ∀ bk o c, cv = .slice (some ⟨bk, o, none⟩) xs.length c → xs ≠ [] → xs.length ≤ c → (∀ (j : Nat) x, xs[j]? = some x → w.cell? ⟨bk, o + j, none⟩ = some (.string x)) → bk < w.heap.size → Calls P (ρ.f 156) [cv, .string sep].toArray w (fun e w' => ∃ v, e = .returned v ∧ CallR φ F H w (.val (.string (joinB xs sep))) H v w') := fun bk o c hv hx hc hcell hbk => by
      subst hv
      exact (Any.strings_Join L X bk o c xs sep w hcell hbk h47 hc hj).mono fun e w' ⟨he, hw⟩ => ⟨_, he, fin w' hw⟩
    have hvz : v = .e0 ∨ (∃ n, v = .sl n cs) ∨ ∃ b g o n es, v = .hs b g o n es := by
      cases v <;> simp [isSl] at hs
      · exact .inl rfl
      · simp only [slCells, Option.some.injEq] at hcs
        subst hcs
        exact .inr (.inl ⟨_, rfl⟩)
      · exact .inr (.inr ⟨_, _, _, _, _, rfl⟩)
    have hxe : slN v = 0 → xs = [] := fun h => List.length_eq_zero_iff.1 (by omega)
    rcases hvz with rfl | ⟨n, rfl⟩ | ⟨b, g, o, n, es, rfl⟩
    · obtain ⟨x, rfl⟩ := h0.inv_e0
      exact none' _ _ (hxe rfl) rfl
    · have h0 : CRel φ F H w (.sl n cs) cv := by
        cases h0 with
        | one h => exact h
      cases h0 with
      | slnil x => exact none' _ _ (hxe rfl) rfl
      | sl b o n cap cells vs' hnc hl' hb' hF hc' hr' =>
        have hn : xs.length = n := hn
        by_cases hx : xs = []
        · have : n = 0 := by rw [← hn, hx]; rfl
          subst this
          exact none' _ _ hx rfl
        · have cell : ∀ (j : Nat) x, xs[j]? = some x → w.cell? ⟨b, o + j, none⟩ = some (.string x) := fun j x hj' => by
            have h2 := hget j x hj'
            have hjl : j < vs'.length := by
              rw [hl']
              exact (List.getElem?_eq_some_iff.1 h2).1
            have h3 := hr' j _ vs'[j] h2 (List.getElem?_eq_getElem hjl)
            rw [hc' j vs'[j] (List.getElem?_eq_getElem hjl)]
            rw [h3.inv_val.1]
          have hpos : 0 < cs.length := by
            rw [hcl]
            exact List.length_pos_iff.2 hx
          subst hn
          exact many b o cap rfl hx hnc cell (sr.fsz b (o + 0) (hF 0 hpos))
    · have h0 : CRel φ F H w (.hs b g o n es) cv := by
        cases h0 with
        | one h => exact h
      have hn : xs.length = n := hn
      simp only [slCells] at hcs
      split at hcs
      case h_2 => cases hcs
      rename_i bc hb
      split at hcs
      case isFalse => cases hcs
      rename_i hg
      simp only [Option.some.injEq] at hcs
      cases h0 with
      | hs _ _ _ _ _ cs' x cap hb' hg' hnc hx' h' =>
        rw [hb] at hb'
        cases hb'
        by_cases hx : xs = []
        · have : n = 0 := by rw [← hn, hx]; rfl
          subst this
          exact none' _ _ hx rfl
        · have hn0 : ¬ n = 0 := fun e => hx (List.length_eq_zero_iff.1 (by omega))
          rcases h' hg.1 with ⟨hg0, rfl, arr, ty, ha, hsz⟩ | ⟨h, _⟩
          · have hne : bc ≠ [] := fun e => by rw [e] at hg; simp at hg; omega
            obtain ⟨arr', ty', ha', hcell⟩ := sr.blk b bc hb hne
            rw [ha] at ha'
            cases ha'
            have cell : ∀ (j : Nat) x, xs[j]? = some x → w.cell? ⟨φ b, o + j, none⟩ = some (.string x) := fun j x hj' => by
              have h2 := hget j x hj'
              rw [← hcs, List.getElem?_take] at h2
              split at h2
              · rw [List.getElem?_drop] at h2
                obtain ⟨v, hv, hr⟩ := hcell (o + j) _ h2
                have := hr.inv_val.1
                subst this
                simp [World.cell?, ha, hv]
              · cases h2
            subst hn
            exact many (φ b) o cap rfl hx hnc cell (Array.getElem?_eq_some_iff.1 ha).1
          · exact absurd h hn0
end
theorem joinX_heap {args : List AV} {H : Heap} {r : AV} {H' : Heap} (h : joinX args H = some (r, H')) : H' = H ∧ ∃ s, r = .val (.string s) := by
  unfold joinX at h
  split at h
  case h_2 => cases h
  split at h
  case h_2 => cases h
  split at h
  case h_2 => cases h
  split at h
  case isFalse => cases h
  simp only [Option.some.injEq, Prod.mk.injEq] at h
  exact ⟨h.2.symm, _, h.1.symm⟩
/-- Function j is strings.Join. -/
def withJoin (j : Nat) (X : Orc) : Orc := fun lk lim f args H => if f = j then joinX args H else X lk lim f args H
theorem withJoin_fr {j : Nat} {X : Orc} (h : OrcFr X) : OrcFr (withJoin j X) := by
  refine ⟨fun lk lim f l H r H' h2 => ?_, fun lk lim f l H r H' h2 hlk b hb => ?_, fun lk lim f l H r H' h2 m h3 h4 hc => ?_⟩
  all_goals
    unfold withJoin at h2
    split at h2
  · rw [(joinX_heap h2).1]; exact Nat.le_refl _
  · exact h.len _ _ _ _ _ _ _ h2
  · rw [(joinX_heap h2).1]
  · exact h.lock _ _ _ _ _ _ _ h2 hlk b hb
  · rw [(joinX_heap h2).1]; exact hc
  · exact h.cl _ _ _ _ _ _ _ h2 m h3 h4 hc
theorem withJoin_ok {P : Program} {ρ : Ren} {j : Nat} {X : Orc} (hj : j < 1000) (L : Lays.n156 P ρ) (E : Builder.Extra P ρ) (hf : ρ.f 156 = j) (h : OrcOk P X) : OrcOk P (withJoin j X) := by
  intro lk lim f l H r H' h2
  unfold withJoin at h2
  split at h2
  · rename_i e
    subst e
    rw [Nat.mod_eq_of_lt hj, ← hf]
    exact join_ok L E h2
  · exact h _ _ _ _ _ _ _ h2
end Go.Hm

