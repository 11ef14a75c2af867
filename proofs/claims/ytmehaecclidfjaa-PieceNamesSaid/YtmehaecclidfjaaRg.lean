import Derived.Test.YtmehaecclidfjaaU
import Derived.RangeFuncNested
import Derived.RangeFuncBound
import Derived.RangeFuncCalls
import Derived.RangeFuncLeaves
import Derived.Shelf.Abstract
import Derived.Shelf.RegionOpen
import Derived.WalkKit
import Derived.OwnWalkIn
import Derived.TacticsInMore
import Derived.LoopNIn
import Derived.LoopIn
set_option linter.unusedSimpArgs false
set_option linter.unusedVariables false
namespace Go.Proofs.Ytmehaecclidfjaa
open Go Go.Hm Go.RowKit Go.Shelf
attribute [local go_sem] Oper.semAt_some

theorem mapS_get : ∀ {cs : List AV} {l : List (List Value)}, mapS cs = some l → l.length = cs.length ∧ ∀ (i : Nat) x, l[i]? = some x → ∃ s, cs[i]? = some (.val (.string s)) ∧ x = [.string s]
  | [], l, h => by simp only [mapS, Option.some.injEq] at h; subst h; exact ⟨rfl, fun i x hx => by simp at hx⟩
  | v :: r, l, h => by
    simp only [mapS] at h
    split at h
    case h_2 => simp at h
    rename_i x hx
    split at h
    case h_2 => simp at h
    rename_i l' hl'
    simp only [Option.some.injEq] at h; subst h
    obtain ⟨h1, h2⟩ := mapS_get hl'
    have hv : ∃ s, v = .val (.string s) ∧ x = [.string s] := by
      unfold strOf at hx
      split at hx
      · simp only [Option.some.injEq] at hx; exact ⟨_, rfl, hx.symm⟩
      · simp at hx
    refine ⟨by simp [h1], fun i y hy => ?_⟩
    cases i with
    | zero => simp at hy; subst hy; obtain ⟨s, rfl, rfl⟩ := hv; exact ⟨s, rfl, rfl⟩
    | succ i => simp at hy; obtain ⟨s, e1, e2⟩ := h2 i y hy; exact ⟨s, by simpa using e1, e2⟩

theorem strs_len {v : AV} {items : List (List Value)} (hs : strsOf v = some items) : items.length ≤ 9223372036854775807 := by
  unfold strsOf at hs
  split at hs
  · simp only [Option.some.injEq] at hs; subst hs; decide
  · split at hs
    · rename_i h
      have := (mapS_get hs).1
      omega
    · simp at hs
  · simp at hs
/-- What the row of pieces is, in the world. -/
theorem row_of {φ : Nat → Nat} {F : Nat → Nat → Prop} {H : Heap} {w : World} {v : AV} {cv : Value} {items : List (List Value)} (hs : strsOf v = some items) (h : VRel φ F H w v cv) :
    (items = [] ∧ ∃ a c, cv = .slice a 0 c) ∨ ∃ bk o c arr ty fr, cv = .slice (some ⟨bk, o, none⟩) items.length c ∧ items.length ≤ c ∧ F bk o ∧ w.heap[bk]? = some (.cells arr ty fr) ∧ ∀ j x, items[j]? = some x → ∃ s, x = [.string s] ∧ w.cell? ⟨bk, o + j, none⟩ = some (.string s) := by
  unfold strsOf at hs
  split at hs
  · simp only [Option.some.injEq] at hs
    subst hs
    cases h with
    | one h => cases h with
      | e0 x => exact .inl ⟨rfl, _, _, rfl⟩
  · rename_i n cs
    split at hs
    case isFalse => simp at hs
    rename_i hn
    obtain ⟨hn, hn2⟩ := hn
    obtain ⟨hl, hg⟩ := mapS_get hs
    rw [hn] at hl
    cases h with
    | one h =>
      cases h with
      | sl b o _ cap _ vs hnc hvl hb hF hc hr =>
        by_cases h0 : items = []
        · subst h0
          simp at hl
          rw [← hl]
          exact .inl ⟨rfl, _, _, rfl⟩
        · have hpos : 0 < cs.length := by rw [hn, ← hl]; exact List.length_pos_iff.2 h0
          have cell : ∀ j s, cs[j]? = some (.val (.string s)) → w.cell? ⟨b, o + j, none⟩ = some (.string s) := fun j s hj => by
            have hlt : j < vs.length := by rw [hvl]; exact (List.getElem?_eq_some_iff.1 hj).1
            have := hr j _ vs[j] hj (by simp [hlt])
            rw [hc j vs[j] (by simp [hlt]), (CRel.inv_val this).1]
          have hbk : ∃ arr ty fr, w.heap[b]? = some (.cells arr ty fr) := by
            have hlt : 0 < vs.length := by omega
            have := hc 0 vs[0] (by simp [hlt])
            obtain ⟨ob, h1, h2⟩ := cells_of_cell this
            cases ob <;> first | exact ⟨_, _, _, h1⟩ | cases h2
          obtain ⟨arr, ty, fr, hbk⟩ := hbk
          refine .inr ⟨b, o, cap, arr, ty, fr, by rw [hl], by rw [hl]; exact hnc, by simpa using hF 0 hpos, hbk, fun j x hx => ?_⟩
          obtain ⟨s, h1, h2⟩ := hg j x hx
          exact ⟨s, h2, cell j s h1⟩
      | slnil x =>
        obtain rfl := List.eq_nil_of_length_eq_zero hl
        exact .inl ⟨rfl, _, _, rfl⟩
  · simp at hs

theorem yieldAt_n {P : Program} {l n m : Nat} {args : Array Value} {W : World} {R : Ending → World → Prop} (h : YieldAt Fence.wide n P l args W R) : YieldAt Fence.wide m P l args W R := by
  obtain ⟨fn, tmps, assign, body, hy, hR⟩ := h
  exact ⟨fn, tmps, assign, body, hy, hR.1, fun c cs _ => hR.2 c cs (room_wide _)⟩
set_option maxRecDepth 100000 in
set_option maxHeartbeats 4000000 in
theorem iter_ok {φ : Nat → Nat} {F : Nat → Nat → Prop} {H : Heap} {w : World} {kb : Nat} {q : Value} {v : AV} {items : List (List Value)} (hc : w.cell? ⟨kb, 0, none⟩ = some q)
    (h28 : Calls Try.prog 28 #[q] w fun e w' => ∃ v', e = .returned v' ∧ CallR φ F H w v H v' w') (hs : strsOf v = some items) (hlen : items.length ≤ 9223372036854775807) :
    ItOk Try.prog (Begun φ F H w) 29 #[.pointer (some ⟨kb, 0, none⟩)] (items.map List.toArray) w := by
  intro l J Jx gJ gJx hY hBg
  have hY := fun i v A Z h1 h2 => yieldAt_n (m := 9 - 1) (hY i v A Z h1 h2)
  refine callsIn_wide.2 ((callsIn_wide (n := 9)).1 ?_)
  show CallsIn Fence.wide 9 Try.prog 29 #[.func (.yield l) #[] #[], .pointer (some ⟨kb, 0, none⟩)] w _
  refine callsIn_of_wp Try.func29 rfl trivial ?_ rfl
  simp only [Try.ntmps29, List.size_toArray, List.length_cons, List.length_nil, Nat.reduceAdd, Nat.reduceSub, Array.replicate_succ, Array.replicate_zero, List.push_toArray, List.append_toArray, List.nil_append, List.cons_append]
  gi_wp2_with (refine ⟨trivial, ?_⟩; gi_at_call 28; refine (callsIn_wide.2 h28).mono ?_; rintro e w' ⟨v', rfl, φ', F', hv, sr', e', c', p', r'⟩; rcases row_of hs hv with ⟨rfl, x, c, rfl⟩ | ⟨bk, o, c, arr, ty, fr, rfl, hlc, hF, hbk, hcs⟩)
  · have h1 : J 0 w' (fun _ => False) := hBg _ _ ⟨φ', F', sr', e', c', p', r', fun _ h => h.elim⟩
    gi_loopw [8] (fun i wr => i = .int .i64 0 ∧ J 0 wr (fun _ => False)) (fun _ _ => 0)
    case atStart => exact ⟨rfl, h1⟩
    case round =>
      obtain ⟨rfl, hJs⟩ := hrel
      gi_wp2
      go_end0
      exact ⟨⟨_, rfl⟩, .inl ⟨_, hJs⟩⟩
  · have h1 : J 0 w' (fun k => k = bk) := hBg _ _ ⟨φ', F', sr', e', c', p', r', fun k h => by subst h; exact ⟨⟨o, hF⟩, arr, ty, fr, hbk⟩⟩
    gi_loopw [8] (fun i wr => ∃ k : Nat, k ≤ items.length ∧ i = .int .i64 k ∧ J k wr (fun k => k = bk) ∧ wr.heap[bk]? = w'.heap[bk]?)
      (fun i _ => items.length - (intOf i).toNat)
    case atStart => exact ⟨0, Nat.zero_le _, rfl, h1, rfl⟩
    case round =>
      obtain ⟨k, hk, rfl, hJs, hnx⟩ := hrel
      by_cases hlt : k < items.length
      · obtain ⟨x, hx⟩ : ∃ x, items[k]? = some x := ⟨items[k], by simp [hlt]⟩
        obtain ⟨s, rfl, hcx0⟩ := hcs k x hx
        have hcx : wr.cell? ⟨bk, o + k, none⟩ = some (.string s) := (cell_heap hnx).trans hcx0
        obtain ⟨fn, tmps, assign, body, hy, hR⟩ := hY k #[.string s] wr _ (by rw [List.getElem?_map, hx]; rfl) hJs
        clear hcs
        gi_wp2
        refine hR.mono ?_
        rintro e W3 (⟨rfl, hJ3, hs3, hk3⟩ | ⟨rfl, hJx3⟩)
        · gi_wp2
          go_roundw
          case rel => exact ⟨k + 1, by omega, by simp, hJ3, (hk3 bk rfl).trans hnx⟩
          case measure => simp [intOf]; omega
        · gi_wp2
          refine bodyPost_ret (results_none rfl _ _ _) rfl ?_
          exact ⟨⟨_, rfl⟩, .inr ⟨_, hJx3⟩⟩
      · obtain rfl : k = items.length := by omega
        gi_wp2
        go_end0
        exact ⟨⟨_, rfl⟩, .inl ⟨_, by rw [List.length_map]; exact hJs⟩⟩

theorem pieceIt_ok : SqOk Try.prog pieceIt := by
  intro f cap H items h
  unfold pieceIt at h
  split at h
  case isFalse => simp at h
  rename_i hf
  subst hf
  split at h
  case h_2 => simp at h
  rename_i b g o
  split at h
  case isFalse => simp at h
  rename_i hgo
  obtain ⟨rfl, rfl⟩ := hgo
  split at h
  case h_2 => simp at h
  rename_i p hb
  split at h
  case h_2 => simp at h
  rename_i v H' hcall
  split at h
  case isFalse => simp at h
  rename_i hH
  subst hH
  refine ⟨⟨Try.f29, Try.func29, by decide, rfl⟩, fun x hx y hy => ?_, fun φ F w vs sr hcl => ?_⟩
  · obtain ⟨i, hi⟩ := List.getElem?_of_mem hx
    have : ∃ s, x = [.string s] := by
      unfold strsOf at h
      split at h
      · simp only [Option.some.injEq] at h; subst h; simp at hi
      · split at h
        · obtain ⟨s, _, e⟩ := (mapS_get h).2 i x hi
          exact ⟨s, e⟩
        · simp at h
      · simp at h
    obtain ⟨s, rfl⟩ := this
    rw [List.mem_singleton.1 hy]
    rfl
  · obtain ⟨pv, rfl⟩ : ∃ pv, vs = [pv] := by
      have := hcl.1
      match vs, this with
      | [pv], _ => exact ⟨pv, rfl⟩
    have h0 := hcl.2 0 _ pv rfl rfl
    cases h0 with
    | hp _ _ _ cs a hb2 hg ha =>
    rw [hb] at hb2
    cases hb2
    obtain rfl := ha rfl
    obtain ⟨arr, ty, hbl, hcells⟩ := sr.blk b [p] hb (by simp)
    obtain ⟨q, hq1, hq2⟩ := hcells 0 p rfl
    have hcq : w.cell? ⟨φ b, 0, none⟩ = some q := by simp [World.cell?, hbl, hq1]
    obtain ⟨_, k⟩ := orcOk 0 H'.length 28 [p] H' v H' hcall
    have k := k φ F w [q] sr ⟨rfl, fun i a u ha hu => by
      cases i with
      | zero => simp at ha hu; subst ha; subst hu; exact .one hq2
      | succ i => simp at ha⟩
    exact iter_ok hcq k h (strs_len h)
end Go.Proofs.Ytmehaecclidfjaa
