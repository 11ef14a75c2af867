import Derived.Test.YtpaocofhpdmjpaaIt
import Derived.Test.YtpaocofhpdmjpaaRows
import Derived.RangeFuncNested
import Derived.RangeFuncBound
import Derived.RangeFuncCalls
import Derived.RangeFuncLeaves
import Derived.Shelf.Abstract
import Derived.Shelf.RegionOpen
import Derived.WalkKit
import Derived.OwnWalkIn
import Derived.TacticsInMore
import Derived.LoopNIn
import Derived.LoopIn
set_option linter.unusedSimpArgs false
set_option linter.unusedVariables false
namespace Go.Proofs.Ytpaocofhpdmjpaa
open Go Go.Hm Go.RowKit Go.Shelf Go.Proofs
attribute [local go_sem] Oper.semAt_some

theorem yieldAt_k {P : Program} {l n m : Nat} {args : Array Value} {W : World} {R : Ending → World → Prop} (h : YieldAt Fence.wide n P l args W R) : YieldAt Fence.wide m P l args W R := by
  obtain ⟨fn, tmps, assign, body, hy, hR⟩ := h
  exact ⟨fn, tmps, assign, body, hy, hR.1, fun c cs _ => hR.2 c cs (room_wide _)⟩
set_option maxRecDepth 100000 in
theorem conv1 (W : World) (b : Nat) : (convert 70 9 (.slice (some ⟨W.heap.size, 0, none⟩) 1 1)).run Try.prog (W.alloc (.cells #[.int .u8 (b : Nat)] 5)) = .ok (.string ⟨⟨[UInt8.ofNat b]⟩⟩) (W.alloc (.cells #[.int .u8 (b : Nat)] 5)) :=
  conv1P Try.underlying70 Try.underlying5 Try.underlying9 W b
theorem flat_get {α : Type} (f : Nat → List α) : ∀ (t b j : Nat) (x : α), b < t → (f b)[j]? = some x → ((List.range t).flatMap f)[((List.range b).flatMap f).length + j]? = some x
  | 0, b, j, x, h, _ => by omega
  | t + 1, b, j, x, h, hx => by
    rw [List.range_succ, List.flatMap_append]
    by_cases hb : b = t
    · subst hb
      rw [List.getElem?_append_right (by omega), Nat.add_sub_cancel_left]
      simpa using hx
    · have ih := flat_get f t b j x (by omega) hx
      rw [List.getElem?_append_left (List.getElem?_eq_some_iff.1 ih).1]
      exact ih
theorem app_bytes (a b : List UInt8) : (⟨⟨a⟩⟩ : ByteArray) ++ ⟨⟨b⟩⟩ = ⟨⟨a ++ b⟩⟩ := by
  apply ByteArray.ext
  simp [ByteArray.data_append]
set_option maxRecDepth 100000 in
set_option maxHeartbeats 4000000 in
theorem each_ok {l : Nat} {J : Nat → World → (Nat → Prop) → Prop} {Jx : World → (Nat → Prop) → Prop}
    (gJ : ∀ i A B Z, J i A Z → Below A.heap.size A B → J i B (fun k => Z k ∨ (A.heap.size ≤ k ∧ k < B.heap.size)))
    (t k : Nat) (ht : t ≤ 8) (hk : k ≤ 3) (vals : List (Array Value))
    (hY : ∀ i v A Z, vals[i]? = some v → J i A Z → YieldAt Fence.wide 8 Try.prog l v A fun e B => (e = .returned (.bool true) ∧ J (i + 1) B Z ∧ A.heap.size ≤ B.heap.size ∧ ∀ k, Z k → B.heap[k]? = A.heap[k]?) ∨ (e = .returned (.bool false) ∧ Jx B Z)) :
    ∀ (m : Nat) (row : List UInt8) (i : Nat) (A : World) (Z : Nat → Prop), row.length + m = k → (∀ (j : Nat) x, (rowsF t m row)[j]? = some x → vals[i + j]? = some #[.string ⟨⟨x⟩⟩]) → J i A Z →
      CallsIn Fence.wide 9 Try.prog 52 #[.string ⟨⟨row⟩⟩, .int .i64 t, .int .i64 k, .func (.yield l) #[] #[]] A fun e B =>
        (e = .returned (.bool true) ∧ ∃ Z, J (i + (rowsF t m row).length) B Z) ∨ (e = .returned (.bool false) ∧ ∃ Z, Jx B Z)
  | 0, row, i, A, Z, hl, hv, hJ => by
    refine callsIn_of_wp Try.func52 rfl trivial ?_ rfl
    simp only [Try.ntmps52, List.size_toArray, List.length_cons, List.length_nil, Nat.reduceAdd, Nat.reduceSub, Array.replicate_succ, Array.replicate_zero, List.push_toArray, List.append_toArray, List.nil_append, List.cons_append]
    have hsz : (⟨⟨row⟩⟩ : ByteArray).size = k := by show row.length = k; omega
    obtain ⟨fn, tmps, assign, body, hy, hR⟩ := hY i #[.string ⟨⟨row⟩⟩] A Z (hv 0 row rfl) hJ
    gi_wp2
    refine hR.mono ?_
    rintro e W3 (⟨rfl, hJ3, hs3, hk3⟩ | ⟨rfl, hJx3⟩)
    · gi_wp2
      go_ret
      exact .inl ⟨rfl, _, hJ3⟩
    · gi_wp2
      go_ret
      exact .inr ⟨rfl, _, hJx3⟩
  | m + 1, row, i, A, Z, hl, hv, hJ => by
    refine callsIn_of_wp Try.func52 rfl trivial ?_ rfl
    simp only [Try.ntmps52, List.size_toArray, List.length_cons, List.length_nil, Nat.reduceAdd, Nat.reduceSub, Array.replicate_succ, Array.replicate_zero, List.push_toArray, List.append_toArray, List.nil_append, List.cons_append]
    have hsz : (⟨⟨row⟩⟩ : ByteArray).size = row.length := rfl
    have hbq : ((row.length : Int) == (k : Int)) = false := by rw [beq_eq_false_iff_ne]; omega
    gi_wp2
    gi_loopw [18] (fun q wr => ∃ (b : Nat) (Z' : Nat → Prop), b ≤ t ∧ q = .int .i64 b ∧ J (i + ((List.range b).flatMap fun c => rowsF t m (row ++ [UInt8.ofNat c])).length) wr Z') (fun q _ => t - (intOf q).toNat)
    case atStart => exact ⟨0, Z, Nat.zero_le _, rfl, by simpa using hJ⟩
    case round =>
      obtain ⟨b, Z', hb, rfl, hJs⟩ := hrel
      by_cases hlt : b < t
      · have hcv := conv1 wr b
        have hbel : Below wr.heap.size wr (wr.alloc (.cells #[.int .u8 (b : Nat)] 5)) := (Below.refl _ wr).alloc (Nat.le_refl _) _
        have ih := each_ok gJ t k ht hk vals hY m (row ++ [UInt8.ofNat b]) _ _ _ (by simp; omega) (fun j x hj => by
          have h2 := flat_get (fun c => rowsF t m (row ++ [UInt8.ofNat c])) t b j x hlt hj
          rw [Nat.add_assoc]
          refine hv _ x ?_
          rw [rowsF, List.getElem?_append_left (List.getElem?_eq_some_iff.1 h2).1]
          exact h2) (gJ _ _ _ _ hJs hbel)
        rw [← app_bytes] at ih
        have hn : i + ((List.range b).flatMap fun c => rowsF t m (row ++ [UInt8.ofNat c])).length + (rowsF t m (row ++ [UInt8.ofNat b])).length = i + ((List.range (b + 1)).flatMap fun c => rowsF t m (row ++ [UInt8.ofNat c])).length := by
          rw [List.range_succ, List.flatMap_append, List.length_append]
          simp [Nat.add_assoc]
        rw [hn] at ih
        clear hv
        gi_wp2
        refine ⟨trivial, ?_⟩
        refine (callsIn_wide.2 ((callsIn_wide (n := 9)).1 ih)).mono ?_
        rintro e W3 (⟨rfl, Z3, hJ3⟩ | ⟨rfl, Z3, hJx3⟩)
        · gi_wp2
          go_roundw
          case rel => exact ⟨b + 1, Z3, by omega, by simp, hJ3⟩
          case measure => simp [intOf]; omega
        · gi_wp2
          go_ret
          exact .inr ⟨rfl, _, hJx3⟩
      · obtain rfl : b = t := by omega
        have hcv : (convert 70 9 (.slice (some ⟨wr.heap.size, 0, none⟩) 1 1)).run Try.prog (wr.alloc (.cells #[.int .u8 255] 5)) = .ok (.string ⟨⟨[255]⟩⟩) (wr.alloc (.cells #[.int .u8 255] 5)) := conv1 wr 255
        have hbel : Below wr.heap.size wr (wr.alloc (.cells #[.int .u8 255] 5)) := (Below.refl _ wr).alloc (Nat.le_refl _) _
        have hlast := hv ((List.range b).flatMap fun c => rowsF b m (row ++ [UInt8.ofNat c])).length (row ++ [255]) (by
          rw [rowsF, List.getElem?_append_right (Nat.le_refl _), Nat.sub_self]; rfl)
        have hn : i + ((List.range b).flatMap fun c => rowsF b m (row ++ [UInt8.ofNat c])).length + 1 = i + (rowsF b (m + 1) row).length := by
          rw [rowsF, List.length_append, List.length_singleton, Nat.add_assoc]
        obtain ⟨fn, tmps, assign, body, hy, hR⟩ := hY _ _ _ _ hlast (gJ _ _ _ _ hJs hbel)
        rw [← app_bytes] at hy
        rw [hn] at hR
        clear hv
        gi_wp2
        refine hR.mono ?_
        rintro e W3 (⟨rfl, hJ3, hs3, hk3⟩ | ⟨rfl, hJx3⟩)
        · gi_wp2
          go_ret
          exact .inl ⟨rfl, _, hJ3⟩
        · gi_wp2
          go_ret
          exact .inr ⟨rfl, _, hJx3⟩

theorem itV_get {l : List (List UInt8)} {j : Nat} {x : List UInt8} (h : l[j]? = some x) : ((itV l).map List.toArray)[j]? = some #[.string ⟨⟨x⟩⟩] := by
  simp [itV, h]
set_option maxRecDepth 100000 in
set_option maxHeartbeats 4000000 in
theorem iter51 {φ : Phi} {F : Nat → Nat → Prop} {H : Heap} {w : World} {k1 k2 : Nat} {t k : Int} (sr : SR φ F H w) (h1 : w.cell? ⟨k1, 0, none⟩ = some (.int .i64 t)) (h2 : w.cell? ⟨k2, 0, none⟩ = some (.int .i64 k)) :
    ItOk Try.prog (Begun φ F H w) 51 #[.pointer (some ⟨k1, 0, none⟩), .pointer (some ⟨k2, 0, none⟩)] ((itV (rowsOf t k)).map List.toArray) w := by
  intro l J Jx gJ gJx hY hBg
  have hY := fun i v A Z h1 h2 => yieldAt_k (m := 8) (hY i v A Z h1 h2)
  have hJ0 := hBg w _ (Begun.refl sr)
  refine callsIn_wide.2 ((callsIn_wide (n := 9)).1 ?_)
  show CallsIn Fence.wide 9 Try.prog 51 #[.func (.yield l) #[] #[], .pointer (some ⟨k1, 0, none⟩), .pointer (some ⟨k2, 0, none⟩)] w _
  refine callsIn_of_wp Try.func51 rfl trivial ?_ rfl
  simp only [Try.ntmps51, List.size_toArray, List.length_cons, List.length_nil, Nat.reduceAdd, Nat.reduceSub, Array.replicate_succ, Array.replicate_zero, List.push_toArray, List.append_toArray, List.nil_append, List.cons_append]
  by_cases hb : t < 0 ∨ 8 < t ∨ k < 1 ∨ 3 < k
  · have hr : rowsOf t k = [] := if_pos hb
    rw [hr]
    have done : (∃ v, (Ending.returned (.tuple #[])) = Ending.returned v) ∧ ((∃ Z, J ((itV []).map List.toArray).length w Z) ∨ ∃ Z, Jx w Z) := ⟨⟨_, rfl⟩, .inl ⟨_, hJ0⟩⟩
    by_cases c1 : t < 0
    · gi_wp2
      exact bodyPost_ret (results_none rfl _ _ _) rfl ⟨⟨_, rfl⟩, .inl ⟨_, hJ0⟩⟩
    by_cases c2 : 8 < t
    · gi_wp2
      exact bodyPost_ret (results_none rfl _ _ _) rfl ⟨⟨_, rfl⟩, .inl ⟨_, hJ0⟩⟩
    by_cases c3 : k < 1
    · gi_wp2
      exact bodyPost_ret (results_none rfl _ _ _) rfl ⟨⟨_, rfl⟩, .inl ⟨_, hJ0⟩⟩
    have c4 : 3 < k := by omega
    gi_wp2
    exact bodyPost_ret (results_none rfl _ _ _) rfl ⟨⟨_, rfl⟩, .inl ⟨_, hJ0⟩⟩
  · have ht : ¬ t < 0 := by omega
    have ht2 : ¬ 8 < t := by omega
    have hk : ¬ k < 1 := by omega
    have hk2 : ¬ 3 < k := by omega
    have hr : rowsOf t k = rowsF t.toNat k.toNat [] := if_neg hb
    obtain ⟨t, rfl⟩ := Int.eq_ofNat_of_zero_le (by omega : 0 ≤ t)
    obtain ⟨k, rfl⟩ := Int.eq_ofNat_of_zero_le (by omega : 0 ≤ k)
    simp only [Int.toNat_natCast] at hr
    rw [hr] at hY ⊢
    have e := each_ok gJ t k (by omega) (by omega) _ hY k [] 0 w _ (by simp) (fun j x hj => by rw [Nat.zero_add]; exact itV_get hj) hJ0
    gi_wp2
    refine ⟨trivial, ?_⟩
    refine (callsIn_wide.2 ((callsIn_wide (n := 9)).1 e)).mono ?_
    rintro e W3 (⟨rfl, Z3, hJ3⟩ | ⟨rfl, Z3, hJx3⟩)
    · gi_wp2
      go_end0
      exact ⟨⟨_, rfl⟩, .inl ⟨Z3, by rw [Nat.zero_add] at hJ3; simpa [itV] using hJ3⟩⟩
    · gi_wp2
      go_end0
      exact ⟨⟨_, rfl⟩, .inr ⟨Z3, hJx3⟩⟩

theorem rowsIt_ok : SqOk Try.prog rowsIt := by
  intro f cap H items h
  unfold rowsIt at h
  split at h
  case isFalse => simp at h
  rename_i hf
  subst hf
  split at h
  case h_2 => simp at h
  rename_i b c
  split at h
  case h_2 => simp at h
  rename_i t k hb hc
  simp only [Option.some.injEq] at h
  subst h
  refine ⟨⟨Try.f51, Try.func51, by decide, rfl⟩, fun x hx y hy => ?_, fun φ F w vs sr hcl => ?_⟩
  · obtain ⟨r, _, rfl⟩ := List.mem_map.1 hx
    rw [List.mem_singleton.1 hy]
    rfl
  · obtain ⟨p1, p2, rfl⟩ : ∃ p1 p2, vs = [p1, p2] := by
      have := hcl.1
      match vs, this with
      | [p1, p2], _ => exact ⟨p1, p2, rfl⟩
    have cell : ∀ (b : Nat) (n : Int) (p : Value), H[b]? = some (.cells [.val (.int .i64 n)]) → CRel φ F H w (.hp b 1 0) p → ∃ k, p = .pointer (some ⟨k, 0, none⟩) ∧ w.cell? ⟨k, 0, none⟩ = some (.int .i64 n) := fun b n p hb h => by
      cases h with
      | hp _ _ _ cs a hb2 hg ha =>
      rw [hb] at hb2
      cases hb2
      obtain ⟨hd, rfl⟩ := ha rfl
      have hd0 : (φ b).2 = 0 := by omega
      obtain ⟨arr, ty, hbl, hcells⟩ := sr.blk b _ hb (by simp)
      obtain ⟨q, hq1, hq2⟩ := hcells 0 _ rfl
      have hq1 := hq1 (by omega)
      have := hq2.inv_val.1
      subst this
      rw [hd0] at hq1 ⊢
      exact ⟨_, rfl, by simp [World.cell?, hbl, hq1]⟩
    obtain ⟨k1, rfl, h1⟩ := cell b t p1 hb (hcl.2 0 _ _ rfl rfl)
    obtain ⟨k2, rfl, h2⟩ := cell c k p2 hc (hcl.2 1 _ _ rfl rfl)
    exact iter51 sr h1 h2
end Go.Proofs.Ytpaocofhpdmjpaa
