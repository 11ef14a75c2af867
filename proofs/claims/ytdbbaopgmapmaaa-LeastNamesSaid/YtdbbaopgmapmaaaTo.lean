import Derived.Test.YtdbbaopgmapmaaaF2
set_option linter.unusedSimpArgs false
set_option linter.unusedVariables false
namespace Go.Proofs.Ytdbbaopgmapmaaa
open Go Go.Hm
/-- Where a state leads by a byte. -/
theorem to_neg {lk lim : Nat} {H : Heap} (a r : AV) (ha : one a = true) (hr : one r = true) (k : Nat) (b : Int) : callW X A lk lim 47 [.agg [a, r], I (Int.negSucc k), I b] H = some (I (-1), H) := by
  refine wb_callB [3] rfl A47 rfl rfl ?_
  unfold t47B
  have h : Int.negSucc k < 0 := by omega
  simp [h]
theorem to_cell {lk lim : Nat} {H : Heap} (n : Nat) (cs : List AV) (r : AV) (hr : one r = true) (k c : Nat) (x : Int) (hk : k ≤ 1000000) (hc : c < 256) (hn : 256 * k + c < n) (hx : cs[256 * k + c]? = some (I x)) : callW X A lk lim 47 [.agg [.sl n cs, r], I (k : Int), I (c : Int)] H = some (I x, H) := by
  refine wb_callB [3] rfl A47 rfl rfl ?_
  unfold t47B
  have h : ¬ (k : Int) < 0 := by omega
  have w1 : IntKind.i64.wrap (256 * (k : Int)) = 256 * (k : Int) := wrap64 (by omega) (by omega)
  have w2 : IntKind.i64.wrap (256 * (k : Int) + (c : Int)) = 256 * (k : Int) + (c : Int) := wrap64 (by omega) (by omega)
  have e1 : (256 * (k : Int) + (c : Int)).toNat = 256 * k + c := by omega
  have e2 : 0 ≤ 256 * (k : Int) + (c : Int) := by omega
  have e3 : 256 * (k : Int) + (c : Int) < n := by omega
  simp [h, w1, w2, e1, e2, e3, hx]
/-! A cell of a long row: by steps of 16, which the kernel does once. -/
noncomputable def tlL (l : List AV) : List AV := List.rec (motive := fun _ => List AV) [] (fun _ t _ => t) l
theorem tlL_eq (l : List AV) : tlL l = l.drop 1 := by cases l <;> rfl
noncomputable def sk4 (l : List AV) : List AV := tlL (tlL (tlL (tlL l)))
noncomputable def sk16 (l : List AV) : List AV := sk4 (sk4 (sk4 (sk4 l)))
theorem sk16_eq (l : List AV) : sk16 l = l.drop 16 := by simp only [sk16, sk4, tlL_eq, List.drop_drop]
noncomputable def itL (l : List AV) (n : Nat) : List AV := Nat.rec (motive := fun _ => List AV) l (fun _ ih => sk16 ih) n
theorem itL_eq (l : List AV) : ∀ n, itL l n = l.drop (16 * n)
  | 0 => rfl
  | n + 1 => by
    show sk16 (itL l n) = _
    rw [sk16_eq, itL_eq l n, List.drop_drop]; congr 1
def cellI (H : Heap) (v : AV) : R := match v with
  | .val (.int .i64 x) => some (I x, H)
  | _ => none
noncomputable def toC (n : Nat) (cs : List AV) (i : Nat) (H : Heap) : R := bif Nat.blt i n then nthR (itL cs (Nat.div i 16)) (Nat.mod i 16) (cellI H) else none
theorem toC_some {n : Nat} {cs : List AV} {i : Nat} {H : Heap} {r : AV × Heap} (h : toC n cs i H = some r) : i < n ∧ ∃ x, cs[i]? = some (I x) ∧ r = (I x, H) := by
  unfold toC at h
  rw [Bool.cond_eq_ite] at h
  split at h
  · rename_i h1
    obtain ⟨a, h2, h3⟩ := nthR_some h
    rw [itL_eq, List.getElem?_drop] at h2
    have e : 16 * Nat.div i 16 + Nat.mod i 16 = i := Nat.div_add_mod i 16
    rw [e] at h2
    unfold cellI at h3
    split at h3
    · rename_i x
      exact ⟨by simpa [Nat.blt_eq] using h1, x, h2, (Option.some.inj h3).symm⟩
    · cases h3
  · cases h
noncomputable def toX (_ : Nat) (l : List AV) (H : Heap) : R := match l with
  | [.agg [.sl n cs, .sl _ _], .val (.int .i64 s), .val (.int .i64 b)] => match s with
    | .negSucc _ => some (I (-1), H)
    | .ofNat k => match b with
      | .ofNat c => bif Nat.blt c 256 then bif Nat.ble k 1000000 then toC n cs (256 * k + c) H else none else none
      | .negSucc _ => none
  | _ => none
theorem toX_ok (lk lim : Nat) (l : List AV) (H : Heap) (r : AV × Heap) (h : toX lk l H = some r) : callW X A lk lim 47 l H = some r := by
  unfold toX at h
  split at h
  · rename_i n cs m rl s b
    cases s with
    | negSucc k =>
      simp only at h
      rw [← Option.some.inj h]
      exact to_neg _ _ rfl rfl k b
    | ofNat k =>
      simp only at h
      cases b with
      | negSucc c => cases h
      | ofNat c =>
        simp only [Bool.cond_eq_ite] at h
        split at h
        · rename_i h1
          split at h
          · rename_i h2
            obtain ⟨h3, x, hx, rfl⟩ := toC_some h
            exact to_cell n cs _ rfl k c x (by simpa [Nat.ble_eq] using h2) (by simpa [Nat.blt_eq] using h1) h3 hx
          · cases h
        · cases h
  · cases h
noncomputable def ansT : Ans := (47, toX) :: ans2
theorem ansT_ok : ∀ p ∈ ansT, ∀ lk lim l H r, p.2 lk l H = some r → callW X A lk lim p.1 l H = some r := fun p hp => by
  rcases List.mem_cons.1 hp with rfl | hp
  · exact toX_ok
  · exact ans2_ok p hp
noncomputable def ET : Orc := callE (gF X (fun _ => false) A ansT) 100000 300
end Go.Proofs.Ytdbbaopgmapmaaa
