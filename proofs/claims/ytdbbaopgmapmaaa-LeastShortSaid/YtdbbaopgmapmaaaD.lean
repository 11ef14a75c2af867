import Derived.Test.YtdbbaopgmapmaaaC
set_option linter.unusedSimpArgs false
set_option linter.unusedVariables false
namespace Go.Proofs.Ytdbbaopgmapmaaa
open Go Go.Hm

def minL (a : Int) : List Int → Int
  | [] => a
  | b :: l => minL (if b < a then b else a) l
def maxL (a : Int) : List Int → Int
  | [] => a
  | b :: l => maxL (if a < b then b else a) l
theorem min_code {lk lim : Nat} {H : Heap} (x : Int) (l : List Int) (hl : l.length ≤ 1000000000) :
    callW X A lk lim 43 [.sl (l.length + 1) (I x :: ints l)] H = some (I (minL x l), H) := by
  refine wb_callB [] rfl A43 rfl rfl ?_
  unfold t43B
  have h0 : ¬ ((l.length : Int) + 1 < 1) := by omega
  have h0' : (0 : Int) < (l.length : Int) + 1 := by omega
  simp [h0, h0']
  refine wb_loop (σ := Nat × Int) (fun s => [(0, .sl (l.length + 1) (I x :: ints l)), (3, I s.2), (4, I (s.1 + 1 : Nat))])
    (fun _ => H) (fun s => s.1 ≤ l.length ∧ minL s.2 (l.drop s.1) = minL x l)
    (fun s => l.length - s.1) ?_ (0, x) (by simp) (by simp) rfl
  rintro ⟨k, m⟩ ⟨hk, hinv⟩
  simp only at hk hinv
  unfold t43L1
  have hw : IntKind.i64.wrap ((k : Int) + 1 + 1) = (k : Int) + 1 + 1 := wrap64 (by omega) (by omega)
  have ht : ((k : Int) + 1).toNat = k + 1 := by omega
  have hp : (0 : Int) ≤ (k : Int) + 1 := by omega
  simp
  refine wb_if (k < l.length) (by simp) (fun hlt => ?_) (fun hge => ?_)
  · obtain ⟨y, hy⟩ : ∃ y, l[k] = y := ⟨_, rfl⟩
    rw [List.drop_eq_getElem_cons hlt, hy] at hinv
    simp [hlt, ht, hy, hw, hp, mmFold, rnd_nrm]
    exact ⟨k + 1, _, ⟨by omega, hinv⟩, by omega, rfl, by simp⟩
  · obtain rfl : k = l.length := by omega
    simp only [List.drop_length, minL] at hinv
    simp [hinv]
theorem max_code {lk lim : Nat} {H : Heap} (x : Int) (l : List Int) (hl : l.length ≤ 1000000000) :
    callW X A lk lim 44 [.sl (l.length + 1) (I x :: ints l)] H = some (I (maxL x l), H) := by
  refine wb_callB [] rfl A44 rfl rfl ?_
  unfold t44B
  have h0 : ¬ ((l.length : Int) + 1 < 1) := by omega
  have h0' : (0 : Int) < (l.length : Int) + 1 := by omega
  simp [h0, h0']
  refine wb_loop (σ := Nat × Int) (fun s => [(0, .sl (l.length + 1) (I x :: ints l)), (3, I s.2), (4, I (s.1 + 1 : Nat))])
    (fun _ => H) (fun s => s.1 ≤ l.length ∧ maxL s.2 (l.drop s.1) = maxL x l)
    (fun s => l.length - s.1) ?_ (0, x) (by simp) (by simp) rfl
  rintro ⟨k, m⟩ ⟨hk, hinv⟩
  simp only at hk hinv
  unfold t44L1
  have hw : IntKind.i64.wrap ((k : Int) + 1 + 1) = (k : Int) + 1 + 1 := wrap64 (by omega) (by omega)
  have ht : ((k : Int) + 1).toNat = k + 1 := by omega
  have hp : (0 : Int) ≤ (k : Int) + 1 := by omega
  simp
  refine wb_if (k < l.length) (by simp) (fun hlt => ?_) (fun hge => ?_)
  · obtain ⟨y, hy⟩ : ∃ y, l[k] = y := ⟨_, rfl⟩
    rw [List.drop_eq_getElem_cons hlt, hy] at hinv
    simp [hlt, ht, hy, hw, hp, mmFold, rnd_nrm]
    exact ⟨k + 1, _, ⟨by omega, hinv⟩, by omega, rfl, by simp⟩
  · obtain rfl : k = l.length := by omega
    simp only [List.drop_length, maxL] at hinv
    simp [hinv]

/-! The same, for runs. -/
noncomputable section
def isI64 (q : IntKind) : Bool := Nat.beq (kN q) 3
theorem isI64_true {q : IntKind} (h : isI64 q = true) : q = .i64 := by
  cases q <;> first | rfl | exact absurd h (by decide)
def mmR (lt : Int → Int → Bool) (cs : List AV) : Int → Nat → (Int → Nat → R) → R := List.rec (motive := fun _ => Int → Nat → (Int → Nat → R) → R) (fun m n k => k m n) (fun a _ ih m n k => aInt a fun q x => bIf (isI64 q) (pN n fun n => Bool.rec (motive := fun _ => R) (ih m (Nat.succ n) k) (ih x (Nat.succ n) k) (lt x m))) cs
def foldL (lt : Int → Int → Bool) (m : Int) : List Int → Int
  | [] => m
  | x :: l => foldL lt (if lt x m = true then x else m) l
theorem mmR_some {lt : Int → Int → Bool} : ∀ {cs : List AV} {m : Int} {n : Nat} {k : Int → Nat → R} {r : AV × Heap}, mmR lt cs m n k = some r → ∃ l, cs = ints l ∧ k (foldL lt m l) (n + l.length) = some r
  | [], m, n, k, r, h => ⟨[], rfl, h⟩
  | a :: cs, m, n, k, r, h => by
    obtain ⟨q, x, e, h1⟩ := aInt_some (show (aInt a fun q x => bIf (isI64 q) (pN n fun n => Bool.rec (motive := fun _ => R) (mmR lt cs m (Nat.succ n) k) (mmR lt cs x (Nat.succ n) k) (lt x m))) = some r from h)
    clear h
    subst e
    obtain ⟨hq, h2⟩ := bIf_some h1
    clear h1
    rw [pN_eq] at h2
    have hq := isI64_true hq
    subst hq
    cases hl : lt x m with
    | true =>
      rw [hl] at h2
      obtain ⟨l, e, h3⟩ := mmR_some (show mmR lt cs x (Nat.succ n) k = some r from h2)
      refine ⟨x :: l, by rw [e]; rfl, ?_⟩
      simp only [foldL, hl, if_true, List.length_cons]
      rw [show n + (l.length + 1) = Nat.succ n + l.length by omega]
      exact h3
    | false =>
      rw [hl] at h2
      obtain ⟨l, e, h3⟩ := mmR_some (show mmR lt cs m (Nat.succ n) k = some r from h2)
      refine ⟨x :: l, by rw [e]; rfl, ?_⟩
      simp only [foldL, hl, List.length_cons]
      rw [show n + (l.length + 1) = Nat.succ n + l.length by omega]
      exact h3
def mmC (lt : Int → Int → Bool) (H : Heap) (n : Nat) (cs : List AV) : R := List.rec (motive := fun _ => R) none (fun c cs _ => aInt c fun q x => bIf (isI64 q) (mmR lt cs x (Nat.succ Nat.zero) fun m k => bIf (Nat.beq k n) (bIf (Nat.ble n 1000000000) (pI m fun m => some (I m, H))))) cs
def mmV (lt : Int → Int → Bool) (H : Heap) (a : AV) : R := match a with
  | .sl n cs => mmC lt H n cs
  | _ => none
def mmX (lt : Int → Int → Bool) (_ : Nat) (l : List AV) (H : Heap) : R := List.rec (motive := fun _ => R) none (fun a t _ => List.rec (motive := fun _ => R) (mmV lt H a) (fun _ _ _ => none) t) l
theorem mmX_ok {lt : Int → Int → Bool} {f : Nat} (hF : ∀ lk lim H x l, l.length ≤ 1000000000 → callW X A lk lim f [.sl (l.length + 1) (I x :: ints l)] H = some (I (foldL lt x l), H)) (lk lim : Nat) (l : List AV) (H : Heap) (r : AV × Heap) (h : mmX lt lk l H = some r) : callW X A lk lim f l H = some r := by
  match l with
  | [] => cases h
  | a :: b :: t => cases h
  | [a] =>
    have h : mmV lt H a = some r := h
    cases a <;> try (cases h; done)
    rename_i n cs _
    have h : mmC lt H n cs = some r := h
    cases cs with
    | nil => cases h
    | cons c cs =>
      obtain ⟨q, x, e, h1⟩ := aInt_some (show (aInt c fun q x => bIf (isI64 q) (mmR lt cs x (Nat.succ Nat.zero) fun m k => bIf (Nat.beq k n) (bIf (Nat.ble n 1000000000) (pI m fun m => some (I m, H))))) = some r from h)
      clear h
      obtain ⟨hq, h2⟩ := bIf_some h1
      clear h1
      have hq := isI64_true hq
      subst hq
      obtain ⟨l, e2, h3⟩ := mmR_some h2
      obtain ⟨h4, h5⟩ := bIf_some h3
      obtain ⟨h6, h7⟩ := bIf_some h5
      rw [pI_eq] at h7
      have h4 : 1 + l.length = n := Nat.eq_of_beq_eq_true h4
      have h6 := Nat.le_of_ble_eq_true h6
      have h8 : n = l.length + 1 := by omega
      rw [e, e2, h8, ← h7]
      exact hF _ _ _ _ _ (by omega)
theorem minL_fold : ∀ (l : List Int) (x : Int), minL x l = foldL iLt x l
  | [], _ => rfl
  | y :: l, x => by simp only [minL, foldL, iLt_eq, decide_eq_true_eq]; exact minL_fold l _
theorem maxL_fold : ∀ (l : List Int) (x : Int), maxL x l = foldL iGt x l
  | [], _ => rfl
  | y :: l, x => by simp only [maxL, foldL, iGt_eq, decide_eq_true_eq, gt_iff_lt]; exact maxL_fold l _
end
end Go.Proofs.Ytdbbaopgmapmaaa
