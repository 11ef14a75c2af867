import Derived.Test.YtdbbaopgmapmaaaB
set_option linter.unusedSimpArgs false
set_option linter.unusedVariables false
namespace Go.Proofs.Ytdbbaopgmapmaaa
open Go Go.Hm

def clsOf : List AV → Option (List (List Int))
  | [] => some []
  | .val (.int .u64 a) :: .val (.int .u64 b) :: .val (.int .u64 c) :: .val (.int .u64 d) :: r => match clsOf r with
    | some l => if (0 ≤ a ∧ a ≤ 18446744073709551615) ∧ (0 ≤ b ∧ b ≤ 18446744073709551615) ∧ (0 ≤ c ∧ c ≤ 18446744073709551615) ∧ (0 ≤ d ∧ d ≤ 18446744073709551615) then some ([a, b, c, d] :: l) else none
    | none => none
  | _ => none
theorem clsOf_eq : ∀ {l : List AV} {cls : List (List Int)}, clsOf l = some cls → l.length = 4 * cls.length ∧ (∀ c ∈ cls, clsOk c) ∧ ∀ y (h : y < cls.length), (l.drop (y * 4)).take 4 = Ucl cls[y]
  | [], cls, h => by simp only [clsOf, Option.some.injEq] at h; subst h; simp
  | .val (.int .u64 a) :: .val (.int .u64 b) :: .val (.int .u64 c) :: .val (.int .u64 d) :: r, cls, h => by
    simp only [clsOf] at h
    split at h
    · rename_i hl
      split at h
      · rename_i hb
        simp only [Option.some.injEq] at h
        subst h
        obtain ⟨h1, h2, h3⟩ := clsOf_eq hl
        refine ⟨by simp [h1]; omega, fun q hq => ?_, fun y hy => ?_⟩
        · rcases List.mem_cons.1 hq with rfl | hq
          · exact ⟨rfl, by simp; omega⟩
          · exact h2 q hq
        · cases y with
          | zero => rfl
          | succ y =>
            have e : (y + 1) * 4 = y * 4 + 4 := by omega
            rw [e]
            exact h3 y (by simpa using hy)
      · cases h
    · cases h
  | [_], _, h => by simp [clsOf] at h
  | [_, _], _, h => by simp [clsOf] at h
  | [_, _, _], _, h => by simp [clsOf] at h
def goChk (lk : Nat) (H : Heap) (K K2 m b : Nat) (cls : List (List Int)) (rows : List (List Nat)) (set : List Nat) : Bool :=
  Nat.beq K cls.length && Nat.beq K2 K && Nat.beq rows.length K && Nat.ble K 100000 && rows.all (fun r => Nat.ble r.length 100000 && r.all fun x => Nat.blt x K) && Nat.beq set.length m && Nat.ble m 100000 && set.all (fun x => Nat.blt x K) && Nat.ble b 255 && Nat.ble lk H.length
def goX (lk : Nat) (l : List AV) (H : Heap) : Option (AV × Heap) := match l with
  | [.agg [.sl K cl, .sl K2 nx, _], .sl m st, .val (.int .u8 (.ofNat b))] => match clsOf cl, rowsOf nx, natsOf st with
    | some cls, some rows, some set => if goChk lk H K K2 m b cls rows set = true then some (slv (outS [] 0 (hitS cls rows b (List.replicate cls.length false) set)), H) else none
    | _, _, _ => none
  | _ => none
theorem nbeq (a b : Nat) : (Nat.beq a b = true) = (a = b) := by simp [Nat.beq_eq]
theorem goX_ok (lk lim : Nat) (l : List AV) (H : Heap) (r : AV × Heap) (h : goX lk l H = some r) : callW X A lk lim 57 l H = some r := by
  unfold goX at h
  split at h
  case h_2 => cases h
  split at h
  case h_2 => cases h
  rename_i K cl K2 nx rul m st b _ _ _ cls rows set hcl hrows hset
  split at h
  case isFalse => cases h
  rename_i hchk
  simp only [goChk, Bool.and_eq_true, nbeq, Nat.ble_eq, List.all_eq_true, Nat.blt_eq] at hchk
  obtain ⟨⟨⟨⟨⟨⟨⟨⟨⟨rfl, rfl⟩, h3⟩, h4⟩, h5⟩, h6⟩, h7⟩, h8⟩, h9⟩, h10⟩ := hchk
  simp only [Option.some.injEq] at h
  subst h; subst h6
  obtain ⟨c1, c2, c3⟩ := clsOf_eq hcl
  obtain ⟨r1, r2⟩ := rowsOf_get hrows
  rw [natsOf_eq hset]
  refine go_code cls cl nx rul rows set b c2 (fun y hy => ⟨c3 y hy, by omega⟩) h4 (by omega) (fun i hi => ?_) h8 h10 h7 h9
  obtain ⟨v, hv, hs⟩ := r2 i (by omega)
  have hm := h5 rows[i] (List.getElem_mem (by omega))
  exact ⟨v, rows[i]'(by omega), hv, List.getElem?_eq_getElem _, hs, hm.1, hm.2⟩
end Go.Proofs.Ytdbbaopgmapmaaa
