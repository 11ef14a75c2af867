import Derived.Test.YtdbbaopgmapmaaaT
import Derived.Test.YtdbbaopgmapmaaaHmG10
set_option linter.unusedSimpArgs false
set_option linter.unusedVariables false
namespace Go.Proofs.Ytdbbaopgmapmaaa
open Go Go.Hm

def hasB (cs : List Int) (n : Nat) : Bool := (cs.getD (n / 64) 0).toNat / 2 ^ (n % 64) % 2 == 1

theorem bit_test (v : Int) (hv : 0 ≤ v) (hv2 : v ≤ 18446744073709551615) (k : Nat) (hk : k < 64) : (IntKind.u64.wrap ((((v.fdiv (2 ^ min k IntKind.u64.bits)) % 2 ^ IntKind.u64.bits).toNat &&& (1 % 2 ^ IntKind.u64.bits : Nat) : Nat) : Int) == 1) = (v.toNat / 2 ^ k % 2 == 1) := by
  obtain ⟨m, rfl⟩ : ∃ m : Nat, v = m := ⟨v.toNat, by omega⟩
  have e1 : min k IntKind.u64.bits = k := Nat.min_eq_left (Nat.le_of_lt hk)
  have e2 : ((m : Int).fdiv (2 ^ k)) = ((m / 2 ^ k : Nat) : Int) := by
    rw [Int.fdiv_eq_ediv_of_nonneg _ (by exact_mod_cast Nat.zero_le _)]
    norm_cast
  have e3 : m / 2 ^ k < 18446744073709551616 := Nat.lt_of_le_of_lt (Nat.div_le_self _ _) (by omega)
  rw [e1, e2]
  rw [Int.toNat_natCast]
  generalize m / 2 ^ k = q at e3 ⊢
  have e4 : ((q : Int) % 2 ^ IntKind.u64.bits).toNat = q := by
    show ((q : Int) % 18446744073709551616).toNat = q
    omega
  have e5 : (1 % 2 ^ IntKind.u64.bits : Nat) = 1 := by decide
  rw [e4, e5, Nat.and_one_is_mod]
  rw [wrapu64 (by omega) (by omega)]
  have : q % 2 = 0 ∨ q % 2 = 1 := by omega
  rcases this with h | h <;> simp [h]
theorem has_code {lk lim : Nat} {H : Heap} (a b c d : Int) (ha : 0 ≤ a ∧ a ≤ 18446744073709551615) (hb : 0 ≤ b ∧ b ≤ 18446744073709551615) (hc : 0 ≤ c ∧ c ≤ 18446744073709551615) (hd : 0 ≤ d ∧ d ≤ 18446744073709551615) (n : Nat) (hx : n ≤ 255) :
    callW X A lk lim 65 [.agg [.val (.int .u64 a), .val (.int .u64 b), .val (.int .u64 c), .val (.int .u64 d)], .val (.int .u8 n)] H = some (Bo (hasB [a, b, c, d] n), H) := by
  refine wb_callB [2] rfl A65 rfl rfl ?_
  unfold t65B
  have hh : hasB [a, b, c, d] n = (([a,b,c,d].getD (n / 64) 0).toNat / 2 ^ (n % 64) % 2 == 1) := rfl
  rw [hh]
  obtain ⟨r, hr⟩ : ∃ r, n % 64 = r := ⟨_, rfl⟩
  have h64 : r < 64 := by omega
  rw [hr]
  have h0 : ¬ ((r : Int) < 0) := by omega
  have e0 : IntKind.u8.wrap ((n : Int) / 64) = (n : Int) / 64 := wrapu8 (by omega) (by omega)
  have e1 : IntKind.u64.wrap ((n : Int).tmod 64) = (r : Int) := by
    rw [Int.tmod_eq_emod_of_nonneg (by omega), wrapu64 (by omega) (by omega)]; omega
  have f4 : (1 % 2 ^ IntKind.u64.bits : Nat) = 1 := by decide
  have f0 : IntKind.u8.wrap 0 = 0 := by decide
  have f1 : IntKind.u8.wrap 1 = 1 := by decide
  have f2 : IntKind.u8.wrap 2 = 2 := by decide
  have f3 : IntKind.u8.wrap 3 = 3 := by decide
  rcases (by omega : n / 64 = 0 ∨ n / 64 = 1 ∨ n / 64 = 2 ∨ n / 64 = 3) with h | h | h | h
  · have h' : (n : Int) / 64 = 0 := by omega
    have e3 := bit_test a ha.1 ha.2 r h64
    simp [f0, f1, f2, f3, e0, e1, h', h, h0, f4]
    simpa [f4] using e3
  · have h' : (n : Int) / 64 = 1 := by omega
    have e3 := bit_test b hb.1 hb.2 r h64
    simp [f0, f1, f2, f3, e0, e1, h', h, h0, f4]
    simpa [f4] using e3
  · have h' : (n : Int) / 64 = 2 := by omega
    have e3 := bit_test c hc.1 hc.2 r h64
    simp [f0, f1, f2, f3, e0, e1, h', h, h0, f4]
    simpa [f4] using e3
  · have h' : (n : Int) / 64 = 3 := by omega
    have e3 := bit_test d hd.1 hd.2 r h64
    simp [f0, f1, f2, f3, e0, e1, h', h, h0, f4]
    simpa [f4] using e3
end Go.Proofs.Ytdbbaopgmapmaaa
