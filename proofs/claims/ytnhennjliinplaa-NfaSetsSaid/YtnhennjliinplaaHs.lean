/- The document's Has is the program's. -/
import Derived.Test.YtnhennjliinplaaP
set_option linter.all false
namespace Go.Proofs.Ytnhennjliinplaa
open Go Go.Hm
theorem and_two (m r : Nat) : m &&& 2 ^ r = (m.testBit r).toNat * 2 ^ r:=by
 apply Nat.eq_of_testBit_eq
 intro i
 rw [Nat.testBit_and,Nat.testBit_two_pow]
 by_cases h : r = i
 ·subst h
  cases hb : m.testBit r
  ·simp
  ·simp [Nat.testBit_two_pow]
 ·rw [decide_eq_false h,Bool.and_false]
  cases m.testBit r
  ·simp
  ·simp [Nat.testBit_two_pow,h]
theorem bit_eq (a : Int) (r : Nat) (hr : r < 64) :
  (IntKind.u64.wrap (((a.fdiv (2 ^ min (IntKind.u64.wrap (r : Int)).toNat IntKind.u64.bits) % 2 ^ IntKind.u64.bits).toNat &&& 1 % 2 ^ IntKind.u64.bits : Nat) : Int) == 1)
   = (IntKind.u64.wrap (((a % 2 ^ IntKind.u64.bits).toNat &&& (IntKind.u64.wrap (2 ^ min r IntKind.u64.bits) % 2 ^ IntKind.u64.bits).toNat : Nat) : Int) != 0):=by
 have hb : IntKind.u64.bits = 64:=rfl
 have hw : IntKind.u64.wrap (r : Int) = r:=wrapu64 (by omega) (by omega)
 have hmin : min r 64 = r:=by omega
 rw [hb,hw,Int.toNat_natCast,hmin]
 have hp : (2 : Nat) ^ r < 2 ^ 64:=Nat.pow_lt_pow_right (by omega) hr
 have hpi : ((2 : Int) ^ r) = ((2 ^ r : Nat) : Int):=by simp
 have hpp : 0 < (2 : Nat) ^ r:=Nat.pow_pos (by omega)
 have hw2 : IntKind.u64.wrap (2 ^ r) = 2 ^ r:=wrapu64 (by rw [hpi];omega) (by rw [hpi];omega)
 have hm2 : ((2 : Int) ^ r % 2 ^ 64).toNat = 2 ^ r:=by rw [hpi];omega
 have h1 : 1 % 2 ^ 64 = 1:=by decide
 rw [hw2,hm2,h1,Nat.and_one_is_mod,and_two]
 obtain ⟨m,hm⟩ : ∃ m : Nat,a % 2 ^ 64 = m:=⟨(a % 2 ^ 64).toNat,by omega⟩
 have hml : m < 2 ^ 64:=by omega
 have hdiv : (a.fdiv (2 ^ r) % 2 ^ 64).toNat % 2 = m / 2 ^ r % 2:=by
  rw [Int.fdiv_eq_ediv_of_nonneg _ (by rw [hpi];omega)]
  obtain ⟨q,hq⟩ : ∃ q,a = 2 ^ 64 * q + m:=⟨a / 2 ^ 64,by have:=Int.mul_ediv_add_emod a (2 ^ 64);omega⟩
  obtain ⟨s,hs⟩ : ∃ s,64 = r + (s + 1):=⟨63 - r,by omega⟩
  have h64 : (2 : Int) ^ 64 = 2 ^ r * (2 * 2 ^ s):=by
   have : (2 : Int) ^ 64 = 2 ^ (r + (s + 1)):=by rw [← hs]
   rw [this,Int.pow_add,Int.pow_succ,Int.mul_comm (2 ^ s) 2]
  have hr0 : (2 : Int) ^ r ≠ 0:=by rw [hpi];omega
  have e : a / 2 ^ r = 2 * (2 ^ s * q) + ((m / 2 ^ r : Nat) : Int):=by
   rw [hq]
   have : (2 : Int) ^ 64 * q + m = m + 2 ^ r * (2 * (2 ^ s * q)):=by
    have h2 : (2 : Int) ^ 64 * q = 2 ^ r * (2 * (2 ^ s * q)):=by
     conv => lhs;rw [h64]
     simp only [Int.mul_assoc]
    rw [h2,Int.add_comm]
   rw [this,Int.add_mul_ediv_left _ _ hr0,hpi]
   omega
  generalize a / 2 ^ r = x at e
  generalize 2 ^ s * q = y at e
  omega
 rw [hdiv,hm,Int.toNat_natCast]
 have hbit : (m.testBit r).toNat = m / 2 ^ r % 2:=by
  rw [Nat.testBit_eq_decide_div_mod_eq]
  by_cases h : m / 2 ^ r % 2 = 1
  ·rw [h];rfl
  ·have : m / 2 ^ r % 2 = 0:=by omega
   rw [this];rfl
 rw [hbit]
 rcases (by omega : m / 2 ^ r % 2 = 0 ∨ m / 2 ^ r % 2 = 1) with h | h
 ·rw [h,Nat.zero_mul];rfl
 ·rw [h,Nat.one_mul]
  have e1 : IntKind.u64.wrap ((1 : Nat) : Int) = 1:=by decide
  have e2 : IntKind.u64.wrap ((2 ^ r : Nat) : Int) = ((2 ^ r : Nat) : Int):=wrapu64 (by omega) (by omega)
  rw [e1,e2]
  have : ((2 ^ r : Nat) : Int) ≠ 0:=by omega
  simp
  omega
theorem has19 {a b c d : Int} {n : Nat} (hx : n ≤ 255) {lk lim : Nat} {H : Heap} :
  callW X A lk lim 19 [.agg [U a,U b,U c,U d],.val (.int .u8 n)] H = some (Bo (hasC [U a,U b,U c,U d] n),H):=by
 have hX : X lk lim 19 [.agg [U a,U b,U c,U d],.val (.int .u8 n)] H = none:=noX1 (by decide) (by decide) (by decide)
 refine wb_callB [2] hX A19 rfl rfl ?_
 unfold t19B
 generalize callW X A = C
 obtain ⟨r,hr⟩ : ∃ r,n % 64 = r:=⟨_,rfl⟩
 have h64 : r < 64:=by omega
 obtain ⟨t,ht⟩ : ∃ t,hasC [U a,U b,U c,U d] n = t:=⟨_,rfl⟩
 rw [ht]
 unfold hasC at ht
 rw [hr] at ht
 have h0 : ¬ ((r : Int) < 0):=by omega
 have e0 : IntKind.u8.wrap ((n : Int) / 64) = ((n / 64 : Nat) : Int):=by
  rw [wrapu8 (by omega) (by omega)];omega
 have e1 : (n : Int).tmod 64 = (r : Int):=by
  rw [Int.tmod_eq_emod_of_nonneg (by omega)];omega
 have hw : ¬ (IntKind.u64.wrap (r : Int) < 0):=by rw [wrapu64 (by omega) (by omega)];omega
 have f0 : IntKind.u8.wrap 0 = 0:=by decide
 have f1 : IntKind.u8.wrap 1 = 1:=by decide
 have f2 : IntKind.u8.wrap 2 = 2:=by decide
 have f3 : IntKind.u8.wrap 3 = 3:=by decide
 have ba:=bit_eq a r h64
 have bb:=bit_eq b r h64
 have bc:=bit_eq c r h64
 have bd:=bit_eq d r h64
 rcases (by omega : n / 64 = 0 ∨ n / 64 = 1 ∨ n / 64 = 2 ∨ n / 64 = 3) with h | h | h | h
 all_goals
  rw [h] at e0 ht
  simp only [List.getElem?_cons_zero,List.getElem?_cons_succ] at ht
 ·rw [← ba] at ht
  simp [-Nat.and_one_is_mod,f0,f1,f2,f3,e0,e1,h0,hw]
  simpa using ht
 ·rw [← bb] at ht
  simp [-Nat.and_one_is_mod,f0,f1,f2,f3,e0,e1,h0,hw]
  simpa using ht
 ·rw [← bc] at ht
  simp [-Nat.and_one_is_mod,f0,f1,f2,f3,e0,e1,h0,hw]
  simpa using ht
 ·rw [← bd] at ht
  simp [-Nat.and_one_is_mod,f0,f1,f2,f3,e0,e1,h0,hw]
  simpa using ht
end Go.Proofs.Ytnhennjliinplaa
