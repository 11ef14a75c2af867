/- NFAGOES. -/
import Derived.Test.YtnhennjliinplaaXb
import Derived.Test.YtnhennjliinplaaM
set_option linter.all false
namespace Go.Proofs.Ytnhennjliinplaa
open Go Go.Hm
theorem le_sumN : ∀ {l : List Nat} {x : Nat},x ∈ l → x ≤ l.sum
 | [],_,h => nomatch h
 | y :: l,x,h => by
  rw [List.sum_cons]
  rcases List.mem_cons.1 h with rfl | h
  ·omega
  ·have:=le_sumN h;omega
theorem light_get {m : Nat} {N : Nf} (h : lightN m N = true) : N.k ≤ m ∧ N.nx.length ≤ m ∧ N.rl.length ≤ m ∧ ∀ l ∈ N.nx,l.length ≤ m * m:=by
 unfold lightN at h
 simp only [Bool.and_eq_true,decide_eq_true_eq] at h
 obtain ⟨h1,h2,h3,h4⟩:=h
 refine ⟨h1,h2,h3,fun l hl => Nat.le_trans ?_ h4⟩
 unfold totN smN
 rw [List.take_of_length_le (by omega)]
 exact le_sumN (List.mem_map_of_mem hl)
def g5 : AC:=(.seq (.regN [1,2] [
 kP 9 2 3 2,kx 10 (.call 16 [(ux 9),(.con (.val (.int .i64 40)))]),kx 11 (.not (ux 10)),kM 12 11,zM 13 12 1,kz 14 12 (.len true (ux 13)),kz 15 12 (.bini .gtr (ux 14) (.con (.val (.int .i64 40)))),kO 16 12 15,kM 17 16,kz 18 17 (.ldA (some 2) 3 (ux 2)),kz 19 17 (.call 14 [.tmp 18]),kz 20 17 (.bini .neq (ux 19) c0),kO 21 17 20])
 (.cond (ux 21)
 (.seq (.regN [] [
 kx 4 (.mv cT)])
 .ret)
 .skip))
def x5 : AC:=(.seq (.regD [1,2,5,6] 0 [
 kP 29 2 3 2,kM 30 1,kM 31 6,kx 32 (.slS (ux 30) none (some (ux 31))),kf 33 (.call 15 [(ux 29),(ux 32)]),kP 34 2 3 2,kM 35 5,kf 36 (.call 20 [(ux 34),(ux 35)]),kx 37 (.bini .neq (ux 33) (ux 36))])
 (.cond (ux 37)
 (.seq (.regN [] [
 kx 4 (.mv cF)])
 .ret)
 .skip))
def r5 : AC:=(.seq (.regD [1,2,5] 0 [
 kP 44 2 3 2,kM 45 1,kf 46 (.call 15 [(ux 44),(ux 45)]),kP 47 2 3 2,kM 48 5,kf 49 (.call 20 [(ux 47),(ux 48)]),kx 50 (.bini .eql (ux 46) (ux 49)),kM 51 50,yM 52 51 5,yN 53 51 52,ky 54 51 (.bini .gtr (ux 53) c0),yM 55 51 54,kz 56 55 (.ldA (some 2) 3 (ux 2)),zM 57 55 1,kz 58 55 (.bins .add (ux 57) (.con (.val (.string ⟨#[97]⟩)))),⟨some 59,some (55,false),.call 15 [(ux 56),(ux 58)],0,true⟩,kz 60 55 (.bini .eql (ux 59) (.con (.val (.int .i64 (-1))))),ky 61 51 (.pick (ux 55) cT (ux 60)),kx 62 (.pick (ux 51) (ux 61) cF),kM 4 62])
 .ret)
def s5 : AC:=.seq (.regN [1,2] [kx 22 (.buildS 1 [(.val (.int .i64 0))] [(0,1,c0)]),kM 5 22]) (.seq (.seq (.regN [1,2,5] [kZ 6]) (.block 0 (.loop [1,2,5,6] t5L1))) r5)
theorem e5 : t5B = .seq (.regN [0,1] [kB 2 3 0,kx 4 (.mv cF)]) (.seq (.seq (.regN [1,2] [kx 7 (.call 8 []),kx 8 (.not (ux 7))]) (.cond (ux 8) (.seq (.regN [] [kx 4 (.mv cF)]) .ret) .skip)) (.seq g5 s5)):=rfl
section
variable {C : Orc} {Q : Ex → Kt} {E : Env} {N : Nf} {cv nv rv : AV} {vs : List AV} {s : List UInt8} {set : List Int} {i : Nat}
end
end Go.Proofs.Ytnhennjliinplaa
