import Derived.Test.YtdmaganalpamlaaGI
set_option linter.unusedSimpArgs false
set_option linter.unusedVariables false
namespace Go.Proofs.Ytdmaganalpamlaa
open Go Go.Hm

end Go.Proofs.Ytdmaganalpamlaa

namespace Go.Proofs.Ytdmaganalpamlaa
open Go Go.Hm

end Go.Proofs.Ytdmaganalpamlaa

namespace Go.Proofs.Ytdmaganalpamlaa
open Go Go.Hm

theorem hasV_drop {l : List (List UInt8)} {i : Nat} (hi : i < l.length) (x : List UInt8) : hasV (l.drop i) x = (x == l[i] || hasV (l.drop (i + 1)) x) := by
  rw [List.drop_eq_getElem_cons hi]
  rfl
set_option maxRecDepth 20000 in
theorem has2_code {lk lim : Nat} {H : Heap} {v : AV} {l : List (List UInt8)} (hv : RV v l) (x : List UInt8) (hl : l.length ≤ 1000000000) : callW X A lk lim 19 [v, Sg x] H = some (Bo (hasV l x), H) := by
  rcases hv with rfl | ⟨rfl, rfl⟩
  · refine wb_callB [] rfl A19 rfl rfl ?_
    unfold t19B
    generalize callW X A = C
    simp
    refine wb_loop (σ := Nat) (fun i => [(0, rowsV l), (1, Sg x), (5, I i)]) (fun _ => H) (fun i => i ≤ l.length ∧ hasV l x = hasV (l.drop i) x) (fun i => l.length - i) ?_ 0 ⟨Nat.zero_le _, rfl⟩ (by simp [restrict, find]) rfl
    rintro i ⟨hi, hinv⟩
    unfold t19L1
    rw [hinv]
    by_cases hil : i < l.length
    · have hil' : (i : Int) < l.length := by omega
      have w1 : IntKind.i64.wrap ((i : Int) + 1) = (i : Int) + 1 := wrap64 (by omega) (by omega)
      have ga := rowsB_getE hil
      rw [hasV_drop hil]
      have hinv2 := hasV_drop hil x
      generalize l[i] = y at *
      by_cases hxy : y = x
      · subst hxy
        simp [hil, hil', rowsB_len, ga, sg_eql]
      · have h1 : (y == x) = false := by simp [hxy]
        have h2 : (x == y) = false := by simp [Ne.symm hxy]
        rw [h2, Bool.false_or] at hinv2 ⊢
        simp [hil, hil', rowsB_len, ga, sg_eql, h1, w1, rnd_nrm]
        exact ⟨i + 1, ⟨by omega, rfl⟩, by omega, by omega⟩
    · obtain rfl : i = l.length := by omega
      rw [List.drop_length]
      simp [hasV]
  · refine wb_callB [] rfl A19 rfl rfl ?_
    unfold t19B
    generalize callW X A = C
    simp
    refine wb_loop (σ := Unit) (fun i => [(0, .e0), (1, Sg x), (5, I 0)]) (fun i => H) (fun i => True) (fun i => 0) ?_ () trivial (by simp [restrict, find]) (by simp)
    intro i _
    unfold t19L1
    simp [hasV]

end Go.Proofs.Ytdmaganalpamlaa
