import Derived.Test.YtmehaecclidfjaaK
import Derived.Test.YtmehaecclidfjaaI2
set_option linter.unusedSimpArgs false
set_option linter.unusedVariables false
namespace Go.Proofs.Ytmehaecclidfjaa
open Go Go.Hm

def sr : AC → AC
  | .seq _ b => b
  | c => c
theorem sliceV_ex (s : List UInt8) (a b : Int) : ∃ g e, sliceV s a b = .tup [Sg g, I e] := by
  unfold sliceV
  split
  · exact ⟨_, _, rfl⟩
  · exact ⟨_, _, rfl⟩
theorem editV_ne {s : List UInt8} {a d : Int} {x : List UInt8} (h : ¬ editE s a d x = 0) : editV s a d x = s := by
  unfold editV
  rw [if_neg h]
/-- An edit and its opposite. -/
theorem edit_back {s : List UInt8} {a d : Nat} {x : List UInt8} (h : a + d ≤ s.length) (hs : s.length ≤ 65536) (h2 : s.length - d + x.length ≤ 65536) :
    editE (s.take a ++ x ++ s.drop (a + d)) a x.length ((s.take (a + d)).drop a) = 0 ∧ editV (s.take a ++ x ++ s.drop (a + d)) a x.length ((s.take (a + d)).drop a) = s := by
  have e1 : (s.take a).length = a := by rw [List.length_take]; omega
  have e2 : ((s.take (a + d)).drop a).length = d := by rw [List.length_drop, List.length_take]; omega
  have e3 : (s.take a ++ x ++ s.drop (a + d)).length = a + x.length + (s.length - (a + d)) := by simp only [List.length_append, List.length_drop, e1]
  obtain ⟨f1, f2⟩ := edit_pos (s := s.take a ++ x ++ s.drop (a + d)) (a := a) (d := x.length) (x := (s.take (a + d)).drop a) (by omega) (by rw [e2, e3]; omega)
  refine ⟨f1, ?_⟩
  rw [f2]
  have e4 : (s.take a ++ x ++ s.drop (a + d)).take a = s.take a := by
    rw [List.append_assoc, List.take_append_of_le_length (by omega)]
    rw [List.take_take, Nat.min_self]
  have e5 : (s.take a ++ x ++ s.drop (a + d)).drop (a + x.length) = s.drop (a + d) := by
    rw [List.drop_append_of_le_length (by rw [List.length_append]; omega)]
    rw [List.drop_of_length_le (by rw [List.length_append]; omega)]
    rfl
  rw [e4, e5]
  have e6 : s.take a ++ (s.take (a + d)).drop a = s.take (a + d) := by
    have := List.take_append_drop a (s.take (a + d))
    rwa [List.take_take, Nat.min_eq_left (by omega)] at this
  rw [e6, List.take_append_drop]
@[simp] theorem mm_20 (d : Int) : mmFold false [AV.val (Value.int IntKind.i64 1048576)] IntKind.i64 d = some (IntKind.i64, if 1048576 < d then 1048576 else d) := rfl
set_option maxRecDepth 20000 in
theorem rest4 {S : Cx} {Q : Ex → Kt} {env : Env} {H : Heap} {b : Nat} {s : List UInt8} {x : Ac} (hC : S.C = callW X A) (hlk : S.lk = 0) (hlm : S.lim = 0) (hB : S.B = [5]) (hx : x.s.length ≤ 60) (h : TX H b s 3600)
    (hE : restrict [5, 7] env = [(5, .box x.cells), (7, .hp b 4 0)])
    (hQ : ∀ env' H', find env' 6 = Bo true → Q .ret env' H') : WB S (sr (sr (sr (sr (sr (sr t3B)))))) Q env H := by
  obtain ⟨C, lk, lim, B⟩ := S
  dsimp only at hC hlk hlm hB
  subst hC hlk hlm hB
  unfold t3B
  simp only [sr]
  have k1 := fun lk lim => tx_text (lk := lk) (lim := lim) h (by omega)
  by_cases hok : editE s x.a x.d x.s = 0
  · obtain ⟨h1, h2, h3, h4, h5⟩ := editE_zero hok
    obtain ⟨xk, xa, xd, xs⟩ := x
    dsimp only at *
    obtain ⟨a, rfl⟩ : ∃ n : Nat, xa = n := ⟨xa.toNat, by omega⟩
    obtain ⟨d, rfl⟩ : ∃ n : Nat, xd = n := ⟨xd.toNat, by omega⟩
    have hs := h.1
    have had : a + d ≤ s.length := by omega
    obtain ⟨e1, e2⟩ := edit_pos (s := s) (a := a) (d := d) (x := xs) had (by omega)
    obtain ⟨e3, e4⟩ := edit_back (s := s) (a := a) (d := d) (x := xs) had (by omega) (by omega)
    obtain ⟨H', k2, h'⟩ := tx_edit (a := a) (d := d) (x := xs) h (by omega)
    rw [e1] at k2
    rw [e2] at h'
    obtain ⟨H2, k5, h2'⟩ := tx_edit (a := a) (d := xs.length) (x := (s.take (a + d)).drop a) h' (by rw [List.length_drop, List.length_take]; omega)
    rw [e3] at k5
    rw [e4] at h2'
    have k3 := fun lk lim => tx_text (lk := lk) (lim := lim) h' (by omega)
    have k6 := fun lk lim => tx_text (lk := lk) (lim := lim) h2' (by rw [List.length_drop, List.length_take]; omega)
    have k4 := fun y lk lim => tx_slice (lk := lk) (lim := lim) (x := (a : Int)) (y := y) h (by omega)
    generalize callW X A = C at k1 k2 k3 k4 k5 k6 ⊢
    simp [-wb_regN, -wb_regD]
    rw [wb_regN, hE]
    simp [-wb_regN, -wb_regD, k1]
    have w1 : IntKind.i64.wrap ((a : Int) + d) = ((a + d : Nat) : Int) := by rw [wrap64 (by omega) (by omega)]; omega
    have hd0 : ¬ (1048576 : Int) < d := by omega
    have hsl : sliceV s a ((a + d : Nat) : Int) = .tup [Sg ((s.take (a + d)).drop a), I 0] := by
      unfold sliceV
      rw [if_pos ⟨by omega, by omega, by omega⟩]
      rfl
    rw [wb_regN]
    simp [-wb_regN, -wb_regD, Ac.cells, hd0, -Int.natCast_add, w1]
    rw [k4 _ 0 0 (by omega), hsl]
    simp [-wb_regN, -wb_regD]
    have had' : ¬ (s.length : Int) < a := by omega
    have had2 : ¬ (s.length : Int) - a < d := by omega
    have na : ¬ (a : Int) < 0 := by omega
    have nd : ¬ (d : Int) < 0 := by omega
    have ha : a ≤ s.length := by omega
    have had3 : ¬ s.length < a := by omega
    have had4 : ¬ s.length < a + d := by omega
    have w2 : IntKind.i64.wrap ((s.length : Int) - a) = (s.length : Int) - a := wrap64 (by omega) (by omega)
    have l1 : (s.take a).length + xs.length ≤ 1000000000000000 := by rw [List.length_take]; omega
    have l2 : (s.take a ++ xs).length + (s.drop (a + d)).length ≤ 1000000000000000 := by rw [List.length_append, List.length_take, List.length_drop]; omega
    have l3 : ((s.take (a + d)).drop a).length = d := by rw [List.length_drop, List.length_take]; omega
    generalize hs2 : s.take a ++ xs ++ s.drop (a + d) = s2 at *
    generalize hg : (s.take (a + d)).drop a = g at *
    rw [wb_regN]
    simp [-wb_regN, -wb_regD, -wb_true, -wb_false, k2]
    rw [wb_false rfl, wb_skip, fol_nrm, wb_seq, wb_regN]
    simp [-wb_regN, -wb_regD, k3]
    rw [wb_regN]
    simp [-wb_regN, -wb_regD, -wr_cons, -wr_nil]
    iterate 25 (rw [wr_cons]; simp [-wr_cons, -wr_nil, -wb_regD, na, nd, had', had2, had3, had4, w2, Sg_size])
    rw [wr_nil]
    simp [-wb_regN, -wb_regD]
    rw [wb_regD rfl]
    simp [-wb_regN, -wb_regD, -wrd_cons, -wrd_nil]
    iterate 24 (rw [wrd_cons]; simp [-wrd_cons, -wrd_nil, -wb_regN, w1, -Int.natCast_add, Sg_ext, Sg_size, bnd, sg_add l1, sg_add l2, sg_neq, hs2, l3, na, had3, had4, had', ha, had])
    rw [wrd_nil]
    simp [-wb_regN]
    rw [wb_regN]
    simp [-wb_regN, k5, Sg_size]
    rw [wb_regN]
    simp [-wb_regN, k6, sg_eql]
    exact hQ _ _ rfl
  · obtain ⟨H', k2, h'⟩ := tx_edit (a := x.a) (d := x.d) (x := x.s) h (by omega)
    rw [editV_ne hok] at h'
    have k3 := fun lk lim => tx_text (lk := lk) (lim := lim) h' (by omega)
    have k4 := fun y lk lim => tx_slice (lk := lk) (lim := lim) (x := x.a) (y := y) h (by omega)
    generalize callW X A = C at k1 k2 k3 k4 ⊢
    simp [-wb_regN, -wb_regD]
    rw [wb_regN, hE]
    simp [-wb_regN, -wb_regD, k1]
    rw [wb_regN]
    simp [-wb_regN, -wb_regD, Ac.cells]
    rw [k4 _ 0 0 (by omega)]
    obtain ⟨g, e, hge⟩ := sliceV_ex s x.a (IntKind.i64.wrap (x.a + if 1048576 < x.d then 1048576 else x.d))
    rw [hge]
    simp [-wb_regN, -wb_regD]
    rw [wb_regN]
    simp [-wb_regN, -wb_regD, k2, hok]
    rw [wb_regN]
    simp [-wb_regN, -wb_regD, k3, sg_eql]
    exact hQ _ _ rfl
end Go.Proofs.Ytmehaecclidfjaa
