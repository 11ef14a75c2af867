import Derived.Test.YtmehaecclidfjaaSn1
set_option linter.unusedSimpArgs false
set_option linter.unusedVariables false
namespace Go.Proofs.Ytmehaecclidfjaa
open Go Go.Hm

/-- What holds between two rounds of PieceSnap's range. -/
structure Rg4 (b p7 p10 p12 p13 e : Nat) (was : List UInt8) (l : List (List UInt8)) (i : Nat) (h : Heap) : Prop where
  tg : ∃ s, TG h b s (3600 + 4 * i) [0, 1, p7, p10, p12, p13]
  c0 : h[0]? = some (.cells [I e])
  c1 : h[1]? = some (.cells [Bo false])
  c7 : h[p7]? = some (.cells [.hp b 4 0])
  c10 : h[p10]? = some (.cells [Sg was])
  c12 : h[p12]? = some (.cells [Sg (l.take i).flatten])
  c13 : h[p13]? = some (.cells [I i])

theorem take_pre (l : List (List UInt8)) (i : Nat) : l.flatten.take (l.take i).flatten.length = (l.take i).flatten := by
  conv => lhs; rw [← List.take_append_drop i l]
  rw [List.flatten_append]
  have : (l.take i).take i = l.take i := by rw [List.take_take, Nat.min_self]
  simp

def rgBody : AC → AC
  | .seq (.seq _ (.block _ (.rangeF _ _ _ _ _ b))) _ => b
  | c => c

set_option maxRecDepth 20000 in
theorem round4 {S : Cx} {Q : Ex → Kt} {H : Heap} {b p7 p10 p12 p13 e i : Nat} {was y : List UInt8} {l : List (List UInt8)} (hC : S.C = C2) (hlk : S.lk = 0) (hlm : S.lim = 0) (hB : S.B = [])
    (hp : 1 < p7 ∧ p7 < p10 ∧ p10 < p12 ∧ p12 < p13) (hw : l.flatten = was) (hwl : was.length ≤ 65536) (hl : l.length ≤ 65536) (hy : l[i]? = some y) (hr : Rg4 b p7 p10 p12 p13 e was l i H)
    (h1 : ∀ env', i = e → Q (.exit 2) env' H) (h2 : ∀ env' H', Rg4 b p7 p10 p12 p13 e was l (i + 1) H' → Q .nrm env' H') :
    WB S (rgBody (srN 11 u4B)) Q [(5, .hp 0 1 0), (6, .hp 1 1 0), (7, .hp p7 1 0), (10, .hp p10 1 0), (12, .hp p12 1 0), (13, .hp p13 1 0), (14, Sg y)] H := by
  obtain ⟨C, lk, lim, B⟩ := S
  dsimp only at hC hlk hlm hB
  subst hC hlk hlm hB
  obtain ⟨⟨s, tg⟩, c0, c1, c7, c10, c12, c13⟩ := hr
  have hil := (List.getElem?_eq_some_iff.1 hy).1
  have hx1 : (List.take (i + 1) l).flatten = (List.take i l).flatten ++ y := by
    rw [List.take_add_one, hy]
    simp
  have hpre := take_pre l (i + 1)
  have hx2 : (List.take (i + 1) l).flatten.length ≤ was.length := by
    have := congrArg List.length hpre
    rw [List.length_take, hw] at this
    omega
  unfold u4B
  simp only [srN, sr, rgBody]
  rw [wb_block, wb_seq, wb_seq, wb_regN]
  by_cases hie : i = e
  · subst hie
    simp [-wb_regN, -wb_true, -wb_false, -wi_st, c0, c13]
    rw [wb_true rfl, wb_exit]
    simp [fol_exit, blk_exit]
    exact h1 _ rfl
  · have hie' : ((i : Int) == (e : Int)) = false := by simpa using (by omega : ¬ (i : Int) = (e : Int))
    simp [-wb_regN, -wb_true, -wb_false, -wi_st, c0, c13, hie']
    rw [wb_false rfl]
    simp [-wb_regN, -wb_regD, -wb_true, -wb_false, -wi_st]
    rw [wb_regN]
    have e4 := sg_add (a := (List.take i l).flatten) (b := y) (by rw [hx1, List.length_append] at hx2; omega)
    simp [-wb_regN, -wb_regD, -wb_true, -wb_false, -wi_st, c12, e4]
    rw [wi_st]
    simp [-wb_regN, -wb_regD, -wb_true, -wb_false, -wi_st, c12, setH, replaceAt]
    have hlt : ∀ k ∈ [0, 1, p7, p10, p12, p13], k < H.length := by
      obtain ⟨_, _, _, _, _, _, _, _, h⟩ := tg
      exact fun k hk => (h k hk).1
    have b12 := hlt p12 (by simp)
    have b13 := hlt p13 (by simp)
    rw [wb_regN]
    have w1 : IntKind.i64.wrap ((i : Int) + 1) = (i : Int) + 1 := wrap64 (by omega) (by omega)
    have d13 : (H.set p12 (.cells [Sg ((List.take i l).flatten ++ y)]))[p13]? = some (.cells [I i]) := by rw [List.getElem?_set_ne (by omega)]; exact c13
    simp [-wb_regN, -wb_regD, -wb_true, -wb_false, -wi_st, d13, w1]
    rw [wi_st]
    simp [-wb_regN, -wb_regD, -wb_true, -wb_false, -wi_st, d13, setH, replaceAt]
    have tg2 := (tg.set (k := p12) (by simp) (.cells [Sg ((List.take i l).flatten ++ y)])).set (k := p13) (by simp) (.cells [I ((i : Int) + 1)])
    have f0 : ((H.set p12 (.cells [Sg ((List.take i l).flatten ++ y)])).set p13 (.cells [I ((i : Int) + 1)]))[0]? = some (.cells [I e]) := by rw [List.getElem?_set_ne (by omega), List.getElem?_set_ne (by omega)]; exact c0
    have f1 : ((H.set p12 (.cells [Sg ((List.take i l).flatten ++ y)])).set p13 (.cells [I ((i : Int) + 1)]))[1]? = some (.cells [Bo false]) := by rw [List.getElem?_set_ne (by omega), List.getElem?_set_ne (by omega)]; exact c1
    have f7 : ((H.set p12 (.cells [Sg ((List.take i l).flatten ++ y)])).set p13 (.cells [I ((i : Int) + 1)]))[p7]? = some (.cells [.hp b 4 0]) := by rw [List.getElem?_set_ne (by omega), List.getElem?_set_ne (by omega)]; exact c7
    have f10 : ((H.set p12 (.cells [Sg ((List.take i l).flatten ++ y)])).set p13 (.cells [I ((i : Int) + 1)]))[p10]? = some (.cells [Sg was]) := by rw [List.getElem?_set_ne (by omega), List.getElem?_set_ne (by omega)]; exact c10
    have f12 : ((H.set p12 (.cells [Sg ((List.take i l).flatten ++ y)])).set p13 (.cells [I ((i : Int) + 1)]))[p12]? = some (.cells [Sg ((List.take i l).flatten ++ y)]) := by rw [List.getElem?_set_ne (by omega)]; simp [b12]
    have f13 : ((H.set p12 (.cells [Sg ((List.take i l).flatten ++ y)])).set p13 (.cells [I ((i : Int) + 1)]))[p13]? = some (.cells [I ((i : Int) + 1)]) := by simp [b13]
    show WB _ _ _ _ ((H.set p12 (.cells [Sg ((List.take i l).flatten ++ y)])).set p13 (.cells [I ((i : Int) + 1)]))
    generalize (H.set p12 (.cells [Sg ((List.take i l).flatten ++ y)])).set p13 (.cells [I ((i : Int) + 1)]) = H2 at tg2 f0 f1 f7 f10 f12 f13 ⊢
    have k17 := fun lk lim => up (lk := lk) (lim := lim) (f := 17) rfl (tx_len (lk := lk) (lim := lim) tg2.tx)
    obtain ⟨H3, k12, tg3, hlen3, kp3⟩ := tg_edit (a := 0) (d := (if (s.length : Int) < 2 then (s.length : Int) else 2)) (x := [109, 111, 114, 101]) tg2 (by simp; omega)
    have k12 : C2 0 0 12 [.hp b 4 0, I 0, I ((if (s.length : Int) < 2 then (s.length : Int) else 2)), .val (.string ⟨#[109, 111, 114, 101]⟩)] H2 = _ := up rfl k12
    have g10 := (kp3 p10 (by simp)).trans f10
    have g12 := (kp3 p12 (by simp)).trans f12
    generalize C2 = C at k12 k17 ⊢
    rw [wb_regD rfl]
    have hmm : mmFold false [I s.length] IntKind.i64 2 = some (IntKind.i64, if (s.length : Int) < 2 then (s.length : Int) else 2) := rfl
    have hbl : b < H2.length := by
      obtain ⟨_, _, _, _, ht, _⟩ := tg2
      exact (tb_lt ht).1
    simp [-wb_regN, -wb_regD, -wb_true, -wb_false, -wi_st, f7, k17, hmm, hbl]
    rw [k12]
    simp [-wb_regN, -wb_regD, -wb_true, -wb_false, -wi_st]
    rw [wb_regN]
    have hgt : ¬ ((was.length : Int) < (((List.take i l).flatten ++ y).length : Int)) := by rw [← hx1]; omega
    simp [-wb_regN, -wb_regD, -wb_true, -wb_false, -wi_st, g10, g12, Sg_size, hgt, -List.length_append]
    rw [wb_false rfl]
    simp [-wb_regN, -wb_regD, -wb_true, -wb_false, -wi_st]
    refine h2 _ _ ⟨⟨_, tg3.mono (by simp; omega)⟩, ?_, ?_, ?_, g10, ?_, ?_⟩
    · exact (kp3 0 (by simp)).trans f0
    · exact (kp3 1 (by simp)).trans f1
    · exact (kp3 p7 (by simp)).trans f7
    · rw [hx1]; exact g12
    · rw [kp3 p13 (by simp), f13]; simp
end Go.Proofs.Ytmehaecclidfjaa
