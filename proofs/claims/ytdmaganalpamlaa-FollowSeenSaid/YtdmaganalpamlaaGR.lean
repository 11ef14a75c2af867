import Derived.Test.YtdmaganalpamlaaGQ
set_option linter.unusedSimpArgs false
set_option linter.unusedVariables false
namespace Go.Proofs.Ytdmaganalpamlaa
open Go Go.Hm

def t4E : AC := seqD 9 t4B
theorem fin4 {H G : Heap} {S : List AV} {e : Env} (h : find e 6 = .val (.bool true)) : FinT [.tmp 6] true H (Bo true, H) .ret e (FH H S G) := by
  have : FinT [.tmp 6] true H (Bo true, H) .ret e (FH H S G) = (finish ⟨0, .skip, [.tmp 6], true⟩ H (some (.ret, e, FH H S G)) = some (Bo true, H)) := rfl
  rw [this]
  simp [finish, h, FH_take]
set_option maxRecDepth 20000 in
set_option maxHeartbeats 2000000 in
theorem d4E {C : Orc} {lk : Nat} {H G : Heap} {S : List AV} (hlk : lk ≤ H.length) {g : Gm} (hg : GOk g) {n : Nat} (hn : g.n = (n : Int)) {Sc : List AV} (hSc : SC Sc (folM g)) {se fr ta : Int} {o : List UInt8} (ho : o.length ≤ 100000)
    (hph : Ph g 0 (fun a => (([] : List Int).take a).reverse) [] o se fr ta) {E : Env}
    (k19 : ∀ (L : Nat) (G : Heap) (v : AV) (l : List (List UInt8)) (x : List UInt8), RV v l → l.length ≤ 1000000000 → C lk L 19 [v, Sg x] G = some (Bo (hasV l x), G))
    (hE : restrict [3, 7, 9, 10, 11, 12] E = [(3, .box g.cells), (7, .sl n Sc), (9, Sg o), (10, I se), (11, I fr), (12, I ta)]) :
    WB ⟨C, lk, H.length, [3, 17]⟩ t4E (FinT [.tmp 6] true H (Bo true, H)) E (FH H S G) := by
  unfold t4E t4B
  simp only [seqD]
  rw [wb_seq, wb_seq, wb_regN, hE]
  have hfo := fol_ok hg
  have hcl : (g.cells).length = 4 := rfl
  have hc2 : ∀ h : 2 < g.cells.length, (g.cells)[2] = I g.k := fun _ => rfl
  by_cases hse : se < 0
  · simp [-wb_true, -wb_false, -wb_regN, hse]
    rw [wb_true rfl]
    simp [-finT_ret]
    refine fin4 ?_
    simp [find]
  have main : ∀ (s f : Nat) (E : Env), se = s → (s : Int) < g.n → f ≤ o.length → (o.drop f ++ [255]).take g.k.toNat ∈ (folM g).getD s [] → restrict [3, 7, 9, 10, 11] E = [(3, .box g.cells), (7, .sl n Sc), (9, Sg o), (10, I se), (11, I f)] →
      WB ⟨C, lk, H.length, [3, 17]⟩ (seqD 11 t4B) (FinT [.tmp 6] true H (Bo true, H)) E (FH H S G) := by
    intro s f E hs hsn hf hmem hE
    subst hs
    unfold t4B
    simp only [seqD]
    have hsc : s < Sc.length := by rw [hSc.1, hfo.len]; omega
    obtain ⟨v, hv, hrv⟩ := hSc.get (j := s) (by rw [← hSc.1]; exact hsc)
    have hvE : ∀ h, Sc[s]'h = v := fun h => by rw [List.getElem?_eq_getElem h] at hv; simpa using hv
    have hsz := (hfo.get s).size hg
    generalize (folM g).getD s [] = l at hrv hsz hmem
    have hv2 : v = rowsV l := hrv.resolve_right fun h => by rw [h.2] at hmem; cases hmem
    subst hv2
    have hk1 := hg.k1
    have hk2 := hg.k2
    obtain ⟨k, hk⟩ : ∃ k : Nat, g.k = (k : Int) := Int.eq_ofNat_of_zero_le (by omega)
    rw [hk, Int.toNat_natCast] at hmem
    have hrow : (o.drop f ++ [255]).length = o.length - f + 1 := by simp
    have k19' := fun L G => k19 L G (rowsV l) l ((o.drop f ++ [255]).take k) (.inl rfl) (by omega)
    rw [hasV_iff.2 hmem] at k19'
    have hadd := sg_add (a := o.drop f) (b := [255]) (by simp; omega)
    have hf0 : (f : Int) ≤ o.length := by omega
    have hdt : (o.take o.length).drop f = o.drop f := by rw [List.take_length]
    have hsn2 : s < n := by omega
    have hmx : mmFold false [I ((o.length - f + 1 : Nat) : Int)] .i64 k = some (.i64, ((min k (o.length - f + 1) : Nat) : Int)) := by
      simp [mmFold]; omega
    have htk : ((o.drop f ++ [255]).take (min k (o.length - f + 1))) = (o.drop f ++ [255]).take k := by
      have := take_min k (o.drop f ++ [255])
      rw [hrow] at this
      exact this
    rw [hk] at hc2
    generalize o.drop f ++ [255] = row at *
    generalize o.length - f + 1 = rl at *
    have hmn : min k rl ≤ rl := by omega
    have hmn2 : ((min k rl : Nat) : Int) ≤ (rl : Int) := by omega
    generalize min k rl = mr at *
    rw [wb_seq, wb_regN, hE]
    simp [-wb_true, -wb_false, -wb_regN, -wb_regD, Sg_size, hf0, bnd, Sg_ext, hdt, hadd]
    rw [wb_regD rfl]
    simp [-wb_true, -wb_false, -finT_ret, hsn2, hv, hvE, hcl, hc2, Sg_size, hrow, hmx, bnd, Sg_ext, htk, k19', hmn, hmn2]
    refine fin4 ?_
    simp [find]
  simp [-wb_true, -wb_false, -wb_regN, hse]
  rw [wb_false rfl, wb_skip, fol_nrm, wb_seq, wb_seq, wb_regN]
  rcases hph with ⟨h1, _⟩ | ⟨s, a, h1, h2, h3, h4, h5⟩ | ⟨s, f, h1, h2, h3, h4, h5, h6⟩
  · omega
  · have hta : 0 ≤ ta := by omega
    simp [-wb_true, -wb_false, -wb_regN, hta]
    rw [wb_true rfl, wb_regN]
    simp [-wb_true, -wb_false, -wb_regN, Sg_size]
    refine main s o.length _ h1 h2 (Nat.le_refl _) ?_ rfl
    have := h5 [] (by obtain rfl : a = 0 := by omega
                      exact .nil)
    rw [List.drop_length]
    exact this
  · have hta : ¬ 0 ≤ ta := by omega
    simp [-wb_true, -wb_false, -wb_regN, hta]
    rw [wb_false rfl, wb_skip, fol_nrm]
    refine main s f _ h1 h2 h5 ?_ (by rw [h4]; rfl)
    have := h6 [] .nil
    rwa [List.append_nil] at this
end Go.Proofs.Ytdmaganalpamlaa

namespace Go.Proofs.Ytdmaganalpamlaa
open Go Go.Hm

def t4Y : AC := seqD 1 (inBlk t4L3)
abbrev SS := List Int × List AV × List UInt8 × Nat × Heap × Int × Int × Int
def sE (H : Heap) (c : List Int) (wh : Int) (bx : List AV) (ns : Nat) (Sc : List AV) (s : SS) : Env := senv H c wh bx ns Sc s.2.1.length s.1.length s.2.2.1 s.2.2.2.2.2.1 s.2.2.2.2.2.2.1 s.2.2.2.2.2.2.2 s.2.2.2.1 []
def sI (g : Gm) (s : SS) : Prop := WInv g s.1 s.2.1 s.2.2.1 s.2.2.2.1 ∧ Ph g s.1.length (fun a => (s.1.take a).reverse) s.1.reverse s.2.2.1 s.2.2.2.2.2.1 s.2.2.2.2.2.2.1 s.2.2.2.2.2.2.2
def sM (s : SS) : Nat := (121 - s.2.2.2.1) * 10 + s.1.length
set_option maxRecDepth 20000 in
set_option maxHeartbeats 2000000 in
theorem d4L3 {C : Orc} {lk : Nat} {H : Heap} (hlk : lk ≤ H.length) {t n k : Int} {ps : List Pr} (hg : GOk ⟨t, n, k, ps⟩) {c : List Int} {ns : Nat} {Sc : List AV} {wh : Int} {Q : Ex → Kt}
    (hc0 : 1 ≤ c.length) (hc : c.length ≤ 60)
    (k18 : ∀ (L : Nat) (G : Heap) (n : Int) (m : Nat), m ≤ 1000000 → C lk L 18 [I n, I m] G = some (I (if m < 1 then 0 else n % m), G))
    (hret : ∀ e S G, find e 6 = .val (.bool true) → Q .ret e (FH H S G))
    (hend : ∀ e S G o se fr ta, o.length ≤ 100000 → Ph ⟨t, n, k, ps⟩ 0 (fun a => (([] : List Int).take a).reverse) [] o se fr ta → restrict [3, 7, 9, 10, 11, 12] e = [(3, .box [I t, I n, I k, .sl ps.length (psC ps)]), (7, .sl ns Sc), (9, Sg o), (10, I se), (11, I fr), (12, I ta)] → Q (.exit 0) e (FH H S G))
    (s : SS) (hs : sI ⟨t, n, k, ps⟩ s) :
    WB ⟨C, lk, H.length, [3, 17]⟩ t4L3 (Rnd [1, 2, 3, 7, 8, 9, 10, 11, 12, 13] (sE H c wh [I t, I n, I k, .sl ps.length (psC ps)] ns Sc) (fun s => FH H s.2.1 s.2.2.2.2.1) (sI ⟨t, n, k, ps⟩) sM s Q) (sE H c wh [I t, I n, I k, .sl ps.length (psC ps)] ns Sc s) (FH H s.2.1 s.2.2.2.2.1) := by
  obtain ⟨stk, S, o, m, G, se, fr, ta⟩ := s
  obtain ⟨hw, hph⟩ := hs
  simp only at hw hph
  show WB _ t4L3 _ (senv H c wh [I t, I n, I k, .sl ps.length (psC ps)] ns Sc S.length stk.length o se fr ta m []) (FH H S G)
  rw [show t4L3 = .seq (.seq (.regN [1, 2, 3, 7, 8, 9, 10, 11, 12, 13] [⟨some 52, none, .mv (.tmp 8), 0, false⟩, ⟨some 53, none, .len false (.tmp 52), 0, false⟩, ⟨some 54, none, .bini .gtr (.tmp 53) (.con (.val (.int .i64 0))), 0, false⟩]) (.cond (.tmp 54) .skip (.exit 0)))
    (.seq (.block 1 (.seq (.seq (.regN [1, 2, 3, 7, 8, 9, 10, 11, 12, 13] [⟨some 57, none, .mv (.tmp 12), 0, false⟩, ⟨some 58, none, .mv (.tmp 8), 0, false⟩, ⟨some 59, none, .len false (.tmp 58), 0, false⟩, ⟨some 60, none, .bini .eql (.tmp 57) (.tmp 59), 0, false⟩])
      (.cond (.tmp 60) (.regN [1, 2, 3, 7, 8, 9, 10, 13] [⟨some 61, none, .mv (.tmp 9), 0, false⟩, ⟨some 62, none, .len true (.tmp 61), 0, false⟩, ⟨some 11, none, .mv (.tmp 62), 0, false⟩, ⟨some 12, none, .mv (.con (.val (.int .i64 (-2)))), 0, false⟩]) .skip)) t4Y))
      (.regN [1, 2, 3, 7, 8, 9, 10, 11, 12, 13] [⟨some 55, none, .mv (.tmp 13), 0, false⟩, ⟨some 56, none, .bini .add (.tmp 55) (.con (.val (.int .i64 1))), 0, false⟩, ⟨some 13, none, .mv (.tmp 56), 0, false⟩])) from rfl]
  rcases List.eq_nil_or_concat stk with rfl | ⟨q, x, rfl⟩
  · rw [wb_seq, wb_seq, wb_regN]
    simp [-wb_true, -wb_false, -wb_regN, senv]
    rw [wb_false rfl]
    simp
    exact hend _ S G o se fr ta (by have := hw.o; have := hw.b; omega) hph rfl
  rw [List.concat_eq_append] at hw hph ⊢
  obtain ⟨hq, hxS⟩ := ints_last hw.cS
  have hql := hw.Sl
  have hqb := hw.b
  have hxr := hw.r x (by simp)
  have hsp := hw.sp
  rw [rev_snoc] at hsp
  simp only at hxr
  rw [List.length_append, List.length_singleton] at hql hqb ⊢
  have hSl : q.length < S.length := by omega
  have hSE : S[q.length] = I x := by rw [List.getElem?_eq_getElem hSl] at hxS; simpa using hxS
  have w0 : IntKind.i64.wrap (q.length : Int) = q.length := wrap64 (by omega) (by omega)
  have wm1 : IntKind.i64.wrap ((m : Int) + 1) = (m : Int) + 1 := wrap64 (by omega) (by omega)
  have hlt : (q.length : Int) < (q.length : Int) + 1 := by omega
  have hle : (q.length : Int) ≤ (q.length : Int) + 1 := by omega
  obtain ⟨ph1, ph2⟩ := ph_check hph
  obtain ⟨t1, t2, n1, n2, k1, k2, l1, l2, okp⟩ := id hg
  simp only at t1 t2 n1 n2 k1 k2 l1 l2 okp
  have main : ∀ (fr' ta' : Int) (E : Env), Ph ⟨t, n, k, ps⟩ q.length (fun a => (q.take a).reverse) (x :: q.reverse) o se fr' ta' → restrict [1, 2, 3, 7, 8, 9, 10, 11, 12, 13] E = senv H c wh [I t, I n, I k, .sl ps.length (psC ps)] ns Sc S.length (q.length + 1) o se fr' ta' m [] →
      WB ⟨C, lk, H.length, [3, 17]⟩ t4Y (BlkE 1 (Fol ⟨C, lk, H.length, [3, 17]⟩ (.regN [1, 2, 3, 7, 8, 9, 10, 11, 12, 13] [⟨some 55, none, .mv (.tmp 13), 0, false⟩, ⟨some 56, none, .bini .add (.tmp 55) (.con (.val (.int .i64 1))), 0, false⟩, ⟨some 13, none, .mv (.tmp 56), 0, false⟩])
        (Rnd [1, 2, 3, 7, 8, 9, 10, 11, 12, 13] (sE H c wh [I t, I n, I k, .sl ps.length (psC ps)] ns Sc) (fun s => FH H s.2.1 s.2.2.2.2.1) (sI ⟨t, n, k, ps⟩) sM (q ++ [x], S, o, m, G, se, fr, ta) Q))) E (FH H S G) := by
    intro fr' ta' E hph hE
    rw [show t4Y = .seq (.regN [1, 2, 3, 7, 8, 9, 10, 11, 12, 13] [⟨some 63, none, .mv (.tmp 8), 0, false⟩, ⟨some 64, none, .mv (.tmp 8), 0, false⟩, ⟨some 65, none, .len false (.tmp 64), 0, false⟩, ⟨some 66, none, .bini .sub (.tmp 65) (.con (.val (.int .i64 1))), 0, false⟩, ⟨some 67, none, .ixA 1 (.tmp 63) (.tmp 66), 0, false⟩, ⟨some 68, none, .ld1 none (.tmp 67), 0, false⟩, ⟨some 14, none, .mv (.tmp 68), 0, false⟩])
      (.seq (.regN [1, 2, 3, 7, 8, 9, 10, 11, 12, 13, 14] [⟨some 69, none, .mv (.tmp 8), 0, false⟩, ⟨some 70, none, .mv (.tmp 8), 0, false⟩, ⟨some 71, none, .len false (.tmp 70), 0, false⟩, ⟨some 72, none, .bini .sub (.tmp 71) (.con (.val (.int .i64 1))), 0, false⟩, ⟨some 73, none, .slC 1 (.tmp 69) none (some (.tmp 72)), 0, false⟩, ⟨some 8, none, .mv (.tmp 73), 0, false⟩])
      (.seq (.seq (.regN [1, 2, 3, 7, 8, 9, 10, 11, 12, 13, 14] [⟨some 74, none, .mv (.tmp 14), 0, false⟩, ⟨some 75, none, .fldA 0 (.tmp 3), 0, false⟩, ⟨some 76, none, .ld1 (some 3) (.tmp 75), 0, false⟩, ⟨some 77, none, .bini .lss (.tmp 74) (.tmp 76), 0, false⟩])
        (.cond (.tmp 77) (.seq (.regN [1, 2, 3, 7, 8, 9, 10, 11, 12, 13, 14] [⟨some 78, none, .mv (.tmp 9), 0, false⟩, ⟨some 79, none, .mv (.tmp 14), 0, false⟩, ⟨some 80, none, .cvi .u8 (.tmp 79), 0, false⟩, ⟨some 81, none, .buildS 1 [(.val (.int .u8 0))] [(0, 1, (.tmp 80))], 0, false⟩, ⟨some 82, none, .b2s (.tmp 81), 0, false⟩, ⟨some 83, none, .bins .add (.tmp 78) (.tmp 82), 0, false⟩, ⟨some 9, none, .mv (.tmp 83), 0, false⟩]) (.exit 1)) .skip))
      (.seq (.seq (.regN [1, 2, 3, 7, 8, 9, 10, 11, 12, 13, 14] [⟨some 84, none, .mv (.tmp 13), 0, false⟩, ⟨some 85, none, .mv (.tmp 2), 0, false⟩, ⟨some 86, none, .bini .geq (.tmp 84) (.tmp 85), 0, false⟩, ⟨some 87, none, .mv (.tmp 86), 0, false⟩, ⟨some 88, some (87, true), .mv (.tmp 10), 0, false⟩, ⟨some 89, some (87, true), .bini .lss (.tmp 88) (.con (.val (.int .i64 0))), 0, false⟩, ⟨some 90, none, .pick (.tmp 87) (.tmp 89) (.con (.val (.bool false))), 0, false⟩])
        (.cond (.tmp 90) (.regN [1, 2, 3, 7, 8, 9, 11, 13, 14] [⟨some 91, none, .mv (.tmp 14), 0, false⟩, ⟨some 92, none, .fldA 0 (.tmp 3), 0, false⟩, ⟨some 93, none, .ld1 (some 3) (.tmp 92), 0, false⟩, ⟨some 94, none, .bini .sub (.tmp 91) (.tmp 93), 0, false⟩, ⟨some 95, none, .mv (.tmp 8), 0, false⟩, ⟨some 96, none, .len false (.tmp 95), 0, false⟩, ⟨some 10, none, .mv (.tmp 94), 0, false⟩, ⟨some 12, none, .mv (.tmp 96), 0, false⟩]) .skip)) t4X))) from rfl]
    rw [wb_seq, wb_regN, hE]
    simp [-wb_true, -wb_false, -wb_regN, senv, FH_get, hSl, hxS, hSE, w0, hlt, hle]
    rw [wb_regN]
    simp [-wb_true, -wb_false, -wb_regN, w0, hle, bnd]
    rw [wb_regN]
    simp [-wb_true, -wb_false, -wb_regN]
    by_cases hxt : x < t
    · have hw8 := u8_wrap x
      have hb1 := bytes1 (byteI x)
      have ha := sg_add (a := o) (b := [byteI x]) (by have := hw.o; simp; omega)
      rw [decide_eq_true hxt, wb_true rfl, wb_seq, wb_regN]
      simp [-wb_true, -wb_false, -wb_regN, hw8, hb1, ha]
      rw [wb_regN]
      simp [wm1]
      rw [rnd_nrm]
      exact ⟨(q, S, o ++ [byteI x], m + 1, G, se, fr', ta'), ⟨hw.tok, ph_tok hxt hph⟩, by show (121 - (m + 1)) * 10 + q.length < (121 - m) * 10 + (q ++ [x]).length; rw [List.length_append, List.length_singleton]; omega, rfl, rfl⟩
    have hbeh := hsp.1 hxt
    have fin : ∀ (se' ta' : Int) (E : Env), Ph ⟨t, n, k, ps⟩ q.length (fun a => (q.take a).reverse) (x :: q.reverse) o se' fr' ta' → restrict [1, 2, 3, 7, 8, 9, 10, 11, 12, 13, 14] E = senv H c wh [I t, I n, I k, .sl ps.length (psC ps)] ns Sc S.length q.length o se' fr' ta' m [(14, I x)] →
        WB ⟨C, lk, H.length, [3, 17]⟩ t4X (BlkE 1 (Fol ⟨C, lk, H.length, [3, 17]⟩ (.regN [1, 2, 3, 7, 8, 9, 10, 11, 12, 13] [⟨some 55, none, .mv (.tmp 13), 0, false⟩, ⟨some 56, none, .bini .add (.tmp 55) (.con (.val (.int .i64 1))), 0, false⟩, ⟨some 13, none, .mv (.tmp 56), 0, false⟩])
          (Rnd [1, 2, 3, 7, 8, 9, 10, 11, 12, 13] (sE H c wh [I t, I n, I k, .sl ps.length (psC ps)] ns Sc) (fun s => FH H s.2.1 s.2.2.2.2.1) (sI ⟨t, n, k, ps⟩) sM (q ++ [x], S, o, m, G, se, fr, ta) Q))) E (FH H S G) := by
      intro se' ta' E hph hE
      refine d4X (c := c) (wh := wh) (ns := ns) (Sc := Sc) (se := se') (fr := fr') (ta := ta') (m := m) (o := o) (q := q) (t := t) (n := n) (k := k) (ps := ps) (x := x) hlk hg hc0 hc ⟨by omega, by omega⟩ hq (by omega) (by omega) (by omega) k18 (fun e S G h => hret e S G h) ?_ hE
      intro p S' G' e hp hpx hm hS' hSl' he
      show WB _ _ _ _ _
      rw [wb_regN, he]
      have hw' := hw.non hg hm hp hpx hS' hSl'
      have hph' := ph_push (g := ⟨t, n, k, ps⟩) hp hpx hph
      have hrl := (okp p hp).len
      have hlen : (q ++ p.r.reverse).length = q.length + p.r.length := by simp
      generalize q ++ p.r.reverse = q' at *
      simp [senv, wm1]
      rw [rnd_nrm]
      exact ⟨(q', S', o, m + 1, G', se', fr', ta'), ⟨hw', hph'⟩, by show (121 - (m + 1)) * 10 + q'.length < (121 - m) * 10 + (q ++ [x]).length; rw [List.length_append, List.length_singleton]; omega, rfl, rfl⟩
    rw [decide_eq_false hxt, wb_false rfl, wb_skip, fol_nrm, wb_seq, wb_seq, wb_regN]
    have hws : IntKind.i64.wrap (x - t) = x - t := wrap64 (by omega) (by omega)
    by_cases hch : wh ≤ m ∧ se < 0
    · simp [-wb_true, -wb_false, -wb_regN, hch.1, hch.2]
      rw [wb_true rfl, wb_regN]
      simp [-wb_true, -wb_false, -wb_regN, hws]
      exact fin _ _ _ (ph_choose hxt (by simp only; omega) hbeh) rfl
    · by_cases h1 : wh ≤ m
      · have h2 : ¬ se < 0 := fun e => hch ⟨h1, e⟩
        simp [-wb_true, -wb_false, -wb_regN, h1, h2]
        rw [wb_false rfl, wb_skip, fol_nrm]
        exact fin _ _ _ hph rfl
      · simp [-wb_true, -wb_false, -wb_regN, h1]
        rw [wb_false rfl, wb_skip, fol_nrm]
        exact fin _ _ _ hph rfl
  rw [wb_seq, wb_seq, wb_regN]
  simp [-wb_true, -wb_false, -wb_regN, senv, hlt]
  rw [wb_true rfl, wb_skip, fol_nrm, wb_seq, wb_block, wb_seq, wb_seq, wb_regN]
  simp [-wb_true, -wb_false, -wb_regN]
  by_cases hta : ta = (q.length : Int) + 1
  · have hta2 : (ta == (q.length : Int) + 1) = true := by simp [hta]
    rw [hta2, wb_true rfl, wb_regN]
    simp [-wb_true, -wb_false, -wb_regN, Sg_size]
    exact main _ _ _ (ph1 hta) rfl
  · have hta2 : (ta == (q.length : Int) + 1) = false := by simp [hta]
    rw [hta2, wb_false rfl, wb_skip, fol_nrm]
    exact main _ _ _ (ph2 hta) rfl
set_option maxRecDepth 20000 in
set_option maxHeartbeats 2000000 in
theorem fseen_code {lk lim : Nat} {H : Heap} (hlk : lk ≤ H.length) (g : Gm) (c : List Int) (wh : Int) : callW X A lk lim 4 [gV g, .sl c.length (ints c), I wh] H = some (Bo true, H) := by
  have k9 := fun (L : Nat) => lives_at (lk := lk) (lim := L) (H := H)
  have kk := fun (L : Nat) => light_code (lk := lk) (lim := L) (H := H) g
  have k18 := fun (L : Nat) (G : Heap) (n : Int) (m : Nat) h => pick_code (lk := lk) (lim := L) (H := G) n m h
  have k19 := fun (L : Nat) (G : Heap) (v : AV) (l : List (List UInt8)) (x : List UInt8) hv h => has2_code (lk := lk) (lim := L) (H := G) (v := v) (l := l) hv x h
  have hcl : (g.cells).length = 4 := rfl
  have ht4 : List.take 4 g.cells = g.cells := rfl
  refine wb_callB [3, 17] rfl A4 rfl rfl ?_
  have hcode : t4B = .seq (.regN [0, 1, 2] [⟨some 3, none, .boxR 4 (.tmp 0), 0, false⟩, ⟨some 6, none, .mv (.con (.val (.bool false))), 0, false⟩]) (seqD 1 t4B) := rfl
  unfold t4B
  by_cases hli : light g = true
  case neg =>
    have hli : light g = false := by simpa using hli
    rw [hli] at kk
    generalize callW X A = C at k9 kk ⊢
    simp [-wb_true, -wb_false, -wb_regN]
    rw [wb_regN]
    simp [-wb_true, -wb_false, -wb_regN, hcl]
    rw [wb_regN]
    simp [-wb_true, -wb_false, -wb_regN, k9]
    rw [wb_false rfl, wb_skip, fol_nrm, wb_seq, wb_seq, wb_regN]
    simp [-wb_true, -wb_false, -wb_regN, kk, hcl, ht4]
    rw [wb_true rfl]
    simp
  rw [hli] at kk
  obtain ⟨hl, hr⟩ := light_bd hli
  have kc := fun (L : Nat) => rcheck_code (lk := lk) (lim := L) (H := H) g hl hr
  by_cases hc : chkE g = 0
  case neg =>
    generalize chkE g = e at kc hc
    have hc2 : (e != 0) = true := by simpa using hc
    generalize callW X A = C at k9 kk kc ⊢
    simp [-wb_true, -wb_false, -wb_regN]
    rw [wb_regN]
    simp [-wb_true, -wb_false, -wb_regN, hcl]
    rw [wb_regN]
    simp [-wb_true, -wb_false, -wb_regN, k9]
    rw [wb_false rfl, wb_skip, fol_nrm, wb_seq, wb_seq, wb_regN]
    simp [-wb_true, -wb_false, -wb_regN, kk, kc, hc2, hcl, ht4]
    rw [wb_true rfl]
    simp
  rw [hc] at kc
  by_cases hc0 : c.length = 0
  · have hc1 : ((c.length : Int) == 0) = true := by rw [hc0]; rfl
    generalize callW X A = C at k9 kk kc ⊢
    simp [-wb_true, -wb_false, -wb_regN]
    rw [wb_regN]
    simp [-wb_true, -wb_false, -wb_regN, hcl]
    rw [wb_regN]
    simp [-wb_true, -wb_false, -wb_regN, k9]
    rw [wb_false rfl, wb_skip, fol_nrm, wb_seq, wb_seq, wb_regN]
    simp [-wb_true, -wb_false, -wb_regN, kk, kc, hcl, ht4, hc1]
    rw [wb_true rfl]
    simp
  have hc1 : ((c.length : Int) == 0) = false := by rw [beq_eq_false_iff_ne]; omega
  by_cases hc60 : c.length ≤ 60
  case neg =>
    have hc6 : (60 : Int) < c.length := by omega
    generalize callW X A = C at k9 kk kc ⊢
    simp [-wb_true, -wb_false, -wb_regN]
    rw [wb_regN]
    simp [-wb_true, -wb_false, -wb_regN, hcl]
    rw [wb_regN]
    simp [-wb_true, -wb_false, -wb_regN, k9]
    rw [wb_false rfl, wb_skip, fol_nrm, wb_seq, wb_seq, wb_regN]
    simp [-wb_true, -wb_false, -wb_regN, kk, kc, hcl, ht4, hc1, hc6]
    rw [wb_true rfl]
    simp
  have hc6 : ¬ (60 : Int) < c.length := by omega
  have ok := gok_of hc
  have hfo := fol_ok ok
  have hn1 := ok.n1
  have hn2 := ok.n2
  have ht1 := ok.t1
  have ht8 := ok.t2
  obtain ⟨n, hn⟩ : ∃ n : Nat, g.n = (n : Int) := Int.eq_ofNat_of_zero_le (by omega)
  have hnn : g.n.toNat = n := by omega
  obtain ⟨v, h', ks, hh, hv⟩ := fsets_code (lk := lk) (lim := H.length) (H := H) hlk g hl hr
  rw [hh] at ks
  rw [if_pos hc] at hv
  obtain ⟨Sc, rfl, hSc⟩ := hv
  have hScn : Sc.length = n := by rw [hSc.1, hfo.len, hnn]
  have hc0' : ∀ h : 0 < g.cells.length, (g.cells)[0] = I g.t := fun _ => rfl
  have hc1' : ∀ h : 1 < g.cells.length, (g.cells)[1] = I n := fun _ => by rw [← hn]; rfl
  have k18w := fun (L : Nat) (G : Heap) => k18 L G wh 60 (by decide)
  have hgc : g.cells = [I g.t, I g.n, I g.k, .sl g.ps.length (psC g.ps)] := rfl
  have hgE : g = ⟨g.t, g.n, g.k, g.ps⟩ := rfl
  generalize callW X A = C at *
  have d3 := fun (Q : Ex → Kt) (w : Int) => d4L3 (C := C) (lk := lk) (H := H) (Q := Q) hlk (t := g.t) (n := g.n) (k := g.k) (ps := g.ps) ok (c := c) (ns := n) (Sc := Sc) (wh := w) (by omega) hc60 k18
  have dE := fun (G : Heap) (S : List AV) (se fr ta : Int) (o : List UInt8) (E : Env) ho hph hE => d4E (C := C) (lk := lk) (H := H) (G := G) (S := S) hlk ok hn hSc (se := se) (fr := fr) (ta := ta) (o := o) ho hph (E := E) k19 hE
  simp [-wb_true, -wb_false, -wb_regN]
  rw [wb_regN]
  simp [-wb_true, -wb_false, -wb_regN, hcl]
  rw [wb_regN]
  simp [-wb_true, -wb_false, -wb_regN, k9]
  rw [wb_false rfl, wb_skip, fol_nrm, wb_seq, wb_seq, wb_regN]
  simp [-wb_true, -wb_false, -wb_regN, kk, kc, hcl, ht4, hc1, hc6]
  rw [wb_false rfl, wb_skip, fol_nrm, wb_seq, wb_regN]
  simp [-wb_true, -wb_false, -wb_regN, ks, hcl, ht4]
  rw [wb_regN]
  simp [-wb_true, -wb_false, -wb_regN, hcl, hc1', hScn]
  rw [wb_false rfl, wb_skip, fol_nrm, wb_seq, wb_regN]
  have k18x : ∀ L G, C lk L 18 [I wh, .val (.int .i64 60)] G = some (I (wh % 60), G) := fun L G => k18w L G
  simp [-wb_true, -wb_false, -wb_regN, k18x]
  rw [wb_regN]
  simp [-wb_true, -wb_false, -wb_regN, hcl, hc0']
  rw [wb_regN]
  simp [-wb_true, -wb_false, -wb_regN]
  rw [wb_regN]
  simp [-wb_true, -wb_false, -wb_regN]
  refine wb_loop (σ := SS) (sE H c (wh % 60) g.cells n Sc) (fun s => FH H s.2.1 s.2.2.2.2.1) (sI g) sM (fun s hs => ?_) ([g.t], [I g.t], [], 0, [], -1, 0, -1) ?_ ?_ ?_
  · refine d3 _ (wh % 60) ?_ ?_ s hs
    · intro e S G h
      exact fin4 h
    · intro e S G o se fr ta ho hph he
      rw [blk_exit, if_pos rfl]
      exact dE G S se fr ta o e ho hph he
  · refine ⟨⟨rfl, Nat.le_refl _, by simp; omega, sp_start ok, by simp, Nat.le_refl _⟩, .inl ⟨rfl, rfl⟩⟩
  · rfl
  · rfl
end Go.Proofs.Ytdmaganalpamlaa
