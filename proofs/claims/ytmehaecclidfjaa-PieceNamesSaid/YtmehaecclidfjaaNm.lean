import Derived.Test.YtmehaecclidfjaaTw
set_option linter.unusedSimpArgs false
set_option linter.unusedVariables false
namespace Go.Proofs.Ytmehaecclidfjaa
open Go Go.Hm

def zs (n : Nat) : List UInt8 := List.replicate n 0
theorem bytesOf_zs (n : Nat) : bytesOf (List.replicate n (.val (.int .u8 0))) = some (zs n) := by
  induction n with
  | zero => rfl
  | succ n ih => simp only [List.replicate_succ, bytesOf, ih, zs]; rfl
theorem zs_len (n : Nat) : (zs n).length = n := List.length_replicate
theorem repl_1 (n : Nat) (v : AV) : repl n [v] = List.replicate n v := by
  unfold repl
  induction n with
  | zero => rfl
  | succ n ih => rw [List.replicate_succ, List.flatten_cons, ih, List.replicate_succ]; rfl
/-- Bytes that are made, as a text. -/
theorem zs_row (n : Nat) : ∃ R, repl n [AV.val (Value.int IntKind.u8 0)] = R ∧ R.length = n ∧ bytesOf R = some (zs n) :=
  ⟨_, rfl, by rw [repl_1]; exact List.length_replicate, by rw [repl_1]; exact bytesOf_zs n⟩

abbrev hello : List UInt8 := [104, 101, 108, 108, 111]
abbrev hello1 : List UInt8 := [104, 101, 108, 108, 111, 33]

/-- What the chapter's example goes through. -/
structure Nm (C : Orc) (R R2 : List AV) : Prop where
  go : ∃ H1 H2 H3 H4 H5 H6 H7 H8 L1 L2, C 0 0 11 [.val (.string ⟨#[104, 101, 108, 108, 111]⟩)] [] = some (.tup [.hp 0 4 0, I 0], H1) ∧
    (∀ H, C 0 0 11 [.val (.string ⟨(zs 65537).toArray⟩)] H = some (.tup [.val (.pointer none), I 3], H)) ∧
    C 0 0 12 [.hp 0 4 0, I 6, I 0, .val (.string ⟨#[120]⟩)] (H1 ++ [.cells R]) = some (I 2, H2) ∧
    C 0 0 12 [.hp 0 4 0, I 2, I 4, .val (.string ⟨#[120]⟩)] H2 = some (I 2, H3) ∧
    C 0 0 12 [.hp 0 4 0, I 0, I 0, .val (.string ⟨(zs 65532).toArray⟩)] (H3 ++ [.cells R2]) = some (I 3, H4) ∧
    C 0 0 12 [.hp 0 4 0, I 5, I 0, .val (.string ⟨#[33]⟩)] H4 = some (I 0, H5) ∧
    C 0 0 19 [.hp 0 4 0] H5 = some (.hp H5.length 4 0, H6) ∧
    (∃ e, C 0 0 12 [.hp H5.length 4 0, I 0, I 6, .val (.string ⟨#[]⟩)] H6 = some (e, H7) ∧ ∃ n, e = I n) ∧
    TL H7 0 hello1 100000 L1 ∧
    C 0 0 20 [.hp 0 4 0] H7 = some (.tup [], H8) ∧ T1 H8 0 hello1 100000 L2 ∧ TX H8 H5.length [] 100000

theorem nm_go {R R2 : List AV} : Nm C2 R R2 := by
  obtain ⟨H1, k1, t1, -, -⟩ := tg_new (H := []) (s := hello) [] (by simp) (by decide)
  have t1 : TG H1 0 hello 0 [] := t1
  obtain ⟨H2, k2, t2, -, -⟩ := tg_edit (a := 6) (d := 0) (x := [120]) (t1.app [HB.cells R] [] (by simp)) (by decide)
  have e2 : editV hello 6 0 [120] = hello := by decide
  have f2 : editE hello 6 0 [120] = 2 := by decide
  rw [e2] at t2
  rw [f2] at k2
  obtain ⟨H3, k3, t3, -, -⟩ := tg_edit (a := 2) (d := 4) (x := [120]) t2 (by decide)
  have e3 : editV hello 2 4 [120] = hello := by decide
  have f3 : editE hello 2 4 [120] = 2 := by decide
  rw [e3] at t3
  rw [f3] at k3
  obtain ⟨H4, k4, t4, -, -⟩ := tg_edit (a := 0) (d := 0) (x := zs 65532) (t3.app [HB.cells R2] [] (by simp)) (by rw [zs_len]; decide)
  have f4 : editE hello 0 0 (zs 65532) = 3 := by unfold editE; rw [zs_len]; decide
  have e4 : editV hello 0 0 (zs 65532) = hello := by unfold editV; rw [f4]; rfl
  rw [e4, zs_len] at t4
  rw [f4] at k4
  obtain ⟨H5, k5, t5, -, -⟩ := tg_edit (a := 5) (d := 0) (x := [33]) t4 (by decide)
  have e5 : editV hello 5 0 [33] = hello1 := by decide
  have f5 : editE hello 5 0 [33] = 0 := by decide
  rw [e5] at t5
  rw [f5] at k5
  obtain ⟨L, l5, -⟩ := (t5.mono (m' := 100000) (by decide)).tl
  obtain ⟨H6, L2, k6, l6, c6, d6⟩ := tl_clone l5
  have hl5 := l5.lt
  have dis : ∀ k ∈ L, k < H6.length ∧ k ∉ L2 := fun k hk => ⟨l6.lt k hk, fun hm => by have := d6 k hm; have := hl5 k hk; omega⟩
  obtain ⟨H7, k7, c7, -, kp7⟩ := tg_edit (a := 0) (d := 6) (x := []) (c6.tg L dis) (by decide)
  have e7 : editV hello1 0 6 [] = [] := by decide
  rw [e7] at c7
  have l7 := l6.keep kp7
  obtain ⟨Lc, lc7, dc⟩ := c7.tl
  obtain ⟨H8, L8, k8, p8, len8, kp8, d8⟩ := tl_pack l7 (by decide)
  have c8 : TL H8 H5.length [] 100000 Lc := by
    refine lc7.keep fun k hk => kp8 k (lc7.lt k hk) fun e => ?_
    have h0 : 0 ∈ L := by
      obtain ⟨_, _, _, _, _, _, _, _, rfl⟩ := l5
      exact List.mem_cons_self ..
    exact (dc 0 h0).2 (by rw [← e]; exact hk)
  exact ⟨H1, H2, H3, H4, H5, H6, H7, H8, L, L8, up rfl k1, fun H => up rfl (new_long (by rw [zs_len]; decide)), up rfl k2, up rfl k3, up rfl k4, up rfl k5, up rfl k6, ⟨_, up rfl k7, _, rfl⟩, l7, up rfl k8, p8, c8.tx⟩

set_option maxRecDepth 20000 in
theorem names_code : callW X2 A2 0 0 6 [] [] = some (Bo true, []) := by
  obtain ⟨R, hR1, hR2, hR3⟩ := zs_row 65537
  obtain ⟨Q, hQ1, hQ2, hQ3⟩ := zs_row 65532
  refine wb_callB [] rfl B6 rfl rfl ?_
  have k8 : C2 0 0 8 [] [] = _ := up rfl lives_ok
  obtain ⟨H1, H2, H3, H4, H5, H6, H7, H8, L1, L8, k1, kL, k2, k3, k4, k5, k6, ⟨e7, k7, n7, rfl⟩, l7, kp, p8, c8⟩ := (nm_go (R := R) (R2 := Q)).go
  have ks1 : C2 0 0 14 [.hp 0 4 0, I 1, I 3] H7 = some (.tup [Sg [101, 108], I 0], H7) := up rfl (tx_slice l7.tx (by decide) (Nat.zero_le _))
  have ks2 : C2 0 0 14 [.hp 0 4 0, I 3, I 2] H7 = some (.tup [Sg [], I 2], H7) := up rfl (tx_slice l7.tx (by decide) (Nat.zero_le _))
  have kb1 : C2 0 0 18 [.hp 0 4 0, I 5] H7 = some (.tup [.val (.int .u8 33), Bo true], H7) := up rfl (tx_byte l7.tx (by decide) (Nat.zero_le _))
  have kb2 : C2 0 0 18 [.hp 0 4 0, I 6] H7 = some (.tup [.val (.int .u8 0), Bo false], H7) := up rfl (tx_byte l7.tx (by decide) (Nat.zero_le _))
  have k15 : ∀ (H : Heap), C2 0 0 15 [.hp 0 4 0] H = some (.fn 29 [.hp H.length 1 0], H ++ [.cells [.hp 0 4 0]]) := fun H => up rfl (seq_code rfl)
  have hit : pieceIt 29 [.hp (H8.length + 1) 1 0] (H8 ++ [HB.cells [I 0], HB.cells [.hp 0 4 0]]) = some (itV [hello1]) := t1_it (p8.app _) (by decide) (by decide) (by simp)
  have k21 : C2 0 0 21 [.hp H5.length 4 0] (H8 ++ [HB.cells [I 1], HB.cells [.hp 0 4 0]]) = some (.tup [Sg [], Bo true], _) := all_code (tx_app c8 _) (by decide) (Nat.zero_le _)
  have k13 : C2 0 0 13 [.hp 0 4 0] (H8 ++ [HB.cells [I 1], HB.cells [.hp 0 4 0]]) = some (.val (.string ⟨#[104, 101, 108, 108, 111, 33]⟩), _) := up rfl (tx_text (p8.app _).tl.tx (by decide) (Nat.zero_le _))
  have k17 : C2 0 0 17 [.hp H5.length 4 0] (H8 ++ [HB.cells [I 1], HB.cells [.hp 0 4 0]]) = some (I 0, _) := up rfl (tx_len (tx_app c8 _))
  have hroom : (65537 : Int) ≤ (room : Int) := by decide
  have hroom2 : (65532 : Int) ≤ (room : Int) := by decide
  unfold u6B
  show WB ⟨C2, 0, 0, []⟩ _ _ _ _
  generalize C2 = C at k8 k1 kL k2 k3 k4 k5 k6 k7 kp ks1 ks2 kb1 kb2 k15 k21 k13 k17 ⊢
  rw [wb_seq, wb_regN]
  simp [-wb_regN, -wb_regD, -wb_seq, -wb_true, -wb_false]
  rw [wb_seq, wb_seq, wb_regN]
  simp [-wb_regN, -wb_regD, -wb_seq, -wb_true, -wb_false, k8]
  rw [wb_false rfl, wb_skip, fol_nrm, wb_seq, wb_regN]
  simp [-wb_regN, -wb_regD, -wb_seq, -wb_true, -wb_false, k1]
  rw [wb_seq, wb_regN]
  simp [-wb_regN, -wb_regD, -wb_seq, -wb_true, -wb_false]
  rw [if_pos hroom, hR1]
  simp [-wb_regN, -wb_regD, -wb_seq, -wb_true, -wb_false, hR2, hR3, List.take_of_length_le, kL]
  rw [wb_seq, wb_regN]
  simp [-wb_regN, -wb_regD, -wb_seq, -wb_true, -wb_false, k2]
  rw [wb_seq, wb_regN]
  simp [-wb_regN, -wb_regD, -wb_seq, -wb_true, -wb_false, k3]
  rw [wb_seq, wb_regN]
  simp [-wb_regN, -wb_regD, -wb_seq, -wb_true, -wb_false]
  rw [if_pos hroom2, hQ1]
  simp [-wb_regN, -wb_regD, -wb_seq, -wb_true, -wb_false, hQ2, hQ3, List.take_of_length_le, k4]
  rw [wb_seq, wb_regN]
  simp [-wb_regN, -wb_regD, -wb_seq, -wb_true, -wb_false, k5]
  rw [wb_seq, wb_regN]
  simp [-wb_regN, -wb_regD, -wb_seq, -wb_true, -wb_false, k6]
  rw [wb_seq, wb_regN]
  simp [-wb_regN, -wb_regD, -wb_seq, -wb_true, -wb_false, k7]
  rw [wb_seq, wb_regN]
  simp [-wb_regN, -wb_regD, -wb_seq, -wb_true, -wb_false, ks1]
  rw [wb_seq, wb_regN]
  simp [-wb_regN, -wb_regD, -wb_seq, -wb_true, -wb_false, ks2]
  rw [wb_seq, wb_regN]
  simp [-wb_regN, -wb_regD, -wb_seq, -wb_true, -wb_false, kb1]
  rw [wb_seq, wb_regN]
  simp [-wb_regN, -wb_regD, -wb_seq, -wb_true, -wb_false, kb2]
  rw [wb_seq, wb_regN]
  simp [-wb_regN, -wb_regD, -wb_seq, -wb_true, -wb_false, kp]
  rw [wb_seq, wb_regN]
  simp [-wb_regN, -wb_regD, -wb_seq, -wb_true, -wb_false, -wi_st]
  rw [wi_st]
  simp [-wb_regN, -wb_regD, -wb_seq, -wb_true, -wb_false, -wi_st, setH, replaceAt]
  rw [wb_seq, wb_regN]
  simp [-wb_regN, -wb_regD, -wb_seq, -wb_true, -wb_false, -wi_st, k15]
  rw [wb_seq, wb_seq, wb_regN]
  simp [-wb_regN, -wb_regD, -wb_seq, -wb_true, -wb_false, -wi_st, eqFn, isFn]
  rw [wb_false rfl, wb_skip, fol_nrm, wb_seq, wb_seq, wb_regN]
  simp [-wb_regN, -wb_regD, -wb_seq, -wb_true, -wb_false, -wi_st, -wb_block]
  rw [wb_block]
  refine wb_rangeE (itV [hello1]) (fun i h => h = H8 ++ [HB.cells [I i], HB.cells [.hp 0 4 0]]) _ rfl rfl rfl hit rfl rfl ?_ ?_
  · rintro i x h hx rfl
    have hi0 : i = 0 := by
      have := (List.getElem?_eq_some_iff.1 hx).1
      simp [itV] at this
      omega
    subst hi0
    have hx1 : x = [.string ⟨⟨hello1⟩⟩] := by
      simp [itV] at hx
      exact hx.symm
    subst hx1
    refine ⟨_, rfl, ?_⟩
    rw [wb_skip]
    refine nrm_nrm rfl ?_
    rw [wb_block, wb_regN]
    have w1 : IntKind.i64.wrap ((0 : Int) + 1) = 1 := by decide
    simp [-wi_st, restrict, find, w1]
    rw [wi_st]
    simp [setH, replaceAt]
    rw [rge_nrm]
    simp
    decide
  · rintro h rfl
    rw [blk_nrm, fol_nrm, wb_seq, wb_regN]
    rw [show ((itV [hello1]).length : Int) = 1 from rfl]
    simp [-wb_regN, -wb_regD, -wb_seq, restrict, find, k21]
    rw [wb_seq, wb_regN]
    have e1 : abins .eql ⟨#[104, 101, 108, 108, 111, 33]⟩ ⟨#[104, 101, 108, 108, 111, 33]⟩ = some (Bo true) := sg_eql hello1 hello1
    have e2 : abins .eql ⟨⟨[]⟩⟩ ⟨#[]⟩ = some (Bo true) := sg_eql [] []
    have e3 : abins .eql ⟨⟨[101, 108]⟩⟩ ⟨#[101, 108]⟩ = some (Bo true) := sg_eql [101, 108] [101, 108]
    simp [restrict, find, k13, k17, e1, e2, e3, FinT]
end Go.Proofs.Ytmehaecclidfjaa
