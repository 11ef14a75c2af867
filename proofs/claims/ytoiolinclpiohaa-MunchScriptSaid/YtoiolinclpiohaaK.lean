import Derived.Test.YtoiolinclpiohaaJ
set_option linter.unusedSimpArgs false
set_option linter.unusedVariables false
namespace Go.Proofs.Ytoiolinclpiohaa
open Go Go.Hm

/-- A lexeme. -/
structure Lx where
  r : Int
  f : Int
  t : Int
  e : Int
  deriving DecidableEq
def Lx.cells (x : Lx) : List AV := [I x.r, I x.f, I x.t, I x.e]
def lexOf (a : Nat) (x : Int × Int × Int) : Lx := ⟨x.1, a, x.2.1, x.2.2⟩
theorem lexOf_cells (a : Nat) (x : Int × Int × Int) : lexC a x = (lexOf a x).cells := rfl
def lxs : List Lx → List AV
  | [] => []
  | x :: l => x.cells ++ lxs l
theorem lxs_len : ∀ l : List Lx, (lxs l).length = 4 * l.length
  | [] => rfl
  | x :: l => by simp only [lxs, Lx.cells, List.length_append, List.length_cons, List.length_nil, lxs_len l]; omega
theorem lxs_app : ∀ (l : List Lx) (x : Lx), lxs (l ++ [x]) = lxs l ++ x.cells
  | [], x => by simp [lxs]
  | y :: l, x => by simp only [List.cons_append, lxs, lxs_app l x, List.append_assoc]
theorem lxs_drop : ∀ (l : List Lx) (n : Nat), (lxs l).drop (n * 4) = lxs (l.drop n)
  | [], n => by simp [lxs]
  | x :: l, 0 => by simp
  | x :: l, n + 1 => by
    rw [show (n + 1) * 4 = 4 + n * 4 by omega, ← List.drop_drop]
    simp only [lxs, Lx.cells, List.drop_succ_cons, List.cons_append, List.nil_append, List.drop_zero]
    exact lxs_drop l n
theorem lxs_take : ∀ (l : List Lx) (n : Nat), (lxs l).take (n * 4) = lxs (l.take n)
  | [], n => by simp [lxs]
  | x :: l, 0 => by simp [lxs]
  | x :: l, n + 1 => by
    rw [show (n + 1) * 4 = n * 4 + 1 + 1 + 1 + 1 by omega]
    simp only [lxs, Lx.cells, List.take_succ_cons, List.cons_append, List.nil_append]
    rw [lxs_take l n]
theorem lxs_sub {l : List Lx} {i : Nat} (h : i < l.length) : ((lxs l).drop (i * 4)).take 4 = l[i].cells := by
  rw [lxs_drop, List.drop_eq_getElem_cons h]
  simp [lxs, Lx.cells]
theorem lxs_get {l : List Lx} {i : Nat} (h : i < l.length) (j : Nat) (hj : j < 4) : (lxs l)[i * 4 + j]? = l[i].cells[j]? := by
  rw [← lxs_sub h, List.getElem?_take, if_pos hj, List.getElem?_drop]

/-- All lexemes from a place on. -/
def allF (nx rl : List Int) (l : List UInt8) : Nat → Nat → List Lx
  | 0, _ => []
  | n + 1, a => if a < l.length then lexOf a (nextM nx rl l a) :: allF nx rl l n (nextM nx rl l a).2.1.toNat else []
def allM (nx rl : List Int) (l : List UInt8) : List Lx := allF nx rl l l.length 0
theorem goM_t (nx rl : List Int) : ∀ (l : List UInt8) (i st r t : Int), t ≤ i + 1 → t ≤ (goM nx rl l i st r t).2.1 ∧ ((goM nx rl l i st r t).2.1 = t ∨ (goM nx rl l i st r t).2.1 ≤ i + l.length)
  | [], i, st, r, t, h => ⟨Int.le_refl _, .inl rfl⟩
  | b :: l, i, st, r, t, h => by
    simp only [goM]
    split
    · exact ⟨Int.le_refl _, .inl rfl⟩
    · split
      · have h2 := goM_t nx rl l (i + 1) (nxA nx st b) (rlA rl (nxA nx st b)) (i + 1) (by omega)
        simp only [List.length_cons]
        omega
      · have h2 := goM_t nx rl l (i + 1) (nxA nx st b) r t (by omega)
        simp only [List.length_cons]
        omega
theorem nextM_t (nx rl : List Int) {l : List UInt8} {a : Nat} (h : a < l.length) : (a : Int) + 1 ≤ (nextM nx rl l a).2.1 ∧ (nextM nx rl l a).2.1 ≤ l.length := by
  have h2 := goM_t nx rl (l.drop a) a 0 (-1) (a + 1) (Int.le_refl _)
  simp only [List.length_drop] at h2
  unfold nextM
  omega
theorem allF_more (nx rl : List Int) (l : List UInt8) : ∀ (n m a : Nat), l.length ≤ a + n → n ≤ m → allF nx rl l m a = allF nx rl l n a
  | 0, 0, _, _, _ => rfl
  | 0, m + 1, a, h, _ => by simp only [allF]; rw [if_neg (by omega)]
  | n + 1, 0, _, _, h => by omega
  | n + 1, m + 1, a, h, h2 => by
    simp only [allF]
    split
    · rename_i ha
      have := nextM_t nx rl ha
      rw [allF_more nx rl l n m _ (by omega) (by omega)]
    · rfl

def lxV (b : Nat) (o : List Lx) : AV := if o = [] then .e0 else .hs b (4 * o.length) 0 o.length 4
def lxH (H : Heap) (o : List Lx) : Heap := if o = [] then H else H ++ [.cells (lxs o)]
set_option maxRecDepth 20000 in
theorem all_code {lk lim : Nat} {H : Heap} (nx rl : List Int) (l : List UInt8) (h1 : nx.length ≤ 1000000) (h2 : rl.length ≤ 1000000) (h3 : l.length ≤ 1000000) (hlk : lk ≤ H.length) (hlim : lim ≤ H.length) :
    callW X A lk lim 14 [.agg (Dv nx rl), Sg l] H = some (if chk nx rl = true then (lxV H.length (allM nx rl l), lxH H (allM nx rl l)) else (.e0, H)) := by
  refine wb_callB [2] rfl A14 rfl rfl ?_
  unfold t14B
  have kc := dcheck_code (lk := lk) (lim := lim) (H := H) nx rl h1 h2
  by_cases c3 : chk nx rl = true
  case neg =>
    rw [chkE_neg c3] at kc
    simp [kc, c3]
  rw [chkE_pos c3] at kc
  rw [if_pos c3]
  simp [kc]
  let bx : AV := .box (Dv nx rl)
  refine wb_loop (σ := Nat × List Lx) (fun s => [(1, Sg l), (2, bx), (5, lxV H.length s.2), (6, I s.1)])
    (fun s => lxH H s.2) (fun s => s.1 ≤ l.length ∧ s.2.length ≤ s.1 ∧ s.2 ++ allF nx rl l (l.length - s.1) s.1 = allM nx rl l)
    (fun s => l.length - s.1) ?_ (0, []) (by simp [allM]) (by simp [bx, lxV]) (by simp [lxH])
  rintro ⟨a, o⟩ ⟨ha, ho, hinv⟩
  simp only at ha ho hinv
  unfold t14L1
  simp [bx, Sg_size]
  refine wb_if (a < l.length) (by simp) (fun hlt => ?_) (fun hge => ?_)
  · have ht := nextM_t nx rl hlt
    obtain ⟨x, hx⟩ : ∃ x, nextM nx rl l a = x := ⟨_, rfl⟩
    obtain ⟨xr, xt, xe⟩ := x
    rw [show l.length - a = (l.length - a - 1) + 1 by omega] at hinv
    simp only [allF, if_pos hlt, hx] at hinv
    rw [hx] at ht
    simp only at ht
    obtain ⟨t, rfl⟩ := Int.eq_ofNat_of_zero_le (by omega : 0 ≤ xt)
    have kn := fun (H' : Heap) => next_code (lk := lk) (lim := lim) (H := H') (a := a) (chk_ok c3).1 (by omega) (by omega : l.length ≤ 1000000000000000)
    simp only [hx, lexOf_cells] at kn
    have hro1 : 32 ≤ room := by unfold room; omega
    have hro : (o.length + 1) * 32 ≤ room := by unfold room; omega
    have hmore : allF nx rl l (l.length - a - 1) t = allF nx rl l (l.length - t) t := allF_more nx rl l _ _ _ (by omega) (by omega)
    have w1 : IntKind.i64.wrap (o.length : Int) = o.length := wrap64 (by omega) (by omega)
    have w2 : (o.length : Int) < o.length + 1 := by omega
    have w0 : IntKind.i64.wrap 0 = 0 := by decide
    by_cases ho0 : o = []
    · subst ho0
      simp [lxV, lxH, kn, lexOf, Lx.cells, hro1, srcCells, rnd_nrm, replaceAt, w0]
      refine ⟨t, [⟨xr, a, t, xe⟩], ⟨by omega, by simp; omega, ?_⟩, by omega, by simp, by simp [lxs, Lx.cells]⟩
      rw [← hinv, ← hmore]; rfl
    · have hg : (lxs o ++ [I xr, I a, I t, I xe])[4 * o.length + 2]? = some (I t) := by
        rw [List.getElem?_append_right (by rw [lxs_len]; omega), lxs_len, show 4 * o.length + 2 - 4 * o.length = 2 by omega]; rfl
      simp [lxV, lxH, ho0, kn, lexOf, Lx.cells, hro, srcCells, rnd_nrm, replaceAt, lxs_len, setH, hlk, hlim, w1, w2, hg, (by omega : o.length * 4 = 4 * o.length), (by omega : (o.length + 1) * 4 = 4 * o.length + 4)]
      refine ⟨t, o ++ [⟨xr, a, t, xe⟩], ⟨by omega, by simp; omega, ?_⟩, by omega, by simp [ho0]; omega, by simp [ho0, lxs_app, Lx.cells]⟩
      rw [← hinv, ← hmore]; simp [lexOf]
  · obtain rfl : a = l.length := by omega
    simp only [Nat.sub_self, allF, List.append_nil] at hinv
    rw [← hinv]
    by_cases ho0 : o = []
    · subst ho0
      simp [lxV, lxH]
    · simp [lxV, lxH, ho0]
end Go.Proofs.Ytoiolinclpiohaa
