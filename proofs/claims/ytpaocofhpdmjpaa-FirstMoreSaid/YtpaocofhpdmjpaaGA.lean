import Derived.Test.YtpaocofhpdmjpaaA
set_option linter.unusedSimpArgs false
set_option linter.unusedVariables false
namespace Go.Proofs.Ytpaocofhpdmjpaa
open Go Go.Hm

/-! ### Joining -/
def whole (k : Nat) (r : List UInt8) : Bool := decide (k ≤ r.length) || r.getLast? == some 255
def join (k : Nat) (r s : List UInt8) : List UInt8 := if whole k r = true then r.take k else (r ++ s).take k
def catL (k : Nat) (a b : List (List UInt8)) : List (List UInt8) := a.flatMap fun x => if whole k x = true then [x.take k] else b.map fun y => (x ++ y).take k
def cat (k : Nat) (a b : List (List UInt8)) : List (List UInt8) := if b = [] then [] else norm (catL k a b)
def uni (a b : List (List UInt8)) : List (List UInt8) := norm (a ++ b)
theorem mem_uni {a b : List (List UInt8)} {z : List UInt8} : z ∈ uni a b ↔ z ∈ a ∨ z ∈ b := by
  unfold uni; rw [mem_norm, List.mem_append]
theorem up_uni (a b : List (List UInt8)) : Up (uni a b) := up_norm _
theorem up_cat (k : Nat) (a b : List (List UInt8)) : Up (cat k a b) := by
  unfold cat
  split
  · exact List.Pairwise.nil
  · exact up_norm _
theorem mem_cat {k : Nat} {a b : List (List UInt8)} {z : List UInt8} : z ∈ cat k a b ↔ ∃ r ∈ a, ∃ s ∈ b, z = join k r s := by
  unfold cat
  split
  · rename_i hb
    subst hb
    simp
  · rename_i hb
    obtain ⟨s0, hs0⟩ := List.exists_mem_of_ne_nil b hb
    rw [mem_norm, catL, List.mem_flatMap]
    constructor
    · rintro ⟨r, hr, hz⟩
      refine ⟨r, hr, ?_⟩
      unfold join
      split at hz
      · rename_i hw
        exact ⟨s0, hs0, by rw [if_pos hw]; simpa using hz⟩
      · rename_i hw
        obtain ⟨s, hs, rfl⟩ := List.mem_map.1 hz
        exact ⟨s, hs, by rw [if_neg hw]⟩
    · rintro ⟨r, hr, s, hs, rfl⟩
      refine ⟨r, hr, ?_⟩
      unfold join
      split
      · simp
      · exact List.mem_map_of_mem hs
theorem join_nil (k : Nat) (r : List UInt8) : join k r [] = r.take k := by
  unfold join
  split <;> simp
theorem join_len (k : Nat) (r s : List UInt8) : (join k r s).length ≤ k := by
  unfold join
  split <;> (rw [List.length_take]; exact Nat.min_le_left ..)
theorem whole_len {k : Nat} {r : List UInt8} (h : k ≤ r.length) : whole k r = true := by simp [whole, h]
theorem whole_end {k : Nat} {r : List UInt8} (h : r.getLast? = some 255) : whole k r = true := by simp [whole, h]
theorem whole_cases {k : Nat} {r : List UInt8} (h : whole k r = true) : k ≤ r.length ∨ r.getLast? = some 255 := by
  simpa [whole] using h
theorem not_whole {k : Nat} {r : List UInt8} (h : ¬ whole k r = true) : r.length < k ∧ r.getLast? ≠ some 255 := by
  constructor
  · exact Nat.lt_of_not_le fun h2 => h (whole_len h2)
  · exact fun h2 => h (whole_end h2)
theorem whole_take {k : Nat} {r : List UInt8} (h : whole k r = true) : whole k (r.take k) = true := by
  rcases Nat.lt_or_ge r.length k with hl | hl
  · rw [List.take_of_length_le (by omega)]; exact h
  · exact whole_len (by rw [List.length_take]; omega)
/-- In whatever brackets. -/
theorem join_assoc (k : Nat) (r s t : List UInt8) : join k (join k r s) t = join k r (join k s t) := by
  by_cases hr : whole k r = true
  · have h1 : ∀ x, join k r x = r.take k := fun x => by unfold join; rw [if_pos hr]
    rw [h1, h1]
    unfold join
    rw [if_pos (whole_take hr), List.take_take, Nat.min_self]
  · have h1 : ∀ x, join k r x = (r ++ x).take k := fun x => by unfold join; rw [if_neg hr]
    rw [h1, h1]
    obtain ⟨hl, he⟩ := not_whole hr
    rcases Nat.lt_or_ge (r ++ s).length k with hk | hk
    · rw [List.take_of_length_le (by omega : (r ++ s).length ≤ k)]
      rw [List.length_append] at hk
      by_cases hs : whole k s = true
      · rcases whole_cases hs with h | h
        · omega
        · have hsn : s ≠ [] := fun e => by subst e; simp at h
          have h2 : whole k (r ++ s) = true := whole_end (by rw [List.getLast?_append, h]; rfl)
          have h3 : join k s t = s.take k := by unfold join; rw [if_pos hs]
          rw [h3]
          unfold join
          rw [if_pos h2, List.take_of_length_le (by omega : s.length ≤ k)]
      · obtain ⟨_, hse⟩ := not_whole hs
        have h2 : ¬ whole k (r ++ s) = true := fun h => by
          rcases whole_cases h with h | h
          · rw [List.length_append] at h; omega
          · rw [List.getLast?_append] at h
            cases hs2 : s.getLast? with
            | none => rw [hs2] at h; exact he (by simpa using h)
            | some x => rw [hs2] at h hse; exact hse (by simpa using h)
        have h3 : join k s t = (s ++ t).take k := by unfold join; rw [if_neg hs]
        rw [h3]
        unfold join
        rw [if_neg h2, List.append_assoc, List.take_append, List.take_append (l₂ := (s ++ t).take k), List.take_take, Nat.min_eq_left (Nat.sub_le ..)]
    · have h2 : whole k ((r ++ s).take k) = true := whole_len (by rw [List.length_take]; omega)
      have h3 : ∀ x : List UInt8, (r ++ s ++ x).take k = (r ++ s).take k := fun x => List.take_append_of_le_length hk
      have h4 : join k ((r ++ s).take k) t = (r ++ s).take k := by
        unfold join
        rw [if_pos h2, List.take_take, Nat.min_self]
      rw [h4]
      by_cases hs : whole k s = true
      · have : join k s t = s.take k := by unfold join; rw [if_pos hs]
        rw [this, List.take_append, List.take_append (l₂ := s.take k), List.take_take, Nat.min_eq_left (Nat.sub_le ..)]
      · have : join k s t = (s ++ t).take k := by unfold join; rw [if_neg hs]
        rw [this, List.take_append (l₂ := (s ++ t).take k), List.take_take, Nat.min_eq_left (Nat.sub_le ..), ← List.take_append, ← List.append_assoc, h3]
theorem cat_assoc (k : Nat) (a b c : List (List UInt8)) : cat k (cat k a b) c = cat k a (cat k b c) :=
  up_ext (up_cat ..) (up_cat ..) fun z => by
    rw [mem_cat, mem_cat]
    constructor
    · rintro ⟨u, hu, t, ht, rfl⟩
      obtain ⟨r, hr, s, hs, rfl⟩ := mem_cat.1 hu
      exact ⟨r, hr, _, mem_cat.2 ⟨s, hs, t, ht, rfl⟩, join_assoc ..⟩
    · rintro ⟨r, hr, u, hu, rfl⟩
      obtain ⟨s, hs, t, ht, rfl⟩ := mem_cat.1 hu
      exact ⟨_, mem_cat.2 ⟨r, hr, s, hs, rfl⟩, t, ht, (join_assoc ..).symm⟩
theorem cat_len {k : Nat} {a b : List (List UInt8)} : ∀ z ∈ cat k a b, z.length ≤ k := fun z hz => by
  obtain ⟨r, _, s, _, rfl⟩ := mem_cat.1 hz
  exact join_len ..
theorem mem_cut {k : Nat} {a : List (List UInt8)} {z : List UInt8} : z ∈ cat k a [[]] ↔ ∃ r ∈ a, z = r.take k := by
  rw [mem_cat]
  simp [join_nil]
theorem cut_cut (k : Nat) (a : List (List UInt8)) : cat k (cat k a [[]]) [[]] = cat k a [[]] :=
  up_ext (up_cat ..) (up_cat ..) fun z => by
    rw [mem_cut, mem_cut]
    constructor
    · rintro ⟨r, hr, rfl⟩
      obtain ⟨s, hs, rfl⟩ := mem_cut.1 hr
      exact ⟨s, hs, by rw [List.take_take, Nat.min_self]⟩
    · rintro ⟨s, hs, rfl⟩
      exact ⟨_, mem_cut.2 ⟨s, hs, rfl⟩, by rw [List.take_take, Nat.min_self]⟩
theorem cat_uni (k : Nat) (a b c : List (List UInt8)) : uni (cat k a c) (cat k b c) = cat k (uni a b) c :=
  up_ext (up_uni ..) (up_cat ..) fun z => by
    rw [mem_uni, mem_cat, mem_cat, mem_cat]
    constructor
    · rintro (⟨r, hr, s, hs, rfl⟩ | ⟨r, hr, s, hs, rfl⟩)
      · exact ⟨r, mem_uni.2 (.inl hr), s, hs, rfl⟩
      · exact ⟨r, mem_uni.2 (.inr hr), s, hs, rfl⟩
    · rintro ⟨r, hr, s, hs, rfl⟩
      rcases mem_uni.1 hr with hr | hr
      · exact .inl ⟨r, hr, s, hs, rfl⟩
      · exact .inr ⟨r, hr, s, hs, rfl⟩
theorem cat_mono {k : Nat} {a b a' b' : List (List UInt8)} (ha : ∀ x ∈ a, x ∈ a') (hb : ∀ x ∈ b, x ∈ b') : ∀ z ∈ cat k a b, z ∈ cat k a' b' := fun z hz => by
  obtain ⟨r, hr, s, hs, rfl⟩ := mem_cat.1 hz
  exact mem_cat.2 ⟨r, ha r hr, s, hb s hs, rfl⟩
theorem cat_ne {k : Nat} {a b : List (List UInt8)} : cat k a b ≠ [] ↔ a ≠ [] ∧ b ≠ [] := by
  constructor
  · intro h
    obtain ⟨z, hz⟩ := List.exists_mem_of_ne_nil _ h
    obtain ⟨r, hr, s, hs, _⟩ := mem_cat.1 hz
    exact ⟨List.ne_nil_of_mem hr, List.ne_nil_of_mem hs⟩
  · rintro ⟨ha, hb⟩
    obtain ⟨r, hr⟩ := List.exists_mem_of_ne_nil _ ha
    obtain ⟨s, hs⟩ := List.exists_mem_of_ne_nil _ hb
    exact List.ne_nil_of_mem (mem_cat.2 ⟨r, hr, s, hs, rfl⟩)
theorem nil_join {k : Nat} (hk : 0 < k) {r s : List UInt8} : join k r s = [] ↔ r = [] ∧ s = [] := by
  unfold join
  split
  · rename_i h
    rw [List.take_eq_nil_iff]
    constructor
    · rintro (h2 | rfl)
      · omega
      · rcases whole_cases h with h | h
        · simp at h; omega
        · simp at h
    · rintro ⟨h1, _⟩; exact .inr h1
  · rw [List.take_eq_nil_iff, List.append_eq_nil_iff]
    constructor
    · rintro (h2 | h2)
      · omega
      · exact h2
    · exact .inr
theorem nil_cat {k : Nat} (hk : 0 < k) {a b : List (List UInt8)} : [] ∈ cat k a b ↔ [] ∈ a ∧ [] ∈ b := by
  rw [mem_cat]
  constructor
  · rintro ⟨r, hr, s, hs, h⟩
    obtain ⟨rfl, rfl⟩ := (nil_join hk).1 h.symm
    exact ⟨hr, hs⟩
  · rintro ⟨h1, h2⟩
    exact ⟨_, h1, _, h2, ((nil_join hk).2 ⟨rfl, rfl⟩).symm⟩
end Go.Proofs.Ytpaocofhpdmjpaa

namespace Go.Proofs.Ytpaocofhpdmjpaa
open Go Go.Hm

/-- A production; a grammar. -/
structure Pr where
  l : Int
  r : List Int
structure Gm where
  t : Int
  n : Int
  k : Int
  ps : List Pr
structure POk (g : Gm) (p : Pr) : Prop where
  len : p.r.length ≤ 8
  l0 : 0 ≤ p.l
  l1 : p.l < g.n
  s : ∀ x ∈ p.r, 0 ≤ x ∧ x < g.t + g.n
structure GOk (g : Gm) : Prop where
  t1 : 1 ≤ g.t
  t2 : g.t ≤ 8
  n1 : 1 ≤ g.n
  n2 : g.n ≤ 16
  k1 : 1 ≤ g.k
  k2 : g.k ≤ 3
  l1 : 1 ≤ g.ps.length
  l2 : g.ps.length ≤ 64
  p : ∀ p ∈ g.ps, POk g p

/-! ### Climbing till nothing changes -/
section
variable {α : Type} [DecidableEq α] {f : α → α} {Q : α → Prop} {μ : α → Nat}
def climb (f : α → α) : Nat → α → α
  | 0, a => a
  | m + 1, a => if f a = a then a else climb f m (f a)
structure Climbs (f : α → α) (Q : α → Prop) (μ : α → Nat) : Prop where
  keep : ∀ a, Q a → Q (f a)
  down : ∀ a, Q a → f a = a ∨ μ (f a) < μ a
theorem climb_more (h : Climbs f Q μ) : ∀ (m : Nat) (a : α), Q a → μ a < m → climb f m a = climb f (μ a + 1) a
  | 0, a, _, hm => by omega
  | m + 1, a, hq, hm => by
    simp only [climb]
    by_cases he : f a = a
    · rw [if_pos he, if_pos he]
    · rw [if_neg he, if_neg he]
      rcases h.down a hq with h1 | h1
      · exact absurd h1 he
      · rw [climb_more h m (f a) (h.keep a hq) (by omega)]
        by_cases h2 : μ a = μ (f a) + 1
        · rw [h2]
        · rw [climb_more h (μ a) (f a) (h.keep a hq) (by omega)]
theorem climb_fix (h : Climbs f Q μ) : ∀ (m : Nat) (a : α), Q a → μ a < m → f (climb f m a) = climb f m a
  | 0, a, _, hm => by omega
  | m + 1, a, hq, hm => by
    simp only [climb]
    by_cases he : f a = a
    · rw [if_pos he]; exact he
    · rw [if_neg he]
      rcases h.down a hq with h1 | h1
      · exact absurd h1 he
      · exact climb_fix h m (f a) (h.keep a hq) (by omega)
theorem climb_ind {R : α → Prop} (h : ∀ a, R a → R (f a)) : ∀ (m : Nat) (a : α), R a → R (climb f m a)
  | 0, a, h0 => h0
  | m + 1, a, h0 => by
    simp only [climb]
    split
    · exact h0
    · exact climb_ind h m (f a) (h a h0)
end

/-! ### FIRST -/
abbrev Ss := List (List (List UInt8))
def byteI (s : Int) : UInt8 := UInt8.ofNat (s % 256).toNat
def nxt (g : Gm) (S : Ss) (s : Int) : List (List UInt8) := if s < g.t then [[byteI s]] else S.getD (s - g.t).toNat []
def ofM (g : Gm) (S : Ss) (r : List Int) : List (List UInt8) := r.foldl (fun o s => cat g.k.toNat o (nxt g S s)) [[]]
def stS (g : Gm) (S : Ss) (p : Pr) : Ss := S.set p.l.toNat (uni (S.getD p.l.toNat []) (ofM g S p.r))
def rndS (g : Gm) (S : Ss) : Ss := g.ps.foldl (stS g) S
def szS (S : Ss) : Nat := (S.map List.length).sum
def setsM (g : Gm) : Ss := climb (rndS g) (g.n.toNat * 585 + 1) (List.replicate g.n.toNat [])

/-- All rows of at most k tokens. -/
def rowsT (t : Nat) : Nat → List (List UInt8)
  | 0 => [[]]
  | k + 1 => [] :: (rowsT t k).flatMap fun r => (List.range t).map fun b => UInt8.ofNat b :: r
theorem mem_rowsT {t : Nat} : ∀ {k : Nat} {x : List UInt8}, x.length ≤ k → (∀ b ∈ x, b.toNat < t) → x ∈ rowsT t k
  | 0, [], _, _ => by simp [rowsT]
  | 0, _ :: _, h, _ => by simp at h
  | k + 1, [], _, _ => by simp [rowsT]
  | k + 1, b :: x, h, hb => by
    refine List.mem_cons_of_mem _ (List.mem_flatMap.2 ⟨x, mem_rowsT (by simpa using h) fun c hc => hb c (List.mem_cons_of_mem _ hc), List.mem_map.2 ⟨b.toNat, List.mem_range.2 (hb b (List.mem_cons_self ..)), ?_⟩⟩)
    rw [UInt8.ofNat_toNat]
/-- Rows as FIRST tells them. -/
structure ROk (g : Gm) (l : List (List UInt8)) : Prop where
  up : Up l
  len : ∀ x ∈ l, x.length ≤ g.k.toNat
  b : ∀ x ∈ l, ∀ c ∈ x, (c.toNat : Int) < g.t
theorem ROk.size {g : Gm} (hg : GOk g) {l : List (List UInt8)} (h : ROk g l) : l.length ≤ 585 := by
  have h1 := up_sub h.up (up_norm (rowsT 8 3)) fun x hx => mem_norm.2 (mem_rowsT (by have := h.len x hx; have := hg.k2; omega) fun c hc => by have := h.b x hx c hc; have := hg.t2; omega)
  have h2 : ∀ l : List (List UInt8), (norm l).length ≤ l.length := by
    have h3 : ∀ (x : List UInt8) (l : List (List UInt8)), (ins x l).length ≤ l.length + 1 := by
      intro x l
      induction l with
      | nil => simp [ins]
      | cons y l ih =>
        unfold ins
        split
        · simp
        · split
          · simp
          · simpa using ih
    intro l
    induction l with
    | nil => simp [norm]
    | cons x l ih =>
      have := h3 x (norm l)
      show (ins x (norm l)).length ≤ _
      simp only [List.length_cons]
      omega
  have h4 := h2 (rowsT 8 3)
  have h5 : (rowsT 8 3).length = 585 := by decide +kernel
  omega
structure SOk (g : Gm) (S : Ss) : Prop where
  len : S.length = g.n.toNat
  r : ∀ l ∈ S, ROk g l
theorem ROk.nil (g : Gm) : ROk g [] := ⟨List.Pairwise.nil, by simp, by simp⟩
theorem ROk.eps (g : Gm) : ROk g [[]] := ⟨List.pairwise_singleton .., by simp, by simp⟩
theorem SOk.get {g : Gm} {S : Ss} (h : SOk g S) (i : Nat) : ROk g (S.getD i []) := by
  rw [List.getD_eq_getElem?_getD]
  cases hi : S[i]? with
  | none => exact ROk.nil g
  | some l => exact h.r l (List.mem_of_getElem? hi)
theorem byteI_lt {s t : Int} (h0 : 0 ≤ s) (h : s < t) (ht : t ≤ 8) : ((byteI s).toNat : Int) < t := by
  unfold byteI
  rw [UInt8.toNat_ofNat']
  omega
theorem ROk.cat {g : Gm} {a b : List (List UInt8)} (ha : ROk g a) (hb : ∀ x ∈ b, ∀ c ∈ x, (c.toNat : Int) < g.t) : ROk g (cat g.k.toNat a b) := by
  refine ⟨up_cat .., cat_len, fun x hx c hc => ?_⟩
  obtain ⟨r, hr, s, hs, rfl⟩ := mem_cat.1 hx
  unfold join at hc
  split at hc
  · exact ha.b r hr c (List.mem_of_mem_take hc)
  · rcases List.mem_append.1 (List.mem_of_mem_take hc) with h | h
    · exact ha.b r hr c h
    · exact hb s hs c h
theorem nxt_b {g : Gm} (hg : GOk g) {S : Ss} (h : SOk g S) {s : Int} (h0 : 0 ≤ s) : ∀ x ∈ nxt g S s, ∀ c ∈ x, (c.toNat : Int) < g.t := by
  unfold nxt
  split
  · rename_i hs
    intro x hx c hc
    simp only [List.mem_singleton] at hx
    subst hx
    simp only [List.mem_singleton] at hc
    subst hc
    exact byteI_lt h0 hs hg.t2
  · exact (h.get _).b
theorem fold_ok {g : Gm} (hg : GOk g) {S : Ss} (h : SOk g S) : ∀ (r : List Int) (o : List (List UInt8)), (∀ s ∈ r, 0 ≤ s) → ROk g o → ROk g (r.foldl (fun o s => cat g.k.toNat o (nxt g S s)) o)
  | [], o, _, ho => ho
  | s :: r, o, hr, ho => fold_ok hg h r _ (fun x hx => hr x (List.mem_cons_of_mem _ hx)) (ho.cat (nxt_b hg h (hr s (List.mem_cons_self ..))))
theorem ofM_ok {g : Gm} (hg : GOk g) {S : Ss} (h : SOk g S) {r : List Int} (hr : ∀ s ∈ r, 0 ≤ s) : ROk g (ofM g S r) := fold_ok hg h r _ hr (ROk.eps g)
theorem ROk.uni {g : Gm} {a b : List (List UInt8)} (ha : ROk g a) (hb : ROk g b) : ROk g (uni a b) :=
  ⟨up_uni .., fun x hx => (mem_uni.1 hx).elim (ha.len x) (hb.len x), fun x hx => (mem_uni.1 hx).elim (ha.b x) (hb.b x)⟩
theorem stS_ok {g : Gm} (hg : GOk g) {S : Ss} (h : SOk g S) {p : Pr} (hp : POk g p) : SOk g (stS g S p) := by
  refine ⟨by simp [stS, h.len], fun l hl => ?_⟩
  rcases List.mem_or_eq_of_mem_set hl with hl | rfl
  · exact h.r l hl
  · exact (h.get _).uni (ofM_ok hg h fun s hs => (hp.s s hs).1)
theorem szS_set : ∀ (S : Ss) (i : Nat) (l : List (List UInt8)), (h : i < S.length) → szS (S.set i l) + S[i].length = szS S + l.length
  | [], i, _, h => by simp at h
  | x :: S, 0, l, h => by simp [szS]; omega
  | x :: S, i + 1, l, h => by
    have := szS_set S i l (by simpa using h)
    simp only [szS, List.set_cons_succ, List.map_cons, List.sum_cons, List.getElem_cons_succ] at this ⊢
    omega
theorem stS_up {g : Gm} {S : Ss} (h : SOk g S) {p : Pr} (hp : POk g p) : (stS g S p = S ∨ szS S < szS (stS g S p)) ∧ ((stS g S p = S) ↔ (uni (S.getD p.l.toNat []) (ofM g S p.r)).length ≤ (S.getD p.l.toNat []).length) := by
  have hl : p.l.toNat < S.length := by rw [h.len]; have := hp.l0; have := hp.l1; omega
  have hg : S.getD p.l.toNat [] = S[p.l.toNat] := by rw [List.getD_eq_getElem?_getD, List.getElem?_eq_getElem hl]; rfl
  have hs := szS_set S p.l.toNat (uni (S.getD p.l.toNat []) (ofM g S p.r)) hl
  unfold stS
  rw [hg] at hs ⊢
  have hr := h.r _ (List.getElem_mem hl)
  by_cases hle : (uni S[p.l.toNat] (ofM g S p.r)).length ≤ S[p.l.toNat].length
  · have he : S[p.l.toNat] = uni S[p.l.toNat] (ofM g S p.r) := up_eq hr.up (up_uni ..) (fun x hx => mem_uni.2 (.inl hx)) hle
    have : S.set p.l.toNat (uni S[p.l.toNat] (ofM g S p.r)) = S := by rw [← he]; exact List.set_getElem_self ..
    exact ⟨.inl this, ⟨fun _ => hle, fun _ => this⟩⟩
  · refine ⟨.inr (by omega), ⟨fun e => ?_, fun h => absurd h hle⟩⟩
    rw [e] at hs
    omega
theorem rnd_ok {g : Gm} (hg : GOk g) : ∀ (ps : List Pr), (∀ p ∈ ps, POk g p) → ∀ S, SOk g S → SOk g (ps.foldl (stS g) S) ∧ (ps.foldl (stS g) S = S ∨ szS S < szS (ps.foldl (stS g) S)) ∧ (ps.foldl (stS g) S = S → ∀ p ∈ ps, stS g S p = S)
  | [], _, S, h => ⟨h, .inl rfl, fun _ p hp => by simp at hp⟩
  | p :: ps, hp, S, h => by
    have hp0 := hp p (List.mem_cons_self ..)
    obtain ⟨i1, i2, i3⟩ := rnd_ok hg ps (fun q hq => hp q (List.mem_cons_of_mem _ hq)) _ (stS_ok hg h hp0)
    have h1 := (stS_up h hp0).1
    simp only [List.foldl_cons]
    refine ⟨i1, ?_, fun e q hq => ?_⟩
    · rcases i2 with e2 | l2 <;> rcases h1 with e1 | l1
      · rw [e2, e1]; exact .inl rfl
      · rw [e2]; exact .inr l1
      · rw [e1] at l2 ⊢; exact .inr l2
      · exact .inr (by omega)
    · have h2 : stS g S p = S := by
        rcases h1 with e1 | l1
        · exact e1
        · rcases i2 with e2 | l2
          · rw [e] at e2; exact e2.symm
          · rw [e] at l2; omega
      rcases List.mem_cons.1 hq with rfl | hq
      · exact h2
      · rw [h2] at i3 e
        exact i3 e q hq
theorem szS_le {g : Gm} (hg : GOk g) {S : Ss} (h : SOk g S) : szS S ≤ g.n.toNat * 585 := by
  rw [← h.len]
  have : ∀ S : Ss, (∀ l ∈ S, ROk g l) → szS S ≤ S.length * 585 := by
    intro S
    induction S with
    | nil => intro _; simp [szS]
    | cons l S ih =>
      intro hh
      have h1 := (hh l (List.mem_cons_self ..)).size hg
      have h2 := ih fun x hx => hh x (List.mem_cons_of_mem _ hx)
      simp only [szS, List.map_cons, List.sum_cons, List.length_cons] at h2 ⊢
      omega
  exact this S h.r
theorem rndS_climbs {g : Gm} (hg : GOk g) : Climbs (rndS g) (SOk g) fun S => g.n.toNat * 585 - szS S :=
  ⟨fun S h => (rnd_ok hg g.ps hg.p S h).1, fun S h => by
    obtain ⟨h1, h2, _⟩ := rnd_ok hg g.ps hg.p S h
    rcases h2 with h2 | h2
    · exact .inl h2
    · have := szS_le hg h1
      exact .inr (by show _ - szS (rndS g S) < _; unfold rndS; omega)⟩
theorem SOk.start (g : Gm) : SOk g (List.replicate g.n.toNat []) := ⟨by simp, fun l hl => by rw [(List.mem_replicate.1 hl).2]; exact ROk.nil g⟩
/-- What holds of nothing, and is kept, holds of FIRST. -/
theorem sets_ind {g : Gm} (Q : Ss → Prop) (h0 : Q (List.replicate g.n.toNat [])) (hs : ∀ S p, p ∈ g.ps → Q S → Q (stS g S p)) : Q (setsM g) := by
  refine climb_ind (fun S hS => ?_) _ _ h0
  have : ∀ (ps : List Pr), (∀ p ∈ ps, p ∈ g.ps) → ∀ S, Q S → Q (ps.foldl (stS g) S) := by
    intro ps
    induction ps with
    | nil => intro _ S h; exact h
    | cons p ps ih => intro hp S h; exact ih (fun q hq => hp q (List.mem_cons_of_mem _ hq)) _ (hs S p (hp p (List.mem_cons_self ..)) h)
  exact this g.ps (fun _ h => h) S hS
theorem sets_ok {g : Gm} (hg : GOk g) : SOk g (setsM g) := sets_ind _ (SOk.start g) fun _ p hp h => stS_ok hg h (hg.p p hp)
theorem ofM_mono {g : Gm} {S T : Ss} (h : ∀ i, ∀ x ∈ S.getD i [], x ∈ T.getD i []) (r : List Int) : ∀ x ∈ ofM g S r, x ∈ ofM g T r := by
  have hn : ∀ s, ∀ x ∈ nxt g S s, x ∈ nxt g T s := fun s => by
    unfold nxt
    split
    · exact fun x hx => hx
    · exact h _
  have : ∀ (r : List Int) (a b : List (List UInt8)), (∀ x ∈ a, x ∈ b) → ∀ x ∈ r.foldl (fun o s => cat g.k.toNat o (nxt g S s)) a, x ∈ r.foldl (fun o s => cat g.k.toNat o (nxt g T s)) b := by
    intro r
    induction r with
    | nil => intro a b h; exact h
    | cons s r ih => intro a b h; exact ih _ _ (cat_mono h (hn s))
  exact this r _ _ fun _ h => h
theorem getD_set {S : Ss} {i : Nat} {l : List (List UInt8)} (j : Nat) (h : i < S.length) : (S.set i l).getD j [] = if j = i then l else S.getD j [] := by
  rw [List.getD_eq_getElem?_getD, List.getD_eq_getElem?_getD]
  split
  · rename_i e; subst e; rw [List.getElem?_set_self h]; rfl
  · rename_i e; rw [List.getElem?_set_ne (fun h => e h.symm)]
theorem stS_mem {g : Gm} {S : Ss} (h : SOk g S) {p : Pr} (hp : POk g p) (i : Nat) (x : List UInt8) : x ∈ (stS g S p).getD i [] ↔ x ∈ S.getD i [] ∨ (i = p.l.toNat ∧ x ∈ ofM g S p.r) := by
  unfold stS
  rw [getD_set i (by rw [h.len]; have := hp.l0; have := hp.l1; omega)]
  split
  · rename_i e; subst e; rw [mem_uni]; simp
  · rename_i e; simp [e]
/-- FIRST of a right side is in that of its left. -/
theorem sets_closed {g : Gm} (hg : GOk g) {p : Pr} (hp : p ∈ g.ps) : ∀ x ∈ ofM g (setsM g) p.r, x ∈ (setsM g).getD p.l.toNat [] := fun x hx => by
  have hf : rndS g (setsM g) = setsM g := climb_fix (rndS_climbs hg) _ _ (SOk.start g) (by omega)
  have := (rnd_ok hg g.ps hg.p _ (sets_ok hg)).2.2 hf p hp
  rw [← this]
  exact (stS_mem (sets_ok hg) (hg.p p hp) _ x).2 (.inr ⟨rfl, hx⟩)
/-- Each row of a left is one of a right side's. -/
theorem sets_founded {g : Gm} (hg : GOk g) : ∀ i, ∀ x ∈ (setsM g).getD i [], ∃ p ∈ g.ps, p.l.toNat = i ∧ x ∈ ofM g (setsM g) p.r := by
  refine (sets_ind (fun S => SOk g S ∧ ∀ i, ∀ x ∈ S.getD i [], ∃ p ∈ g.ps, p.l.toNat = i ∧ x ∈ ofM g S p.r) ⟨SOk.start g, fun i x hx => ?_⟩ fun S p hp h => ⟨stS_ok hg h.1 (hg.p p hp), fun i x hx => ?_⟩).2
  · rw [List.getD_eq_getElem?_getD, List.getElem?_replicate] at hx
    split at hx <;> simp at hx
  · have hm : ∀ i, ∀ x ∈ S.getD i [], x ∈ (stS g S p).getD i [] := fun i x hx => (stS_mem h.1 (hg.p p hp) i x).2 (.inl hx)
    rcases (stS_mem h.1 (hg.p p hp) i x).1 hx with hx | ⟨e, h2⟩
    · obtain ⟨q, hq, e, hx⟩ := h.2 i x hx
      exact ⟨q, hq, e, ofM_mono hm _ x hx⟩
    · exact ⟨p, hp, e.symm, ofM_mono hm _ x h2⟩
/-- What is closed has all of FIRST. -/
theorem sets_least {g : Gm} (hg : GOk g) (T : Nat → List UInt8 → Prop) (hT : ∀ p ∈ g.ps, ∀ S, SOk g S → (∀ i, ∀ x ∈ S.getD i [], T i x) → ∀ x ∈ ofM g S p.r, T p.l.toNat x) : ∀ i, ∀ x ∈ (setsM g).getD i [], T i x := by
  refine (sets_ind (fun S => SOk g S ∧ ∀ i, ∀ x ∈ S.getD i [], T i x) ⟨SOk.start g, fun i x hx => ?_⟩ fun S p hp h => ⟨stS_ok hg h.1 (hg.p p hp), fun i x hx => ?_⟩).2
  · rw [List.getD_eq_getElem?_getD, List.getElem?_replicate] at hx
    split at hx <;> simp at hx
  · rcases (stS_mem h.1 (hg.p p hp) i x).1 hx with hx | ⟨e, h2⟩
    · exact h.2 i x hx
    · rw [e]; exact hT p hp S h.1 h.2 x h2
end Go.Proofs.Ytpaocofhpdmjpaa

namespace Go.Proofs.Ytpaocofhpdmjpaa
open Go Go.Hm

/-! ### Rows without End: a right side's FIRST in one -/
def Pick (N : Int → List (List UInt8)) : List Int → List UInt8 → Prop
  | [], t => t = []
  | s :: r, t => ∃ x u, x ∈ N s ∧ Pick N r u ∧ t = x ++ u
theorem pick_app {N : Int → List (List UInt8)} : ∀ {a b : List Int} {t : List UInt8}, Pick N (a ++ b) t ↔ ∃ x u, Pick N a x ∧ Pick N b u ∧ t = x ++ u
  | [], b, t => by simp [Pick]
  | s :: a, b, t => by
    simp only [List.cons_append, Pick, pick_app (a := a)]
    constructor
    · rintro ⟨x, _, hx, ⟨y, u, hy, hu, rfl⟩, rfl⟩
      exact ⟨x ++ y, u, ⟨x, y, hx, hy, rfl⟩, hu, (List.append_assoc ..).symm⟩
    · rintro ⟨_, u, ⟨x, y, hx, hy, rfl⟩, hu, rfl⟩
      exact ⟨x, y ++ u, hx, ⟨y, u, hy, hu, rfl⟩, List.append_assoc ..⟩
theorem pick_mono {N M : Int → List (List UInt8)} : ∀ {r : List Int} {t : List UInt8}, (∀ s ∈ r, ∀ x ∈ N s, x ∈ M s) → Pick N r t → Pick M r t
  | [], _, _, h => h
  | s :: r, _, h, ⟨x, u, hx, hu, e⟩ => ⟨x, u, h s (List.mem_cons_self ..) x hx, pick_mono (fun z hz => h z (List.mem_cons_of_mem _ hz)) hu, e⟩
theorem take_app (k : Nat) (a b : List UInt8) : (a ++ b).take k = (a.take k ++ b.take k).take k := by
  rw [List.take_append, List.take_append (l₁ := a.take k), List.take_take, Nat.min_self, List.take_take, List.length_take]
  have : min (k - min k a.length) k = k - a.length := by omega
  rw [this]
theorem take_appl (k : Nat) (a b : List UInt8) : (a.take k ++ b).take k = (a ++ b).take k := by
  rw [take_app k (a.take k) b, take_app k a b, List.take_take, Nat.min_self]
theorem take_appr (k : Nat) (a b : List UInt8) : (a ++ b.take k).take k = (a ++ b).take k := by
  rw [take_app k a (b.take k), take_app k a b, List.take_take, Nat.min_self]
def NoEnd (r : List UInt8) : Prop := ∀ c ∈ r, c ≠ 255
theorem join_noend {k : Nat} {r : List UInt8} (h : NoEnd r) (s : List UInt8) : join k r s = (r ++ s).take k := by
  unfold join
  split
  · rename_i hw
    rcases whole_cases hw with h1 | h1
    · rw [List.take_append_of_le_length h1]
    · exact absurd rfl (h _ (List.mem_of_getLast? h1))
  · rfl
theorem mem_ofM {g : Gm} {S : Ss} : ∀ (r : List Int) (o : List (List UInt8)), (∀ x ∈ o, NoEnd x) → (∀ s ∈ r, ∀ x ∈ nxt g S s, NoEnd x) → (∀ x ∈ o, x.length ≤ g.k.toNat) →
    ∀ z, z ∈ r.foldl (fun o s => cat g.k.toNat o (nxt g S s)) o ↔ ∃ y ∈ o, ∃ t, Pick (nxt g S) r t ∧ z = (y ++ t).take g.k.toNat
  | [], o, ho, _, hl, z => by
    simp only [List.foldl_nil, Pick]
    constructor
    · exact fun h => ⟨z, h, [], rfl, by rw [List.append_nil, List.take_of_length_le (hl z h)]⟩
    · rintro ⟨y, hy, t, rfl, rfl⟩
      rw [List.append_nil, List.take_of_length_le (hl y hy)]
      exact hy
  | s :: r, o, ho, hn, hl, z => by
    have hs := hn s (List.mem_cons_self ..)
    have hc : ∀ x ∈ cat g.k.toNat o (nxt g S s), NoEnd x := fun x hx => by
      obtain ⟨y, hy, u, hu, rfl⟩ := mem_cat.1 hx
      rw [join_noend (ho y hy)]
      intro c hc
      rcases List.mem_append.1 (List.mem_of_mem_take hc) with h | h
      · exact ho y hy c h
      · exact hs u hu c h
    rw [List.foldl_cons, mem_ofM r _ hc (fun x hx => hn x (List.mem_cons_of_mem _ hx)) cat_len z]
    constructor
    · rintro ⟨x, hx, t, ht, rfl⟩
      obtain ⟨y, hy, u, hu, rfl⟩ := mem_cat.1 hx
      exact ⟨y, hy, u ++ t, ⟨u, t, hu, ht, rfl⟩, by rw [join_noend (ho y hy), take_appl, List.append_assoc]⟩
    · rintro ⟨y, hy, _, ⟨u, t, hu, ht, rfl⟩, rfl⟩
      exact ⟨_, mem_cat.2 ⟨y, hy, u, hu, rfl⟩, t, ht, by rw [join_noend (ho y hy), take_appl, List.append_assoc]⟩
theorem noend_of {g : Gm} (hg : GOk g) {x : List UInt8} (h : ∀ c ∈ x, (c.toNat : Int) < g.t) : NoEnd x := fun c hc e => by
  have := h c hc
  subst e
  have h2 : (255 : UInt8).toNat = 255 := rfl
  rw [h2] at this
  have := hg.t2
  omega
theorem of_pick {g : Gm} (hg : GOk g) {S : Ss} (hS : SOk g S) {r : List Int} (hr : ∀ s ∈ r, 0 ≤ s) (z : List UInt8) : z ∈ ofM g S r ↔ ∃ t, Pick (nxt g S) r t ∧ z = t.take g.k.toNat := by
  unfold ofM
  rw [mem_ofM r [[]] (by simp [NoEnd]) (fun s hs x hx => noend_of hg (nxt_b hg hS (hr s hs) x hx)) (by simp) z]
  simp

/-! ### What is derived begins with FIRST -/
/-- From a row of symbols by productions, the leftmost first. -/
inductive Drv (g : Gm) : List Int → List UInt8 → Prop
  | nil : Drv g [] []
  | tok (s : Int) (r : List Int) (t : List UInt8) (h : s < g.t) (d : Drv g r t) : Drv g (s :: r) (byteI s :: t)
  | non (p : Pr) (r : List Int) (t : List UInt8) (h : p ∈ g.ps) (d : Drv g (p.r ++ r) t) : Drv g ((g.t + p.l) :: r) t
theorem drv_pick {g : Gm} (hg : GOk g) {r : List Int} {t : List UInt8} (d : Drv g r t) : ∃ u, Pick (nxt g (setsM g)) r u ∧ u.take g.k.toNat = t.take g.k.toNat := by
  induction d with
  | nil => exact ⟨[], rfl, rfl⟩
  | tok s r t h d ih =>
    obtain ⟨u, hu, e⟩ := ih
    refine ⟨byteI s :: u, ⟨[byteI s], u, by simp [nxt, h], hu, rfl⟩, ?_⟩
    have h1 := take_appr g.k.toNat [byteI s] u
    have h2 := take_appr g.k.toNat [byteI s] t
    rw [← e] at h2
    exact h1.symm.trans h2
  | non p r t h d ih =>
    obtain ⟨u, hu, e⟩ := ih
    obtain ⟨x, v, hx, hv, rfl⟩ := pick_app.1 hu
    have hp := hg.p p h
    have hl := hp.l0
    refine ⟨x.take g.k.toNat ++ v, ⟨x.take g.k.toNat, v, ?_, hv, rfl⟩, by rw [take_appl]; exact e⟩
    unfold nxt
    rw [if_neg (by omega), show g.t + p.l - g.t = p.l by omega]
    exact sets_closed hg h _ ((of_pick hg (sets_ok hg) (fun s hs => (hp.s s hs).1) _).2 ⟨x, hx, rfl⟩)
theorem drv_first {g : Gm} (hg : GOk g) {i : Int} (hi : 0 ≤ i) {t : List UInt8} (d : Drv g [g.t + i] t) : t.take g.k.toNat ∈ (setsM g).getD i.toNat [] := by
  obtain ⟨u, ⟨x, v, hx, hv, rfl⟩, e⟩ := drv_pick hg d
  simp only [Pick] at hv
  subst hv
  rw [List.append_nil] at e
  unfold nxt at hx
  rw [if_neg (by omega), show g.t + i - g.t = i by omega] at hx
  rw [← e, List.take_of_length_le ((sets_ok hg).get _ |>.len x hx)]
  exact hx

/-! ### More productions, fewer tokens -/
theorem sets_more {g h : Gm} (hg : GOk g) (hh : GOk h) (ht : h.t = g.t) (hk : h.k = g.k) (hp : ∀ p ∈ g.ps, p ∈ h.ps) : ∀ i, ∀ x ∈ (setsM g).getD i [], x ∈ (setsM h).getD i [] := by
  refine sets_least hg _ fun p hpp S hS hT x hx => ?_
  refine sets_closed hh (hp p hpp) x ?_
  have e : ∀ (S : Ss) r, ofM g S r = ofM h S r := fun S r => by unfold ofM nxt; rw [ht, hk]
  rw [e] at hx
  exact ofM_mono hT _ x hx
theorem pick_cut {g : Gm} (k : Nat) (P : Int → List (List UInt8)) : ∀ (r : List Int) (t : List UInt8), Pick P r t → ∀ Q : Int → List (List UInt8), (∀ s ∈ r, ∀ x ∈ P s, ∃ y ∈ Q s, y.take k = x.take k) → ∃ u, Pick Q r u ∧ u.take k = t.take k
  | [], t, h, Q, _ => ⟨[], rfl, by rw [show t = [] from h]⟩
  | s :: r, _, ⟨x, v, hx, hv, rfl⟩, Q, hQ => by
    obtain ⟨y, hy, e1⟩ := hQ s (List.mem_cons_self ..) x hx
    obtain ⟨u, hu, e2⟩ := pick_cut (g := g) k P r v hv Q fun z hz => hQ z (List.mem_cons_of_mem _ hz)
    exact ⟨y ++ u, ⟨y, u, hy, hu, rfl⟩, by rw [take_app, e1, e2, ← take_app]⟩
theorem sets_cut {g h : Gm} (hg : GOk g) (hh : GOk h) (ht : h.t = g.t) (hp : h.ps = g.ps) (hk : h.k ≤ g.k) (i : Nat) : cat h.k.toNat ((setsM g).getD i []) [[]] = (setsM h).getD i [] := by
  refine up_ext (up_cat ..) ((sets_ok hh).get i).up fun z => ?_
  rw [mem_cut]
  have hkn : h.k.toNat ≤ g.k.toNat := by omega
  have tt : ∀ t : List UInt8, (t.take g.k.toNat).take h.k.toNat = t.take h.k.toNat := fun t => by rw [List.take_take, Nat.min_eq_left hkn]
  constructor
  · rintro ⟨x, hx, rfl⟩
    refine sets_least hg (fun i x => x.take h.k.toNat ∈ (setsM h).getD i []) (fun p hpp S hS hT x hx => ?_) i x hx
    have hr : ∀ s ∈ p.r, 0 ≤ s := fun s hs => ((hg.p p hpp).s s hs).1
    obtain ⟨t, ht2, rfl⟩ := (of_pick hg hS hr x).1 hx
    obtain ⟨u, hu, e⟩ := pick_cut (g := g) h.k.toNat _ _ _ ht2 (nxt h (setsM h)) fun s _ x hx => by
      unfold nxt at hx ⊢
      rw [ht]
      split at hx
      · rename_i hs; rw [if_pos hs]; exact ⟨x, hx, rfl⟩
      · rename_i hs; rw [if_neg hs]; exact ⟨_, hT _ x hx, by rw [List.take_take, Nat.min_self]⟩
    rw [tt, ← e]
    exact sets_closed hh (by rw [hp]; exact hpp) _ ((of_pick hh (sets_ok hh) hr _).2 ⟨u, hu, rfl⟩)
  · intro hz
    refine sets_least hh (fun i z => ∃ r ∈ (setsM g).getD i [], z = r.take h.k.toNat) (fun p hpp S hS hT z hz => ?_) i z hz
    have hr : ∀ s ∈ p.r, 0 ≤ s := fun s hs => ((hh.p p hpp).s s hs).1
    obtain ⟨t, ht2, rfl⟩ := (of_pick hh hS hr z).1 hz
    obtain ⟨u, hu, e⟩ := pick_cut (g := g) h.k.toNat _ _ _ ht2 (nxt g (setsM g)) fun s _ x hx => by
      unfold nxt at hx ⊢
      rw [ht] at hx
      split at hx
      · rename_i hs; rw [if_pos hs]; exact ⟨x, hx, rfl⟩
      · rename_i hs
        rw [if_neg hs]
        obtain ⟨r, hr, e⟩ := hT _ x hx
        exact ⟨r, hr, by rw [e, List.take_take, Nat.min_self]⟩
    exact ⟨u.take g.k.toNat, sets_closed hg (by rw [← hp]; exact hpp) _ ((of_pick hg (sets_ok hg) hr _).2 ⟨u, hu, rfl⟩), by rw [tt, e]⟩
end Go.Proofs.Ytpaocofhpdmjpaa

namespace Go.Proofs.Ytpaocofhpdmjpaa
open Go Go.Hm

/-! ### Going on till nothing changes -/
def cntF : List Bool → Nat
  | [] => 0
  | b :: l => (if b = true then 0 else 1) + cntF l
theorem cntF_set : ∀ (o : List Bool) (i : Nat) (h : i < o.length), o[i] = false → cntF (o.set i true) + 1 = cntF o
  | [], i, h, _ => by simp at h
  | b :: o, 0, h, hb => by
    have hb : b = false := hb
    subst hb
    simp only [List.set_cons_zero, cntF]
    simp; omega
  | b :: o, i + 1, h, hb => by
    have ih := cntF_set o i (by simpa using h) (by simpa using hb)
    simp only [List.set_cons_succ, cntF]
    omega
def fixL (f : List Bool → List Bool) : Nat → List Bool → List Bool
  | 0, o => o
  | m + 1, o => if f o = o then o else fixL f m (f o)
/-- It only gets more. -/
def Grows (f : List Bool → List Bool) : Prop := ∀ o, f o = o ∨ cntF (f o) < cntF o
theorem fixL_more {f : List Bool → List Bool} (hf : Grows f) : ∀ (m : Nat) (o : List Bool), cntF o < m → fixL f m o = fixL f (cntF o + 1) o
  | 0, o, h => by omega
  | m + 1, o, h => by
    simp only [fixL]
    by_cases he : f o = o
    · rw [if_pos he, if_pos he]
    · rw [if_neg he, if_neg he]
      rcases hf o with h1 | h1
      · exact absurd h1 he
      · rw [fixL_more hf m (f o) (by omega)]
        by_cases h2 : cntF o = cntF (f o) + 1
        · rw [h2]
        · rw [fixL_more hf (cntF o) (f o) (by omega)]
def fin (f : List Bool → List Bool) (o : List Bool) : List Bool := fixL f (cntF o + 1) o
theorem fin_step {f : List Bool → List Bool} (hf : Grows f) (o : List Bool) : fin f o = if f o = o then o else fin f (f o) := by
  unfold fin
  rw [fixL]
  by_cases he : f o = o
  · rw [if_pos he, if_pos he]
  · rw [if_neg he, if_neg he]
    rcases hf o with h1 | h1
    · exact absurd h1 he
    · exact fixL_more hf _ _ h1
theorem fin_fix {f : List Bool → List Bool} (hf : Grows f) : ∀ (m : Nat) (o : List Bool), cntF o ≤ m → f (fin f o) = fin f o
  | m, o, h => by
    rw [fin_step hf]
    by_cases he : f o = o
    · rw [if_pos he]; exact he
    · rw [if_neg he]
      rcases hf o with h1 | h1
      · exact absurd h1 he
      · cases m with
        | zero => omega
        | succ m => exact fin_fix hf m (f o) (by omega)
/-- What holds at the beginning and is kept holds in the end. -/
theorem fin_ind {f : List Bool → List Bool} (hf : Grows f) (Q : List Bool → Prop) (hq : ∀ o, Q o → Q (f o)) : ∀ (m : Nat) (o : List Bool), cntF o ≤ m → Q o → Q (fin f o)
  | m, o, h, h0 => by
    rw [fin_step hf]
    by_cases he : f o = o
    · rw [if_pos he]; exact h0
    · rw [if_neg he]
      rcases hf o with h1 | h1
      · exact absurd h1 he
      · cases m with
        | zero => omega
        | succ m => exact fin_ind hf Q hq m (f o) (by omega) (hq o h0)
/-- A round, production by production. -/
def rnd {α : Type} (st : List Bool → α → List Bool) (ps : List α) (o : List Bool) : List Bool := ps.foldl st o
theorem rnd_grows {α : Type} {st : List Bool → α → List Bool} (hs : ∀ p, Grows fun o => st o p) : ∀ ps : List α, Grows (rnd st ps)
  | [], o => .inl rfl
  | p :: ps, o => by
    have h1 := rnd_grows hs ps (st o p)
    have h2 : st o p = o ∨ cntF (st o p) < cntF o := hs p o
    simp only [rnd, List.foldl_cons] at h1 ⊢
    rcases h1 with h1 | h1 <;> rcases h2 with h2 | h2
    · rw [h1]; exact .inl h2
    · rw [h1]; exact .inr h2
    · rw [h2] at h1 ⊢; exact .inr h1
    · exact .inr (by omega)
theorem rnd_le {α : Type} {st : List Bool → α → List Bool} (hs : ∀ p, Grows fun o => st o p) (ps : List α) (o : List Bool) : cntF (rnd st ps o) ≤ cntF o := by
  rcases rnd_grows hs ps o with h | h
  · rw [h]; exact Nat.le_refl _
  · omega
/-- A fixed round is one of each. -/
theorem rnd_fixed {α : Type} {st : List Bool → α → List Bool} (hs : ∀ p, Grows fun o => st o p) : ∀ (ps : List α) (o : List Bool), rnd st ps o = o → ∀ p ∈ ps, st o p = o
  | [], _, _, p, hp => by simp at hp
  | q :: ps, o, h, p, hp => by
    simp only [rnd, List.foldl_cons] at h
    have h1 : st o q = o := by
      rcases hs q o with h2 | h2
      · exact h2
      · have h3 := rnd_le hs ps (st o q)
        simp only [rnd] at h3
        rw [h] at h3
        have h2 : cntF (st o q) < cntF o := h2
        omega
    rcases List.mem_cons.1 hp with rfl | hp
    · exact h1
    · rw [h1] at h
      exact rnd_fixed hs ps o h p hp

/-! ### Deriving -/
def okS (g : Gm) (tok : Bool) (o : List Bool) (s : Int) : Bool := if s < g.t then tok else o.getD (s - g.t).toNat false
def derP (g : Gm) (tok : Bool) (o : List Bool) (p : Pr) : List Bool := if o.getD p.l.toNat false = true then o else if p.r.all (okS g tok o) = true then o.set p.l.toNat true else o
theorem set_grows (o : List Bool) (i : Nat) (h : ¬ o.getD i false = true) : o.set i true = o ∨ cntF (o.set i true) < cntF o := by
  by_cases hi : i < o.length
  · right
    have : o[i] = false := by
      rw [List.getD_eq_getElem?_getD, List.getElem?_eq_getElem hi] at h
      simpa using h
    have := cntF_set o i hi this
    omega
  · left
    exact List.set_eq_of_length_le (by omega)
theorem derP_grows (g : Gm) (tok : Bool) (p : Pr) : Grows fun o => derP g tok o p := fun o => by
  simp only [derP]
  split
  · exact .inl rfl
  · split
    · rename_i h1 h2
      exact set_grows o _ h1
    · exact .inl rfl
def derM (g : Gm) (tok : Bool) : List Bool := fin (rnd (derP g tok) g.ps) (List.replicate g.n.toNat false)
end Go.Proofs.Ytpaocofhpdmjpaa

namespace Go.Proofs.Ytpaocofhpdmjpaa
open Go Go.Hm

theorem derP_len (g : Gm) (tok : Bool) (o : List Bool) (p : Pr) : (derP g tok o p).length = o.length := by
  unfold derP
  repeat' split
  all_goals simp
theorem derM_len (g : Gm) (tok : Bool) : (derM g tok).length = g.n.toNat := by
  refine fin_ind (rnd_grows (derP_grows g tok) g.ps) (fun o => o.length = g.n.toNat) (fun o h => ?_) _ _ (Nat.le_refl _) (by simp)
  have : ∀ (ps : List Pr) (o : List Bool), (rnd (derP g tok) ps o).length = o.length := by
    intro ps
    induction ps with
    | nil => intro o; rfl
    | cons p ps ih => intro o; exact (ih _).trans (derP_len ..)
  rw [this]; exact h
/-- What rules make so is so. -/
theorem derM_closed {g : Gm} (hg : GOk g) {tok : Bool} {p : Pr} (hp : p ∈ g.ps) (h : p.r.all (okS g tok (derM g tok)) = true) : (derM g tok).getD p.l.toNat false = true := by
  have hf := fin_fix (rnd_grows (derP_grows g tok) g.ps) _ (List.replicate g.n.toNat false) (Nat.le_refl _)
  have h1 := rnd_fixed (derP_grows g tok) g.ps _ hf p hp
  refine Classical.byContradiction fun hn => ?_
  have hl : p.l.toNat < (derM g tok).length := by
    rw [derM_len]; have := (hg.p p hp).l0; have := (hg.p p hp).l1; omega
  have h1 : derP g tok (derM g tok) p = derM g tok := h1
  unfold derP at h1
  rw [if_neg hn, if_pos h] at h1
  rw [← h1, List.getD_eq_getElem?_getD, List.getElem?_set_self hl] at hn
  simp at hn
/-- What holds of all that rules make so holds of all that is so. -/
theorem derM_least {g : Gm} (hg : GOk g) {tok : Bool} (T : Nat → Prop) (hT : ∀ p ∈ g.ps, ∀ o : List Bool, (∀ i, o.getD i false = true → T i) → p.r.all (okS g tok o) = true → T p.l.toNat) : ∀ i, (derM g tok).getD i false = true → T i := by
  have h0 : ∀ i, (List.replicate g.n.toNat false).getD i false = true → T i := fun i h => by
    rw [List.getD_eq_getElem?_getD, List.getElem?_replicate] at h
    split at h <;> simp at h
  refine fin_ind (rnd_grows (derP_grows g tok) g.ps) (fun o => ∀ i, o.getD i false = true → T i) (fun o h => ?_) _ _ (Nat.le_refl _) h0
  have : ∀ (ps : List Pr), (∀ p ∈ ps, p ∈ g.ps) → ∀ o : List Bool, (∀ i, o.getD i false = true → T i) → ∀ i, (rnd (derP g tok) ps o).getD i false = true → T i := by
    intro ps
    induction ps with
    | nil => intro _ o h; exact h
    | cons p ps ih =>
      intro hp o h
      refine ih (fun q hq => hp q (List.mem_cons_of_mem _ hq)) _ fun i hi => ?_
      unfold derP at hi
      split at hi
      · exact h i hi
      · split at hi
        · rename_i ha
          by_cases hl : p.l.toNat < o.length
          · by_cases hi2 : i = p.l.toNat
            · rw [hi2]; exact hT p (hp p (List.mem_cons_self ..)) o h ha
            · rw [List.getD_eq_getElem?_getD, List.getElem?_set_ne (fun e => hi2 e.symm), ← List.getD_eq_getElem?_getD] at hi
              exact h i hi
          · rw [List.set_eq_of_length_le (by omega)] at hi
            exact h i hi
        · exact h i hi
  exact this g.ps (fun _ h => h) o h

/-! ### The empty row; any row -/
theorem nil_fold {g : Gm} (hk : 0 < g.k.toNat) {S : Ss} : ∀ (r : List Int) (o : List (List UInt8)), [] ∈ r.foldl (fun o s => cat g.k.toNat o (nxt g S s)) o ↔ [] ∈ o ∧ ∀ s ∈ r, [] ∈ nxt g S s
  | [], o => by simp
  | s :: r, o => by
    rw [List.foldl_cons, nil_fold hk r, nil_cat hk]
    simp only [List.mem_cons, forall_eq_or_imp]
    exact and_assoc
theorem ne_fold {g : Gm} {S : Ss} : ∀ (r : List Int) (o : List (List UInt8)), r.foldl (fun o s => cat g.k.toNat o (nxt g S s)) o ≠ [] ↔ o ≠ [] ∧ ∀ s ∈ r, nxt g S s ≠ []
  | [], o => by simp
  | s :: r, o => by
    rw [List.foldl_cons, ne_fold r, cat_ne]
    simp only [List.mem_cons, forall_eq_or_imp]
    exact and_assoc
theorem nil_nxt {g : Gm} {S : Ss} {o : List Bool} (h : ∀ i, o.getD i false = true ↔ [] ∈ S.getD i []) (s : Int) : [] ∈ nxt g S s ↔ okS g false o s = true := by
  unfold nxt okS
  split
  · simp
  · exact (h _).symm
theorem null_iff {g : Gm} (hg : GOk g) (i : Nat) : (derM g false).getD i false = true ↔ [] ∈ (setsM g).getD i [] := by
  have hk : 0 < g.k.toNat := by have := hg.k1; omega
  constructor
  · refine derM_least hg (fun i => [] ∈ (setsM g).getD i []) (fun p hp o ho ha => ?_) i
    refine sets_closed hg hp _ ((nil_fold hk _ _).2 ⟨by simp, fun s hs => ?_⟩)
    have := List.all_eq_true.1 ha s hs
    unfold nxt
    unfold okS at this
    split at this
    · cases this
    · rename_i h; rw [if_neg h]; exact ho _ this
  · intro h
    refine sets_least hg (fun i x => x = [] → (derM g false).getD i false = true) (fun p hp S hS hT x hx e => ?_) i [] h rfl
    subst e
    have := ((nil_fold hk _ _).1 hx).2
    refine derM_closed hg hp (List.all_eq_true.2 fun s hs => ?_)
    have h2 := this s hs
    unfold nxt at h2
    unfold okS
    split at h2
    · simp at h2
    · rename_i h; rw [if_neg h]; exact hT _ _ h2 rfl
theorem prod_iff {g : Gm} (hg : GOk g) (i : Nat) : (derM g true).getD i false = true ↔ (setsM g).getD i [] ≠ [] := by
  constructor
  · refine derM_least hg (fun i => (setsM g).getD i [] ≠ []) (fun p hp o ho ha => ?_) i
    have h1 : ofM g (setsM g) p.r ≠ [] := (ne_fold _ _).2 ⟨by simp, fun s hs => by
      have := List.all_eq_true.1 ha s hs
      unfold nxt
      unfold okS at this
      split at this
      · rename_i h; rw [if_pos h]; simp
      · rename_i h; rw [if_neg h]; exact ho _ this⟩
    obtain ⟨x, hx⟩ := List.exists_mem_of_ne_nil _ h1
    exact List.ne_nil_of_mem (sets_closed hg hp x hx)
  · intro h
    obtain ⟨x, hx⟩ := List.exists_mem_of_ne_nil _ h
    refine sets_least hg (fun i _ => (derM g true).getD i false = true) (fun p hp S hS hT x hx => ?_) i x hx
    have := ((ne_fold (g := g) (S := S) p.r [[]]).1 (List.ne_nil_of_mem hx)).2
    refine derM_closed hg hp (List.all_eq_true.2 fun s hs => ?_)
    have h2 := this s hs
    unfold nxt at h2
    unfold okS
    split
    · rfl
    · rename_i h
      rw [if_neg h] at h2
      obtain ⟨y, hy⟩ := List.exists_mem_of_ne_nil _ h2
      exact hT _ y hy

/-! ### All of a left's right sides -/
def allM (g : Gm) (S : Ss) (i : Int) : List Pr → List (List UInt8) → List (List UInt8)
  | [], a => a
  | p :: ps, a => allM g S i ps (if p.l = i then uni a (ofM g S p.r) else a)
theorem mem_allM {g : Gm} {S : Ss} {i : Int} : ∀ {ps : List Pr} {a : List (List UInt8)} {x : List UInt8}, x ∈ allM g S i ps a ↔ x ∈ a ∨ ∃ p ∈ ps, p.l = i ∧ x ∈ ofM g S p.r
  | [], a, x => by simp [allM]
  | p :: ps, a, x => by
    rw [allM, mem_allM (ps := ps)]
    split
    · rename_i h
      rw [mem_uni]
      constructor
      · rintro ((h1 | h1) | ⟨q, hq, e, h1⟩)
        · exact .inl h1
        · exact .inr ⟨p, List.mem_cons_self .., h, h1⟩
        · exact .inr ⟨q, List.mem_cons_of_mem _ hq, e, h1⟩
      · rintro (h1 | ⟨q, hq, e, h1⟩)
        · exact .inl (.inl h1)
        · rcases List.mem_cons.1 hq with rfl | hq
          · exact .inl (.inr h1)
          · exact .inr ⟨q, hq, e, h1⟩
    · rename_i h
      constructor
      · rintro (h1 | ⟨q, hq, e, h1⟩)
        · exact .inl h1
        · exact .inr ⟨q, List.mem_cons_of_mem _ hq, e, h1⟩
      · rintro (h1 | ⟨q, hq, e, h1⟩)
        · exact .inl h1
        · rcases List.mem_cons.1 hq with rfl | hq
          · exact absurd e h
          · exact .inr ⟨q, hq, e, h1⟩
theorem up_allM {g : Gm} {S : Ss} {i : Int} : ∀ (ps : List Pr) {a : List (List UInt8)}, Up a → Up (allM g S i ps a)
  | [], _, h => h
  | p :: ps, a, h => by
    rw [allM]
    refine up_allM ps ?_
    split
    · exact up_uni ..
    · exact h
theorem allM_sets {g : Gm} (hg : GOk g) (i : Nat) : allM g (setsM g) i g.ps [] = (setsM g).getD i [] := by
  refine up_ext (up_allM _ List.Pairwise.nil) ((sets_ok hg).get i).up fun x => ?_
  rw [mem_allM]
  constructor
  · rintro (h | ⟨p, hp, e, h⟩)
    · simp at h
    · have := sets_closed hg hp x h
      rwa [e] at this
  · intro h
    obtain ⟨p, hp, e, h⟩ := sets_founded hg i x h
    exact .inr ⟨p, hp, by have := (hg.p p hp).l0; omega, h⟩
end Go.Proofs.Ytpaocofhpdmjpaa
