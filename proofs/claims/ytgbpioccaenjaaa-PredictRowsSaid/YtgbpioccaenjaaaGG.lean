import Derived.Test.YtgbpioccaenjaaaGF
set_option linter.unusedSimpArgs false
set_option linter.unusedVariables false
namespace Go.Proofs.Ytgbpioccaenjaaa
open Go Go.Hm

structure KF (C : Orc) (g : Gm) (F : AV) (L : Nat) : Prop where
  back : ∀ K M (h : Heap) (r : List Int), K ≤ h.length → C K M 69 [.sl r.length (ints r)] h = some (.fn 82 [.rop [.sl r.length (ints r)] 0], h)
  first : ∀ K M (h : Heap) (r : List Int), K ≤ h.length → r.length ≤ 8 → (∀ x ∈ r, 0 ≤ x ∧ x < g.t + g.n) → C K M 52 [gV g, F, .sl r.length (ints r)] h = some (ofV g (setsM g) r, h)
  cat : ∀ K M (h : Heap) va vb a b, K ≤ h.length → RV va a → RV vb b → ROk g a → FOk g b → C K M 51 [I g.k, va, vb] h = some (catV g.k.toNat a b, h)
  uni : ∀ K M (h : Heap) va vb a b, RV va a → RV vb b → FOk g a → FOk g b → C K M 65 [va, vb] h = some (rowsV (uni a b), h)
  put : ∀ K M (H : Heap) (cs : List AV) (q : List Nat) (off : Nat) (inq : List Bool) (G : Heap) (m : Nat), H.length = L → K ≤ L + 4 → M ≤ L + 4 → inq.length = 16 → m < 16 → off ≤ q.length → q.length ≤ 1000000 →
    C K M 67 [.hp (L + 4) 17 0, I (m : Int)] (foH H g F cs (quV (L + 5) q off inq) q G) = some (.tup [], foH H g F cs (quV (L + 5) (putQ q inq m).1 off (putQ q inq m).2) (putQ q inq m).1 G)
structure KG (C : Orc) (g : Gm) (F : AV) (L : Nat) : Prop extends KF C g F L where
  take : ∀ K M (H : Heap) (cs : List AV) (q : List Nat) (off : Nat) (inq : List Bool) (G : Heap), H.length = L → K ≤ L + 4 → M ≤ L + 4 → inq.length = 16 → off ≤ q.length → (∀ m ∈ q, m < 16) →
    C K M 68 [.hp (L + 4) 17 0] (foH H g F cs (quV (L + 5) q off inq) q G) = some (if off < q.length then .tup [I (q.getD off 0 : Nat), Bo true] else .tup [I 0, Bo false], if off < q.length then foH H g F cs (quV (L + 5) q (off + 1) (inq.set (q.getD off 0) false)) q G else foH H g F cs (quV (L + 5) q off inq) q G)
  prods : ∀ K M (h : Heap) (lf : Nat), K ≤ h.length → C K M 34 [gV g, I lf] h = some (slvN (ofN g.ps lf g.ps.length), h)
structure S1 where
  i : Nat
  S : Ss
  cs : List AV
  q : List Nat
  inq : List Bool
  G : Heap
def S1.heap (H : Heap) (g : Gm) (F : AV) (off : Nat) (s : S1) : Heap := foH H g F s.cs (quV (H.length + 5) s.q off s.inq) s.q s.G
def fenv (L j : Nat) (t : Env) : Env := (1, .hp L 4 0) :: (2, .e0) :: (3, .hp (L + 1) 1 0) :: (4, .hp (L + 3) 1 0) :: (5, .hp (L + 4) 17 0) :: (6, .hp (L + 6 + j) 1 0) :: t
structure I1 (g : Gm) (off j lf m0 : Nat) (P : Pl → Prop) (S : Ss) (cs : List AV) (q : List Nat) (inq : List Bool) (G : Heap) : Prop where
  inv : QInv g S q off inq
  sc : SC cs S
  left : G[j]? = some (.cells [I lf])
  pend : Pend g S (q.drop off) P
  mu : qmu g S q off ≤ m0
def P1 (g : Gm) (ixs : List Nat) (lf i : Nat) (p : Pl) : Prop := p.l = lf ∧ ∃ i', i ≤ i' ∧ i' < ixs.length ∧ p ∈ plsR g.t lf (g.ps.getD (ixs.getD i' 0) ⟨0, []⟩).r
def inv1 (g : Gm) (ixs : List Nat) (off j lf m0 : Nat) (s : S1) : Prop := s.i ≤ ixs.length ∧ I1 g off j lf m0 (P1 g ixs lf s.i) s.S s.cs s.q s.inq s.G
def env1 (L j : Nat) (ixs : List Nat) (s : S1) : Env := fenv L j [(38, slvN ixs), (39, I ixs.length), (40, I s.i)]
end Go.Proofs.Ytgbpioccaenjaaa

namespace Go.Proofs.Ytgbpioccaenjaaa
open Go Go.Hm

structure S2 where
  S : Ss
  cs : List AV
  q : List Nat
  off : Nat
  inq : List Bool
  G : Heap
  j : Nat
  lf : Nat
  is : Bool
def S2.heap (H : Heap) (g : Gm) (F : AV) (s : S2) : Heap := foH H g F s.cs (quV (H.length + 5) s.q s.off s.inq) s.q s.G
structure I2 (g : Gm) (s : S2) : Prop where
  inv : QInv g s.S s.q s.off s.inq
  sc : SC s.cs s.S
  left : s.G[s.j]? = some (.cells [I s.lf])
  pend : Pend g s.S (s.q.drop s.off) fun p => s.is = true ∧ p.l = s.lf
  lt : s.is = true → s.lf < g.n.toNat
  no : s.is = false → s.q.length ≤ s.off
def S2.mu (g : Gm) (s : S2) : Nat := qmu g s.S s.q s.off + if s.is = true then 1 else 0
def env2 (L : Nat) (s : S2) : Env := fenv L s.j [(7, Bo s.is)]
def fol0 (H : Heap) (g : Gm) (F : AV) (cs : List AV) : Heap :=
  H ++ [.cells g.cells, .cells [F], .cells cs, .cells [.hs (H.length + 2) cs.length 0 cs.length 1], .cells (.e0 :: bools (List.replicate 16 false))]
end Go.Proofs.Ytgbpioccaenjaaa
