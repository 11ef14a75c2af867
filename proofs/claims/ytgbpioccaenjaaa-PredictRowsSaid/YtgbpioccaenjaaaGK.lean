import Derived.Test.YtgbpioccaenjaaaGG
import Derived.Test.YtgbpioccaenjaaaGJ
set_option linter.unusedSimpArgs false
set_option linter.unusedVariables false
namespace Go.Proofs.Ytgbpioccaenjaaa
open Go Go.Hm

structure KR (C : Orc) (g : Gm) (F : AV) : Prop where
  first : ∀ K M (h : Heap) (r : List Int), K ≤ h.length → r.length ≤ 8 → (∀ x ∈ r, 0 ≤ x ∧ x < g.t + g.n) → C K M 15 [gV g, F, .sl r.length (ints r)] h = some (rV (ofM g (setsM g) r), h)
  cat : ∀ K M (h : Heap) va vb a b, K ≤ h.length → RV va a → RV vb b → ROk g a → FOk g b → C K M 14 [I g.k, va, vb] h = some (rV (cat g.k.toNat a b), h)
  uni : ∀ K M (h : Heap) va vb a b, K ≤ h.length → RV va a → RV vb b → FOk g a → FOk g b → C K M 26 [va, vb] h = some (rV (uni a b), h)
structure T1 where
  k : Nat
  S : Ss
  cs : List AV
  more : Bool
structure J1 (g : Gm) (S0 : Ss) (rest : List Pl) (R : Ss) (S : Ss) (cs : List AV) (more : Bool) : Prop where
  ok : TOk g S
  sc : SC cs S
  rem : rest.foldl (stF g (setsM g)) S = R
  more : (more = false ∧ S = S0) ∨ (more = true ∧ szS S0 < szS S)
def jenv (H : Heap) (g : Gm) (nf : Nat) (Fc : List AV) (n : Nat) (more : Bool) (t : Env) : Env := (1, .box g.cells) :: (3, .sl nf Fc) :: (4, .hs H.length n 0 n 1) :: (5, Bo more) :: t
def env26 (H : Heap) (g : Gm) (nf : Nat) (Fc : List AV) (n i : Nat) (p : Pr) (s : T1) : Env := jenv H g nf Fc n s.more [(6, I i), (7, .box p.cells), (8, I s.k)]
def kenv (H : Heap) (g : Gm) (nf : Nat) (Fc : List AV) (n : Nat) (more : Bool) (i j : Nat) (p : Pr) (t : Env) : Env := jenv H g nf Fc n more ((6, I i) :: (7, .box [I p.l, .sl p.r.length (ints p.r)]) :: (8, I j) :: t)
end Go.Proofs.Ytgbpioccaenjaaa
