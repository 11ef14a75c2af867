import Derived.Test.YtdmaganalpamlaaGG
import Derived.Test.YtdmaganalpamlaaGJ
set_option linter.unusedSimpArgs false
set_option linter.unusedVariables false
namespace Go.Proofs.Ytdmaganalpamlaa
open Go Go.Hm

structure KR (C : Orc) (g : Gm) (F : AV) : Prop where
  first : ∀ K M (h : Heap) (r : List Int), K ≤ h.length → r.length ≤ 8 → (∀ x ∈ r, 0 ≤ x ∧ x < g.t + g.n) → C K M 16 [gV g, F, .sl r.length (ints r)] h = some (rV (ofM g (setsM g) r), h)
  cat : ∀ K M (h : Heap) va vb a b, K ≤ h.length → RV va a → RV vb b → ROk g a → FOk g b → C K M 15 [I g.k, va, vb] h = some (rV (cat g.k.toNat a b), h)
  uni : ∀ K M (h : Heap) va vb a b, K ≤ h.length → RV va a → RV vb b → FOk g a → FOk g b → C K M 14 [va, vb] h = some (rV (uni a b), h)
theorem kr_all {g : Gm} (hc : chkE g = 0) (hl : g.ps.length ≤ 1000000) (hr : ∀ p ∈ g.ps, p.r.length ≤ 1000000) {Fc : List AV} (hF : SC Fc (setsM g)) : KR (callW X A) g (.sl Fc.length Fc) := by
  have ok := gok_of hc
  have hso := sets_ok ok
  refine { first := fun K M h r hK hr8 hrs => ?_, cat := fun K M h va vb a b hK ha hb ra rb => ?_, uni := fun K M h va vb a b hK ha hb ra rb => ?_ }
  · have hb : r.any (badS g) = false := by
      rw [List.any_eq_false]
      intro s hs
      have := hrs s hs
      simp only [badS, Bool.or_eq_true, decide_eq_true_eq, not_or]
      omega
    have ho : OfOk g (setsM g) r := ⟨hc, by rw [hso.len]; have := ok.n1; omega, hb⟩
    have := of33_code (lk := K) (lim := M) (H := h) hK g hl hr hF r (by omega) (by rw [hso.len]; have := ok.n2; omega) fun _ => ⟨fun i => ?_, fun s hs => ?_⟩
    · rw [if_pos ho] at this
      exact this
    · have h1 := ofM_ok ok hso (r := r.take i) fun s hs => (hrs s (List.mem_of_mem_take hs)).1
      have h2 := h1.size ok
      exact ⟨by omega, fun x hx => by have := h1.len x hx; have := ok.k2; omega⟩
    · unfold nxt
      split
      · simp
      · have h1 := hso.get (s - g.t).toNat
        have h2 := h1.size ok
        exact ⟨by omega, fun x hx => by have := h1.len x hx; have := ok.k2; omega⟩
  · have h1 := ra.size ok
    have h2 := rb.size ok
    exact cat2_code hK g.k ha hb (by omega) (by omega) (fun x hx => by have := ra.len x hx; have := ok.k2; omega) (frow_len ok rb)
  · have h1 := ra.size ok
    have h2 := rb.size ok
    exact union2_code hK ha hb (by omega) (by omega)
structure T1 where
  k : Nat
  S : Ss
  cs : List AV
  more : Bool
structure J1 (g : Gm) (S0 : Ss) (rest : List Pl) (R : Ss) (S : Ss) (cs : List AV) (more : Bool) : Prop where
  ok : TOk g S
  sc : SC cs S
  rem : rest.foldl (stF g (setsM g)) S = R
  more : (more = false ∧ S = S0) ∨ (more = true ∧ szS S0 < szS S)
def jenv (H : Heap) (g : Gm) (nf : Nat) (Fc : List AV) (n : Nat) (more : Bool) (t : Env) : Env := (1, .box g.cells) :: (3, .sl nf Fc) :: (4, .hs H.length n 0 n 1) :: (5, Bo more) :: t
def env26 (H : Heap) (g : Gm) (nf : Nat) (Fc : List AV) (n i : Nat) (p : Pr) (s : T1) : Env := jenv H g nf Fc n s.more [(6, I i), (7, .box p.cells), (8, I s.k)]
def kenv (H : Heap) (g : Gm) (nf : Nat) (Fc : List AV) (n : Nat) (more : Bool) (i j : Nat) (p : Pr) (t : Env) : Env := jenv H g nf Fc n more ((6, I i) :: (7, .box [I p.l, .sl p.r.length (ints p.r)]) :: (8, I j) :: t)
end Go.Proofs.Ytdmaganalpamlaa
