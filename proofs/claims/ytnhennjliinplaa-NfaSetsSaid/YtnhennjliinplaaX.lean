/- LightNfa: walked. -/
import Derived.Test.YtnhennjliinplaaV
set_option linter.all false
namespace Go.Proofs.Ytnhennjliinplaa
open Go Go.Hm

def smN (i : Nat) (nx : List (List Int)) : Nat:=((nx.take i).map List.length).sum
def totN (m : Nat) (nx : List (List Int)) : Nat:=smN (m + 1) nx
def lightN (m : Nat) (N : Nf) : Bool:=decide (N.k ≤ m) && (decide (N.nx.length ≤ m) && (decide (N.rl.length ≤ m) && decide (totN m N.nx ≤ m * m)))
theorem tot_step {i : Nat} {nx : List (List Int)} {l : List Int} (hl : nx[i]? = some l) : smN (i + 1) nx = smN i nx + l.length:=by
 unfold smN
 rw [List.take_add_one,hl];simp
theorem tot_le {B : Nat} : ∀ {nx : List (List Int)},(∀ l ∈ nx,l.length ≤ B) → (nx.map List.length).sum ≤ nx.length * B
 | [],_ => by simp
 | l :: nx,h => by
  have h1:=tot_le (B:=B) (nx:=nx) fun l hl => h l (List.mem_cons_of_mem _ hl)
  have h2:=h l List.mem_cons_self
  simp only [List.map_cons,List.sum_cons,List.length_cons,Nat.add_mul]
  omega
section
variable {C : Orc} {Q : Ex → Kt} {E : Env} {lk lim m : Nat} {H : Heap} {N : Nf} {cv nv rv sv : AV} {vs : List AV}
set_option maxRecDepth 20000 in
theorem tot16 (hN : NfOk N cv nv rv vs) (hB : ∀ l ∈ N.nx,l.length ≤ 1000000000000000) (hm : m ≤ 1000)
  (hE : restrict [1,2,5,6] E = [(1,I m),(2,.box [cv,nv,rv]),(5,I 0),(6,I 0)])
  (hQ : ∀ E',restrict [1,2,5] E' = [(1,I m),(2,.box [cv,nv,rv]),(5,I (totN m N.nx))] → Q .nrm E' H) :
  WB ⟨C,lk,lim,[2]⟩ (.block 0 (.loop [1,2,5,6] t16L1)) Q E H:=by
 refine wb_loop (σ:=Nat) (fun i => [(1,I m),(2,.box [cv,nv,rv]),(5,I (smN i N.nx : Nat)),(6,I i)]) (fun _ => H)
  (fun i => i ≤ N.nx.length ∧ i ≤ m + 1) (fun i => N.nx.length - i) ?_ 0 ⟨Nat.zero_le _,Nat.zero_le _⟩ hE rfl
 rintro i ⟨hi,hi2⟩
 have hend : (i = N.nx.length ∨ i = m + 1) → smN i N.nx = totN m N.nx:=fun h => by
  unfold totN smN
  rcases h with h | h
  ·rw [List.take_of_length_le (by omega),List.take_of_length_le (by omega)]
  ·rw [h]
 unfold t16L1
 generalize hP : Rnd _ _ _ _ _ _ _ = P
 by_cases hk : i < N.nx.length
 case neg =>
  have h0 : ¬ ((i : Int) < (N.nx.length : Int)):=by omega
  rcases hN.n with ⟨rfl,h⟩ | rfl
  ·have h9 : ¬ ((i : Int) < 0):=by omega
   simp [h9]
   rw [← hP]
   exact hQ _ (by rw [← hend (.inl (by omega))];rfl)
  ·simp [h0,hk]
   rw [← hP]
   exact hQ _ (by rw [← hend (.inl (by omega))];rfl)
 obtain ⟨l,hl⟩ : ∃ l,N.nx[i]? = some l:=⟨N.nx[i],List.getElem?_eq_getElem hk⟩
 obtain ⟨lv,hlv,hrow⟩:=hN.v i l hl
 obtain rfl : nv = .sl N.nx.length vs:=by
  rcases hN.n with ⟨_,h⟩ | h
  ·rw [h] at hk;simp at hk
  ·exact h
 by_cases hm1 : i ≤ m
 case neg =>
  have h0 : ¬ ((i : Int) ≤ (m : Int)):=by omega
  simp [hk,h0,hm1]
  rw [← hP]
  exact hQ _ (by rw [← hend (.inr (by omega))];rfl)
 have hs:=tot_step hl
 have hb : smN (i + 1) N.nx ≤ _:=tot_le (nx:=N.nx.take (i + 1)) fun l hl => hB l (List.mem_of_mem_take hl)
 have hlen : (N.nx.take (i + 1)).length ≤ 1001:=by rw [List.length_take];omega
 have w : IntKind.i64.wrap ((i : Int) + 1) = (i : Int) + 1:=wrap64 (by omega) (by omega)
 have hb2 : (N.nx.take (i + 1)).length * 1000000000000000 ≤ 1001 * 1000000000000000:=Nat.mul_le_mul_right _ hlen
 obtain ⟨s1,hs1⟩ : ∃ s1,smN (i + 1) N.nx = s1:=⟨_,rfl⟩
 rw [hs1] at hs hb
 have next : ∀ env,restrict [1,2,5,6] env = [(1,I m),(2,.box [cv,.sl N.nx.length vs,rv]),(5,I (s1 : Nat)),(6,I ((i + 1 : Nat) : Int))] → P .nrm env H:=fun env h => by
  rw [← hP,rnd_nrm]
  exact ⟨i + 1,⟨hk,by omega⟩,by omega,by rw [h,hs1],rfl⟩
 clear hP hend
 generalize smN i N.nx = s0 at hs
 have w2 : IntKind.i64.wrap ((s0 : Int) + (l.length : Int)) = (s1 : Int):=by rw [wrap64 (by omega) (by omega)];omega
 rcases hrow with ⟨rfl,rfl⟩ | rfl
 ·have w3 : IntKind.i64.wrap (s0 : Int) = (s1 : Int):=by simpa using w2
  simp [hk,hm1,hlv,w,w2,w3]
  exact next _ rfl
 ·simp [hk,hm1,hlv,w,w2]
  exact next _ rfl
end
end Go.Proofs.Ytnhennjliinplaa
