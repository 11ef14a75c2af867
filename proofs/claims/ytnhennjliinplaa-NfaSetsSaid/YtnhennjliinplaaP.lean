/- A class's bytes; states: how they are given. -/
import Derived.Test.YtnhennjliinplaaL
set_option linter.all false
namespace Go.Proofs.Ytnhennjliinplaa
open Go Go.Hm

def hasC (cs : List AV) (n : Nat) : Bool:=match cs[n / 64]? with
 | some (.val (.int .u64 w)) => IntKind.u64.wrap (((w % 2 ^ IntKind.u64.bits).toNat &&& (IntKind.u64.wrap (2 ^ min (n % 64) IntKind.u64.bits) % 2 ^ IntKind.u64.bits).toNat : Nat) : Int) != 0
 | _ => false
theorem has_code {a b c d : Int} {n : Nat} (hx : n ≤ 255) {lk lim : Nat} {H : Heap} :
  callW X A lk lim 65 [.agg [U a,U b,U c,U d],.val (.int .u8 n)] H = some (Bo (hasC [U a,U b,U c,U d] n),H):=by
 have hX : X lk lim 65 [.agg [U a,U b,U c,U d],.val (.int .u8 n)] H = none:=noX1 (by decide) (by decide) (by decide)
 refine wb_callB [2] hX A65 rfl rfl ?_
 unfold t65B
 generalize callW X A = C
 obtain ⟨r,hr⟩ : ∃ r,n % 64 = r:=⟨_,rfl⟩
 have h64 : r < 64:=by omega
 obtain ⟨t,ht⟩ : ∃ t,hasC [U a,U b,U c,U d] n = t:=⟨_,rfl⟩
 rw [ht]
 unfold hasC at ht
 rw [hr] at ht
 have h0 : ¬ ((r : Int) < 0):=by omega
 have e0 : IntKind.u8.wrap ((n : Int) / 64) = ((n / 64 : Nat) : Int):=by
  rw [wrapu8 (by omega) (by omega)];omega
 have e1 : (n : Int).tmod 64 = (r : Int):=by
  rw [Int.tmod_eq_emod_of_nonneg (by omega)];omega
 have f0 : IntKind.u8.wrap 0 = 0:=by decide
 have f1 : IntKind.u8.wrap 1 = 1:=by decide
 have f2 : IntKind.u8.wrap 2 = 2:=by decide
 have f3 : IntKind.u8.wrap 3 = 3:=by decide
 rcases (by omega : n / 64 = 0 ∨ n / 64 = 1 ∨ n / 64 = 2 ∨ n / 64 = 3) with h | h | h | h
 all_goals
  rw [h] at e0 ht
  simp [f0,f1,f2,f3,e0,e1,h0]
  exact ht
def RowI (v : AV) (l : List Int) : Prop:=(v = .e0 ∧ l = []) ∨ v = .sl l.length (ints l)
def ruleS (rl : List Int) (out k : Int) : Int:=if 0 ≤ k ∧ k < (rl.length : Int) then (if 0 ≤ rl.getD k.toNat 0 ∧ (out < 0 ∨ rl.getD k.toNat 0 < out) then rl.getD k.toNat 0 else out) else out
def ruleM (rl set : List Int) : Int:=set.foldl (ruleS rl) (-1)
set_option maxRecDepth 20000 in
theorem rule_code {lk lim : Nat} {H : Heap} {cv nv rv sv : AV} {rl set : List Int} (hr : RowI rv rl) (hs : RowI sv set) (hok : argOk cv = true ∧ argOk nv = true) (hn : set.length ≤ 1000000) :
  callW X A lk lim 43 [.agg [cv,nv,rv],sv] H = some (I (ruleM rl set),H):=by
 have hX : X lk lim 43 [.agg [cv,nv,rv],sv] H = none:=noX1 (by decide) (by decide) (by decide)
 refine wb_callB [2] hX A43 rfl (by rcases hr with ⟨rfl,_⟩ | rfl <;> rcases hs with ⟨rfl,_⟩ | rfl <;> simp [argOk]) ?_
 generalize callW X A = C
 have hfin : ∀ out,out = ruleM rl set → ∀ env,find env 5 = I out → WB ⟨C,lk,H.length,[2]⟩ (.seq (.regN [5] [kM 42 5,kM 4 42]) .ret) (FinT [.tmp 4] true H (I (ruleM rl set),H)) env H:=by
  intro out ho env h5
  subst ho
  simp [restrict,h5,FinT,finish,resOf,resList,resOne,find,frz,below]
 have hloop : ∀ env,restrict [2,5,9,10,11] env = [(2,.box [cv,nv,rv]),(5,I (-1)),(9,sv),(10,I set.length),(11,I 0)] → WB ⟨C,lk,H.length,[2]⟩ (.block 0 (.loop [2,5,9,10,11] t43L1)) (Fol ⟨C,lk,H.length,[2]⟩ (.seq (.regN [5] [kM 42 5,kM 4 42]) .ret) (FinT [.tmp 4] true H (I (ruleM rl set),H))) env H:=by
  intro env hE
  refine wb_loop (σ:=Nat × Int) (fun z => [(2,.box [cv,nv,rv]),(5,I z.2),(9,sv),(10,I set.length),(11,I z.1)]) (fun _ => H) (fun z => z.1 ≤ set.length ∧ (set.drop z.1).foldl (ruleS rl) z.2 = ruleM rl set) (fun z => set.length - z.1) ?_ (0,-1) ⟨Nat.zero_le _,rfl⟩ hE rfl
  rintro ⟨i,out⟩ ⟨hi,ho⟩
  dsimp only at hi ho ⊢
  unfold t43L1
  by_cases hk : i < set.length
  case neg =>
   obtain rfl : i = set.length:=by omega
   rw [List.drop_length] at ho
   generalize hP : Rnd _ _ _ _ _ _ _ = P
   simp
   rw [← hP]
   exact hfin out ho _ rfl
  obtain ⟨k,hki⟩ : ∃ k,set[i] = k:=⟨_,rfl⟩
  obtain rfl : sv = .sl set.length (ints set):=by
   rcases hs with ⟨_,h⟩ | h
   ·subst h;simp at hk
   ·exact h
  rw [List.drop_eq_getElem_cons hk,hki] at ho
  have ho : (set.drop (i + 1)).foldl (ruleS rl) (ruleS rl out k) = ruleM rl set:=ho
  have hii : (ints set)[i]'(by rw [ints_len];exact hk) = I k:=by simp [ints,hki]
  have w : IntKind.i64.wrap ((i : Int) + 1) = (i : Int) + 1:=wrap64 (by omega) (by omega)
  have next : ∀ (P : Ex → Kt) out',ruleS rl out k = out' → P = Rnd [2,5,9,10,11] (fun z => [(2,.box [cv,nv,rv]),(5,I z.2),(9,.sl set.length (ints set)),(10,I set.length),(11,I z.1)]) (fun _ => H) (fun z => z.1 ≤ set.length ∧ (set.drop z.1).foldl (ruleS rl) z.2 = ruleM rl set) (fun z => set.length - z.1) (i,out) (BlkE 0 (Fol ⟨C,lk,H.length,[2]⟩ (.seq (.regN [5] [kM 42 5,kM 4 42]) .ret) (FinT [.tmp 4] true H (I (ruleM rl set),H)))) →
    ∀ env,restrict [2,5,9,10,11] env = [(2,.box [cv,nv,rv]),(5,I out'),(9,.sl set.length (ints set)),(10,I set.length),(11,I ((i + 1 : Nat) : Int))] → P .nrm env H:=by
   intro P out' h1 h2 env h3
   rw [h2,rnd_nrm]
   exact ⟨(i + 1,out'),⟨hk,by rw [← h1];exact ho⟩,by show set.length - (i + 1) < set.length - i;omega,h3,rfl⟩
  generalize hP : Rnd _ _ _ _ _ _ _ = P
  have next:=fun out' h => next P out' h hP.symm
  clear hP ho hfin hE
  by_cases hk0 : k < 0
  ·have hrs : ruleS rl out k = out:=by unfold ruleS;rw [if_neg (by omega)]
   simp [hk,hii,hk0,w]
   exact next out hrs _ rfl
  by_cases hkn : (rl.length : Int) ≤ k
  ·have hrs : ruleS rl out k = out:=by unfold ruleS;rw [if_neg (by omega)]
   rcases hr with ⟨rfl,rfl⟩ | rfl
   ·have hkn : (0 : Int) ≤ k:=by simpa using hkn
    simp [hk,hii,hk0,hkn,w]
    exact next out hrs _ rfl
   ·simp [hk,hii,hk0,hkn,w]
    exact next out hrs _ rfl
  obtain ⟨k,rfl⟩:=Int.eq_ofNat_of_zero_le (by omega : 0 ≤ k)
  have hkl : k < rl.length:=by omega
  obtain rfl : rv = .sl rl.length (ints rl):=by
   rcases hr with ⟨_,h⟩ | h
   ·subst h;simp at hkl
   ·exact h
  obtain ⟨r,hrk⟩ : ∃ r,rl[k] = r:=⟨_,rfl⟩
  have hrr : (ints rl)[k]'(by rw [ints_len];exact hkl) = I r:=by simp [ints,hrk]
  have hgd : rl.getD k 0 = r:=by rw [List.getD_eq_getElem?_getD,List.getElem?_eq_getElem hkl,hrk];rfl
  have hrs : ruleS rl out k = if 0 ≤ r ∧ (out < 0 ∨ r < out) then r else out:=by
   unfold ruleS;rw [if_pos (by omega),Int.toNat_natCast,hgd]
  clear hr hrk hgd
  by_cases h1 : 0 ≤ r
  ·by_cases h2 : out < 0
   ·rw [if_pos ⟨h1,.inl h2⟩] at hrs
    simp [hk,hii,hk0,hkn,hkl,hrr,h1,h2,w]
    exact next r hrs _ rfl
   ·by_cases h3 : r < out
    ·rw [if_pos ⟨h1,.inr h3⟩] at hrs
     simp [hk,hii,hk0,hkn,hkl,hrr,h1,h2,h3,w]
     exact next r hrs _ rfl
    ·rw [if_neg (by omega)] at hrs
     simp [hk,hii,hk0,hkn,hkl,hrr,h1,h2,h3,w]
     exact next out hrs _ rfl
  ·rw [if_neg (by omega)] at hrs
   simp [hk,hii,hk0,hkn,hkl,hrr,h1,w]
   exact next out hrs _ rfl
 unfold t43B
 rcases hs with ⟨rfl,rfl⟩ | rfl
 ·simp
  exact hloop _ rfl
 ·simp
  exact hloop _ rfl
end Go.Proofs.Ytnhennjliinplaa
