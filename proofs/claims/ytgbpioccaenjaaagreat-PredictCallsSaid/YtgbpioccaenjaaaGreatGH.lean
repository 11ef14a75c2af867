import Derived.Test.YtgbpioccaenjaaaGreatGE
set_option linter.unusedSimpArgs false
set_option linter.unusedVariables false
namespace Go.Proofs.YtgbpioccaenjaaaGreat
open Go Go.Hm

def mrg : List (List UInt8) → List (List UInt8) → List (List UInt8)
 | [],b => b
 | a,[] => a
 | x :: a,y :: b => if Op.bytesLess y x = true then y :: mrg (x :: a) b else x :: mrg a (y :: b)
termination_by a b => a.length + b.length
theorem mem_mrg {z : List UInt8} : ∀ (a b : List (List UInt8)),z ∈ mrg a b ↔ z ∈ a ∨ z ∈ b
 | [],b => by simp [mrg]
 | x :: a,[] => by simp [mrg]
 | x :: a,y :: b => by
  rw [mrg]
  split
  ·rw [List.mem_cons,mem_mrg (x :: a) b]
   simp only [List.mem_cons]
   constructor
   ·rintro (h | (h | h) | h)
    ·exact .inr (.inl h)
    ·exact .inl (.inl h)
    ·exact .inl (.inr h)
    ·exact .inr (.inr h)
   ·rintro ((h | h) | h | h)
    ·exact .inr (.inl (.inl h))
    ·exact .inr (.inl (.inr h))
    ·exact .inl h
    ·exact .inr (.inr h)
  ·rw [List.mem_cons,mem_mrg a (y :: b)]
   simp only [List.mem_cons]
   constructor
   ·rintro (h | h | h | h)
    ·exact .inl (.inl h)
    ·exact .inl (.inr h)
    ·exact .inr (.inl h)
    ·exact .inr (.inr h)
   ·rintro ((h | h) | h | h)
    ·exact .inl h
    ·exact .inr (.inl h)
    ·exact .inr (.inr (.inl h))
    ·exact .inr (.inr (.inr h))
termination_by a b => a.length + b.length
theorem up_mrg : ∀ (a b : List (List UInt8)),Up a → Up b → (∀ x ∈ a,∀ y ∈ b,x ≠ y) → Up (mrg a b)
 | [],b,_,hb,_ => by simpa [mrg] using hb
 | x :: a,[],ha,_,_ => by simpa [mrg] using ha
 | x :: a,y :: b,ha,hb,hd => by
  rw [mrg]
  obtain ⟨ha1,ha2⟩:=List.pairwise_cons.1 ha
  obtain ⟨hb1,hb2⟩:=List.pairwise_cons.1 hb
  split
  ·rename_i hl
   refine List.pairwise_cons.2 ⟨fun z hz => ?_,up_mrg (x :: a) b ha hb2 fun u hu v hv => hd u hu v (List.mem_cons_of_mem _ hv)⟩
   rcases (mem_mrg _ _).1 hz with h | h
   ·rcases List.mem_cons.1 h with rfl | h
    ·exact hl
    ·exact less_trans hl (ha1 z h)
   ·exact hb1 z h
  ·rename_i hl
   have hxy : Op.bytesLess x y = true:=by
    rcases less_tot x y with h | h | h
    ·exact h
    ·exact absurd h (hd x (List.mem_cons_self ..) y (List.mem_cons_self ..))
    ·exact absurd h hl
   refine List.pairwise_cons.2 ⟨fun z hz => ?_,up_mrg a (y :: b) ha2 hb fun u hu v hv => hd u (List.mem_cons_of_mem _ hu) v hv⟩
   rcases (mem_mrg _ _).1 hz with h | h
   ·exact ha1 z h
   ·rcases List.mem_cons.1 h with rfl | h
    ·exact hxy
    ·exact less_trans hxy (hb1 z h)
termination_by a b => a.length + b.length
def srt : Nat → List (List UInt8) → List (List UInt8)
 | 0,l => l
 | n + 1,l => if l.length < 2 then l else mrg (srt n (l.take (l.length / 2))) (srt n (l.drop (l.length / 2)))
theorem mem_srt {z : List UInt8} : ∀ (n : Nat) (l : List (List UInt8)),z ∈ srt n l ↔ z ∈ l
 | 0,l => Iff.rfl
 | n + 1,l => by
  unfold srt
  split
  ·exact Iff.rfl
  ·rw [mem_mrg,mem_srt n,mem_srt n,← List.mem_append,List.take_append_drop]
theorem up_srt : ∀ (n : Nat) (l : List (List UInt8)),l.length ≤ n → l.Nodup → Up (srt n l)
 | 0,l,h,_ => by
  rw [List.eq_nil_of_length_eq_zero (by omega : l.length = 0)]
  exact List.Pairwise.nil
 | n + 1,l,h,hd => by
  unfold srt
  split
  ·rename_i hl
   match l,hl with
   | [],_ => exact List.Pairwise.nil
   | [x],_ => exact List.pairwise_singleton ..
   | _ :: _ :: _,hl => exact absurd hl (by simp only [List.length_cons];omega)
  ·rename_i hl
   have hd2 : (l.take (l.length / 2) ++ l.drop (l.length / 2)).Nodup:=by rw [List.take_append_drop];exact hd
   rw [List.nodup_append] at hd2
   refine up_mrg _ _ (up_srt n _ (by rw [List.length_take];omega) hd2.1) (up_srt n _ (by rw [List.length_drop];omega) hd2.2.1) fun x hx y hy => ?_
   exact hd2.2.2 x ((mem_srt n _).1 hx) y ((mem_srt n _).1 hy)
theorem srt_norm {l : List (List UInt8)} (hd : l.Nodup) {n : Nat} (hn : l.length ≤ n) : srt n l = norm l:=
 up_ext (up_srt n l hn hd) (up_norm l) fun x => by rw [mem_srt,mem_norm]
theorem mrg_len : ∀ (a b : List (List UInt8)),(mrg a b).length = a.length + b.length
 | [],b => by simp [mrg]
 | x :: a,[] => by simp [mrg]
 | x :: a,y :: b => by
  rw [mrg]
  split
  ·rw [List.length_cons,mrg_len (x :: a) b];simp only [List.length_cons];omega
  ·rw [List.length_cons,mrg_len a (y :: b)];simp only [List.length_cons];omega
termination_by a b => a.length + b.length
theorem srt_len : ∀ (n : Nat) (l : List (List UInt8)),(srt n l).length = l.length
 | 0,l => rfl
 | n + 1,l => by
  unfold srt
  split
  ·rfl
  ·rw [mrg_len,srt_len n,srt_len n,List.length_take,List.length_drop];omega
end Go.Proofs.YtgbpioccaenjaaaGreat

namespace Go.Proofs.YtgbpioccaenjaaaGreat
open Go Go.Hm

theorem leq_not (x y : List UInt8) : (Op.bytesLess x y || x == y) = !Op.bytesLess y x:=by
 rcases less_tot x y with h | h | h
 ·rw [h,less_asym h];rfl
 ·subst h;rw [less_irr];simp
 ·rw [h,less_asym h]
  have : x ≠ y:=fun e => less_ne h e.symm
  simp [this]
theorem setH_S {lk lim : Nat} {H : Heap} {b : Nat} {cs : List AV} {x : List UInt8} (h : lk ≤ b) : setH lk lim 0 H b cs [Sg x] = some (H.set b (.cells cs)):=by
 unfold setH
 rw [if_pos ⟨h,.inr rfl,.inl (Nat.zero_le _)⟩]
theorem setH_L {lk lim : Nat} {H : Heap} {b : Nat} {cs : List AV} {l : List (List UInt8)} (h : lk ≤ b) : setH lk lim 0 H b cs (rowsB l) = some (H.set b (.cells cs)):=by
 unfold setH
 rw [if_pos ⟨h,.inr (bel_rowsB _ _),.inl (Nat.zero_le _)⟩]

theorem joined_code {lk lim : Nat} {H : Heap} (k : Nat) (x y : List UInt8) (hx : x.length ≤ 1000000000000000) (hy : y.length ≤ 1000000000000000) : callW X A lk lim 79 [I k,Sg x,Sg y] H = some (Sg (join k x y),H):=by
 refine wb_callB [] rfl A79 rfl rfl ?_
 unfold t79B
 generalize callW X A = C
 have hadd:=sg_add (a:=x) (b:=y) (by omega)
 have hxy : (x ++ y).length = x.length + y.length:=List.length_append ..
 by_cases h1 : k ≤ x.length
 ·have h1' : ¬ (x.length : Int) < k:=by omega
  have hj : join k x y = x.take k:=by unfold join;rw [if_pos (whole_len h1)]
  rw [hj]
  by_cases h3 : x.length ≤ k
  ·have h3' : ¬ (k : Int) < x.length:=by omega
   simp [Sg_size,h1',h1,h3',List.take_of_length_le h3]
  ·have h3' : (k : Int) < x.length:=by omega
   simp [Sg_size,h1',h1,h3',Sg_ext,bnd]
 have h1' : (x.length : Int) < k:=by omega
 by_cases hw : whole k x = true
 ·have hj : join k x y = x.take k:=by unfold join;rw [if_pos hw]
  rw [hj]
  have h2 : x ≠ []:=fun e => by
   subst e
   rcases whole_cases hw with h | h
   ·exact h1 h
   ·simp at h
  obtain ⟨c,hc,hl⟩:=last_get h2
  have hpos : 0 < x.length:=List.length_pos_iff.2 h2
  have w1 : IntKind.i64.wrap ((x.length : Int) - 1) = ((x.length - 1 : Nat) : Int):=by rw [wrap64 (by omega) (by omega)];omega
  have hc2 : c = 255:=by
   rcases whole_cases hw with h | h
   ·exact absurd h h1
   ·rw [hl] at h;cases h;rfl
  have hx2 : (x == []) = false:=by simp [h2]
  have h3' : ¬ (k : Int) < x.length:=by omega
  subst hc2
  simp [Sg_size,h1',sg_eqlN,hx2,w1,Sg_get,hc,h3',List.take_of_length_le (by omega : x.length ≤ k)]
 ·have hj : join k x y = (x ++ y).take k:=by unfold join;rw [if_neg hw]
  rw [hj]
  generalize hz : x ++ y = z at *
  by_cases h2 : x = []
  ·subst h2
   by_cases h3 : z.length ≤ k
   ·have h3' : ¬ (k : Int) < z.length:=by omega
    have h1k : 0 < k:=by simpa using h1'
    simp [Sg_size,h1k,sg_eqlN,hadd,h3',List.take_of_length_le h3]
   ·have h3' : (k : Int) < z.length:=by omega
    have h1k : 0 < k:=by simpa using h1'
    simp [Sg_size,h1k,sg_eqlN,hadd,h3',Sg_ext,bnd,(by omega : k ≤ z.length)]
  ·obtain ⟨c,hc,hl⟩:=last_get h2
   have hpos : 0 < x.length:=List.length_pos_iff.2 h2
   have w1 : IntKind.i64.wrap ((x.length : Int) - 1) = ((x.length - 1 : Nat) : Int):=by rw [wrap64 (by omega) (by omega)];omega
   have hc2 : (c == 255) = false:=by
    simp
    rintro rfl
    exact hw (whole_end hl)
   have hx2 : (x == []) = false:=by simp [h2]
   by_cases h3 : z.length ≤ k
   ·have h3' : ¬ (k : Int) < z.length:=by omega
    simp [Sg_size,h1',sg_eqlN,hx2,w1,Sg_get,hc,byte_eq,hc2,hadd,h3',List.take_of_length_le h3,bne]
   ·have h3' : (k : Int) < z.length:=by omega
    simp [Sg_size,h1',sg_eqlN,hx2,w1,Sg_get,hc,byte_eq,hc2,hadd,h3',Sg_ext,bnd,(by omega : k ≤ z.length),bne]

def entB (ks : List (List UInt8)) : List (AV × AV):=ks.map fun x => (Sg x,Bo true)
theorem mset_B (x : List UInt8) : ∀ ks : List (List UInt8),x ∉ ks → mset false [2] (Sg x) (Bo true) (entB ks) = some (entB (ks ++ [x]))
 | [],_ => by simp [entB,mset]
 | y :: ks,h => by
  have ih:=mset_B x ks (fun h2 => h (List.mem_cons_of_mem _ h2))
  show mset false [2] (Sg x) (Bo true) ((Sg y,Bo true) :: entB ks) = _
  unfold mset
  rw [eqK]
  have h1 : x ≠ y:=fun e => h (e ▸ List.mem_cons_self ..)
  have hb : (x == y) = false:=by simp [h1]
  rw [hb]
  simp only [ih]
  rfl
theorem mget_B (x : List UInt8) : ∀ ks : List (List UInt8),mget false [2] (Sg x) (entB ks) = some (if x ∈ ks then some (Bo true) else none)
 | [] => by simp [entB,mget]
 | y :: ks => by
  have ih:=mget_B x ks
  show mget false [2] (Sg x) ((Sg y,Bo true) :: entB ks) = _
  unfold mget
  rw [eqK]
  by_cases h1 : x = y
  ·subst h1;simp
  ·have hb : (x == y) = false:=by simp [h1]
   rw [hb]
   simp only [ih,List.mem_cons,h1,false_or]
def KH (H : Heap) (ks : List (List UInt8)) : Heap:=H ++ .map (entB ks) :: rlG ks
theorem KH_get (H : Heap) (ks : List (List UInt8)) : (KH H ks)[H.length]? = some (.map (entB ks)):=by simp [KH]
theorem KH_take (H : Heap) (ks : List (List UInt8)) : (KH H ks).take H.length = H:=by simp [KH]
theorem add_code {lk lim : Nat} {H : Heap} (hlk : lk ≤ H.length) (x : List UInt8) (ks : List (List UInt8)) (hl : ks.length ≤ 4100000000000) : callW X A lk lim 78 [rlV (H.length + 1) ks,.mp H.length,Sg x] (KH H ks) = some (rlV (H.length + 1) (putK ks x),KH H (putK ks x)):=by
 have hko : keyOk false [2] (Sg x) = true:=by simp [keyOk,eqK]
 have mg:=mget_B x ks
 have hlk1 : lk ≤ H.length + 1:=by omega
 have hbel : Hm.below 0 (Bo true) = true:=rfl
 cases ks with
 | nil =>
  have ms:=mset_B x [] (by simp)
  have r0 : (16 : Nat) ≤ room:=by decide
  rw [show putK [] x = [x] from rfl]
  show callW X A lk lim 78 [.e0,.mp H.length,Sg x] (H ++ [.map (entB [])]) = some (.hs (H.length + 1) 1 0 1 1,H ++ [.map (entB [x]),.cells (rowsB [x])])
  refine wb_callB [] rfl A78 rfl rfl ?_
  unfold t78B
  generalize callW X A = C
  generalize entB [] = e at *
  simp [-wi_mup,mapOf,mg,hko]
  rw [wi_mup]
  simp [mapOf,mg,hko,ms,hlk,src_one,r0]
  rfl
 | cons a q =>
  by_cases hx : x ∈ a :: q
  ·have hp : putK (a :: q) x = a :: q:=if_pos hx
   rw [hp]
   rw [if_pos hx] at mg
   show callW X A lk lim 78 [.hs (H.length + 1) (q.length + 1) 0 (q.length + 1) 1,.mp H.length,Sg x] (KH H (a :: q)) = some (.hs (H.length + 1) (q.length + 1) 0 (q.length + 1) 1,KH H (a :: q))
   refine wb_callB [] rfl A78 rfl rfl ?_
   unfold t78B
   generalize callW X A = C
   have hg:=KH_get H (a :: q)
   generalize KH H (a :: q) = G at *
   simp [mapOf,hg,mg,hko]
  ·have hp : putK (a :: q) x = a :: q ++ [x]:=if_neg hx
   rw [hp]
   rw [if_neg hx] at mg
   have ms:=mset_B x (a :: q) hx
   have r1 : (q.length + 1 + 1) * 16 ≤ room:=by unfold room;simp only [List.length_cons] at hl;omega
   show callW X A lk lim 78 [.hs (H.length + 1) (q.length + 1) 0 (q.length + 1) 1,.mp H.length,Sg x] (H ++ [.map (entB (a :: q)),.cells (rowsB (a :: q))]) = some (.hs (H.length + 1) ((q ++ [x]).length + 1) 0 ((q ++ [x]).length + 1) 1,H ++ [.map (entB (a :: q ++ [x])),.cells (rowsB (a :: q ++ [x]))])
   have hrl : (rowsB (a :: q)).length = q.length + 1:=by simp
   have hra : rowsB (a :: q ++ [x]) = rowsB (a :: q) ++ [Sg x]:=by simp [rowsB]
   rw [hra]
   refine wb_callB [] rfl A78 rfl rfl ?_
   unfold t78B
   generalize callW X A = C
   generalize rowsB (a :: q) = cs at *
   generalize entB (a :: q) = e at *
   generalize entB (a :: q ++ [x]) = e' at *
   simp [-wi_mup,mapOf,mg,hko]
   rw [wi_mup]
   simp [mapOf,mg,hko,ms,hlk,src_one,r1,hrl,appC,appG,setH_S,hlk1]
end Go.Proofs.YtgbpioccaenjaaaGreat

namespace Go.Proofs.YtgbpioccaenjaaaGreat
open Go Go.Hm

theorem rV_ne {l : List (List UInt8)} (h : l ≠ []) : rV l = .sl l.length (rowsB l):=if_neg h
theorem half (n : Nat) (h : n ≤ 9000000000000) : (n : Int).tdiv 2 = ((n / 2 : Nat) : Int) ∧ IntKind.i64.wrap ((n / 2 : Nat) : Int) = ((n / 2 : Nat) : Int):=by
 refine ⟨?_,wrap64 (by omega) (by omega)⟩
 rw [Int.tdiv_eq_ediv_of_nonneg (by omega)]
 omega
set_option maxRecDepth 20000 in
theorem s53L {C : Orc} {lk : Nat} {B : List Nat} {Q : Ex → Kt} {env : Env} {H : Heap} (hlk : lk ≤ H.length) {a b : List (List UInt8)} (hl : a.length + b.length ≤ 4100000000000) (ha : a ≠ []) (hb : b ≠ [])
  (hE : restrict [3,4,5] env = [(3,rowsV a),(4,rowsV b),(5,.e0)])
  (hQ : ∀ env' a' b' o os,(o :: os) ++ (a' ++ b') = mrg a b → restrict [3,4,5] env' = [(3,rowsV a'),(4,rowsV b'),(5,.hs H.length (os.length + 1) 0 (os.length + 1) 1)] → Q (.exit 0) env' (H ++ [.cells (rowsB (o :: os))])) :
  WB ⟨C,lk,H.length,B⟩ (.loop [3,4,5] t80L1) Q env H:=by
 generalize hr : mrg a b = r at hQ
 refine wb_loop (σ:=List (List UInt8) × List (List UInt8) × List (List UInt8)) (fun s => [(3,rowsV s.1),(4,rowsV s.2.1),(5,rlV H.length s.2.2)]) (fun s => H ++ rlG s.2.2)
  (fun s => s.2.2 ++ mrg s.1 s.2.1 = r ∧ (s.2.2 = [] → s.1 ≠ [] ∧ s.2.1 ≠ []) ∧ s.2.2.length + s.1.length + s.2.1.length ≤ 4100000000000) (fun s => s.1.length + s.2.1.length) ?_ (a,b,[]) ⟨hr,fun _ => ⟨ha,hb⟩,by simpa using hl⟩ hE (by simp [rlG])
 rintro ⟨a,b,out⟩ ⟨hinv,hne,hlen⟩
 simp only at hinv hne hlen
 unfold t80L1
 have fin : ∀ o os,out = o :: os → (a = [] ∨ b = []) → (o :: os) ++ (a ++ b) = r:=fun o os e h => by
  rw [← hinv,e]
  rcases h with rfl | rfl
  ·rw [mrg];simp
  ·cases a with
   | nil => rw [mrg];simp
   | cons x a => rw [mrg];simp;simp
 cases a with
 | nil =>
  cases out with
  | nil => exact absurd rfl (hne rfl).1
  | cons o os =>
   have hQ:=fun env' => hQ env' [] b o os (fin o os rfl (.inl rfl))
   show WB _ _ _ [(3,.sl 0 []),(4,rowsV b),(5,.hs H.length (os.length + 1) 0 (os.length + 1) 1)] (H ++ [.cells (rowsB (o :: os))])
   generalize rowsB (o :: os) = cs at *
   simp
   refine hQ _ ?_
   simp [rowsB]
 | cons x a =>
  cases b with
  | nil =>
   cases out with
   | nil => exact absurd rfl (hne rfl).2
   | cons o os =>
    have hQ:=fun env' => hQ env' (x :: a) [] o os (fin o os rfl (.inr rfl))
    show WB _ _ _ [(3,.sl (a.length + 1) (rowsB (x :: a))),(4,.sl 0 []),(5,.hs H.length (os.length + 1) 0 (os.length + 1) 1)] (H ++ [.cells (rowsB (o :: os))])
    generalize rowsB (o :: os) = cs at *
    simp
    refine hQ _ ?_
    simp [rowsB]
  | cons y b =>
   have hm : mrg (x :: a) (y :: b) = if Op.bytesLess y x = true then y :: mrg (x :: a) b else x :: mrg a (y :: b):=by rw [mrg]
   have hleq:=(sg_leq x y).trans (by rw [leq_not])
   show WB _ _ _ [(3,.sl (a.length + 1) (Sg x :: rowsB a)),(4,.sl (b.length + 1) (Sg y :: rowsB b)),(5,rlV H.length out)] (H ++ rlG out)
   simp only [List.length_cons] at hlen
   have hla : (rowsB a).length = a.length:=rowsB_len a
   have hlb : (rowsB b).length = b.length:=rowsB_len b
   have b1 : (1 : Int) ≤ (a.length : Int) + 1:=by omega
   have b2 : (1 : Int) ≤ (b.length : Int) + 1:=by omega
   have tka : (rowsB a).take a.length = rowsB a:=List.take_of_length_le (by omega)
   have tkb : (rowsB b).take b.length = rowsB b:=List.take_of_length_le (by omega)
   cases hlt : Op.bytesLess y x with
   | true =>
    rw [hlt] at hleq hm
    rw [if_pos rfl] at hm
    have hf : (out ++ [y]) ++ mrg (x :: a) b = r:=by rw [← hinv,hm];simp
    cases out with
    | nil =>
     show WB _ _ _ [(3,.sl (a.length + 1) (Sg x :: rowsB a)),(4,.sl (b.length + 1) (Sg y :: rowsB b)),(5,.e0)] (H ++ [])
     have r0 : (16 : Nat) ≤ room:=by decide
     simp [hleq,src_one,r0,bnd,b1,b2,tka,tkb,rnd_nrm]
     exact ⟨x :: a,b,[y],⟨hf,by simp,by simp;omega⟩,by simp;try omega,⟨⟨rfl,rfl⟩,⟨rfl,rfl⟩,rfl⟩,rfl⟩
    | cons o os =>
     show WB _ _ _ [(3,.sl (a.length + 1) (Sg x :: rowsB a)),(4,.sl (b.length + 1) (Sg y :: rowsB b)),(5,.hs H.length (os.length + 1) 0 (os.length + 1) 1)] (H ++ [.cells (rowsB (o :: os))])
     simp only [List.length_cons] at hlen
     have hrl : (rowsB (o :: os)).length = os.length + 1:=by simp
     have hra : rowsB (o :: os ++ [y]) = rowsB (o :: os) ++ [Sg y]:=by simp [rowsB]
     have r1 : (os.length + 1 + 1) * 16 ≤ room:=by unfold room;omega
     have hl2 : rlV H.length (o :: os ++ [y]) = .hs H.length (os.length + 1 + 1) 0 (os.length + 1 + 1) 1:=by simp [rlV]
     have hg2 : rlG (o :: os ++ [y]) = [.cells (rowsB (o :: os ++ [y]))]:=rfl
     generalize rowsB (o :: os) = cs at *
     simp [hleq,src_one,r1,hrl,appC,appG,setH_S,hlk,bnd,b1,b2,tka,tkb,rnd_nrm]
     exact ⟨x :: a,b,o :: os ++ [y],⟨hf,by simp,by simp;omega⟩,by simp;try omega,by rw [hl2];exact ⟨⟨rfl,rfl⟩,⟨rfl,rfl⟩,rfl⟩,by rw [hg2,hra]⟩
   | false =>
    rw [hlt] at hleq hm
    rw [if_neg Bool.false_ne_true] at hm
    have hf : (out ++ [x]) ++ mrg a (y :: b) = r:=by rw [← hinv,hm];simp
    cases out with
    | nil =>
     show WB _ _ _ [(3,.sl (a.length + 1) (Sg x :: rowsB a)),(4,.sl (b.length + 1) (Sg y :: rowsB b)),(5,.e0)] (H ++ [])
     have r0 : (16 : Nat) ≤ room:=by decide
     simp [hleq,src_one,r0,bnd,b1,b2,tka,tkb,rnd_nrm]
     exact ⟨a,y :: b,[x],⟨hf,by simp,by simp;omega⟩,by simp;try omega,⟨⟨rfl,rfl⟩,⟨rfl,rfl⟩,rfl⟩,rfl⟩
    | cons o os =>
     show WB _ _ _ [(3,.sl (a.length + 1) (Sg x :: rowsB a)),(4,.sl (b.length + 1) (Sg y :: rowsB b)),(5,.hs H.length (os.length + 1) 0 (os.length + 1) 1)] (H ++ [.cells (rowsB (o :: os))])
     simp only [List.length_cons] at hlen
     have hrl : (rowsB (o :: os)).length = os.length + 1:=by simp
     have hra : rowsB (o :: os ++ [x]) = rowsB (o :: os) ++ [Sg x]:=by simp [rowsB]
     have r1 : (os.length + 1 + 1) * 16 ≤ room:=by unfold room;omega
     have hl2 : rlV H.length (o :: os ++ [x]) = .hs H.length (os.length + 1 + 1) 0 (os.length + 1 + 1) 1:=by simp [rlV]
     have hg2 : rlG (o :: os ++ [x]) = [.cells (rowsB (o :: os ++ [x]))]:=rfl
     generalize rowsB (o :: os) = cs at *
     simp [hleq,src_one,r1,hrl,appC,appG,setH_S,hlk,bnd,b1,b2,tka,tkb,rnd_nrm]
     exact ⟨a,y :: b,o :: os ++ [x],⟨hf,by simp,by simp;omega⟩,by simp;try omega,by rw [hl2];exact ⟨⟨rfl,rfl⟩,⟨rfl,rfl⟩,rfl⟩,by rw [hg2,hra]⟩

set_option maxRecDepth 20000 in
theorem sorted_code : ∀ (n : Nat) {lk lim : Nat} {H : Heap} (_ : lk ≤ H.length) (l : List (List UInt8)) (_ : l.length ≤ n) (_ : l.length ≤ 4000000000000),callW X A lk lim 80 [rV l] H = some (rV (srt n l),H)
 | 0,lk,lim,H,hlk,l,hn,hl => by
  obtain rfl : l = []:=List.eq_nil_of_length_eq_zero (by omega)
  show callW X A lk lim 80 [.e0] H = some (.e0,H)
  refine wb_callB [] rfl A80 rfl rfl ?_
  unfold t80B
  generalize callW X A = C
  simp
 | n + 1,lk,lim,H,hlk,l,hn,hl => by
  have ih:=fun (K : Nat) (hK : K ≤ H.length) (L : Nat) (m : List (List UInt8)) (h1 : m.length ≤ n) (h3 : m.length ≤ 4000000000000) (h2 : m ≠ []) => sorted_code n (lk:=K) (lim:=L) (H:=H) hK m h1 h3
  have hn0:=Nat.le_refl H.length
  unfold srt
  by_cases h2 : l.length < 2
  ·rw [if_pos h2]
   have h2' : (l.length : Int) < 2:=by omega
   by_cases h0 : l = []
   ·subst h0
    show callW X A lk lim 80 [.e0] H = some (.e0,H)
    refine wb_callB [] rfl A80 rfl rfl ?_
    unfold t80B
    generalize callW X A = C
    simp
   ·have hfr:=fun G d => frz_rowsB H.length G d l
    have hbl:=bel_rowsB H.length l
    have hbl0:=bel_rowsB 0 l
    rw [rV_ne h0]
    generalize rowsB l = cs at *
    refine wb_callB [] rfl A80 rfl rfl ?_
    unfold t80B
    generalize callW X A = C
    simp [h2',hfr,hbl,hbl0]
  ·rw [if_neg h2]
   have h2' : ¬ (l.length : Int) < 2:=by omega
   obtain ⟨q1,q2⟩:=half l.length (by omega)
   have t1 : (l.take (l.length / 2)).length = l.length / 2:=by rw [List.length_take];omega
   have t2 : (l.drop (l.length / 2)).length = l.length - l.length / 2:=List.length_drop ..
   have hpos : 1 ≤ l.length / 2:=by omega
   have hlt : l.length / 2 < l.length:=by omega
   have n1 : l.take (l.length / 2) ≠ []:=fun e => by rw [e] at t1;simp at t1;omega
   have n2 : l.drop (l.length / 2) ≠ []:=fun e => by rw [e] at t2;simp at t2;omega
   have k1:=fun K hK L => ih K hK L (l.take (l.length / 2)) (by omega) (by omega) n1
   have k2:=fun K hK L => ih K hK L (l.drop (l.length / 2)) (by omega) (by omega) n2
   have s1:=srt_len n (l.take (l.length / 2))
   have s2:=srt_len n (l.drop (l.length / 2))
   have m1 : srt n (l.take (l.length / 2)) ≠ []:=fun e => by rw [e] at s1;simp at s1;omega
   have m2 : srt n (l.drop (l.length / 2)) ≠ []:=fun e => by rw [e] at s2;simp at s2;omega
   rw [rV_ne n1,t1] at k1
   rw [rV_ne n2,t2] at k2
   rw [rV_ne m1] at k1
   rw [rV_ne m2] at k2
   have c1 : (rowsB l).take (l.length / 2) = rowsB (l.take (l.length / 2)):=by simp [rowsB,List.map_take]
   have c2 : ((rowsB l).drop (l.length / 2)).take (l.length - l.length / 2) = rowsB (l.drop (l.length / 2)):=by rw [List.take_of_length_le (by simp)];simp [rowsB,List.map_drop]
   have hmn : mrg (srt n (l.take (l.length / 2))) (srt n (l.drop (l.length / 2))) ≠ []:=fun e => by
    have:=mrg_len (srt n (l.take (l.length / 2))) (srt n (l.drop (l.length / 2)))
    rw [e] at this;simp at this;omega
   have hab : (srt n (l.take (l.length / 2))).length + (srt n (l.drop (l.length / 2))).length ≤ 4100000000000:=by omega
   rw [rV_ne (by intro e;subst e;simp at h2 : l ≠ []),rV_ne hmn]
   generalize srt n (l.take (l.length / 2)) = a at *
   generalize srt n (l.drop (l.length / 2)) = b at *
   generalize hr : mrg a b = r at *
   have hrl : r.length = a.length + b.length:=by rw [← hr,mrg_len]
   refine wb_callB [] rfl A80 rfl rfl ?_
   unfold t80B
   generalize callW X A = C at k1 k2 ⊢
   have main : ∀ (Q : Ex → Kt) (env : Env),restrict [3,4,5] env = [(3,.sl a.length (rowsB a)),(4,.sl b.length (rowsB b)),(5,.e0)] →
     (∀ env' a' b' o os,(o :: os) ++ (a' ++ b') = r → restrict [3,4,5] env' = [(3,rowsV a'),(4,rowsV b'),(5,.hs H.length (os.length + 1) 0 (os.length + 1) 1)] → Q (.exit 0) env' (H ++ [.cells (rowsB (o :: os))])) →
     WB ⟨C,lk,H.length,[]⟩ (.loop [3,4,5] t80L1) Q env H:=fun Q env hE hQ => s53L hlk hab m1 m2 hE (by rw [hr];exact hQ)
   generalize t80L1 = lp at *
   generalize rowsB l = cl at *
   generalize hca : rowsB (l.take (l.length / 2)) = ca at *
   generalize hcb : rowsB (l.drop (l.length / 2)) = cb at *
   have hm1 : (l.length : Int) / 2 = ((l.length / 2 : Nat) : Int):=by omega
   generalize l.length / 2 = h at *
   generalize l.length = n at *
   have hle : h ≤ n:=by omega
   have hhn : h ≤ h:=Nat.le_refl _
   simp [hle,h2',q1,q2,bnd,c1,c2,k1,k2,hn0,hlk]
   refine main _ _ (by simp) fun env' a' b' o os hr' he => ?_
   have he : restrict [3,4,5] env' = [(3,.sl a'.length (rowsB a')),(4,.sl b'.length (rowsB b')),(5,.hs H.length (os.length + 1) 0 (os.length + 1) 1)]:=he
   have hR : rowsB r = rowsB (o :: os) ++ rowsB a' ++ rowsB b':=by rw [← hr'];simp [rowsB]
   have hrl2 : r.length = os.length + 1 + a'.length + b'.length:=by rw [← hr'];simp;omega
   have hco : (rowsB (o :: os)).length = os.length + 1:=by simp
   have hla : (rowsB a').length = a'.length:=by simp
   have hlb : (rowsB b').length = b'.length:=by simp
   have r1 : (os.length + 1 + a'.length) * 16 ≤ room:=by unfold room;omega
   have r2 : (os.length + 1 + a'.length + b'.length) * 16 ≤ room:=by unfold room;omega
   have hS1:=fun (lim : Nat) (G : Heap) (b : Nat) (cs : List AV) (h : lk ≤ b) => setH_L (lk:=lk) (lim:=lim) (H:=G) (b:=b) (cs:=cs) (l:=a') h
   have hS2:=fun (lim : Nat) (G : Heap) (b : Nat) (cs : List AV) (h : lk ≤ b) => setH_L (lk:=lk) (lim:=lim) (H:=G) (b:=b) (cs:=cs) (l:=b') h
   have hfr:=fun G d => frz_rowsB H.length G d r
   have hbl:=bel_rowsB H.length r
   have hbl0:=bel_rowsB 0 r
   have hlr : (rowsB r).length = r.length:=by simp
   rw [blk_exit,if_pos rfl,fol_nrm,wb_seq,wb_regN,he]
   rw [hrl2,hR] at *
   generalize rowsB (o :: os) = co at *
   generalize rowsB a' = ca' at *
   generalize rowsB b' = cb' at *
   generalize a'.length = na at *
   generalize b'.length = nb at *
   generalize os.length = no at *
   have sr1 : ∀ G,srcCells G (.sl na ca') = some (na,ca'):=fun G => rfl
   have sr2 : ∀ G,srcCells G (.sl nb cb') = some (nb,cb'):=fun G => rfl
   have p1 : ∀ x,no + 1 = no + 1 ∨ x:=fun _ => .inl rfl
   rw [List.append_assoc] at hfr hbl hbl0 hlr
   have htk : (co ++ (ca' ++ cb')).take (no + 1 + na + nb) = co ++ (ca' ++ cb'):=List.take_of_length_le (by omega)
   have hn2 : no + 1 + (na + nb) = no + 1 + na + nb:=by omega
   simp [sr1,sr2,hla,hlb,hco,r1,r2,appC,appG,hS1,hS2,hlk]
   generalize co ++ (ca' ++ cb') = cz at *
   simp [htk,hfr,hbl,hbl0,hn2]
end Go.Proofs.YtgbpioccaenjaaaGreat

namespace Go.Proofs.YtgbpioccaenjaaaGreat
open Go Go.Hm

theorem nodup_putK {ks : List (List UInt8)} (h : ks.Nodup) (x : List UInt8) : (putK ks x).Nodup:=by
 unfold putK
 split
 ·exact h
 ·rename_i hx
  rw [List.nodup_append]
  refine ⟨h,List.pairwise_singleton ..,fun u hu v hv e => ?_⟩
  obtain rfl:=List.mem_singleton.1 hv
  exact hx (e ▸ hu)
theorem nodup_pl : ∀ (l ks : List (List UInt8)),ks.Nodup → (pl ks l).Nodup
 | [],_,h => h
 | x :: l,ks,h => nodup_pl l (putK ks x) (nodup_putK h x)
theorem srt_pl (l : List (List UInt8)) {n : Nat} (h : (pl [] l).length ≤ n) : srt n (pl [] l) = norm l:=by
 rw [srt_norm (nodup_pl l [] List.Pairwise.nil) h,norm_pl]
theorem putK_cons (ks : List (List UInt8)) (x : List UInt8) : ∃ o os,putK ks x = o :: os:=by
 have : putK ks x ≠ []:=List.ne_nil_of_mem (mem_putK.2 (.inr rfl))
 cases h : putK ks x with
 | nil => exact absurd h this
 | cons o os => exact ⟨o,os,rfl⟩
theorem rlV_cons (B : Nat) (o : List UInt8) (os : List (List UInt8)) : rlV B (o :: os) = .hs B (os.length + 1) 0 (os.length + 1) 1:=rfl
theorem zro_rowsB (d : Nat) (l : List (List UInt8)) : (rowsB l).map (zro d) = rowsB l:=by
 unfold rowsB
 rw [List.map_map]
 refine List.map_congr_left fun x _ => ?_
 cases d <;> rfl
theorem frz_rl (H : Heap) (ks : List (List UInt8)) : frzV H.length (KH H ks) (rlV (H.length + 1) ks) = rV ks:=by
 cases ks with
 | nil => rfl
 | cons o os =>
  rw [rlV_cons]
  have hfr:=fun G d => frz_rowsB H.length G d (o :: os)
  have hbl:=bel_rowsB H.length (o :: os)
  have hbl0:=bel_rowsB 0 (o :: os)
  have htk : (rowsB (o :: os)).take (os.length + 1) = rowsB (o :: os):=List.take_of_length_le (by simp)
  have hln : (rowsB (o :: os)).length = os.length + 1:=by simp
  have hz:=zro_rowsB 3 (o :: os)
  have hg : (KH H (o :: os))[H.length + 1]? = some (.cells (rowsB (o :: os))):=by
   unfold KH
   rw [List.getElem?_append_right (by omega)]
   simp [rlG]
  rw [rV_ne (by simp)]
  generalize KH H (o :: os) = G at *
  generalize hc : rowsB (o :: os) = cs at *
  have hn : ¬ H.length + 1 < H.length:=by omega
  simp [frzV,frz,hn,hg,htk,hfr,hbl,hbl0,Hm.below,zroT,zro,hz,hln]
set_option maxRecDepth 20000 in
theorem u31L1 {C : Orc} {lk : Nat} {Q : Ex → Kt} {env : Env} {H : Heap} {va vb : AV} {a : List (List UInt8)} (hva : RV va a) (hl : a.length ≤ 1000000000000)
  (kp : ∀ (L : Nat) (ks : List (List UInt8)) (x : List UInt8),ks.length ≤ 4100000000000 → C lk L 78 [rlV (H.length + 1) ks,.mp H.length,Sg x] (KH H ks) = some (rlV (H.length + 1) (putK ks x),KH H (putK ks x)))
  (hvb : vb = .e0 ∨ ∃ n cs,vb = .sl n cs)
  (hE : restrict [0,1,5,6,7] env = [(0,va),(1,vb),(5,.mp H.length),(6,.e0),(7,I 0)])
  (hQ : ∀ env',restrict [1,5,6] env' = [(1,vb),(5,.mp H.length),(6,rlV (H.length + 1) (pl [] a))] → Q (.exit 0) env' (KH H (pl [] a))) :
  WB ⟨C,lk,H.length,[]⟩ (.loop [0,1,5,6,7] t76L1) Q env (H ++ [.map []]):=by
 refine wb_loop (σ:=Nat) (fun i => [(0,va),(1,vb),(5,.mp H.length),(6,rlV (H.length + 1) (pl [] (a.take i))),(7,I i)]) (fun i => KH H (pl [] (a.take i)))
  (fun i => i ≤ a.length) (fun i => a.length - i) ?_ 0 (by omega) hE (by simp [KH,pl,entB,rlG])
 intro i hi
 unfold t76L1
 by_cases hil : i < a.length
 case neg =>
  obtain rfl : i = a.length:=by omega
  rw [List.take_length]
  have hlv : ∃ lv,rlV (H.length + 1) (pl [] a) = lv ∧ (lv = .e0 ∨ ∃ n,lv = .hs (H.length + 1) n 0 n 1):=⟨_,rfl,by
   unfold rlV;split
   ·exact .inl rfl
   ·exact .inr ⟨_,rfl⟩⟩
  obtain ⟨lv,e,hlv⟩:=hlv
  show WB _ _ _ [(0,va),(1,vb),(5,.mp H.length),(6,rlV (H.length + 1) (pl [] a)),(7,I a.length)] _
  rw [e] at hQ ⊢
  generalize KH H (pl [] a) = G at *
  rcases hva with rfl | ⟨rfl,rfl⟩ <;> rcases hvb with rfl | ⟨n,cs,rfl⟩ <;> rcases hlv with rfl | ⟨m,rfl⟩
  all_goals
   simp
   refine hQ _ ?_
   simp
 have hva : va = rowsV a:=by
  rcases hva with e | ⟨_,e⟩
  ·exact e
  ·subst e;simp at hil
 subst hva
 have hil' : (i : Int) < a.length:=by omega
 have w1 : IntKind.i64.wrap ((i : Int) + 1) = (i : Int) + 1:=wrap64 (by omega) (by omega)
 have ga:=rowsB_getE hil
 have hsn : pl [] (a.take (i + 1)) = putK (pl [] (a.take i)) a[i]:=by rw [List.take_succ_eq_append_getElem hil,pl_snoc]
 have hlen:=pl_len (a.take i) []
 rw [List.length_take,List.length_nil] at hlen
 have kp1:=fun L => kp L (pl [] (a.take i)) a[i] (by omega)
 obtain ⟨o,os,hp⟩:=putK_cons (pl [] (a.take i)) a[i]
 rw [hp,rlV_cons] at kp1
 rw [hp] at hsn
 generalize a[i] = x at *
 have hfin : ∀ n : Nat,n = i + 1 → rlV (H.length + 1) (pl [] (a.take n)) = .hs (H.length + 1) (os.length + 1) 0 (os.length + 1) 1 ∧ KH H (pl [] (a.take n)) = KH H (o :: os):=fun n e => by
  subst e;rw [hsn];exact ⟨rfl,rfl⟩
 have hf:=hfin (i + 1) rfl
 generalize pl [] (a.take i) = ks at *
 generalize KH H (o :: os) = G' at *
 cases ks with
 | nil =>
  show WB _ _ _ [(0,rowsV a),(1,vb),(5,.mp H.length),(6,.e0),(7,I i)] _
  have kp2 : ∀ L,C lk L 78 [.e0,.mp H.length,Sg x] (KH H []) = _:=kp1
  generalize KH H [] = G at *
  rcases hvb with rfl | ⟨n,cs,rfl⟩
  all_goals
   simp [hil,hil',rowsB_len,ga,kp2,w1,rnd_nrm]
   exact ⟨i + 1,by omega,by omega,⟨hf.1.symm,by omega⟩,hf.2.symm⟩
 | cons p q =>
  show WB _ _ _ [(0,rowsV a),(1,vb),(5,.mp H.length),(6,.hs (H.length + 1) (q.length + 1) 0 (q.length + 1) 1),(7,I i)] _
  have kp2 : ∀ L,C lk L 78 [.hs (H.length + 1) (q.length + 1) 0 (q.length + 1) 1,.mp H.length,Sg x] (KH H (p :: q)) = _:=kp1
  generalize KH H (p :: q) = G at *
  rcases hvb with rfl | ⟨n,cs,rfl⟩
  all_goals
   simp [hil,hil',rowsB_len,ga,kp2,w1,rnd_nrm]
   exact ⟨i + 1,by omega,by omega,⟨hf.1.symm,by omega⟩,hf.2.symm⟩
set_option maxRecDepth 20000 in
theorem u31L2 {C : Orc} {lk : Nat} {Q : Ex → Kt} {env : Env} {H : Heap} {vb : AV} {a b : List (List UInt8)} (hvb : RV vb b) (hla : a.length ≤ 1000000000000) (hl : b.length ≤ 1000000000000)
  (kp : ∀ (L : Nat) (ks : List (List UInt8)) (x : List UInt8),ks.length ≤ 4100000000000 → C lk L 78 [rlV (H.length + 1) ks,.mp H.length,Sg x] (KH H ks) = some (rlV (H.length + 1) (putK ks x),KH H (putK ks x)))
  (hE : restrict [1,5,6,8] env = [(1,vb),(5,.mp H.length),(6,rlV (H.length + 1) (pl [] a)),(8,I 0)])
  (hQ : ∀ env',restrict [6] env' = [(6,rlV (H.length + 1) (pl [] (a ++ b)))] → Q (.exit 2) env' (KH H (pl [] (a ++ b)))) :
  WB ⟨C,lk,H.length,[]⟩ (.loop [1,5,6,8] t76L2) Q env (KH H (pl [] a)):=by
 refine wb_loop (σ:=Nat) (fun i => [(1,vb),(5,.mp H.length),(6,rlV (H.length + 1) (pl [] (a ++ b.take i))),(8,I i)]) (fun i => KH H (pl [] (a ++ b.take i)))
  (fun i => i ≤ b.length) (fun i => b.length - i) ?_ 0 (by omega) (by simpa using hE) (by simp)
 intro i hi
 unfold t76L2
 by_cases hil : i < b.length
 case neg =>
  obtain rfl : i = b.length:=by omega
  rw [List.take_length]
  have hlv : ∃ lv,rlV (H.length + 1) (pl [] (a ++ b)) = lv ∧ (lv = .e0 ∨ ∃ n,lv = .hs (H.length + 1) n 0 n 1):=⟨_,rfl,by
   unfold rlV;split
   ·exact .inl rfl
   ·exact .inr ⟨_,rfl⟩⟩
  obtain ⟨lv,e,hlv⟩:=hlv
  show WB _ _ _ [(1,vb),(5,.mp H.length),(6,rlV (H.length + 1) (pl [] (a ++ b))),(8,I b.length)] _
  rw [e] at hQ ⊢
  generalize KH H (pl [] (a ++ b)) = G at *
  rcases hvb with rfl | ⟨rfl,rfl⟩ <;> rcases hlv with rfl | ⟨m,rfl⟩
  all_goals
   simp
   refine hQ _ ?_
   simp
 have hvb : vb = rowsV b:=by
  rcases hvb with e | ⟨_,e⟩
  ·exact e
  ·subst e;simp at hil
 subst hvb
 have hil' : (i : Int) < b.length:=by omega
 have w1 : IntKind.i64.wrap ((i : Int) + 1) = (i : Int) + 1:=wrap64 (by omega) (by omega)
 have ga:=rowsB_getE hil
 have hsn : pl [] (a ++ b.take (i + 1)) = putK (pl [] (a ++ b.take i)) b[i]:=by rw [List.take_succ_eq_append_getElem hil,← List.append_assoc,pl_snoc]
 have hlen:=pl_len (a ++ b.take i) []
 rw [List.length_append,List.length_take,List.length_nil] at hlen
 have kp1:=fun L => kp L (pl [] (a ++ b.take i)) b[i] (by omega)
 obtain ⟨o,os,hp⟩:=putK_cons (pl [] (a ++ b.take i)) b[i]
 rw [hp,rlV_cons] at kp1
 rw [hp] at hsn
 generalize b[i] = x at *
 have hfin : ∀ n : Nat,n = i + 1 → rlV (H.length + 1) (pl [] (a ++ b.take n)) = .hs (H.length + 1) (os.length + 1) 0 (os.length + 1) 1 ∧ KH H (pl [] (a ++ b.take n)) = KH H (o :: os):=fun n e => by
  subst e;rw [hsn];exact ⟨rfl,rfl⟩
 have hf:=hfin (i + 1) rfl
 generalize pl [] (a ++ b.take i) = ks at *
 generalize KH H (o :: os) = G' at *
 cases ks with
 | nil =>
  show WB _ _ _ [(1,rowsV b),(5,.mp H.length),(6,.e0),(8,I i)] _
  have kp2 : ∀ L,C lk L 78 [.e0,.mp H.length,Sg x] (KH H []) = _:=kp1
  generalize KH H [] = G at *
  all_goals
   simp [hil,hil',rowsB_len,ga,kp2,w1,rnd_nrm]
   exact ⟨i + 1,by omega,by omega,⟨hf.1.symm,by omega⟩,hf.2.symm⟩
 | cons p q =>
  show WB _ _ _ [(1,rowsV b),(5,.mp H.length),(6,.hs (H.length + 1) (q.length + 1) 0 (q.length + 1) 1),(8,I i)] _
  have kp2 : ∀ L,C lk L 78 [.hs (H.length + 1) (q.length + 1) 0 (q.length + 1) 1,.mp H.length,Sg x] (KH H (p :: q)) = _:=kp1
  generalize KH H (p :: q) = G at *
  all_goals
   simp [hil,hil',rowsB_len,ga,kp2,w1,rnd_nrm]
   exact ⟨i + 1,by omega,by omega,⟨hf.1.symm,by omega⟩,hf.2.symm⟩

theorem restrict_frzE (keep : List Nat) (lim : Nat) (H : Heap) (env : Env) : restrict keep (frzE lim H env) = (restrict keep env).map fun p => (p.1,frzV lim H p.2):=by
 simp [restrict,find_frzE]
theorem cut_KH (H : Heap) (ks : List (List UInt8)) : ∃ G,cutH H.length (KH H ks) = H ++ G:=by
 unfold cutH
 rw [KH_take]
 exact ⟨_,rfl⟩
set_option maxRecDepth 20000 in
theorem union2_code {lk lim : Nat} {H : Heap} (hlk : lk ≤ H.length) {va vb : AV} {a b : List (List UInt8)} (ha : RV va a) (hb : RV vb b) (hla : a.length ≤ 1000000000000) (hlb : b.length ≤ 1000000000000) : callW X A lk lim 76 [va,vb] H = some (rV (uni a b),H):=by
 have kp:=fun (L : Nat) (ks : List (List UInt8)) (x : List UInt8) h => add_code (lk:=lk) (lim:=L) (H:=H) hlk x ks h
 have hle:=pl_len (a ++ b) []
 rw [List.length_append,List.length_nil] at hle
 obtain ⟨G,hG⟩:=cut_KH H (pl [] (a ++ b))
 have ks:=fun (L : Nat) => sorted_code (pl [] (a ++ b)).length (lk:=lk) (lim:=L) (H:=H ++ G) (by simp;omega) (pl [] (a ++ b)) (Nat.le_refl _) (by omega)
 rw [srt_pl _ (Nat.le_refl _)] at ks
 have hf:=frz_rl H (pl [] (a ++ b))
 have hvb2 : vb = .e0 ∨ ∃ n cs,vb = .sl n cs:=by
  rcases hb with rfl | ⟨rfl,_⟩
  ·exact .inr ⟨_,_,rfl⟩
  ·exact .inl rfl
 have main1 : ∀ (Q : Ex → Kt) (env : Env),restrict [0,1,5,6,7] env = [(0,va),(1,vb),(5,.mp H.length),(6,.e0),(7,I 0)] →
   (∀ env',restrict [1,5,6] env' = [(1,vb),(5,.mp H.length),(6,rlV (H.length + 1) (pl [] a))] → Q (.exit 0) env' (KH H (pl [] a))) →
   WB ⟨callW X A,lk,H.length,[]⟩ (.loop [0,1,5,6,7] t76L1) Q env (H ++ [.map []]):=fun Q env hE hQ => u31L1 ha hla kp hvb2 hE hQ
 have main2 : ∀ (Q : Ex → Kt) (env : Env),restrict [1,5,6,8] env = [(1,vb),(5,.mp H.length),(6,rlV (H.length + 1) (pl [] a)),(8,I 0)] →
   (∀ env',restrict [6] env' = [(6,rlV (H.length + 1) (pl [] (a ++ b)))] → Q (.exit 2) env' (KH H (pl [] (a ++ b)))) →
   WB ⟨callW X A,lk,H.length,[]⟩ (.loop [1,5,6,8] t76L2) Q env (KH H (pl [] a)):=fun Q env hE hQ => u31L2 hb hla hlb kp hE hQ
 have key : WB ⟨callW X A,lk,H.length,[]⟩ t76B (FinT [.tmp 4] true H (rV (uni a b),H)) (enterFrom 0 [va,vb]) H:=by
  unfold t76B
  generalize callW X A = C at ks main1 main2 ⊢
  generalize t76L1 = l1 at *
  generalize t76L2 = l2 at *
  simp
  refine main1 _ _ (by simp) fun env' he => ?_
  rw [blk_exit,if_pos rfl,fol_nrm,wb_seq,wb_seq,wb_regN,he]
  simp
  refine main2 _ _ (by simp) fun env' he => ?_
  rw [blk_exit,if_pos rfl,fol_nrm,wb_seq,wb_frz]
  refine ⟨hlk,by simp [KH],?_⟩
  rw [fol_nrm,wb_seq,wb_regN,restrict_frzE,he,hG]
  simp only [List.map_cons,List.map_nil,hf]
  show WR _ _ _ _ (H ++ G)
  have hrv:=rV_rv (pl [] (a ++ b))
  have hrn:=rV_rv (norm (a ++ b))
  have hfr:=fun G d => frz_rowsB H.length G d (norm (a ++ b))
  have hbl:=bel_rowsB H.length (norm (a ++ b))
  have hbl0:=bel_rowsB 0 (norm (a ++ b))
  show WR _ _ (Fol _ _ (FinT _ _ _ (rV (norm (a ++ b)),H)) .nrm) _ _
  generalize rV (pl [] (a ++ b)) = x at *
  generalize rV (norm (a ++ b)) = y at *
  rcases rv_noRp hrv with rfl | rfl <;> rcases rv_noRp hrn with rfl | rfl
  all_goals
   generalize rowsB (norm (a ++ b)) = cs at *
   simp [ks,hlk,hfr,hbl,hbl0]
 rcases ha with rfl | ⟨rfl,rfl⟩ <;> rcases hb with rfl | ⟨rfl,rfl⟩
 all_goals exact wb_callB [] rfl A76 rfl rfl key
end Go.Proofs.YtgbpioccaenjaaaGreat
