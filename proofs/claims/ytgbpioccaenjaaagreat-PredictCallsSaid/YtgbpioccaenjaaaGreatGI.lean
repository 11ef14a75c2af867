import Derived.Test.YtgbpioccaenjaaaGreatGH
set_option linter.unusedSimpArgs false
set_option linter.unusedVariables false
namespace Go.Proofs.YtgbpioccaenjaaaGreat
open Go Go.Hm

def KP (C : Orc) (lk : Nat) (H : Heap) : Prop:=∀ (K : Nat) (_ : K ≤ H.length) (L : Nat) (ks : List (List UInt8)) (x : List UInt8),ks.length ≤ 4100000000000 → C K L 78 [rlV (H.length + 1) ks,.mp H.length,Sg x] (KH H ks) = some (rlV (H.length + 1) (putK ks x),KH H (putK ks x))
def KJ (C : Orc) : Prop:=∀ (K L : Nat) (G : Heap) (k : Nat) (x y : List UInt8),x.length ≤ 1000000000000000 → y.length ≤ 1000000000000000 → C K L 79 [I k,Sg x,Sg y] G = some (Sg (join k x y),G)
theorem join_f {k : Nat} {x : List UInt8} (h : whole k x = false) (y : List UInt8) : join k x y = (x ++ y).take k:=by unfold join;rw [if_neg (by simp [h])]
theorem join_t {k : Nat} {x : List UInt8} (h : whole k x = true) (y : List UInt8) : join k x y = x.take k:=by unfold join;rw [if_pos h]
set_option maxRecDepth 20000 in
theorem c30L1 {C : Orc} {lk : Nat} {Q : Ex → Kt} {env : Env} {H : Heap} {a b ks : List (List UInt8)} {k i : Nat} {x : List UInt8} {w : Bool} (hlk : lk ≤ H.length) (kp : KP C lk H) (kj : KJ C) (hil : i < a.length) (hax : a[i] = x) (hx : x.length ≤ 1000000) (hb : ∀ y ∈ b,y.length ≤ 1000000) (hl : b.length ≤ 2000000) (hkl : ks.length ≤ 4000000000001)
  (hE : restrict [0,1,2,7,8,9,10,11] env = [(0,I k),(1,rowsV a),(2,rowsV b),(7,.mp H.length),(8,rlV (H.length + 1) ks),(9,I i),(10,Bo w),(11,I 0)])
  (hQ : ∀ env',restrict [0,1,2,7,8,9] env' = [(0,I k),(1,rowsV a),(2,rowsV b),(7,.mp H.length),(8,rlV (H.length + 1) (pl ks (if w = true then [] else b.map (join k x)))),(9,I i)] → Q (.exit 2) env' (KH H (pl ks (if w = true then [] else b.map (join k x))))) :
  WB ⟨C,lk,H.length,[]⟩ (.loop [0,1,2,7,8,9,10,11] t52L1) Q env (KH H ks):=by
 refine wb_loop (σ:=Nat) (fun j => [(0,I k),(1,rowsV a),(2,rowsV b),(7,.mp H.length),(8,rlV (H.length + 1) (pl ks ((b.take j).map (join k x)))),(9,I i),(10,Bo w),(11,I j)]) (fun j => KH H (pl ks ((b.take j).map (join k x))))
  (fun j => j ≤ b.length ∧ (w = true → j = 0)) (fun j => b.length - j) ?_ 0 ⟨Nat.zero_le _,fun _ => rfl⟩ hE rfl
 rintro j ⟨hj,hw⟩
 unfold t52L1
 have hn0:=Nat.le_refl H.length
 have lvc : ∀ l : List (List UInt8),∃ lv,rlV (H.length + 1) l = lv ∧ (lv = .e0 ∨ ∃ n,lv = .hs (H.length + 1) n 0 n 1):=fun l => ⟨_,rfl,by
  unfold rlV;split
  ·exact .inl rfl
  ·exact .inr ⟨_,rfl⟩⟩
 by_cases hjl : w = false ∧ j < b.length
 case neg =>
  have he : pl ks ((b.take j).map (join k x)) = pl ks (if w = true then [] else b.map (join k x)):=by
   cases w with
   | true => rw [hw rfl];rfl
   | false =>
    have : j = b.length:=by simp at hjl;omega
    subst this
    rw [List.take_length];rfl
  show WB _ _ _ [(0,I k),(1,rowsV a),(2,rowsV b),(7,.mp H.length),(8,rlV (H.length + 1) (pl ks ((b.take j).map (join k x)))),(9,I i),(10,Bo w),(11,I j)] (KH H (pl ks ((b.take j).map (join k x))))
  rw [he]
  obtain ⟨lv,e,hlv⟩:=lvc (pl ks (if w = true then [] else b.map (join k x)))
  rw [e] at hQ ⊢
  generalize KH H (pl ks (if w = true then [] else b.map (join k x))) = G at *
  cases w with
  | true =>
   rcases hlv with rfl | ⟨m,rfl⟩
   all_goals
    by_cases hjl2 : (j : Int) < b.length
    ·simp [hjl2]
     exact hQ _ (by simp)
    ·simp [hjl2]
     exact hQ _ (by simp)
  | false =>
   have hjl2 : ¬ (j : Int) < b.length:=by simp at hjl;omega
   have hjl3 : b.length ≤ j:=by omega
   rcases hlv with rfl | ⟨m,rfl⟩
   all_goals
    simp [hjl2,hjl3]
    exact hQ _ (by simp)
 obtain ⟨rfl,hjl⟩:=hjl
 have hjl' : (j : Int) < b.length:=by omega
 have hil' : (i : Int) < a.length:=by omega
 have w1 : IntKind.i64.wrap ((j : Int) + 1) = (j : Int) + 1:=wrap64 (by omega) (by omega)
 have ga:=rowsB_getE hil
 rw [hax] at ga
 have gb:=rowsB_getE hjl
 have hy:=hb b[j] (List.getElem_mem hjl)
 have hsn : pl ks ((b.take (j + 1)).map (join k x)) = putK (pl ks ((b.take j).map (join k x))) (join k x b[j]):=by rw [List.take_succ_eq_append_getElem hjl,List.map_append,List.map_cons,List.map_nil,pl_snoc]
 have hlen:=pl_len ((b.take j).map (join k x)) ks
 rw [List.length_map,List.length_take] at hlen
 have kj1:=fun (K L : Nat) (G : Heap) => kj K L G k x b[j] (by omega) (by omega)
 have kp1:=fun K hK L => kp K hK L (pl ks ((b.take j).map (join k x))) (join k x b[j]) (by omega)
 obtain ⟨o,os,hp⟩:=putK_cons (pl ks ((b.take j).map (join k x))) (join k x b[j])
 rw [hp,rlV_cons] at kp1
 rw [hp] at hsn
 generalize join k x b[j] = z at *
 generalize b[j] = y at *
 have hfin : ∀ n : Nat,n = j + 1 → rlV (H.length + 1) (pl ks ((b.take n).map (join k x))) = .hs (H.length + 1) (os.length + 1) 0 (os.length + 1) 1 ∧ KH H (pl ks ((b.take n).map (join k x))) = KH H (o :: os):=fun n e => by
  subst e;rw [hsn];exact ⟨rfl,rfl⟩
 have hf:=hfin (j + 1) rfl
 generalize pl ks ((b.take j).map (join k x)) = ks' at *
 generalize KH H (o :: os) = G' at *
 clear hQ hE
 cases ks' with
 | nil =>
  show WB _ _ _ [(0,I k),(1,rowsV a),(2,rowsV b),(7,.mp H.length),(8,.e0),(9,I i),(10,Bo false),(11,I j)] _
  have kp2 : ∀ K,K ≤ H.length → ∀ L,C K L 78 [.e0,.mp H.length,Sg z] (KH H []) = _:=kp1
  generalize KH H [] = G at *
  simp [hjl,hjl',hil,hil',rowsB_len,ga,gb,kj1,kp2,hlk,hn0,w1,rnd_nrm]
  exact ⟨j + 1,by omega,by omega,⟨by rw [← List.map_take];exact hf.1.symm,by omega⟩,by rw [← List.map_take];exact hf.2.symm⟩
 | cons p q =>
  show WB _ _ _ [(0,I k),(1,rowsV a),(2,rowsV b),(7,.mp H.length),(8,.hs (H.length + 1) (q.length + 1) 0 (q.length + 1) 1),(9,I i),(10,Bo false),(11,I j)] _
  have kp2 : ∀ K,K ≤ H.length → ∀ L,C K L 78 [.hs (H.length + 1) (q.length + 1) 0 (q.length + 1) 1,.mp H.length,Sg z] (KH H (p :: q)) = _:=kp1
  generalize KH H (p :: q) = G at *
  simp [hjl,hjl',hil,hil',rowsB_len,ga,gb,kj1,kp2,hlk,hn0,w1,rnd_nrm]
  exact ⟨j + 1,by omega,by omega,⟨by rw [← List.map_take];exact hf.1.symm,by omega⟩,by rw [← List.map_take];exact hf.2.symm⟩

def rowK (k : Nat) (b : List (List UInt8)) (x : List UInt8) : List (List UInt8):=if whole k x = true then [x.take k] else b.map (join k x)
theorem catL_rowK (k : Nat) (a b : List (List UInt8)) : catL k a b = a.flatMap (rowK k b):=by
 unfold catL rowK
 congr 1
 funext x
 split
 ·rfl
 ·rename_i h
  refine List.map_congr_left fun y _ => ?_
  rw [join_f (by simpa using h)]
def c30T : AC:=match t52L2 with
 | .seq _ (.seq (.block _ (.seq _ r)) _) => r
 | _ => .skip
set_option maxRecDepth 20000 in
theorem c30T_wb {C : Orc} {lk : Nat} {Q : Ex → Kt} {env : Env} {H : Heap} {a b ks : List (List UInt8)} {k i : Nat} {x : List UInt8} (hlk : lk ≤ H.length) (kp : KP C lk H) (kj : KJ C) (hil : i < a.length) (hax : a[i] = x) (hx : x.length ≤ 1000000) (hb : ∀ y ∈ b,y.length ≤ 1000000) (hl : b.length ≤ 2000000) (hkl : ks.length ≤ 4000000000000)
  (hE : restrict [0,1,2,7,8,9,10] env = [(0,I k),(1,rowsV a),(2,rowsV b),(7,.mp H.length),(8,rlV (H.length + 1) ks),(9,I i),(10,Bo (whole k x))])
  (hQ : ∀ env',restrict [0,1,2,7,8,9] env' = [(0,I k),(1,rowsV a),(2,rowsV b),(7,.mp H.length),(8,rlV (H.length + 1) (pl ks (rowK k b x))),(9,I i)] → Q .nrm env' (KH H (pl ks (rowK k b x)))) :
  WB ⟨C,lk,H.length,[]⟩ c30T Q env (KH H ks):=by
 have main : ∀ (ks' : List (List UInt8)) (w : Bool) (Q : Ex → Kt) (env : Env),ks'.length ≤ 4000000000001 → restrict [0,1,2,7,8,9,10,11] env = [(0,I k),(1,rowsV a),(2,rowsV b),(7,.mp H.length),(8,rlV (H.length + 1) ks'),(9,I i),(10,Bo w),(11,I 0)] →
   (∀ env',restrict [0,1,2,7,8,9] env' = [(0,I k),(1,rowsV a),(2,rowsV b),(7,.mp H.length),(8,rlV (H.length + 1) (pl ks' (if w = true then [] else b.map (join k x)))),(9,I i)] → Q (.exit 2) env' (KH H (pl ks' (if w = true then [] else b.map (join k x))))) →
   WB ⟨C,lk,H.length,[]⟩ (.loop [0,1,2,7,8,9,10,11] t52L1) Q env (KH H ks'):=fun ks' w Q env hk hE hQ => c30L1 hlk kp kj hil hax hx hb hl hk hE hQ
 unfold c30T t52L2
 dsimp only
 generalize t52L1 = l1 at *
 have hil' : (i : Int) < a.length:=by omega
 have ga:=rowsB_getE hil
 rw [hax] at ga
 cases hw : whole k x with
 | false =>
  rw [hw] at hE
  have hk : rowK k b x = b.map (join k x):=by unfold rowK;rw [if_neg (by simp [hw])]
  rw [hk] at hQ
  rw [wb_seq,wb_seq,wb_regN,hE]
  simp
  refine main ks false _ _ (by omega) (by simp) fun env' he => ?_
  rw [blk_exit,if_pos rfl]
  exact hQ _ he
 | true =>
  rw [hw] at hE
  have hk : rowK k b x = [x.take k]:=by unfold rowK;rw [if_pos hw]
  have hj:=join_t hw []
  have hps : pl ks [x.take k] = putK ks (x.take k):=rfl
  have kj1:=fun (K L : Nat) (G : Heap) => kj K L G k x [] (by omega) (by simp)
  have kp1:=fun K hK L => kp K hK L ks (x.take k) (by omega)
  rw [hj] at kj1
  rw [hk,hps] at hQ
  obtain ⟨o,os,hp⟩:=putK_cons ks (x.take k)
  have hpl:=putK_len ks (x.take k)
  rw [hp] at hQ hpl
  rw [hp,rlV_cons] at kp1
  have main:=fun Q env => main (o :: os) true Q env
  generalize x.take k = z at *
  rw [wb_seq,wb_seq,wb_regN,hE]
  have hnk:=Nat.le_refl H.length
  have hp0 : pl (o :: os) (if true = true then [] else b.map (join k x)) = o :: os:=rfl
  rw [hp0,rlV_cons] at main
  rw [rlV_cons] at hQ
  generalize KH H (o :: os) = G' at *
  cases ks with
  | nil =>
   have kp2 : ∀ K,K ≤ H.length → ∀ L,C K L 78 [.e0,.mp H.length,Sg z] (KH H []) = _:=kp1
   show WR _ _ _ [(0,I k),(1,rowsV a),(2,rowsV b),(7,.mp H.length),(8,.e0),(9,I i),(10,Bo true)] _
   generalize KH H [] = G at *
   have kj2 : ∀ (K L : Nat) (G : Heap),C K L 79 [I k,Sg x,.val (.string ⟨#[]⟩)] G = _:=kj1
   simp [hil,hil',rowsB_len,ga,kj2,kp2,hlk]
   refine main _ _ (by omega) (by simp) fun env' he => ?_
   rw [blk_exit,if_pos rfl]
   exact hQ _ he
  | cons p q =>
   have kp2 : ∀ K,K ≤ H.length → ∀ L,C K L 78 [.hs (H.length + 1) (q.length + 1) 0 (q.length + 1) 1,.mp H.length,Sg z] (KH H (p :: q)) = _:=kp1
   show WR _ _ _ [(0,I k),(1,rowsV a),(2,rowsV b),(7,.mp H.length),(8,.hs (H.length + 1) (q.length + 1) 0 (q.length + 1) 1),(9,I i),(10,Bo true)] _
   generalize KH H (p :: q) = G at *
   have kj2 : ∀ (K L : Nat) (G : Heap),C K L 79 [I k,Sg x,.val (.string ⟨#[]⟩)] G = _:=kj1
   simp [hil,hil',rowsB_len,ga,kj2,kp2,hlk]
   refine main _ _ (by omega) (by simp) fun env' he => ?_
   rw [blk_exit,if_pos rfl]
   exact hQ _ he
end Go.Proofs.YtgbpioccaenjaaaGreat

namespace Go.Proofs.YtgbpioccaenjaaaGreat
open Go Go.Hm

set_option maxRecDepth 20000 in
theorem c30L2 {C : Orc} {lk : Nat} {Q : Ex → Kt} {env : Env} {H : Heap} {va : AV} {a b : List (List UInt8)} {k : Nat} (hlk : lk ≤ H.length) (kp : KP C lk H) (kj : KJ C) (hva : RV va a) (hb0 : b ≠ []) (hla : a.length ≤ 2000000) (hlb : b.length ≤ 2000000) (ha : ∀ x ∈ a,x.length ≤ 1000000) (hb : ∀ x ∈ b,x.length ≤ 1000000)
  (hE : restrict [0,1,2,7,8,9] env = [(0,I k),(1,va),(2,rowsV b),(7,.mp H.length),(8,.e0),(9,I 0)])
  (hQ : ∀ env',restrict [8] env' = [(8,rlV (H.length + 1) (pl [] (catL k a b)))] → Q (.exit 0) env' (KH H (pl [] (catL k a b)))) :
  WB ⟨C,lk,H.length,[]⟩ (.loop [0,1,2,7,8,9] t52L2) Q env (H ++ [.map []]):=by
 refine wb_loop (σ:=Nat) (fun i => [(0,I k),(1,va),(2,rowsV b),(7,.mp H.length),(8,rlV (H.length + 1) (pl [] (catL k (a.take i) b))),(9,I i)]) (fun i => KH H (pl [] (catL k (a.take i) b)))
  (fun i => i ≤ a.length) (fun i => a.length - i) ?_ 0 (by omega) hE (by simp [KH,pl,entB,rlG,catL])
 intro i hi
 have hbp:=List.length_pos_iff.2 hb0
 by_cases hil : i < a.length
 case neg =>
  obtain rfl : i = a.length:=by omega
  rw [List.take_length]
  show WB _ _ _ [(0,I k),(1,va),(2,rowsV b),(7,.mp H.length),(8,rlV (H.length + 1) (pl [] (catL k a b))),(9,I a.length)] _
  unfold t52L2
  generalize KH H (pl [] (catL k a b)) = G at *
  generalize rlV (H.length + 1) (pl [] (catL k a b)) = lv at *
  rcases hva with rfl | ⟨rfl,rfl⟩
  all_goals
   simp
   refine hQ _ ?_
   simp
 have hva : va = rowsV a:=by
  rcases hva with e | ⟨_,e⟩
  ·exact e
  ·subst e;simp at hil
 subst hva
 have hil' : (i : Int) < a.length:=by omega
 have hbp' : (0 : Int) < b.length:=by omega
 have w1 : IntKind.i64.wrap ((i : Int) + 1) = (i : Int) + 1:=wrap64 (by omega) (by omega)
 have ga:=rowsB_getE hil
 have hx:=ha a[i] (List.getElem_mem hil)
 have hsn : pl [] (catL k (a.take (i + 1)) b) = pl (pl [] (catL k (a.take i) b)) (rowK k b a[i]):=by
  rw [catL_rowK,catL_rowK,List.take_succ_eq_append_getElem hil,List.flatMap_append,List.flatMap_cons,List.flatMap_nil,List.append_nil,pl_app]
 have hlen:=pl_len (catL k (a.take i) b) []
 have hcl:=catL_len k b hb0 (a.take i)
 have hml:=mul_le (a.take i).length b.length (by rw [List.length_take];omega) hlb
 rw [List.length_nil] at hlen
 have tail:=fun (Q : Ex → Kt) (env : Env) hE hQ => c30T_wb (C:=C) (lk:=lk) (Q:=Q) (env:=env) (H:=H) (a:=a) (b:=b) (ks:=pl [] (catL k (a.take i) b)) (k:=k) (i:=i) (x:=a[i]'hil) hlk kp kj hil rfl hx hb hlb (by omega) hE hQ
 rw [← hsn] at tail
 obtain ⟨K',hK'⟩ : ∃ K',pl [] (catL k (a.take (i + 1)) b) = K':=⟨_,rfl⟩
 rw [hK'] at tail
 generalize pl [] (catL k (a.take i) b) = K at *
 show WB _ (.seq (.seq _ _) (.seq (.block 1 (.seq _ c30T)) _)) _ [(0,I k),(1,rowsV a),(2,rowsV b),(7,.mp H.length),(8,rlV (H.length + 1) K),(9,I i)] _
 generalize a[i] = x at *
 generalize KH H K = G at *
 generalize rlV (H.length + 1) K = lv at *
 have fin : ∀ (Q : Ex → Kt) (env : Env),True:=fun _ _ => trivial
 generalize c30T = T at *
 by_cases h1 : k ≤ x.length
 ·have h1' : (k : Int) ≤ x.length:=by omega
  have hw : whole k x = true:=whole_len h1
  rw [hw] at tail
  simp [Sg_size,h1,h1',hil,hil',rowsB_len,ga,hbp,hbp']
  refine tail _ _ (by simp) fun env' he => ?_
  rw [blk_nrm,fol_nrm,wb_regN,he]
  simp [w1]
  rw [rnd_nrm]
  exact ⟨i + 1,by omega,by omega,by rw [hK'];simp,by rw [hK']⟩
 have h1' : ¬ (k : Int) ≤ x.length:=by omega
 by_cases h2 : x = []
 ·subst h2
  have hw : whole k [] = false:=by simp at h1;simp [whole];omega
  rw [hw] at tail
  have hk : ¬ k = 0:=by simp at h1;omega
  simp [Sg_size,hk,sg_neqN,hil,hil',rowsB_len,ga,hbp,hbp']
  refine tail _ _ (by simp) fun env' he => ?_
  rw [blk_nrm,fol_nrm,wb_regN,he]
  simp [w1]
  rw [rnd_nrm]
  exact ⟨i + 1,by omega,by omega,by rw [hK'];simp,by rw [hK']⟩
 obtain ⟨c,hc,hl⟩:=last_get h2
 have hpos : 0 < x.length:=List.length_pos_iff.2 h2
 have w2 : IntKind.i64.wrap ((x.length : Int) - 1) = ((x.length - 1 : Nat) : Int):=by rw [wrap64 (by omega) (by omega)];omega
 have hw : whole k x = (c == 255):=by simp [whole,h1,hl]
 have hx2 : (x == []) = false:=by simp [h2]
 rw [hw] at tail
 have hbe:=byte_eq c
 generalize (c == 255) = wb at *
 simp [Sg_size,h1',sg_neqN,hx2,w2,Sg_get,hc,hbe,hil,hil',rowsB_len,ga,hbp,hbp']
 refine tail _ _ (by simp) fun env' he => ?_
 rw [blk_nrm,fol_nrm,wb_regN,he]
 simp [w1]
 rw [rnd_nrm]
 exact ⟨i + 1,by omega,by omega,by rw [hK'];simp,by rw [hK']⟩

def catN (k : Nat) (a b : List (List UInt8)) : List (List UInt8):=if b = [] then [] else catL k a b
theorem catN_norm (k : Nat) (a b : List (List UInt8)) : norm (catN k a b) = cat k a b:=by
 unfold catN cat
 split
 ·rfl
 ·rfl
set_option maxRecDepth 20000 in
theorem c30L3 {C : Orc} {lk : Nat} {Q : Ex → Kt} {env : Env} {H : Heap} {va vb : AV} {a b : List (List UInt8)} {k : Nat} (hlk : lk ≤ H.length) (kp : KP C lk H) (kj : KJ C) (hva : RV va a) (hvb : RV vb b) (hla : a.length ≤ 2000000) (hlb : b.length ≤ 2000000) (ha : ∀ x ∈ a,x.length ≤ 1000000) (hb : ∀ x ∈ b,x.length ≤ 1000000)
  (hE : restrict [0,1,2,7,8,9] env = [(0,I k),(1,va),(2,vb),(7,.mp H.length),(8,.e0),(9,I 0)])
  (hQ : ∀ env',restrict [8] env' = [(8,rlV (H.length + 1) (pl [] (catN k a b)))] → Q (.exit 0) env' (KH H (pl [] (catN k a b)))) :
  WB ⟨C,lk,H.length,[]⟩ (.loop [0,1,2,7,8,9] t52L2) Q env (H ++ [.map []]):=by
 by_cases hb0 : b = []
 ·subst hb0
  have hQ2 : ∀ env',restrict [8] env' = [(8,.e0)] → Q (.exit 0) env' (H ++ [.map []]):=hQ
  clear hQ
  refine wb_loop (σ:=Unit) (fun i => [(0,I k),(1,va),(2,vb),(7,.mp H.length),(8,.e0),(9,I 0)]) (fun i => H ++ [.map []]) (fun i => True) (fun i => 0) ?_ () trivial hE rfl
  intro i _
  unfold t52L2
  rcases hva with rfl | ⟨rfl,rfl⟩ <;> rcases hvb with rfl | ⟨rfl,_⟩
  ·by_cases h0 : 0 < a.length
   ·simp [h0]
    exact hQ2 _ (by simp)
   ·simp [h0]
    exact hQ2 _ (by simp)
  ·by_cases h0 : 0 < a.length
   ·simp [h0]
    exact hQ2 _ (by simp)
   ·simp [h0]
    exact hQ2 _ (by simp)
  ·simp
   exact hQ2 _ (by simp)
  ·simp
   exact hQ2 _ (by simp)
 ·have e : catN k a b = catL k a b:=if_neg hb0
  rw [e] at hQ
  have hvb : vb = rowsV b:=by
   rcases hvb with e | ⟨_,e⟩
   ·exact e
   ·exact absurd e hb0
  subst hvb
  exact c30L2 hlk kp kj hva hb0 hla hlb ha hb hE hQ
theorem catN_len (k : Nat) (a b : List (List UInt8)) (hla : a.length ≤ 2000000) (hlb : b.length ≤ 2000000) : (catN k a b).length ≤ 4000000000000:=by
 unfold catN
 split
 ·simp
 ·rename_i h
  exact Nat.le_trans (catL_len k b h a) (mul_le _ _ hla hlb)
set_option maxRecDepth 20000 in
theorem cat2_code {lk lim : Nat} {H : Heap} (hlk : lk ≤ H.length) (k : Int) {va vb : AV} {a b : List (List UInt8)} (hva : RV va a) (hvb : RV vb b) (hla : a.length ≤ 2000000) (hlb : b.length ≤ 2000000) (ha : ∀ x ∈ a,x.length ≤ 1000000) (hb : ∀ x ∈ b,x.length ≤ 1000000) :
  callW X A lk lim 52 [I k,va,vb] H = some (rV (cat k.toNat a b),H):=by
 have hm : mmFold true [I k] .i64 0 = some (.i64,(k.toNat : Int)):=by
  simp [mmFold];omega
 have kp : KP (callW X A) lk H:=fun K hK L ks x h => add_code (lk:=K) (lim:=L) (H:=H) hK x ks h
 have kj : KJ (callW X A):=fun K L G k x y hx hy => joined_code (lk:=K) (lim:=L) (H:=G) k x y hx hy
 have hle:=pl_len (catN k.toNat a b) []
 have hcl:=catN_len k.toNat a b hla hlb
 rw [List.length_nil] at hle
 obtain ⟨G,hG⟩:=cut_KH H (pl [] (catN k.toNat a b))
 have ks:=fun (L : Nat) => sorted_code (pl [] (catN k.toNat a b)).length (lk:=lk) (lim:=L) (H:=H ++ G) (by simp;omega) (pl [] (catN k.toNat a b)) (Nat.le_refl _) (by omega)
 rw [srt_pl _ (Nat.le_refl _)] at ks
 have hf:=frz_rl H (pl [] (catN k.toNat a b))
 have main1 : ∀ (Q : Ex → Kt) (env : Env),restrict [0,1,2,7,8,9] env = [(0,I k.toNat),(1,va),(2,vb),(7,.mp H.length),(8,.e0),(9,I 0)] →
   (∀ env',restrict [8] env' = [(8,rlV (H.length + 1) (pl [] (catN k.toNat a b)))] → Q (.exit 0) env' (KH H (pl [] (catN k.toNat a b)))) →
   WB ⟨callW X A,lk,H.length,[]⟩ (.loop [0,1,2,7,8,9] t52L2) Q env (H ++ [.map []]):=fun Q env hE hQ => c30L3 hlk kp kj hva hvb hla hlb ha hb hE hQ
 have key : WB ⟨callW X A,lk,H.length,[]⟩ t52B (FinT [.tmp 6] true H (rV (norm (catN k.toNat a b)),H)) (enterFrom 0 [I k,va,vb]) H:=by
  unfold t52B
  generalize callW X A = C at ks main1 ⊢
  generalize t52L2 = l1 at *
  simp [hm]
  refine main1 _ _ (by simp) fun env' he => ?_
  rw [blk_exit,if_pos rfl,fol_nrm,wb_seq,wb_frz]
  refine ⟨hlk,by simp [KH],?_⟩
  rw [fol_nrm,wb_seq,wb_regN,restrict_frzE,he,hG]
  simp only [List.map_cons,List.map_nil,hf]
  show WR _ _ _ _ (H ++ G)
  have hrv:=rV_rv (pl [] (catN k.toNat a b))
  have hrn:=rV_rv (norm (catN k.toNat a b))
  have hfr:=fun G d => frz_rowsB H.length G d (norm (catN k.toNat a b))
  have hbl:=bel_rowsB H.length (norm (catN k.toNat a b))
  have hbl0:=bel_rowsB 0 (norm (catN k.toNat a b))
  generalize rV (pl [] (catN k.toNat a b)) = x at *
  generalize rV (norm (catN k.toNat a b)) = y at *
  rcases rv_noRp hrv with rfl | rfl <;> rcases rv_noRp hrn with rfl | rfl
  all_goals
   generalize rowsB (norm (catN k.toNat a b)) = cs at *
   simp [ks,hlk,hfr,hbl,hbl0]
 rw [catN_norm] at key
 rcases hva with rfl | ⟨rfl,rfl⟩ <;> rcases hvb with rfl | ⟨rfl,rfl⟩
 all_goals exact wb_callB [] rfl A52 rfl rfl key
end Go.Proofs.YtgbpioccaenjaaaGreat
