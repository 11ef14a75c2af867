import Derived.Test.YtgbpioccaenjaaaGreatGB
set_option linter.unusedSimpArgs false
set_option linter.unusedVariables false
namespace Go.Proofs.YtgbpioccaenjaaaGreat
open Go Go.Hm

theorem sg_toList (a : List UInt8) : (⟨⟨a⟩⟩ : ByteArray).toList = a:=by rw [ByteArray.toList_eq]
theorem sg_neq (a b : List UInt8) : abins .neq ⟨⟨a⟩⟩ ⟨⟨b⟩⟩ = some (Bo (!(a == b))):=by
 simp only [abins,sg_toList]
theorem sg_eql (a b : List UInt8) : abins .eql ⟨⟨a⟩⟩ ⟨⟨b⟩⟩ = some (Bo (a == b)):=by
 simp only [abins,sg_toList]
theorem sg_neqN (a : List UInt8) : abins .neq ⟨⟨a⟩⟩ ⟨#[]⟩ = some (Bo (!(a == []))):=sg_neq a []
theorem sg_eqlN (a : List UInt8) : abins .eql ⟨⟨a⟩⟩ ⟨#[]⟩ = some (Bo (a == [])):=sg_eql a []
theorem sg_leq (a b : List UInt8) : abins .leq ⟨⟨a⟩⟩ ⟨⟨b⟩⟩ = some (Bo (Op.bytesLess a b || a == b)):=by
 simp only [abins,sg_toList]
theorem Sg_app (a b : List UInt8) : (⟨⟨a⟩⟩ : ByteArray) ++ ⟨⟨b⟩⟩ = ⟨⟨a ++ b⟩⟩:=by
 apply ByteArray.ext
 simp [ByteArray.data_append]
theorem sg_add {a b : List UInt8} (h : a.length + b.length ≤ 9223372036854775807) : abins .add ⟨⟨a⟩⟩ ⟨⟨b⟩⟩ = some (Sg (a ++ b)):=by
 have hm : IntKind.i64.max = 9223372036854775807:=by decide
 show (if (((a.length + b.length : Nat) : Int)) > IntKind.i64.max then none else some (AV.val (.string (⟨⟨a⟩⟩ ++ ⟨⟨b⟩⟩)))) = _
 rw [hm,if_neg (by omega),Sg_app]

theorem byte_eq (c : UInt8) : ((c.toNat : Int) == 255) = (c == 255):=by
 rw [Bool.eq_iff_iff,beq_iff_eq,beq_iff_eq]
 constructor
 ·intro h
  exact UInt8.toNat_inj.1 (by rw [show (255 : UInt8).toNat = 255 from rfl];omega)
 ·rintro rfl;rfl
theorem last_get {x : List UInt8} (h : x ≠ []) : ∃ c,x[x.length - 1]? = some c ∧ x.getLast? = some c:=by
 refine ⟨x.getLast h,?_,List.getLast?_eq_some_getLast h⟩
 rw [← List.getLast?_eq_getElem?,List.getLast?_eq_some_getLast h]
theorem whole_code {lk lim : Nat} {H : Heap} (k : Nat) (x : List UInt8) (hx : x.length ≤ 1000000000000000) : callW X A lk lim 71 [I k,Sg x] H = some (Bo (whole k x),H):=by
 refine wb_callB [] rfl A71 rfl rfl ?_
 unfold t71B
 by_cases h1 : k ≤ x.length
 ·have h1' : (k : Int) ≤ x.length:=by omega
  have hw : whole k x = true:=whole_len h1
  rw [hw]
  simp [Sg_size,h1,h1']
 have h1' : ¬ (k : Int) ≤ x.length:=by omega
 by_cases h2 : x = []
 ·subst h2
  have hw : whole k [] = false:=by simp at h1;simp [whole];omega
  rw [hw]
  have hk : ¬ k = 0:=by simp at h1;omega
  simp [Sg_size,hk,sg_neqN]
 obtain ⟨c,hc,hl⟩:=last_get h2
 have hpos : 0 < x.length:=List.length_pos_iff.2 h2
 have w1 : IntKind.i64.wrap ((x.length : Int) - 1) = ((x.length - 1 : Nat) : Int):=by rw [wrap64 (by omega) (by omega)];omega
 have hw : whole k x = (c == 255):=by simp [whole,h1,hl]
 have hx2 : (x == []) = false:=by simp [h2]
 rw [hw]
 simp [Sg_size,h1',sg_neqN,hx2,w1,Sg_get,hc,byte_eq]

def putK (ks : List (List UInt8)) (x : List UInt8) : List (List UInt8):=if x ∈ ks then ks else ks ++ [x]
def entK (ks : List (List UInt8)) : List (AV × AV):=ks.map fun x => (Sg x,.agg [])
theorem mem_putK {ks : List (List UInt8)} {x z : List UInt8} : z ∈ putK ks x ↔ z ∈ ks ∨ z = x:=by
 unfold putK
 split
 ·rename_i h
  constructor
  ·exact .inl
  ·rintro (h1 | rfl)
   ·exact h1
   ·exact h
 ·simp
theorem putK_len (ks : List (List UInt8)) (x : List UInt8) : (putK ks x).length ≤ ks.length + 1:=by
 unfold putK
 split <;> simp
theorem eqK (a b : List UInt8) : eqKey false [2] (Sg a) (Sg b) = some (a == b):=by
 simp [eqKey,eqScalar,sg_toList]
theorem mset_K (x : List UInt8) : ∀ ks : List (List UInt8),mset false [2] (Sg x) (.agg []) (entK ks) = some (entK (putK ks x))
 | [] => by simp [entK,putK,mset]
 | y :: ks => by
  have ih:=mset_K x ks
  show mset false [2] (Sg x) (.agg []) ((Sg y,.agg []) :: entK ks) = _
  unfold mset
  rw [eqK]
  by_cases h : x = y
  ·subst h
   simp [entK,putK]
  ·have hb : (x == y) = false:=by simp [h]
   rw [hb]
   simp only [ih]
   unfold putK
   by_cases hm : x ∈ ks
   ·rw [if_pos hm,if_pos (List.mem_cons_of_mem _ hm)];rfl
   ·rw [if_neg hm,if_neg (by simp [h,hm])];rfl
theorem keysL_K : ∀ ks : List (List UInt8),keysL (entK ks) = some ks
 | [] => rfl
 | x :: ks => by
  show keysL ((Sg x,.agg []) :: entK ks) = _
  simp only [keysL,keysL_K ks]
end Go.Proofs.YtgbpioccaenjaaaGreat

namespace Go.Proofs.YtgbpioccaenjaaaGreat
open Go Go.Hm

theorem put_code {lk lim : Nat} {H : Heap} {b : Nat} {ks : List (List UInt8)} (x : List UInt8) (hb : H[b]? = some (.map (entK ks))) (hlk : lk ≤ b) :
  callW X A lk lim 72 [.mp b,.sl 1 [Sg x]] H = some (.tup [],H.set b (.map (entK (putK ks x)))):=by
 have hbl : b < H.length:=(List.getElem?_eq_some_iff.1 hb).1
 have ha : argOk (.agg []) = true:=rfl
 have hbel : Hm.below 0 (.agg []) = true:=rfl
 have hko : keyOk false [2] (Sg x) = true:=by simp [keyOk,eqK]
 refine wb_callB [] rfl A72 rfl rfl ?_
 unfold t72B
 simp
 refine wb_loop (σ:=Nat) (fun i => [(0,.mp b),(6,.sl 1 [Sg x]),(7,I 1),(8,I i)]) (fun i => if i = 0 then H else H.set b (.map (entK (putK ks x)))) (fun i => i ≤ 1) (fun i => 1 - i) ?_ 0 (by omega) (by simp [restrict,find]) rfl
 intro i hi
 unfold t72L1
 by_cases h0 : i = 0
 ·subst h0
  simp [-wi_mup,-wb_regN]
  rw [wb_regN]
  simp [-wi_mup]
  rw [wi_mup]
  simp [hb,mset_K,hko,ha,hbel,hlk,rnd_nrm]
  exact ⟨1,by omega,by omega,by decide,fun h => by omega⟩
 ·obtain rfl : i = 1:=by omega
  simp
  exact List.take_of_length_le (by simp)
end Go.Proofs.YtgbpioccaenjaaaGreat

namespace Go.Proofs.YtgbpioccaenjaaaGreat
open Go Go.Hm

def pl (ks l : List (List UInt8)) : List (List UInt8):=l.foldl putK ks
theorem pl_snoc (ks l : List (List UInt8)) (x : List UInt8) : pl ks (l ++ [x]) = putK (pl ks l) x:=by simp [pl]
theorem pl_app (ks l m : List (List UInt8)) : pl ks (l ++ m) = pl (pl ks l) m:=by simp [pl]
theorem pl_len : ∀ (l ks : List (List UInt8)),(pl ks l).length ≤ ks.length + l.length
 | [],ks => by simp [pl]
 | x :: l,ks => by
  have h1:=pl_len l (putK ks x)
  have h2:=putK_len ks x
  simp only [pl,List.foldl_cons,List.length_cons] at h1 ⊢
  omega
theorem mem_pl {z : List UInt8} : ∀ (l ks : List (List UInt8)),z ∈ pl ks l ↔ z ∈ ks ∨ z ∈ l
 | [],ks => by simp [pl]
 | x :: l,ks => by
  have h1:=mem_pl (z:=z) l (putK ks x)
  simp only [pl,List.foldl_cons] at h1 ⊢
  rw [h1,mem_putK,List.mem_cons,or_assoc]
theorem pl_app_K {A l K : List (List UInt8)} (h : pl [] A = K) : pl [] (A ++ l) = pl K l:=by rw [pl_app,h]
theorem norm_pl (l : List (List UInt8)) : norm (pl [] l) = norm l:=norm_congr fun x => by simp [mem_pl]
theorem rowsB_get {l : List (List UInt8)} {i : Nat} (h : i < l.length) : (rowsB l)[i]? = some (Sg l[i]):=by simp [rowsB,h]
theorem rowsB_getE {l : List (List UInt8)} {i : Nat} (h : i < l.length) : (rowsB l)[i]'(by simpa [rowsB] using h) = Sg l[i]:=by simp [rowsB]
theorem rowsB_len (l : List (List UInt8)) : (rowsB l).length = l.length:=by simp [rowsB]
theorem set_app (H : Heap) (x y : HB) : (H ++ [x]).set H.length y = H ++ [y]:=by simp
theorem get_app (H : Heap) (x : HB) : (H ++ [x])[H.length]? = some x:=by simp
theorem Sg_ext (l : List UInt8) (a b : Nat) : (⟨⟨l⟩⟩ : ByteArray).extract a b = ⟨⟨(l.take b).drop a⟩⟩:=by
 apply ByteArray.ext
 simp [ByteArray.data_extract,List.drop_take]
theorem frz_rowsB (lim : Nat) (H : Heap) (d : Nat) (l : List (List UInt8)) : mapO (frz lim H d) (rowsB l) = some (rowsB l):=by
 induction l with
 | nil => rfl
 | cons a l ih =>
  simp only [rowsB,List.map_cons,mapO,frz_val] at ih ⊢
  rw [ih]
theorem bel_rowsB (lim : Nat) (l : List (List UInt8)) : belowL lim (rowsB l) = true:=belowL_iff.2 fun a ha => by
 unfold rowsB at ha
 obtain ⟨x,_,rfl⟩:=List.mem_map.1 ha
 rfl
theorem rowsB_take (l : List (List UInt8)) (n : Nat) (h : l.length ≤ n) : (rowsB l).take n = rowsB l:=List.take_of_length_le (by simpa [rowsB] using h)
theorem take_min (k : Nat) (x : List UInt8) : x.take (min k x.length) = x.take k:=by
 rw [Nat.min_def]
 split
 ·rfl
 ·rw [List.take_length,List.take_of_length_le (by omega)]
def catV (k : Nat) (a b : List (List UInt8)) : AV:=if b = [] then .e0 else rowsV (cat k a b)
def RV (v : AV) (l : List (List UInt8)) : Prop:=v = rowsV l ∨ (v = .e0 ∧ l = [])
theorem RV.cat (k : Nat) (a b : List (List UInt8)) : RV (catV k a b) (cat k a b):=by
 unfold catV RV
 split
 ·rename_i h;exact .inr ⟨rfl,by unfold Go.Proofs.YtgbpioccaenjaaaGreat.cat;rw [if_pos h]⟩
 ·exact .inl rfl

attribute [simp] rowsB_len frz_rowsB bel_rowsB rowsB_take
theorem catL_len (k : Nat) (b : List (List UInt8)) (hb : b ≠ []) : ∀ a : List (List UInt8),(catL k a b).length ≤ a.length * b.length
 | [] => by simp [catL]
 | x :: a => by
  have ih:=catL_len k b hb a
  have:=List.length_pos_iff.2 hb
  have h1 : catL k (x :: a) b = (if whole k x = true then [x.take k] else b.map fun y => (x ++ y).take k) ++ catL k a b:=by simp [catL]
  rw [h1,List.length_append,List.length_cons,Nat.succ_mul]
  split
  ·simp only [List.length_cons,List.length_nil];omega
  ·simp only [List.length_map];omega
theorem catL_el {k : Nat} {a b : List (List UInt8)} (ha : ∀ x ∈ a,x.length ≤ 1000000) (hb : ∀ x ∈ b,x.length ≤ 1000000) : ∀ z ∈ catL k a b,z.length ≤ 2000000:=fun z hz => by
 obtain ⟨x,hx,h⟩:=List.mem_flatMap.1 hz
 have h1:=ha x hx
 split at h
 ·simp only [List.mem_singleton] at h
  subst h
  rw [List.length_take];omega
 ·obtain ⟨y,hy,rfl⟩:=List.mem_map.1 h
  have h2:=hb y hy
  rw [List.length_take,List.length_append];omega
theorem mul_le (n m : Nat) (hn : n ≤ 2000000) (hm : m ≤ 2000000) : n * m ≤ 4000000000000:=Nat.le_trans (Nat.mul_le_mul hn hm) (by decide)
theorem sortedX_K (G : Heap) (K : List (List UInt8)) (b : Nat) (hb : G[b]? = some (.map (entK K))) (hl : K.length ≤ 8000000000000) (he : ∀ z ∈ K,z.length ≤ 9223372036854775807) : sortedX [.mp b] G = some (rowsV (norm K),G):=by
 unfold sortedX
 simp only [mapOf,hb,keysL_K]
 rw [if_pos ⟨hl,List.all_eq_true.2 fun x hx => decide_eq_true (he x hx)⟩]

section
variable {lk lim : Nat} {H : Heap} (hlk : lk ≤ H.length) (k : Nat) (a b : List (List UInt8)) (hb0 : b ≠ []) (hla : a.length ≤ 2000000) (hlb : b.length ≤ 2000000) (ha : ∀ x ∈ a,x.length ≤ 1000000) (hb : ∀ x ∈ b,x.length ≤ 1000000)
include hlk hb0 hla hlb ha hb
set_option maxRecDepth 20000 in
theorem cat_code1 (ki : Int) (hki : ki.toNat = k) : callW X A lk lim 46 [I ki,rowsV a,rowsV b] H = some (rowsV (cat k a b),H):=by
 have kw:=fun (L : Nat) (G : Heap) (x : List UInt8) (hx : x.length ≤ 1000000000000000) => whole_code (lk:=lk) (lim:=L) (H:=G) k x hx
 have kp:=fun (L : Nat) (ks : List (List UInt8)) (x : List UInt8) => put_code (lk:=lk) (lim:=L) (H:=H ++ [.map (entK ks)]) (b:=H.length) (ks:=ks) x (get_app _ _) hlk
 have kp:=fun (L : Nat) (ks : List (List UInt8)) (x : List UInt8) => (kp L ks x).trans (by rw [set_app])
 have ks : ∀ (L : Nat) (G : Heap) (m : AV) (r : AV × Heap),sortedX [m] G = some r → callW X A lk L 73 [m] G = some r:=fun L G m r h => callW_prim h
 have hcl:=catL_len k b hb0 a
 have hcm:=mul_le _ _ hla hlb
 have ksr:=fun (L : Nat) => ks L (H ++ [.map (entK (pl [] (catL k a b)))]) (.mp H.length) _ (sortedX_K _ _ _ (get_app _ _) (by have:=pl_len (catL k a b) [];simp at this;omega) fun z hz => by
  have h1:=(mem_pl _ _).1 hz
  have h2:=catL_el (k:=k) ha hb z (h1.resolve_left (by simp))
  omega)
 rw [norm_pl] at ksr
 have hcat : cat k a b = norm (catL k a b):=if_neg hb0
 refine wb_callB [] rfl A46 rfl rfl ?_
 unfold t46B
 generalize callW X A = C at kw kp ksr ⊢
 have hbl : ((b.length : Int) == 0) = false:=by
  have:=List.length_pos_iff.2 hb0
  simp;omega
 have hm : mmFold true [I ki] .i64 0 = some (.i64,(k : Int)):=by
  simp [mmFold];omega
 have hmn : ∀ x : List UInt8,mmFold false [I (x.length : Int)] .i64 k = some (.i64,((min k x.length : Nat) : Int)):=fun x => by
  simp [mmFold];omega
 simp [rowsB_len,hbl,hm]
 refine wb_loop (σ:=Nat) (fun i => [(0,I k),(2,rowsV b),(7,.mp H.length),(19,rowsV a),(20,I a.length),(21,I i)]) (fun i => H ++ [.map (entK (pl [] (catL k (a.take i) b)))]) (fun i => i ≤ a.length) (fun i => a.length - i) ?_ 0 (by omega) (by simp [restrict,find]) (by simp [catL,pl,entK])
 intro i hi
 unfold t46L2
 by_cases hil : i < a.length
 ·have hil' : (i : Int) < a.length:=by omega
  have w1 : IntKind.i64.wrap ((i : Int) + 1) = (i : Int) + 1:=wrap64 (by omega) (by omega)
  have ga:=rowsB_getE hil
  have hx:=ha a[i] (List.getElem_mem hil)
  have kw1:=fun (L : Nat) (G : Heap) => kw L G a[i] (by omega)
  have hsn : catL k (a.take (i + 1)) b = catL k (a.take i) b ++ (if whole k a[i] = true then [a[i].take k] else b.map fun y => (a[i] ++ y).take k):=by
   unfold catL
   rw [List.take_succ_eq_append_getElem hil,List.flatMap_append,List.flatMap_cons,List.flatMap_nil,List.append_nil]
  generalize a[i] = x at ga hx kw1 hsn
  obtain ⟨K,hK⟩ : ∃ K,pl [] (catL k (a.take i) b) = K:=⟨_,rfl⟩
  rw [hK]
  cases hw : whole k x with
  | true =>
   rw [hw] at kw1 hsn
   rw [if_pos rfl] at hsn
   have hmx:=hmn x
   have hmk : min k x.length ≤ x.length:=Nat.min_le_right ..
   have htk:=take_min k x
   generalize min k x.length = m at hmx hmk htk
   simp [hil,hil',rowsB_len,ga,kw1,Sg_size,hmx,Sg_ext,htk,kp,w1,rnd_nrm,hmk,bnd]
   exact ⟨i + 1,by omega,by omega,by omega,by rw [hsn,pl_snoc,hK]⟩
  | false =>
   rw [hw] at kw1 hsn
   rw [if_neg Bool.false_ne_true] at hsn
   simp [hil,hil',rowsB_len,ga,kw1]
   refine wb_loop (σ:=Nat) (fun j => [(0,I k),(2,rowsV b),(7,.mp H.length),(9,Sg x),(19,rowsV a),(20,I a.length),(21,I i),(37,rowsV b),(38,I b.length),(39,I j)])
    (fun j => H ++ [.map (entK (pl K ((b.take j).map fun y => (x ++ y).take k)))]) (fun j => j ≤ b.length) (fun j => b.length - j) ?_ 0 (by omega) (by simp [restrict,find]) (by simp [pl])
   intro j hj
   unfold t46L1
   by_cases hjl : j < b.length
   ·have hjl' : (j : Int) < b.length:=by omega
    have w2 : IntKind.i64.wrap ((j : Int) + 1) = (j : Int) + 1:=wrap64 (by omega) (by omega)
    have gb:=rowsB_getE hjl
    have hy:=hb b[j] (List.getElem_mem hjl)
    have hsj : pl K ((b.take (j + 1)).map fun y => (x ++ y).take k) = putK (pl K ((b.take j).map fun y => (x ++ y).take k)) ((x ++ b[j]).take k):=by
     rw [List.take_succ_eq_append_getElem hjl,List.map_append,List.map_cons,List.map_nil,pl_snoc]
    generalize b[j] = y at gb hy hsj
    have hadd:=sg_add (a:=x) (b:=y) (by omega)
    have hmx:=hmn (x ++ y)
    have hmk : min k (x ++ y).length ≤ (x ++ y).length:=Nat.min_le_right ..
    have htk:=take_min k (x ++ y)
    generalize min k (x ++ y).length = m at hmx hmk htk
    generalize x ++ y = z at hadd hmx hmk htk hsj
    obtain ⟨K2,hK2⟩ : ∃ K2,pl K ((b.take j).map fun y => (x ++ y).take k) = K2:=⟨_,rfl⟩
    rw [hK2] at hsj ⊢
    simp [hjl,hjl',rowsB_len,gb,hadd,Sg_size,hmx,Sg_ext,htk,kp,w2,rnd_nrm,hmk,bnd]
    exact ⟨j + 1,by omega,by omega,by omega,by rw [← List.map_take,hsj]⟩
   ·obtain rfl : j = b.length:=by omega
    rw [List.take_length,← pl_app_K hK,← hsn]
    simp [w1,rnd_nrm]
    exact ⟨i + 1,by omega,by omega,by omega,rfl⟩
 ·obtain rfl : i = a.length:=by omega
  simp [ksr,hcat,List.take_length]
end
set_option maxRecDepth 20000 in
theorem cat_code {lk lim : Nat} {H : Heap} (hlk : lk ≤ H.length) (k : Int) {va vb : AV} {a b : List (List UInt8)} (hva : RV va a) (hvb : RV vb b) (hla : a.length ≤ 2000000) (hlb : b.length ≤ 2000000) (ha : ∀ x ∈ a,x.length ≤ 1000000) (hb : ∀ x ∈ b,x.length ≤ 1000000) :
  callW X A lk lim 46 [I k,va,vb] H = some (catV k.toNat a b,H):=by
 by_cases hb0 : b = []
 ·subst hb0
  rw [show catV k.toNat a [] = .e0 from if_pos rfl]
  rcases hva with rfl | ⟨rfl,rfl⟩ <;> rcases hvb with rfl | ⟨rfl,_⟩
  all_goals
   refine wb_callB [] rfl A46 rfl rfl ?_
   unfold t46B
   generalize callW X A = C
   simp
 ·have hbv : vb = rowsV b:=by
   rcases hvb with rfl | ⟨_,e⟩
   ·rfl
   ·exact absurd e hb0
  subst hbv
  have hcv : catV k.toNat a b = rowsV (cat k.toNat a b):=if_neg hb0
  rw [hcv]
  rcases hva with rfl | ⟨rfl,rfl⟩
  ·exact cat_code1 hlk k.toNat a b hb0 hla hlb ha hb k rfl
  ·have ksr : ∀ (L : Nat),callW X A lk L 73 [.mp H.length] (H ++ [.map []]) = some (rowsV [],H ++ [.map []]):=fun L => callW_prim (sortedX_K _ [] _ (get_app _ _) (by simp) (by simp))
   have hbl : ((b.length : Int) == 0) = false:=by
    have:=List.length_pos_iff.2 hb0
    simp;omega
   have hm : mmFold true [I k] .i64 0 = some (.i64,(k.toNat : Int)):=by
    simp [mmFold];omega
   have hcat : cat k.toNat [] b = []:=by simp [cat,catL,norm]
   rw [hcat]
   refine wb_callB [] rfl A46 rfl rfl ?_
   unfold t46B
   generalize callW X A = C at ksr ⊢
   simp [hbl,hm]
   refine wb_loop (σ:=Unit) (fun i => [(0,I k.toNat),(2,rowsV b),(7,.mp H.length),(19,.e0),(20,I 0),(21,I 0)]) (fun i => H ++ [.map []]) (fun i => True) (fun i => 0) ?_ () trivial (by simp [restrict,find]) (by simp)
   intro i _
   unfold t46L2
   simp [ksr]
end Go.Proofs.YtgbpioccaenjaaaGreat

namespace Go.Proofs.YtgbpioccaenjaaaGreat
open Go Go.Hm

theorem textsL_B : ∀ l : List (List UInt8),textsL (rowsB l) = some l
 | [] => rfl
 | x :: l => by
  show textsL (Sg x :: rowsB l) = _
  simp only [textsL,textsL_B l]
theorem rv_cells {H : Heap} {v : AV} {l : List (List UInt8)} (h : RV v l) : slCells H v = some (rowsB l) ∧ slN v = l.length:=by
 rcases h with rfl | ⟨rfl,rfl⟩
 ·exact ⟨rfl,rfl⟩
 ·exact ⟨rfl,rfl⟩
theorem union_code {lk lim : Nat} {H : Heap} {va vb : AV} {a b : List (List UInt8)} (ha : RV va a) (hb : RV vb b) (hl : a.length + b.length ≤ 8000000000000) : callW X A lk lim 66 [va,vb] H = some (rowsV (uni a b),H):=by
 refine callW_prim ?_
 have h1:=rv_cells (H:=H) ha
 have h2:=rv_cells (H:=H) hb
 show unionX [va,vb] H = _
 unfold unionX
 simp only [h1.1,h2.1,textsL_B]
 rw [if_pos ⟨h1.2.symm,h2.2.symm,hl⟩]
 rfl
theorem index_code {lk lim : Nat} {H : Heap} (l : List (List UInt8)) (x : List UInt8) (hl : l.length ≤ 1000000000) : callW X A lk lim 84 [rowsV l,Sg x] H = some (I (idxF (fun y => x == y) l 0),H):=by
 refine wb_callB [] rfl A84 rfl rfl ?_
 unfold t84B
 generalize callW X A = C
 simp
 refine wb_loop (σ:=Nat) (fun i => [(0,rowsV l),(1,Sg x),(7,I l.length),(8,I i)]) (fun _ => H)
  (fun i => i ≤ l.length ∧ idxF (fun y => x == y) (l.drop i) i = idxF (fun y => x == y) l 0) (fun i => l.length - i) ?_ 0 (by simp) (by simp [restrict,find]) rfl
 rintro i ⟨hi,hinv⟩
 unfold t84L1
 have w : IntKind.i64.wrap ((i : Int) + 1) = (i : Int) + 1:=wrap64 (by omega) (by omega)
 by_cases hil : i < l.length
 ·have ga:=rowsB_getE hil
  rw [List.drop_eq_getElem_cons hil] at hinv
  generalize l[i] = y at ga hinv
  simp only [idxF] at hinv
  have he:=sg_eql x y
  cases hpx : x == y with
  | true =>
   rw [hpx] at he
   rw [if_pos (show ((fun y => x == y) y) = true from hpx)] at hinv
   rw [← hinv]
   simp [hil,ga,he]
  | false =>
   rw [hpx] at he
   rw [if_neg (show ¬ ((fun y => x == y) y) = true from by simp [hpx])] at hinv
   simp [hil,ga,he,w,rnd_nrm]
   exact ⟨i + 1,⟨by omega,hinv⟩,by omega,by simp⟩
 ·obtain rfl : i = l.length:=by omega
  rw [List.drop_length] at hinv
  simp only [idxF] at hinv
  rw [← hinv]
  simp
theorem index_e0 {lk lim : Nat} {H : Heap} (x : List UInt8) : callW X A lk lim 84 [.e0,Sg x] H = some (I (-1),H):=by
 refine wb_callB [] rfl A84 rfl rfl ?_
 unfold t84B
 generalize callW X A = C
 simp
 refine wb_loop (σ:=Unit) (fun i => [(0,.e0),(1,Sg x),(7,I 0),(8,I 0)]) (fun _ => H) (fun i => True) (fun i => 0) ?_ () trivial (by simp [restrict,find]) rfl
 intro i _
 unfold t84L1
 simp
def hasV (l : List (List UInt8)) (x : List UInt8) : Bool:=l.any fun y => x == y
theorem hasV_iff {l : List (List UInt8)} {x : List UInt8} : hasV l x = true ↔ x ∈ l:=by
 simp [hasV,List.any_eq_true]
theorem has_code {lk lim : Nat} {H : Heap} {v : AV} {l : List (List UInt8)} (hv : RV v l) (x : List UInt8) (hl : l.length ≤ 1000000000) : callW X A lk lim 37 [v,Sg x] H = some (Bo (hasV l x),H):=by
 have k : ∀ L,∃ r : Int,callW X A lk L 84 [v,Sg x] H = some (I r,H) ∧ decide (0 ≤ r) = hasV l x:=fun L => by
  rcases hv with rfl | ⟨rfl,rfl⟩
  ·exact ⟨_,index_code l x hl,idxF_any _ l 0 (Int.le_refl _)⟩
  ·exact ⟨_,index_e0 x,rfl⟩
 have ha : argOk v = true:=by rcases hv with rfl | ⟨rfl,_⟩ <;> rfl
 have k39 : ∀ L,callW X A lk L 63 [v,Sg x] H = some (Bo (hasV l x),H):=fun L => by
  obtain ⟨r,h1,h2⟩:=k H.length
  rcases hv with rfl | ⟨rfl,rfl⟩
  all_goals
   refine wb_callB [] rfl A63 rfl rfl ?_
   unfold t63B
   generalize callW X A = C at h1 ⊢
   simp [h1,h2]
 have h1:=k39 H.length
 rcases hv with rfl | ⟨rfl,rfl⟩
 all_goals
  refine wb_callB [] rfl A37 rfl rfl ?_
  unfold t37B
  generalize callW X A = C at h1 ⊢
  simp [h1]

end Go.Proofs.YtgbpioccaenjaaaGreat
