import Derived.Test.YtgbpioccaenjaaaGreatGE
set_option linter.unusedSimpArgs false
set_option linter.unusedVariables false
namespace Go.Proofs.YtgbpioccaenjaaaGreat
open Go Go.Hm

def rowR : List Int → List UInt8
 | [] => []
 | x :: r => if x = -2 then [255] else (if x < 0 ∨ 254 ≤ x then 254 else byteI x) :: rowR r
def rowM (k : Int) (ks : List Int) : List UInt8:=rowR (ks.take (min k.toNat ks.length))
def bsL (l : List UInt8) : List AV:=l.map fun c => .val (.int .u8 (c.toNat : Int))
theorem bytesOf_bsL : ∀ l : List UInt8,bytesOf (bsL l) = some l
 | [] => rfl
 | c :: l => by simp [bsL,bytesOf] at *;rw [show (l.map fun c => AV.val (.int .u8 (c.toNat : Int))) = bsL l from rfl,bytesOf_bsL l]
theorem bsL_len (l : List UInt8) : (bsL l).length = l.length:=by simp [bsL]
theorem bsL_take (l : List UInt8) : (bsL l).take l.length = bsL l:=List.take_of_length_le (by simp [bsL])
theorem bsL_app (l : List UInt8) (c : UInt8) : bsL l ++ [.val (.int .u8 (c.toNat : Int))] = bsL (l ++ [c]):=by simp [bsL]
def bV (H : Heap) (o : List UInt8) : AV:=if o = [] then .e0 else .hs H.length o.length 0 o.length 1
def bH (H : Heap) (o : List UInt8) : Heap:=if o = [] then H else H ++ [.cells (bsL o)]
theorem within_code {lk lim : Nat} {H : Heap} (n : Int) (m : Nat) (hm : m ≤ 1000000) : callW X A lk lim 39 [I n,I m] H = some (I (min n.toNat m : Nat),H):=by
 refine wb_callB [] rfl A39 rfl rfl ?_
 unfold t39B
 generalize callW X A = C
 have : (if ((m : Nat) : Int) < (if 0 < n then n else 0) then ((m : Nat) : Int) else (if 0 < n then n else 0)) = ((min n.toNat m : Nat) : Int):=by
  split <;> split <;> omega
 simp [mmFold,this]
theorem row_code {lk lim : Nat} {H : Heap} (hlk : lk ≤ H.length) (k : Int) (ks : List Int) (hl : ks.length ≤ 1000000) : callW X A lk lim 18 [I k,.sl ks.length (ints ks)] H = some (Sg (rowM k ks),H):=by
 have kw:=fun (L : Nat) => within_code (lk:=lk) (lim:=L) (H:=H) k ks.length hl
 refine wb_callB [] rfl A18 rfl rfl ?_
 unfold t18B rowM
 generalize callW X A = C at kw ⊢
 have hm : min k.toNat ks.length ≤ ks.length:=Nat.min_le_right _ _
 generalize min k.toNat ks.length = m at hm kw ⊢
 have htl : (ks.take m).length = m:=by simp [hm]
 generalize ht : ks.take m = T at htl
 have hti : (ints ks).take m = ints T:=by rw [← ht];simp [ints]
 simp [kw,bnd,hm,hti]
 obtain ⟨R,hR⟩ : ∃ R,rowR T = R:=⟨_,rfl⟩
 rw [hR]
 refine wb_loop (σ:=Nat × List UInt8) (fun s => [(5,bV H s.2),(13,.sl m (ints T)),(14,I m),(15,I s.1)]) (fun s => bH H s.2)
  (fun s => s.1 ≤ m ∧ s.2.length = s.1 ∧ s.2 ++ rowR (T.drop s.1) = R) (fun s => m - s.1) ?_ (0,[]) ⟨Nat.zero_le _,rfl,hR⟩ (by simp [bV]) (by simp [bH])
 rintro ⟨i,o⟩ ⟨hi,ho,hinv⟩
 simp only at hi ho hinv
 unfold t18L1
 have w1 : IntKind.i64.wrap ((i : Int) + 1) = (i : Int) + 1:=wrap64 (by omega) (by omega)
 have hro1 : 1 ≤ room:=by unfold room;omega
 have hro : o.length + 1 ≤ room:=by unfold room;omega
 by_cases hil : i < m
 case neg =>
  obtain rfl : i = m:=by omega
  rw [List.drop_eq_nil_of_le (by omega)] at hinv
  simp only [rowR,List.append_nil] at hinv
  subst hinv
  by_cases h0 : o = []
  ·simp [bV,bH,h0,bytesOf]
  ·simp [bV,bH,h0,bytesOf_bsL,bsL_len,bsL_take]
 have hilT : i < T.length:=by omega
 obtain ⟨x,hx⟩ : ∃ x,T[i] = x:=⟨_,rfl⟩
 rw [List.drop_eq_getElem_cons hilT,hx,rowR] at hinv
 have hxi : (ints T)[i]? = some (I x):=by simp [ints,hilT,hx]
 by_cases hx2 : x = -2
 ·subst hx2
  rw [if_pos rfl] at hinv
  have hb : bytesOf ((bsL o ++ [AV.val (.int .u8 255)]).take (o.length + 1)) = some (o ++ [255]):=by
   rw [List.take_of_length_le (by simp [bsL])]
   exact (congrArg bytesOf (bsL_app o 255)).trans (bytesOf_bsL (o ++ [255]))
  by_cases h0 : o = []
  ·subst h0
   simp [hil,hxi,bV,bH,srcCells,hro1,bytesOf]
   exact hinv
  ·simp [hil,hxi,bV,bH,h0,srcCells,hro,bsL_len,appC,appG,setH,hlk,hb]
   simp [← hinv]
 rw [if_neg hx2] at hinv
 obtain ⟨c,y,hc,hcy,hy⟩ : ∃ (c : UInt8) (y : Int),(if x < 0 ∨ 254 ≤ x then (254 : UInt8) else byteI x) = c ∧ (if x < 0 ∨ 254 ≤ x then (254 : Int) else x) = y ∧ IntKind.u8.wrap y = ((c.toNat : Nat) : Int):=by
  refine ⟨_,_,rfl,rfl,?_⟩
  by_cases h : x < 0 ∨ 254 ≤ x
  ·rw [if_pos h,if_pos h];rfl
  ·rw [if_neg h,if_neg h];exact u8_wrap x
 rw [hc] at hinv
 have go : ∀ E H',E = [(5,bV H (o ++ [c])),(13,.sl m (ints T)),(14,I m),(15,I ((i : Int) + 1))] → H' = bH H (o ++ [c]) →
   ∃ s : Nat × List UInt8,(s.1 ≤ m ∧ s.2.length = s.1 ∧ s.2 ++ rowR (T.drop s.1) = R) ∧ m - s.1 < m - i ∧ E = [(5,bV H s.2),(13,.sl m (ints T)),(14,I m),(15,I s.1)] ∧ H' = bH H s.2:=fun E H' h1 h2 =>
  ⟨(i + 1,o ++ [c]),⟨by simp only;omega,by simp [ho],by simp only;rw [← hinv];simp⟩,by simp only;omega,by rw [h1];simp,h2⟩
 by_cases h3 : x < 0
 ·rw [if_pos (.inl h3)] at hcy
  subst hcy
  by_cases h0 : o = []
  ·subst h0
   simp [hil,hxi,bV,bH,srcCells,hro1,hx2,h3,hy,w1]
   rw [rnd_nrm]
   refine go _ _ ?_ ?_
   ·simp [bV]
   ·simp [bH,bsL]
  ·simp [hil,hxi,bV,bH,h0,srcCells,hro,bsL_len,appC,appG,setH,hlk,hx2,h3,hy,w1]
   rw [rnd_nrm]
   refine go _ _ ?_ ?_
   ·simp [bV]
   ·simp [bH,bsL_app]
 by_cases h4 : 254 ≤ x
 ·rw [if_pos (.inr h4)] at hcy
  subst hcy
  by_cases h0 : o = []
  ·subst h0
   simp [hil,hxi,bV,bH,srcCells,hro1,hx2,h3,h4,hy,w1]
   rw [rnd_nrm]
   refine go _ _ ?_ ?_
   ·simp [bV]
   ·simp [bH,bsL]
  ·simp [hil,hxi,bV,bH,h0,srcCells,hro,bsL_len,appC,appG,setH,hlk,hx2,h3,h4,hy,w1]
   rw [rnd_nrm]
   refine go _ _ ?_ ?_
   ·simp [bV]
   ·simp [bH,bsL_app]
 rw [if_neg (by omega)] at hcy
 subst hcy
 by_cases h0 : o = []
 ·subst h0
  simp [hil,hxi,bV,bH,srcCells,hro1,hx2,h3,h4,hy,w1]
  rw [rnd_nrm]
  refine go _ _ ?_ ?_
  ·simp [bV]
  ·simp [bH,bsL]
 ·simp [hil,hxi,bV,bH,h0,srcCells,hro,bsL_len,appC,appG,setH,hlk,hx2,h3,h4,hy,w1]
  rw [rnd_nrm]
  refine go _ _ ?_ ?_
  ·simp [bV]
  ·simp [bH,bsL_app]
end Go.Proofs.YtgbpioccaenjaaaGreat
