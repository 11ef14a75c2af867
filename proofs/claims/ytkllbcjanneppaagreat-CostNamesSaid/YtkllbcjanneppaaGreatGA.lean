import Derived.Test.YtkllbcjanneppaaGreatA
set_option linter.unusedSimpArgs false
set_option linter.unusedVariables false
namespace Go.Proofs.YtkllbcjanneppaaGreat
open Go Go.Hm

def whole (k : Nat) (r : List UInt8) : Bool:=decide (k ≤ r.length) || r.getLast? == some 255
def join (k : Nat) (r s : List UInt8) : List UInt8:=if whole k r = true then r.take k else (r ++ s).take k
def catL (k : Nat) (a b : List (List UInt8)) : List (List UInt8):=a.flatMap fun x => if whole k x = true then [x.take k] else b.map fun y => (x ++ y).take k
def cat (k : Nat) (a b : List (List UInt8)) : List (List UInt8):=if b = [] then [] else norm (catL k a b)
def uni (a b : List (List UInt8)) : List (List UInt8):=norm (a ++ b)
theorem mem_uni {a b : List (List UInt8)} {z : List UInt8} : z ∈ uni a b ↔ z ∈ a ∨ z ∈ b:=by
 unfold uni;rw [mem_norm,List.mem_append]
theorem up_uni (a b : List (List UInt8)) : Up (uni a b):=up_norm _
theorem up_cat (k : Nat) (a b : List (List UInt8)) : Up (cat k a b):=by
 unfold cat
 split
 ·exact List.Pairwise.nil
 ·exact up_norm _
theorem mem_cat {k : Nat} {a b : List (List UInt8)} {z : List UInt8} : z ∈ cat k a b ↔ ∃ r ∈ a,∃ s ∈ b,z = join k r s:=by
 unfold cat
 split
 ·rename_i hb
  subst hb
  simp
 ·rename_i hb
  obtain ⟨s0,hs0⟩:=List.exists_mem_of_ne_nil b hb
  rw [mem_norm,catL,List.mem_flatMap]
  constructor
  ·rintro ⟨r,hr,hz⟩
   refine ⟨r,hr,?_⟩
   unfold join
   split at hz
   ·rename_i hw
    exact ⟨s0,hs0,by rw [if_pos hw];simpa using hz⟩
   ·rename_i hw
    obtain ⟨s,hs,rfl⟩:=List.mem_map.1 hz
    exact ⟨s,hs,by rw [if_neg hw]⟩
  ·rintro ⟨r,hr,s,hs,rfl⟩
   refine ⟨r,hr,?_⟩
   unfold join
   split
   ·simp
   ·exact List.mem_map_of_mem hs
theorem join_len (k : Nat) (r s : List UInt8) : (join k r s).length ≤ k:=by
 unfold join
 split <;> (rw [List.length_take];exact Nat.min_le_left ..)
theorem cat_len {k : Nat} {a b : List (List UInt8)} : ∀ z ∈ cat k a b,z.length ≤ k:=fun z hz => by
 obtain ⟨r,_,s,_,rfl⟩:=mem_cat.1 hz
 exact join_len ..
end Go.Proofs.YtkllbcjanneppaaGreat

namespace Go.Proofs.YtkllbcjanneppaaGreat
open Go Go.Hm

structure Pr where
 l : Int
 r : List Int
structure Gm where
 t : Int
 n : Int
 k : Int
 ps : List Pr
structure POk (g : Gm) (p : Pr) : Prop where
 len : p.r.length ≤ 8
 l0 : 0 ≤ p.l
 l1 : p.l < g.n
 s : ∀ x ∈ p.r,0 ≤ x ∧ x < g.t + g.n
structure GOk (g : Gm) : Prop where
 t1 : 1 ≤ g.t
 t2 : g.t ≤ 8
 n1 : 1 ≤ g.n
 n2 : g.n ≤ 16
 k1 : 1 ≤ g.k
 k2 : g.k ≤ 3
 l1 : 1 ≤ g.ps.length
 l2 : g.ps.length ≤ 64
 p : ∀ p ∈ g.ps,POk g p

section
variable {α : Type} [DecidableEq α] {f : α → α} {Q : α → Prop} {μ : α → Nat}
def climb (f : α → α) : Nat → α → α
 | 0,a => a
 | m + 1,a => if f a = a then a else climb f m (f a)
structure Climbs (f : α → α) (Q : α → Prop) (μ : α → Nat) : Prop where
 keep : ∀ a,Q a → Q (f a)
 down : ∀ a,Q a → f a = a ∨ μ (f a) < μ a
end

abbrev Ss:=List (List (List UInt8))
def byteI (s : Int) : UInt8:=UInt8.ofNat (s % 256).toNat
def nxt (g : Gm) (S : Ss) (s : Int) : List (List UInt8):=if s < g.t then [[byteI s]] else S.getD (s - g.t).toNat []
def ofM (g : Gm) (S : Ss) (r : List Int) : List (List UInt8):=r.foldl (fun o s => cat g.k.toNat o (nxt g S s)) [[]]
def stS (g : Gm) (S : Ss) (p : Pr) : Ss:=S.set p.l.toNat (uni (S.getD p.l.toNat []) (ofM g S p.r))
def rndS (g : Gm) (S : Ss) : Ss:=g.ps.foldl (stS g) S
def setsM (g : Gm) : Ss:=climb (rndS g) (g.n.toNat * 585 + 1) (List.replicate g.n.toNat [])

def rowsT (t : Nat) : Nat → List (List UInt8)
 | 0 => [[]]
 | k + 1 => [] :: (rowsT t k).flatMap fun r => (List.range t).map fun b => UInt8.ofNat b :: r
theorem mem_rowsT {t : Nat} : ∀ {k : Nat} {x : List UInt8},x.length ≤ k → (∀ b ∈ x,b.toNat < t) → x ∈ rowsT t k
 | 0,[],_,_ => by simp [rowsT]
 | 0,_ :: _,h,_ => by simp at h
 | k + 1,[],_,_ => by simp [rowsT]
 | k + 1,b :: x,h,hb => by
  refine List.mem_cons_of_mem _ (List.mem_flatMap.2 ⟨x,mem_rowsT (by simpa using h) fun c hc => hb c (List.mem_cons_of_mem _ hc),List.mem_map.2 ⟨b.toNat,List.mem_range.2 (hb b (List.mem_cons_self ..)),?_⟩⟩)
  rw [UInt8.ofNat_toNat]
structure ROk (g : Gm) (l : List (List UInt8)) : Prop where
 up : Up l
 len : ∀ x ∈ l,x.length ≤ g.k.toNat
 b : ∀ x ∈ l,∀ c ∈ x,(c.toNat : Int) < g.t
theorem ROk.size {g : Gm} (hg : GOk g) {l : List (List UInt8)} (h : ROk g l) : l.length ≤ 585:=by
 have h1:=up_sub h.up (up_norm (rowsT 8 3)) fun x hx => mem_norm.2 (mem_rowsT (by have:=h.len x hx;have:=hg.k2;omega) fun c hc => by have:=h.b x hx c hc;have:=hg.t2;omega)
 have h2 : ∀ l : List (List UInt8),(norm l).length ≤ l.length:=by
  have h3 : ∀ (x : List UInt8) (l : List (List UInt8)),(ins x l).length ≤ l.length + 1:=by
   intro x l
   induction l with
   | nil => simp [ins]
   | cons y l ih =>
    unfold ins
    split
    ·simp
    ·split
     ·simp
     ·simpa using ih
  intro l
  induction l with
  | nil => simp [norm]
  | cons x l ih =>
   have:=h3 x (norm l)
   show (ins x (norm l)).length ≤ _
   simp only [List.length_cons]
   omega
 have h4:=h2 (rowsT 8 3)
 have h5 : (rowsT 8 3).length = 585:=by decide +kernel
 omega
structure SOk (g : Gm) (S : Ss) : Prop where
 len : S.length = g.n.toNat
 r : ∀ l ∈ S,ROk g l
theorem ROk.nil (g : Gm) : ROk g []:=⟨List.Pairwise.nil,by simp,by simp⟩
theorem SOk.get {g : Gm} {S : Ss} (h : SOk g S) (i : Nat) : ROk g (S.getD i []):=by
 rw [List.getD_eq_getElem?_getD]
 cases hi : S[i]? with
 | none => exact ROk.nil g
 | some l => exact h.r l (List.mem_of_getElem? hi)
theorem ROk.cat {g : Gm} {a b : List (List UInt8)} (ha : ROk g a) (hb : ∀ x ∈ b,∀ c ∈ x,(c.toNat : Int) < g.t) : ROk g (cat g.k.toNat a b):=by
 refine ⟨up_cat ..,cat_len,fun x hx c hc => ?_⟩
 obtain ⟨r,hr,s,hs,rfl⟩:=mem_cat.1 hx
 unfold join at hc
 split at hc
 ·exact ha.b r hr c (List.mem_of_mem_take hc)
 ·rcases List.mem_append.1 (List.mem_of_mem_take hc) with h | h
  ·exact ha.b r hr c h
  ·exact hb s hs c h
theorem ROk.uni {g : Gm} {a b : List (List UInt8)} (ha : ROk g a) (hb : ROk g b) : ROk g (uni a b):=
 ⟨up_uni ..,fun x hx => (mem_uni.1 hx).elim (ha.len x) (hb.len x),fun x hx => (mem_uni.1 hx).elim (ha.b x) (hb.b x)⟩
theorem SOk.start (g : Gm) : SOk g (List.replicate g.n.toNat []):=⟨by simp,fun l hl => by rw [(List.mem_replicate.1 hl).2];exact ROk.nil g⟩
end Go.Proofs.YtkllbcjanneppaaGreat

namespace Go.Proofs.YtkllbcjanneppaaGreat
open Go Go.Hm

theorem take_app (k : Nat) (a b : List UInt8) : (a ++ b).take k = (a.take k ++ b.take k).take k:=by
 rw [List.take_append,List.take_append (l₁:=a.take k),List.take_take,Nat.min_self,List.take_take,List.length_take]
 have : min (k - min k a.length) k = k - a.length:=by omega
 rw [this]
theorem take_appl (k : Nat) (a b : List UInt8) : (a.take k ++ b).take k = (a ++ b).take k:=by
 rw [take_app k (a.take k) b,take_app k a b,List.take_take,Nat.min_self]
inductive Drv (g : Gm) : List Int → List UInt8 → Prop
 | nil : Drv g [] []
 | tok (s : Int) (r : List Int) (t : List UInt8) (h : s < g.t) (d : Drv g r t) : Drv g (s :: r) (byteI s :: t)
 | non (p : Pr) (r : List Int) (t : List UInt8) (h : p ∈ g.ps) (d : Drv g (p.r ++ r) t) : Drv g ((g.t + p.l) :: r) t
end Go.Proofs.YtkllbcjanneppaaGreat

namespace Go.Proofs.YtkllbcjanneppaaGreat
open Go Go.Hm

def cntF : List Bool → Nat
 | [] => 0
 | b :: l => (if b = true then 0 else 1) + cntF l
def fixL (f : List Bool → List Bool) : Nat → List Bool → List Bool
 | 0,o => o
 | m + 1,o => if f o = o then o else fixL f m (f o)
def Grows (f : List Bool → List Bool) : Prop:=∀ o,f o = o ∨ cntF (f o) < cntF o
def fin (f : List Bool → List Bool) (o : List Bool) : List Bool:=fixL f (cntF o + 1) o
end Go.Proofs.YtkllbcjanneppaaGreat

namespace Go.Proofs.YtkllbcjanneppaaGreat
open Go Go.Hm

structure Pl where
 l : Nat
 s : Nat
 r : List Int
def plsR (t : Int) (l : Nat) : List Int → List Pl
 | [] => []
 | s :: r => if s < t then plsR t l r else ⟨l,(s - t).toNat,r⟩ :: plsR t l r
def pls (g : Gm) : List Pl:=g.ps.flatMap fun p => plsR g.t p.l.toNat p.r
def startF (g : Gm) : Ss:=(List.replicate g.n.toNat []).set 0 [[255]]
structure PlOk (g : Gm) (p : Pl) : Prop where
 l : p.l < g.n.toNat
 s : p.s < g.n.toNat
 r : ∀ x ∈ p.r,0 ≤ x ∧ x < g.t + g.n
 len : p.r.length ≤ 8
def RowF (g : Gm) (x : List UInt8) : Prop:=∃ y : List UInt8,(∀ c ∈ y,(c.toNat : Int) < g.t) ∧ x = (y ++ [255]).take g.k.toNat
structure FOk (g : Gm) (l : List (List UInt8)) : Prop where
 up : Up l
 row : ∀ x ∈ l,RowF g x
theorem RowF.len {g : Gm} {x : List UInt8} (h : RowF g x) : x.length ≤ g.k.toNat:=by
 obtain ⟨y,_,rfl⟩:=h
 rw [List.length_take];omega
theorem RowF.pos {g : Gm} (hg : GOk g) {x : List UInt8} (h : RowF g x) : 0 < x.length:=by
 obtain ⟨y,_,rfl⟩:=h
 have:=hg.k1
 rw [List.length_take];simp;omega
theorem FOk.nil (g : Gm) : FOk g []:=⟨List.Pairwise.nil,by simp⟩
theorem FOk.size {g : Gm} (hg : GOk g) {l : List (List UInt8)} (h : FOk g l) : l.length ≤ 585:=by
 have h1:=up_sub h.up (up_norm ((rowsT 8 3).map fun y => (y ++ [255]).take g.k.toNat)) fun x hx => mem_norm.2 (by
  obtain ⟨y,hy,rfl⟩:=h.row x hx
  refine List.mem_map.2 ⟨y.take g.k.toNat,mem_rowsT (by rw [List.length_take];have:=hg.k2;omega) fun c hc => by have:=hy c (List.mem_of_mem_take hc);have:=hg.t2;omega,take_appl ..⟩)
 have h2:=norm_le ((rowsT 8 3).map fun y => (y ++ [255]).take g.k.toNat)
 have h5 : (rowsT 8 3).length = 585:=by decide +kernel
 rw [List.length_map] at h2
 omega
structure TOk (g : Gm) (S : Ss) : Prop where
 len : S.length = g.n.toNat
 r : ∀ l ∈ S,FOk g l
theorem TOk.get {g : Gm} {S : Ss} (h : TOk g S) (i : Nat) : FOk g (S.getD i []):=by
 rw [List.getD_eq_getElem?_getD]
 cases hi : S[i]? with
 | none => exact FOk.nil g
 | some l => exact h.r l (List.mem_of_getElem? hi)
theorem end_row {g : Gm} (hg : GOk g) : RowF g [255]:=⟨[],by simp,by
 have:=hg.k1
 obtain ⟨k,hk⟩ : ∃ k,g.k.toNat = k + 1:=⟨g.k.toNat - 1,by omega⟩
 rw [hk];simp⟩
theorem FOk.one {g : Gm} (hg : GOk g) : FOk g [[255]]:=⟨List.pairwise_singleton ..,fun x hx => by
 rw [List.mem_singleton.1 hx];exact end_row hg⟩
theorem TOk.start {g : Gm} (hg : GOk g) : TOk g (startF g):=⟨by simp [startF],fun l hl => by
 rcases List.mem_or_eq_of_mem_set hl with hl | rfl
 ·rw [(List.mem_replicate.1 hl).2];exact FOk.nil g
 ·exact FOk.one hg⟩
theorem FOk.uni {g : Gm} {a b : List (List UInt8)} (ha : FOk g a) (hb : FOk g b) : FOk g (uni a b):=
 ⟨up_uni ..,fun x hx => (mem_uni.1 hx).elim (ha.row x) (hb.row x)⟩
section
variable {g : Gm} {F : Ss}
end
structure Reach (g : Gm) (S : Ss) : Prop where
 ok : TOk g S
 e : [255] ∈ S.getD 0 []
 why : ∀ i,∀ x ∈ S.getD i [],(i = 0 ∧ x = [255]) ∨ ∃ p ∈ pls g,p.s = i ∧ x ∈ cat g.k.toNat (ofM g (setsM g) p.r) (S.getD p.l [])
 low : ∀ T : Nat → List UInt8 → Prop,T 0 [255] → (∀ p ∈ pls g,∀ a ∈ ofM g (setsM g) p.r,∀ b,RowF g b → T p.l b → T p.s (join g.k.toNat a b)) → ∀ i,∀ x ∈ S.getD i [],T i x
end Go.Proofs.YtkllbcjanneppaaGreat
