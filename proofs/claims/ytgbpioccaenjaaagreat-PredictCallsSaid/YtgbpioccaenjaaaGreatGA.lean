import Derived.Test.YtgbpioccaenjaaaGreatA
set_option linter.unusedSimpArgs false
set_option linter.unusedVariables false
namespace Go.Proofs.YtgbpioccaenjaaaGreat
open Go Go.Hm

def whole (k : Nat) (r : List UInt8) : Bool:=decide (k ≤ r.length) || r.getLast? == some 255
def join (k : Nat) (r s : List UInt8) : List UInt8:=if whole k r = true then r.take k else (r ++ s).take k
def catL (k : Nat) (a b : List (List UInt8)) : List (List UInt8):=a.flatMap fun x => if whole k x = true then [x.take k] else b.map fun y => (x ++ y).take k
def cat (k : Nat) (a b : List (List UInt8)) : List (List UInt8):=if b = [] then [] else norm (catL k a b)
def uni (a b : List (List UInt8)) : List (List UInt8):=norm (a ++ b)
theorem mem_uni {a b : List (List UInt8)} {z : List UInt8} : z ∈ uni a b ↔ z ∈ a ∨ z ∈ b:=by
 unfold uni;rw [mem_norm,List.mem_append]
theorem up_uni (a b : List (List UInt8)) : Up (uni a b):=up_norm _
theorem up_cat (k : Nat) (a b : List (List UInt8)) : Up (cat k a b):=by
 unfold cat
 split
 ·exact List.Pairwise.nil
 ·exact up_norm _
theorem mem_cat {k : Nat} {a b : List (List UInt8)} {z : List UInt8} : z ∈ cat k a b ↔ ∃ r ∈ a,∃ s ∈ b,z = join k r s:=by
 unfold cat
 split
 ·rename_i hb
  subst hb
  simp
 ·rename_i hb
  obtain ⟨s0,hs0⟩:=List.exists_mem_of_ne_nil b hb
  rw [mem_norm,catL,List.mem_flatMap]
  constructor
  ·rintro ⟨r,hr,hz⟩
   refine ⟨r,hr,?_⟩
   unfold join
   split at hz
   ·rename_i hw
    exact ⟨s0,hs0,by rw [if_pos hw];simpa using hz⟩
   ·rename_i hw
    obtain ⟨s,hs,rfl⟩:=List.mem_map.1 hz
    exact ⟨s,hs,by rw [if_neg hw]⟩
  ·rintro ⟨r,hr,s,hs,rfl⟩
   refine ⟨r,hr,?_⟩
   unfold join
   split
   ·simp
   ·exact List.mem_map_of_mem hs
theorem join_len (k : Nat) (r s : List UInt8) : (join k r s).length ≤ k:=by
 unfold join
 split <;> (rw [List.length_take];exact Nat.min_le_left ..)
theorem whole_len {k : Nat} {r : List UInt8} (h : k ≤ r.length) : whole k r = true:=by simp [whole,h]
theorem whole_end {k : Nat} {r : List UInt8} (h : r.getLast? = some 255) : whole k r = true:=by simp [whole,h]
theorem whole_cases {k : Nat} {r : List UInt8} (h : whole k r = true) : k ≤ r.length ∨ r.getLast? = some 255:=by
 simpa [whole] using h
theorem cat_len {k : Nat} {a b : List (List UInt8)} : ∀ z ∈ cat k a b,z.length ≤ k:=fun z hz => by
 obtain ⟨r,_,s,_,rfl⟩:=mem_cat.1 hz
 exact join_len ..
theorem cat_mono {k : Nat} {a b a' b' : List (List UInt8)} (ha : ∀ x ∈ a,x ∈ a') (hb : ∀ x ∈ b,x ∈ b') : ∀ z ∈ cat k a b,z ∈ cat k a' b':=fun z hz => by
 obtain ⟨r,hr,s,hs,rfl⟩:=mem_cat.1 hz
 exact mem_cat.2 ⟨r,ha r hr,s,hb s hs,rfl⟩
end Go.Proofs.YtgbpioccaenjaaaGreat

namespace Go.Proofs.YtgbpioccaenjaaaGreat
open Go Go.Hm

structure Pr where
 l : Int
 r : List Int
structure Gm where
 t : Int
 n : Int
 k : Int
 ps : List Pr
structure POk (g : Gm) (p : Pr) : Prop where
 len : p.r.length ≤ 8
 l0 : 0 ≤ p.l
 l1 : p.l < g.n
 s : ∀ x ∈ p.r,0 ≤ x ∧ x < g.t + g.n
structure GOk (g : Gm) : Prop where
 t1 : 1 ≤ g.t
 t2 : g.t ≤ 8
 n1 : 1 ≤ g.n
 n2 : g.n ≤ 16
 k1 : 1 ≤ g.k
 k2 : g.k ≤ 3
 l1 : 1 ≤ g.ps.length
 l2 : g.ps.length ≤ 64
 p : ∀ p ∈ g.ps,POk g p

section
variable {α : Type} [DecidableEq α] {f : α → α} {Q : α → Prop} {μ : α → Nat}
def climb (f : α → α) : Nat → α → α
 | 0,a => a
 | m + 1,a => if f a = a then a else climb f m (f a)
structure Climbs (f : α → α) (Q : α → Prop) (μ : α → Nat) : Prop where
 keep : ∀ a,Q a → Q (f a)
 down : ∀ a,Q a → f a = a ∨ μ (f a) < μ a
theorem climb_more (h : Climbs f Q μ) : ∀ (m : Nat) (a : α),Q a → μ a < m → climb f m a = climb f (μ a + 1) a
 | 0,a,_,hm => by omega
 | m + 1,a,hq,hm => by
  simp only [climb]
  by_cases he : f a = a
  ·rw [if_pos he,if_pos he]
  ·rw [if_neg he,if_neg he]
   rcases h.down a hq with h1 | h1
   ·exact absurd h1 he
   ·rw [climb_more h m (f a) (h.keep a hq) (by omega)]
    by_cases h2 : μ a = μ (f a) + 1
    ·rw [h2]
    ·rw [climb_more h (μ a) (f a) (h.keep a hq) (by omega)]
theorem climb_fix (h : Climbs f Q μ) : ∀ (m : Nat) (a : α),Q a → μ a < m → f (climb f m a) = climb f m a
 | 0,a,_,hm => by omega
 | m + 1,a,hq,hm => by
  simp only [climb]
  by_cases he : f a = a
  ·rw [if_pos he];exact he
  ·rw [if_neg he]
   rcases h.down a hq with h1 | h1
   ·exact absurd h1 he
   ·exact climb_fix h m (f a) (h.keep a hq) (by omega)
theorem climb_ind {R : α → Prop} (h : ∀ a,R a → R (f a)) : ∀ (m : Nat) (a : α),R a → R (climb f m a)
 | 0,a,h0 => h0
 | m + 1,a,h0 => by
  simp only [climb]
  split
  ·exact h0
  ·exact climb_ind h m (f a) (h a h0)
end

abbrev Ss:=List (List (List UInt8))
def byteI (s : Int) : UInt8:=UInt8.ofNat (s % 256).toNat
def nxt (g : Gm) (S : Ss) (s : Int) : List (List UInt8):=if s < g.t then [[byteI s]] else S.getD (s - g.t).toNat []
def ofM (g : Gm) (S : Ss) (r : List Int) : List (List UInt8):=r.foldl (fun o s => cat g.k.toNat o (nxt g S s)) [[]]
def stS (g : Gm) (S : Ss) (p : Pr) : Ss:=S.set p.l.toNat (uni (S.getD p.l.toNat []) (ofM g S p.r))
def rndS (g : Gm) (S : Ss) : Ss:=g.ps.foldl (stS g) S
def szS (S : Ss) : Nat:=(S.map List.length).sum
def setsM (g : Gm) : Ss:=climb (rndS g) (g.n.toNat * 585 + 1) (List.replicate g.n.toNat [])

def rowsT (t : Nat) : Nat → List (List UInt8)
 | 0 => [[]]
 | k + 1 => [] :: (rowsT t k).flatMap fun r => (List.range t).map fun b => UInt8.ofNat b :: r
theorem mem_rowsT {t : Nat} : ∀ {k : Nat} {x : List UInt8},x.length ≤ k → (∀ b ∈ x,b.toNat < t) → x ∈ rowsT t k
 | 0,[],_,_ => by simp [rowsT]
 | 0,_ :: _,h,_ => by simp at h
 | k + 1,[],_,_ => by simp [rowsT]
 | k + 1,b :: x,h,hb => by
  refine List.mem_cons_of_mem _ (List.mem_flatMap.2 ⟨x,mem_rowsT (by simpa using h) fun c hc => hb c (List.mem_cons_of_mem _ hc),List.mem_map.2 ⟨b.toNat,List.mem_range.2 (hb b (List.mem_cons_self ..)),?_⟩⟩)
  rw [UInt8.ofNat_toNat]
structure ROk (g : Gm) (l : List (List UInt8)) : Prop where
 up : Up l
 len : ∀ x ∈ l,x.length ≤ g.k.toNat
 b : ∀ x ∈ l,∀ c ∈ x,(c.toNat : Int) < g.t
theorem ROk.size {g : Gm} (hg : GOk g) {l : List (List UInt8)} (h : ROk g l) : l.length ≤ 585:=by
 have h1:=up_sub h.up (up_norm (rowsT 8 3)) fun x hx => mem_norm.2 (mem_rowsT (by have:=h.len x hx;have:=hg.k2;omega) fun c hc => by have:=h.b x hx c hc;have:=hg.t2;omega)
 have h2 : ∀ l : List (List UInt8),(norm l).length ≤ l.length:=by
  have h3 : ∀ (x : List UInt8) (l : List (List UInt8)),(ins x l).length ≤ l.length + 1:=by
   intro x l
   induction l with
   | nil => simp [ins]
   | cons y l ih =>
    unfold ins
    split
    ·simp
    ·split
     ·simp
     ·simpa using ih
  intro l
  induction l with
  | nil => simp [norm]
  | cons x l ih =>
   have:=h3 x (norm l)
   show (ins x (norm l)).length ≤ _
   simp only [List.length_cons]
   omega
 have h4:=h2 (rowsT 8 3)
 have h5 : (rowsT 8 3).length = 585:=by decide +kernel
 omega
structure SOk (g : Gm) (S : Ss) : Prop where
 len : S.length = g.n.toNat
 r : ∀ l ∈ S,ROk g l
theorem ROk.nil (g : Gm) : ROk g []:=⟨List.Pairwise.nil,by simp,by simp⟩
theorem ROk.eps (g : Gm) : ROk g [[]]:=⟨List.pairwise_singleton ..,by simp,by simp⟩
theorem SOk.get {g : Gm} {S : Ss} (h : SOk g S) (i : Nat) : ROk g (S.getD i []):=by
 rw [List.getD_eq_getElem?_getD]
 cases hi : S[i]? with
 | none => exact ROk.nil g
 | some l => exact h.r l (List.mem_of_getElem? hi)
theorem byteI_lt {s t : Int} (h0 : 0 ≤ s) (h : s < t) (ht : t ≤ 8) : ((byteI s).toNat : Int) < t:=by
 unfold byteI
 rw [UInt8.toNat_ofNat']
 omega
theorem ROk.cat {g : Gm} {a b : List (List UInt8)} (ha : ROk g a) (hb : ∀ x ∈ b,∀ c ∈ x,(c.toNat : Int) < g.t) : ROk g (cat g.k.toNat a b):=by
 refine ⟨up_cat ..,cat_len,fun x hx c hc => ?_⟩
 obtain ⟨r,hr,s,hs,rfl⟩:=mem_cat.1 hx
 unfold join at hc
 split at hc
 ·exact ha.b r hr c (List.mem_of_mem_take hc)
 ·rcases List.mem_append.1 (List.mem_of_mem_take hc) with h | h
  ·exact ha.b r hr c h
  ·exact hb s hs c h
theorem nxt_b {g : Gm} (hg : GOk g) {S : Ss} (h : SOk g S) {s : Int} (h0 : 0 ≤ s) : ∀ x ∈ nxt g S s,∀ c ∈ x,(c.toNat : Int) < g.t:=by
 unfold nxt
 split
 ·rename_i hs
  intro x hx c hc
  simp only [List.mem_singleton] at hx
  subst hx
  simp only [List.mem_singleton] at hc
  subst hc
  exact byteI_lt h0 hs hg.t2
 ·exact (h.get _).b
theorem fold_ok {g : Gm} (hg : GOk g) {S : Ss} (h : SOk g S) : ∀ (r : List Int) (o : List (List UInt8)),(∀ s ∈ r,0 ≤ s) → ROk g o → ROk g (r.foldl (fun o s => cat g.k.toNat o (nxt g S s)) o)
 | [],o,_,ho => ho
 | s :: r,o,hr,ho => fold_ok hg h r _ (fun x hx => hr x (List.mem_cons_of_mem _ hx)) (ho.cat (nxt_b hg h (hr s (List.mem_cons_self ..))))
theorem ofM_ok {g : Gm} (hg : GOk g) {S : Ss} (h : SOk g S) {r : List Int} (hr : ∀ s ∈ r,0 ≤ s) : ROk g (ofM g S r):=fold_ok hg h r _ hr (ROk.eps g)
theorem ROk.uni {g : Gm} {a b : List (List UInt8)} (ha : ROk g a) (hb : ROk g b) : ROk g (uni a b):=
 ⟨up_uni ..,fun x hx => (mem_uni.1 hx).elim (ha.len x) (hb.len x),fun x hx => (mem_uni.1 hx).elim (ha.b x) (hb.b x)⟩
theorem stS_ok {g : Gm} (hg : GOk g) {S : Ss} (h : SOk g S) {p : Pr} (hp : POk g p) : SOk g (stS g S p):=by
 refine ⟨by simp [stS,h.len],fun l hl => ?_⟩
 rcases List.mem_or_eq_of_mem_set hl with hl | rfl
 ·exact h.r l hl
 ·exact (h.get _).uni (ofM_ok hg h fun s hs => (hp.s s hs).1)
theorem szS_set : ∀ (S : Ss) (i : Nat) (l : List (List UInt8)),(h : i < S.length) → szS (S.set i l) + S[i].length = szS S + l.length
 | [],i,_,h => by simp at h
 | x :: S,0,l,h => by simp [szS];omega
 | x :: S,i + 1,l,h => by
  have:=szS_set S i l (by simpa using h)
  simp only [szS,List.set_cons_succ,List.map_cons,List.sum_cons,List.getElem_cons_succ] at this ⊢
  omega
theorem stS_up {g : Gm} {S : Ss} (h : SOk g S) {p : Pr} (hp : POk g p) : (stS g S p = S ∨ szS S < szS (stS g S p)) ∧ ((stS g S p = S) ↔ (uni (S.getD p.l.toNat []) (ofM g S p.r)).length ≤ (S.getD p.l.toNat []).length):=by
 have hl : p.l.toNat < S.length:=by rw [h.len];have:=hp.l0;have:=hp.l1;omega
 have hg : S.getD p.l.toNat [] = S[p.l.toNat]:=by rw [List.getD_eq_getElem?_getD,List.getElem?_eq_getElem hl];rfl
 have hs:=szS_set S p.l.toNat (uni (S.getD p.l.toNat []) (ofM g S p.r)) hl
 unfold stS
 rw [hg] at hs ⊢
 have hr:=h.r _ (List.getElem_mem hl)
 by_cases hle : (uni S[p.l.toNat] (ofM g S p.r)).length ≤ S[p.l.toNat].length
 ·have he : S[p.l.toNat] = uni S[p.l.toNat] (ofM g S p.r):=up_eq hr.up (up_uni ..) (fun x hx => mem_uni.2 (.inl hx)) hle
  have : S.set p.l.toNat (uni S[p.l.toNat] (ofM g S p.r)) = S:=by rw [← he];exact List.set_getElem_self ..
  exact ⟨.inl this,⟨fun _ => hle,fun _ => this⟩⟩
 ·refine ⟨.inr (by omega),⟨fun e => ?_,fun h => absurd h hle⟩⟩
  rw [e] at hs
  omega
theorem rnd_ok {g : Gm} (hg : GOk g) : ∀ (ps : List Pr),(∀ p ∈ ps,POk g p) → ∀ S,SOk g S → SOk g (ps.foldl (stS g) S) ∧ (ps.foldl (stS g) S = S ∨ szS S < szS (ps.foldl (stS g) S)) ∧ (ps.foldl (stS g) S = S → ∀ p ∈ ps,stS g S p = S)
 | [],_,S,h => ⟨h,.inl rfl,fun _ p hp => by simp at hp⟩
 | p :: ps,hp,S,h => by
  have hp0:=hp p (List.mem_cons_self ..)
  obtain ⟨i1,i2,i3⟩:=rnd_ok hg ps (fun q hq => hp q (List.mem_cons_of_mem _ hq)) _ (stS_ok hg h hp0)
  have h1:=(stS_up h hp0).1
  simp only [List.foldl_cons]
  refine ⟨i1,?_,fun e q hq => ?_⟩
  ·rcases i2 with e2 | l2 <;> rcases h1 with e1 | l1
   ·rw [e2,e1];exact .inl rfl
   ·rw [e2];exact .inr l1
   ·rw [e1] at l2 ⊢;exact .inr l2
   ·exact .inr (by omega)
  ·have h2 : stS g S p = S:=by
    rcases h1 with e1 | l1
    ·exact e1
    ·rcases i2 with e2 | l2
     ·rw [e] at e2;exact e2.symm
     ·rw [e] at l2;omega
   rcases List.mem_cons.1 hq with rfl | hq
   ·exact h2
   ·rw [h2] at i3 e
    exact i3 e q hq
theorem szS_le {g : Gm} (hg : GOk g) {S : Ss} (h : SOk g S) : szS S ≤ g.n.toNat * 585:=by
 rw [← h.len]
 have : ∀ S : Ss,(∀ l ∈ S,ROk g l) → szS S ≤ S.length * 585:=by
  intro S
  induction S with
  | nil => intro _;simp [szS]
  | cons l S ih =>
   intro hh
   have h1:=(hh l (List.mem_cons_self ..)).size hg
   have h2:=ih fun x hx => hh x (List.mem_cons_of_mem _ hx)
   simp only [szS,List.map_cons,List.sum_cons,List.length_cons] at h2 ⊢
   omega
 exact this S h.r
theorem rndS_climbs {g : Gm} (hg : GOk g) : Climbs (rndS g) (SOk g) fun S => g.n.toNat * 585 - szS S:=
 ⟨fun S h => (rnd_ok hg g.ps hg.p S h).1,fun S h => by
  obtain ⟨h1,h2,_⟩:=rnd_ok hg g.ps hg.p S h
  rcases h2 with h2 | h2
  ·exact .inl h2
  ·have:=szS_le hg h1
   exact .inr (by show _ - szS (rndS g S) < _;unfold rndS;omega)⟩
theorem SOk.start (g : Gm) : SOk g (List.replicate g.n.toNat []):=⟨by simp,fun l hl => by rw [(List.mem_replicate.1 hl).2];exact ROk.nil g⟩
theorem sets_ind {g : Gm} (Q : Ss → Prop) (h0 : Q (List.replicate g.n.toNat [])) (hs : ∀ S p,p ∈ g.ps → Q S → Q (stS g S p)) : Q (setsM g):=by
 refine climb_ind (fun S hS => ?_) _ _ h0
 have : ∀ (ps : List Pr),(∀ p ∈ ps,p ∈ g.ps) → ∀ S,Q S → Q (ps.foldl (stS g) S):=by
  intro ps
  induction ps with
  | nil => intro _ S h;exact h
  | cons p ps ih => intro hp S h;exact ih (fun q hq => hp q (List.mem_cons_of_mem _ hq)) _ (hs S p (hp p (List.mem_cons_self ..)) h)
 exact this g.ps (fun _ h => h) S hS
theorem sets_ok {g : Gm} (hg : GOk g) : SOk g (setsM g):=sets_ind _ (SOk.start g) fun _ p hp h => stS_ok hg h (hg.p p hp)
theorem getD_set {S : Ss} {i : Nat} {l : List (List UInt8)} (j : Nat) (h : i < S.length) : (S.set i l).getD j [] = if j = i then l else S.getD j []:=by
 rw [List.getD_eq_getElem?_getD,List.getD_eq_getElem?_getD]
 split
 ·rename_i e;subst e;rw [List.getElem?_set_self h];rfl
 ·rename_i e;rw [List.getElem?_set_ne (fun h => e h.symm)]
end Go.Proofs.YtgbpioccaenjaaaGreat

namespace Go.Proofs.YtgbpioccaenjaaaGreat
open Go Go.Hm

theorem take_app (k : Nat) (a b : List UInt8) : (a ++ b).take k = (a.take k ++ b.take k).take k:=by
 rw [List.take_append,List.take_append (l₁:=a.take k),List.take_take,Nat.min_self,List.take_take,List.length_take]
 have : min (k - min k a.length) k = k - a.length:=by omega
 rw [this]
theorem take_appl (k : Nat) (a b : List UInt8) : (a.take k ++ b).take k = (a ++ b).take k:=by
 rw [take_app k (a.take k) b,take_app k a b,List.take_take,Nat.min_self]
theorem take_appr (k : Nat) (a b : List UInt8) : (a ++ b.take k).take k = (a ++ b).take k:=by
 rw [take_app k a (b.take k),take_app k a b,List.take_take,Nat.min_self]
def NoEnd (r : List UInt8) : Prop:=∀ c ∈ r,c ≠ 255
theorem join_noend {k : Nat} {r : List UInt8} (h : NoEnd r) (s : List UInt8) : join k r s = (r ++ s).take k:=by
 unfold join
 split
 ·rename_i hw
  rcases whole_cases hw with h1 | h1
  ·rw [List.take_append_of_le_length h1]
  ·exact absurd rfl (h _ (List.mem_of_getLast? h1))
 ·rfl
theorem noend_of {g : Gm} (hg : GOk g) {x : List UInt8} (h : ∀ c ∈ x,(c.toNat : Int) < g.t) : NoEnd x:=fun c hc e => by
 have:=h c hc
 subst e
 have h2 : (255 : UInt8).toNat = 255:=rfl
 rw [h2] at this
 have:=hg.t2
 omega
inductive Drv (g : Gm) : List Int → List UInt8 → Prop
 | nil : Drv g [] []
 | tok (s : Int) (r : List Int) (t : List UInt8) (h : s < g.t) (d : Drv g r t) : Drv g (s :: r) (byteI s :: t)
 | non (p : Pr) (r : List Int) (t : List UInt8) (h : p ∈ g.ps) (d : Drv g (p.r ++ r) t) : Drv g ((g.t + p.l) :: r) t
end Go.Proofs.YtgbpioccaenjaaaGreat

namespace Go.Proofs.YtgbpioccaenjaaaGreat
open Go Go.Hm

def cntF : List Bool → Nat
 | [] => 0
 | b :: l => (if b = true then 0 else 1) + cntF l
theorem cntF_set : ∀ (o : List Bool) (i : Nat) (h : i < o.length),o[i] = false → cntF (o.set i true) + 1 = cntF o
 | [],i,h,_ => by simp at h
 | b :: o,0,h,hb => by
  have hb : b = false:=hb
  subst hb
  simp only [List.set_cons_zero,cntF]
  simp;omega
 | b :: o,i + 1,h,hb => by
  have ih:=cntF_set o i (by simpa using h) (by simpa using hb)
  simp only [List.set_cons_succ,cntF]
  omega
def fixL (f : List Bool → List Bool) : Nat → List Bool → List Bool
 | 0,o => o
 | m + 1,o => if f o = o then o else fixL f m (f o)
def Grows (f : List Bool → List Bool) : Prop:=∀ o,f o = o ∨ cntF (f o) < cntF o
theorem fixL_more {f : List Bool → List Bool} (hf : Grows f) : ∀ (m : Nat) (o : List Bool),cntF o < m → fixL f m o = fixL f (cntF o + 1) o
 | 0,o,h => by omega
 | m + 1,o,h => by
  simp only [fixL]
  by_cases he : f o = o
  ·rw [if_pos he,if_pos he]
  ·rw [if_neg he,if_neg he]
   rcases hf o with h1 | h1
   ·exact absurd h1 he
   ·rw [fixL_more hf m (f o) (by omega)]
    by_cases h2 : cntF o = cntF (f o) + 1
    ·rw [h2]
    ·rw [fixL_more hf (cntF o) (f o) (by omega)]
def fin (f : List Bool → List Bool) (o : List Bool) : List Bool:=fixL f (cntF o + 1) o
theorem fin_step {f : List Bool → List Bool} (hf : Grows f) (o : List Bool) : fin f o = if f o = o then o else fin f (f o):=by
 unfold fin
 rw [fixL]
 by_cases he : f o = o
 ·rw [if_pos he,if_pos he]
 ·rw [if_neg he,if_neg he]
  rcases hf o with h1 | h1
  ·exact absurd h1 he
  ·exact fixL_more hf _ _ h1
theorem fin_fix {f : List Bool → List Bool} (hf : Grows f) : ∀ (m : Nat) (o : List Bool),cntF o ≤ m → f (fin f o) = fin f o
 | m,o,h => by
  rw [fin_step hf]
  by_cases he : f o = o
  ·rw [if_pos he];exact he
  ·rw [if_neg he]
   rcases hf o with h1 | h1
   ·exact absurd h1 he
   ·cases m with
    | zero => omega
    | succ m => exact fin_fix hf m (f o) (by omega)
theorem fin_ind {f : List Bool → List Bool} (hf : Grows f) (Q : List Bool → Prop) (hq : ∀ o,Q o → Q (f o)) : ∀ (m : Nat) (o : List Bool),cntF o ≤ m → Q o → Q (fin f o)
 | m,o,h,h0 => by
  rw [fin_step hf]
  by_cases he : f o = o
  ·rw [if_pos he];exact h0
  ·rw [if_neg he]
   rcases hf o with h1 | h1
   ·exact absurd h1 he
   ·cases m with
    | zero => omega
    | succ m => exact fin_ind hf Q hq m (f o) (by omega) (hq o h0)
def rnd {α : Type} (st : List Bool → α → List Bool) (ps : List α) (o : List Bool) : List Bool:=ps.foldl st o
theorem rnd_grows {α : Type} {st : List Bool → α → List Bool} (hs : ∀ p,Grows fun o => st o p) : ∀ ps : List α,Grows (rnd st ps)
 | [],o => .inl rfl
 | p :: ps,o => by
  have h1:=rnd_grows hs ps (st o p)
  have h2 : st o p = o ∨ cntF (st o p) < cntF o:=hs p o
  simp only [rnd,List.foldl_cons] at h1 ⊢
  rcases h1 with h1 | h1 <;> rcases h2 with h2 | h2
  ·rw [h1];exact .inl h2
  ·rw [h1];exact .inr h2
  ·rw [h2] at h1 ⊢;exact .inr h1
  ·exact .inr (by omega)
theorem rnd_le {α : Type} {st : List Bool → α → List Bool} (hs : ∀ p,Grows fun o => st o p) (ps : List α) (o : List Bool) : cntF (rnd st ps o) ≤ cntF o:=by
 rcases rnd_grows hs ps o with h | h
 ·rw [h];exact Nat.le_refl _
 ·omega
theorem rnd_fixed {α : Type} {st : List Bool → α → List Bool} (hs : ∀ p,Grows fun o => st o p) : ∀ (ps : List α) (o : List Bool),rnd st ps o = o → ∀ p ∈ ps,st o p = o
 | [],_,_,p,hp => by simp at hp
 | q :: ps,o,h,p,hp => by
  simp only [rnd,List.foldl_cons] at h
  have h1 : st o q = o:=by
   rcases hs q o with h2 | h2
   ·exact h2
   ·have h3:=rnd_le hs ps (st o q)
    simp only [rnd] at h3
    rw [h] at h3
    have h2 : cntF (st o q) < cntF o:=h2
    omega
  rcases List.mem_cons.1 hp with rfl | hp
  ·exact h1
  ·rw [h1] at h
   exact rnd_fixed hs ps o h p hp

def okS (g : Gm) (tok : Bool) (o : List Bool) (s : Int) : Bool:=if s < g.t then tok else o.getD (s - g.t).toNat false
def derP (g : Gm) (tok : Bool) (o : List Bool) (p : Pr) : List Bool:=if o.getD p.l.toNat false = true then o else if p.r.all (okS g tok o) = true then o.set p.l.toNat true else o
theorem set_grows (o : List Bool) (i : Nat) (h : ¬ o.getD i false = true) : o.set i true = o ∨ cntF (o.set i true) < cntF o:=by
 by_cases hi : i < o.length
 ·right
  have : o[i] = false:=by
   rw [List.getD_eq_getElem?_getD,List.getElem?_eq_getElem hi] at h
   simpa using h
  have:=cntF_set o i hi this
  omega
 ·left
  exact List.set_eq_of_length_le (by omega)
theorem derP_grows (g : Gm) (tok : Bool) (p : Pr) : Grows fun o => derP g tok o p:=fun o => by
 simp only [derP]
 split
 ·exact .inl rfl
 ·split
  ·rename_i h1 h2
   exact set_grows o _ h1
  ·exact .inl rfl
def derM (g : Gm) (tok : Bool) : List Bool:=fin (rnd (derP g tok) g.ps) (List.replicate g.n.toNat false)
end Go.Proofs.YtgbpioccaenjaaaGreat

namespace Go.Proofs.YtgbpioccaenjaaaGreat
open Go Go.Hm

structure Pl where
 l : Nat
 s : Nat
 r : List Int
def plsR (t : Int) (l : Nat) : List Int → List Pl
 | [] => []
 | s :: r => if s < t then plsR t l r else ⟨l,(s - t).toNat,r⟩ :: plsR t l r
def pls (g : Gm) : List Pl:=g.ps.flatMap fun p => plsR g.t p.l.toNat p.r
def stF (g : Gm) (F S : Ss) (p : Pl) : Ss:=S.set p.s (uni (S.getD p.s []) (cat g.k.toNat (ofM g F p.r) (S.getD p.l [])))
def rndF (g : Gm) (F S : Ss) : Ss:=(pls g).foldl (stF g F) S
def startF (g : Gm) : Ss:=(List.replicate g.n.toNat []).set 0 [[255]]
def folM (g : Gm) : Ss:=climb (rndF g (setsM g)) (g.n.toNat * 585 + 1) (startF g)

structure PlOk (g : Gm) (p : Pl) : Prop where
 l : p.l < g.n.toNat
 s : p.s < g.n.toNat
 r : ∀ x ∈ p.r,0 ≤ x ∧ x < g.t + g.n
 len : p.r.length ≤ 8
theorem plsR_ok {g : Gm} {l : Nat} (hl : l < g.n.toNat) : ∀ {r : List Int},r.length ≤ 9 → (∀ x ∈ r,0 ≤ x ∧ x < g.t + g.n) → ∀ p ∈ plsR g.t l r,PlOk g p ∧ p.l = l
 | [],_,_,p,hp => by cases hp
 | s :: r,hlen,h,p,hp => by
  have ih:=plsR_ok hl (r:=r) (by simp at hlen;omega) (fun x hx => h x (List.mem_cons_of_mem _ hx))
  unfold plsR at hp
  split at hp
  ·exact ih p hp
  ·rename_i hs
   rcases List.mem_cons.1 hp with rfl | hp
   ·have:=h s (List.mem_cons_self ..)
    exact ⟨⟨hl,by show (s - g.t).toNat < _;omega,fun x hx => h x (List.mem_cons_of_mem _ hx),by simp at hlen;show r.length ≤ 8;omega⟩,rfl⟩
   ·exact ih p hp
theorem pls_ok {g : Gm} (hg : GOk g) : ∀ p ∈ pls g,PlOk g p:=fun p hp => by
 obtain ⟨q,hq,hp⟩:=List.mem_flatMap.1 hp
 have h:=hg.p q hq
 exact (plsR_ok (g:=g) (l:=q.l.toNat) (by have:=h.l0;have:=h.l1;omega) (by have:=h.len;omega) h.s p hp).1
theorem mem_plsR {t : Int} {l : Nat} {p : Pl} : ∀ {r : List Int},p ∈ plsR t l r ↔ ∃ a s,r = a ++ s :: p.r ∧ ¬ s < t ∧ p.l = l ∧ p.s = (s - t).toNat
 | [] => by simp [plsR]
 | x :: r => by
  unfold plsR
  have key : (∃ a s,x :: r = a ++ s :: p.r ∧ ¬ s < t ∧ p.l = l ∧ p.s = (s - t).toNat) ↔ (r = p.r ∧ ¬ x < t ∧ p.l = l ∧ p.s = (x - t).toNat) ∨ ∃ a s,r = a ++ s :: p.r ∧ ¬ s < t ∧ p.l = l ∧ p.s = (s - t).toNat:=by
   constructor
   ·rintro ⟨a,s,e,h⟩
    cases a with
    | nil => cases e;exact .inl ⟨rfl,h⟩
    | cons y a => cases e;exact .inr ⟨a,s,rfl,h⟩
   ·rintro (⟨rfl,h⟩ | ⟨a,s,rfl,h⟩)
    ·exact ⟨[],x,rfl,h⟩
    ·exact ⟨x :: a,s,rfl,h⟩
  rw [key]
  split
  ·rename_i hx
   rw [mem_plsR]
   simp [hx]
  ·rename_i hx
   rw [List.mem_cons,mem_plsR]
   constructor
   ·rintro (rfl | h)
    ·exact .inl ⟨rfl,hx,rfl,rfl⟩
    ·exact .inr h
   ·rintro (⟨e,_,h1,h2⟩ | h)
    ·refine .inl ?_
     cases p
     simp only at e h1 h2
     subst e;subst h1;subst h2
     rfl
    ·exact .inr h

def RowF (g : Gm) (x : List UInt8) : Prop:=∃ y : List UInt8,(∀ c ∈ y,(c.toNat : Int) < g.t) ∧ x = (y ++ [255]).take g.k.toNat
structure FOk (g : Gm) (l : List (List UInt8)) : Prop where
 up : Up l
 row : ∀ x ∈ l,RowF g x
theorem RowF.len {g : Gm} {x : List UInt8} (h : RowF g x) : x.length ≤ g.k.toNat:=by
 obtain ⟨y,_,rfl⟩:=h
 rw [List.length_take];omega
theorem RowF.pos {g : Gm} (hg : GOk g) {x : List UInt8} (h : RowF g x) : 0 < x.length:=by
 obtain ⟨y,_,rfl⟩:=h
 have:=hg.k1
 rw [List.length_take];simp;omega
theorem FOk.nil (g : Gm) : FOk g []:=⟨List.Pairwise.nil,by simp⟩
theorem FOk.size {g : Gm} (hg : GOk g) {l : List (List UInt8)} (h : FOk g l) : l.length ≤ 585:=by
 have h1:=up_sub h.up (up_norm ((rowsT 8 3).map fun y => (y ++ [255]).take g.k.toNat)) fun x hx => mem_norm.2 (by
  obtain ⟨y,hy,rfl⟩:=h.row x hx
  refine List.mem_map.2 ⟨y.take g.k.toNat,mem_rowsT (by rw [List.length_take];have:=hg.k2;omega) fun c hc => by have:=hy c (List.mem_of_mem_take hc);have:=hg.t2;omega,take_appl ..⟩)
 have h2:=norm_le ((rowsT 8 3).map fun y => (y ++ [255]).take g.k.toNat)
 have h5 : (rowsT 8 3).length = 585:=by decide +kernel
 rw [List.length_map] at h2
 omega
structure TOk (g : Gm) (S : Ss) : Prop where
 len : S.length = g.n.toNat
 r : ∀ l ∈ S,FOk g l
theorem TOk.get {g : Gm} {S : Ss} (h : TOk g S) (i : Nat) : FOk g (S.getD i []):=by
 rw [List.getD_eq_getElem?_getD]
 cases hi : S[i]? with
 | none => exact FOk.nil g
 | some l => exact h.r l (List.mem_of_getElem? hi)
theorem end_row {g : Gm} (hg : GOk g) : RowF g [255]:=⟨[],by simp,by
 have:=hg.k1
 obtain ⟨k,hk⟩ : ∃ k,g.k.toNat = k + 1:=⟨g.k.toNat - 1,by omega⟩
 rw [hk];simp⟩
theorem FOk.one {g : Gm} (hg : GOk g) : FOk g [[255]]:=⟨List.pairwise_singleton ..,fun x hx => by
 rw [List.mem_singleton.1 hx];exact end_row hg⟩
theorem TOk.start {g : Gm} (hg : GOk g) : TOk g (startF g):=⟨by simp [startF],fun l hl => by
 rcases List.mem_or_eq_of_mem_set hl with hl | rfl
 ·rw [(List.mem_replicate.1 hl).2];exact FOk.nil g
 ·exact FOk.one hg⟩
theorem row_join {g : Gm} {r s : List UInt8} (hr : ∀ c ∈ r,(c.toNat : Int) < g.t) (hn : NoEnd r) (hs : RowF g s) : RowF g (join g.k.toNat r s):=by
 obtain ⟨y,hy,rfl⟩:=hs
 rw [join_noend hn,take_appr,← List.append_assoc]
 exact ⟨r ++ y,fun c hc => (List.mem_append.1 hc).elim (hr c) (hy c),rfl⟩
theorem cat_fok {g : Gm} (hg : GOk g) {a b : List (List UInt8)} (ha : ROk g a) (hb : FOk g b) : FOk g (cat g.k.toNat a b):=⟨up_cat ..,fun x hx => by
 obtain ⟨r,hr,s,hs,rfl⟩:=mem_cat.1 hx
 exact row_join (ha.b r hr) (noend_of hg (ha.b r hr)) (hb.row s hs)⟩
theorem FOk.uni {g : Gm} {a b : List (List UInt8)} (ha : FOk g a) (hb : FOk g b) : FOk g (uni a b):=
 ⟨up_uni ..,fun x hx => (mem_uni.1 hx).elim (ha.row x) (hb.row x)⟩
section
variable {g : Gm} {F : Ss}
theorem stF_ok (hg : GOk g) (hF : SOk g F) {S : Ss} (h : TOk g S) {p : Pl} (hp : PlOk g p) : TOk g (stF g F S p):=by
 refine ⟨by simp [stF,h.len],fun l hl => ?_⟩
 rcases List.mem_or_eq_of_mem_set hl with hl | rfl
 ·exact h.r l hl
 ·exact (h.get _).uni (cat_fok hg (ofM_ok hg hF fun s hs => (hp.r s hs).1) (h.get _))
theorem stF_mem {S : Ss} (h : TOk g S) {p : Pl} (hp : PlOk g p) (i : Nat) (x : List UInt8) : x ∈ (stF g F S p).getD i [] ↔ x ∈ S.getD i [] ∨ (i = p.s ∧ x ∈ cat g.k.toNat (ofM g F p.r) (S.getD p.l [])):=by
 unfold stF
 rw [getD_set i (by rw [h.len];exact hp.s)]
 split
 ·rename_i e;subst e;rw [mem_uni];simp
 ·rename_i e;simp [e]
theorem stF_up {S : Ss} (h : TOk g S) {p : Pl} (hp : PlOk g p) : (stF g F S p = S ∨ szS S < szS (stF g F S p)) ∧ ((stF g F S p = S) ↔ (uni (S.getD p.s []) (cat g.k.toNat (ofM g F p.r) (S.getD p.l []))).length ≤ (S.getD p.s []).length):=by
 have hl : p.s < S.length:=by rw [h.len];exact hp.s
 have hg : S.getD p.s [] = S[p.s]:=by rw [List.getD_eq_getElem?_getD,List.getElem?_eq_getElem hl];rfl
 unfold stF
 generalize cat g.k.toNat (ofM g F p.r) (S.getD p.l []) = c
 have hs:=szS_set S p.s (uni (S.getD p.s []) c) hl
 rw [hg] at hs ⊢
 have hr:=h.r _ (List.getElem_mem hl)
 by_cases hle : (uni S[p.s] c).length ≤ S[p.s].length
 ·have he : S[p.s] = uni S[p.s] c:=up_eq hr.up (up_uni ..) (fun x hx => mem_uni.2 (.inl hx)) hle
  have : S.set p.s (uni S[p.s] c) = S:=by rw [← he];exact List.set_getElem_self ..
  exact ⟨.inl this,⟨fun _ => hle,fun _ => this⟩⟩
 ·refine ⟨.inr (by omega),⟨fun e => ?_,fun h => absurd h hle⟩⟩
  rw [e] at hs
  omega
theorem rndF_ok (hg : GOk g) (hF : SOk g F) : ∀ (ps : List Pl),(∀ p ∈ ps,PlOk g p) → ∀ S,TOk g S → TOk g (ps.foldl (stF g F) S) ∧ (ps.foldl (stF g F) S = S ∨ szS S < szS (ps.foldl (stF g F) S)) ∧ (ps.foldl (stF g F) S = S → ∀ p ∈ ps,stF g F S p = S)
 | [],_,S,h => ⟨h,.inl rfl,fun _ p hp => by simp at hp⟩
 | p :: ps,hp,S,h => by
  have hp0:=hp p (List.mem_cons_self ..)
  obtain ⟨i1,i2,i3⟩:=rndF_ok hg hF ps (fun q hq => hp q (List.mem_cons_of_mem _ hq)) _ (stF_ok hg hF h hp0)
  have h1:=(stF_up (F:=F) h hp0).1
  simp only [List.foldl_cons]
  refine ⟨i1,?_,fun e q hq => ?_⟩
  ·rcases i2 with e2 | l2 <;> rcases h1 with e1 | l1
   ·rw [e2,e1];exact .inl rfl
   ·rw [e2];exact .inr l1
   ·rw [e1] at l2 ⊢;exact .inr l2
   ·exact .inr (by omega)
  ·have h2 : stF g F S p = S:=by
    rcases h1 with e1 | l1
    ·exact e1
    ·rcases i2 with e2 | l2
     ·rw [e] at e2;exact e2.symm
     ·rw [e] at l2;omega
   rcases List.mem_cons.1 hq with rfl | hq
   ·exact h2
   ·rw [h2] at i3 e
    exact i3 e q hq
theorem szF_le (hg : GOk g) {S : Ss} (h : TOk g S) : szS S ≤ g.n.toNat * 585:=by
 rw [← h.len]
 have : ∀ S : Ss,(∀ l ∈ S,FOk g l) → szS S ≤ S.length * 585:=by
  intro S
  induction S with
  | nil => intro _;simp [szS]
  | cons l S ih =>
   intro hh
   have h1:=(hh l (List.mem_cons_self ..)).size hg
   have h2:=ih fun x hx => hh x (List.mem_cons_of_mem _ hx)
   simp only [szS,List.map_cons,List.sum_cons,List.length_cons] at h2 ⊢
   omega
 exact this S h.r
theorem rndF_climbs (hg : GOk g) (hF : SOk g F) : Climbs (rndF g F) (TOk g) fun S => g.n.toNat * 585 - szS S:=
 ⟨fun S h => (rndF_ok hg hF (pls g) (pls_ok hg) S h).1,fun S h => by
  obtain ⟨h1,h2,_⟩:=rndF_ok hg hF (pls g) (pls_ok hg) S h
  rcases h2 with h2 | h2
  ·exact .inl h2
  ·have:=szF_le hg h1
   exact .inr (by show _ - szS (rndF g F S) < _;unfold rndF;omega)⟩
end
theorem fol_ind {g : Gm} (Q : Ss → Prop) (h0 : Q (startF g)) (hs : ∀ S p,p ∈ pls g → Q S → Q (stF g (setsM g) S p)) : Q (folM g):=by
 refine climb_ind (fun S hS => ?_) _ _ h0
 have : ∀ (ps : List Pl),(∀ p ∈ ps,p ∈ pls g) → ∀ S,Q S → Q (ps.foldl (stF g (setsM g)) S):=by
  intro ps
  induction ps with
  | nil => intro _ S h;exact h
  | cons p ps ih => intro hp S h;exact ih (fun q hq => hp q (List.mem_cons_of_mem _ hq)) _ (hs S p (hp p (List.mem_cons_self ..)) h)
 exact this (pls g) (fun _ h => h) S hS
theorem fol_ok {g : Gm} (hg : GOk g) : TOk g (folM g):=fol_ind _ (TOk.start hg) fun _ p hp h => stF_ok hg (sets_ok hg) h (pls_ok hg p hp)
theorem start_mem {g : Gm} (hg : GOk g) {i : Nat} {x : List UInt8} : x ∈ (startF g).getD i [] ↔ i = 0 ∧ x = [255]:=by
 unfold startF
 rw [getD_set i (by simp;have:=hg.n1;omega)]
 split
 ·rename_i e;simp [e]
 ·rename_i e
  rw [List.getD_eq_getElem?_getD,List.getElem?_replicate]
  split <;> simp [e]
def ClosedF (g : Gm) (S : Ss) (p : Pl) : Prop:=∀ x ∈ cat g.k.toNat (ofM g (setsM g) p.r) (S.getD p.l []),x ∈ S.getD p.s []
theorem fol_closed {g : Gm} (hg : GOk g) {p : Pl} (hp : p ∈ pls g) : ClosedF g (folM g) p:=fun x hx => by
 have hf : rndF g (setsM g) (folM g) = folM g:=climb_fix (rndF_climbs hg (sets_ok hg)) _ _ (TOk.start hg) (by omega)
 have:=(rndF_ok hg (sets_ok hg) (pls g) (pls_ok hg) _ (fol_ok hg)).2.2 hf p hp
 rw [← this]
 exact (stF_mem (fol_ok hg) (pls_ok hg p hp) _ x).2 (.inr ⟨rfl,hx⟩)
structure Reach (g : Gm) (S : Ss) : Prop where
 ok : TOk g S
 e : [255] ∈ S.getD 0 []
 why : ∀ i,∀ x ∈ S.getD i [],(i = 0 ∧ x = [255]) ∨ ∃ p ∈ pls g,p.s = i ∧ x ∈ cat g.k.toNat (ofM g (setsM g) p.r) (S.getD p.l [])
 low : ∀ T : Nat → List UInt8 → Prop,T 0 [255] → (∀ p ∈ pls g,∀ a ∈ ofM g (setsM g) p.r,∀ b,RowF g b → T p.l b → T p.s (join g.k.toNat a b)) → ∀ i,∀ x ∈ S.getD i [],T i x
theorem reach_start {g : Gm} (hg : GOk g) : Reach g (startF g):=
 ⟨TOk.start hg,(start_mem hg).2 ⟨rfl,rfl⟩,fun i x hx => .inl ((start_mem hg).1 hx),fun T h0 _ i x hx => by
  obtain ⟨rfl,rfl⟩:=(start_mem hg).1 hx
  exact h0⟩
theorem reach_step {g : Gm} (hg : GOk g) {S : Ss} (h : Reach g S) {p : Pl} (hp : p ∈ pls g) : Reach g (stF g (setsM g) S p):=by
 have pok:=pls_ok hg p hp
 have hm : ∀ i,∀ x ∈ S.getD i [],x ∈ (stF g (setsM g) S p).getD i []:=fun i x hx => (stF_mem h.ok pok i x).2 (.inl hx)
 refine ⟨stF_ok hg (sets_ok hg) h.ok pok,hm _ _ h.e,fun i x hx => ?_,fun T h0 hT i x hx => ?_⟩
 ·rcases (stF_mem h.ok pok i x).1 hx with hx | ⟨e,h2⟩
  ·rcases h.why i x hx with h3 | ⟨q,hq,e,hx⟩
   ·exact .inl h3
   ·exact .inr ⟨q,hq,e,cat_mono (fun _ h => h) (hm q.l) _ hx⟩
  ·exact .inr ⟨p,hp,e.symm,cat_mono (fun _ h => h) (hm p.l) _ h2⟩
 ·rcases (stF_mem h.ok pok i x).1 hx with hx | ⟨e,h2⟩
  ·exact h.low T h0 hT i x hx
  ·obtain ⟨a,ha,b,hb,rfl⟩:=mem_cat.1 h2
   rw [e]
   exact hT p hp a ha b ((h.ok.get p.l).row b hb) (h.low T h0 hT _ b hb)
theorem fol_reach {g : Gm} (hg : GOk g) : Reach g (folM g):=fol_ind _ (reach_start hg) fun _ _ hp h => reach_step hg h hp
theorem reach_eq {g : Gm} (hg : GOk g) {S : Ss} (h : Reach g S) (hc : ∀ p ∈ pls g,ClosedF g S p) : S = folM g:=by
 have h1:=fol_reach hg
 refine List.ext_getElem (by rw [h.ok.len,h1.ok.len]) fun i hi hj => ?_
 have e1 : S.getD i [] = S[i]:=by rw [List.getD_eq_getElem?_getD,List.getElem?_eq_getElem hi];rfl
 have e2 : (folM g).getD i [] = (folM g)[i]:=by rw [List.getD_eq_getElem?_getD,List.getElem?_eq_getElem hj];rfl
 rw [← e1,← e2]
 refine up_ext (h.ok.get i).up (h1.ok.get i).up fun x => ⟨fun hx => ?_,fun hx => ?_⟩
 ·exact h.low (fun i x => x ∈ (folM g).getD i []) h1.e (fun p hp a ha b _ hb => fol_closed hg hp _ (mem_cat.2 ⟨a,ha,b,hb,rfl⟩)) i x hx
 ·exact h1.low (fun i x => x ∈ S.getD i []) h.e (fun p hp a ha b _ hb => hc p hp _ (mem_cat.2 ⟨a,ha,b,hb,rfl⟩)) i x hx

end Go.Proofs.YtgbpioccaenjaaaGreat
