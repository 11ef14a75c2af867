/- The machine HM, part 12. -/
import Derived.Test.YtkllbcjanneppaaGreatHmG10
import Derived.Test.YtkllbcjanneppaaGreatHmG7
import Derived.MapKept
set_option linter.unusedSimpArgs false
set_option linter.unusedVariables false
namespace Go.Hm
open Go Go.RowKit

def ins (x : List UInt8) : List (List UInt8) → List (List UInt8)
 | [] => [x]
 | y :: l => if Op.bytesLess x y = true then x :: y :: l else if x = y then y :: l else y :: ins x l
def norm (l : List (List UInt8)) : List (List UInt8):=l.foldr ins []
def rowsB (l : List (List UInt8)) : List AV:=l.map Sg
abbrev rowsV (l : List (List UInt8)) : AV:=.sl l.length (rowsB l)

def keysL : List (AV × AV) → Option (List (List UInt8))
 | [] => some []
 | (.val (.string s),_) :: r => match keysL r with
  | some l => some (s.data.toList :: l)
  | none => none
 | _ => none
def textsL : List AV → Option (List (List UInt8))
 | [] => some []
 | .val (.string s) :: r => match textsL r with
  | some l => some (s.data.toList :: l)
  | none => none
 | _ => none
def sortedX (args : List AV) (H : Heap) : Option (AV × Heap):=
 match args with
 | [m] => match mapOf H m with
  | some es => match keysL es with
   | some ks => if ks.length ≤ 8000000000000 ∧ ks.all (fun x => decide (x.length ≤ 9223372036854775807)) = true then some (rowsV (norm ks),H) else none
   | none => none
  | none => none
 | _ => none
def unionX (args : List AV) (H : Heap) : Option (AV × Heap):=
 match args with
 | [a,b] => match slCells H a,slCells H b with
  | some ca,some cb => match textsL ca,textsL cb with
   | some xs,some ys => if xs.length = slN a ∧ ys.length = slN b ∧ xs.length + ys.length ≤ 8000000000000 then some (rowsV (norm (xs ++ ys)),H) else none
   | _,_ => none
  | _,_ => none
 | _ => none

def Row (w w' : World) (v : Value) (l : List (List UInt8)) : Prop:=
 Below w.heap.size w w' ∧ ((l = [] ∧ ∃ a,v = .slice a 0 0) ∨ ∃ g cap cur ty,v = .slice (some ⟨g,0,none⟩) l.length cap ∧ w.heap.size ≤ g ∧ w'.heap[g]? = some (.cells cur ty (0,0)) ∧ l.length ≤ cap ∧
  ∀ (i : Nat) x,l[i]? = some x → cur[i]? = some (.string ⟨⟨x⟩⟩))
def TextsAt (w : World) (v : Value) (l : List (List UInt8)) : Prop:=
 (l = [] ∧ ∃ a c,v = .slice a 0 c ∧ (a = none → c = 0)) ∨ ∃ bk o c,v = .slice (some ⟨bk,o,none⟩) l.length c ∧ l ≠ [] ∧ l.length ≤ c ∧ bk < w.heap.size ∧ ∀ (j : Nat) x,l[j]? = some x → w.cell? ⟨bk,o + j,none⟩ = some (.string ⟨⟨x⟩⟩)

def SortsKeys (P : Program) (j : FuncId) : Prop:=Enters P j ∧ (∀ w,Calls P j #[.map none] w fun e w' => ∃ v,e = .returned v ∧ Row w w' v []) ∧
 ∀ (w : World) (b : Nat) es clk (ks : List (List UInt8)),w.heap[b]? = some (.map es clk) → MapKept.Stamped es clk → es.toList.map (·.key) = ks.map (fun x => .string ⟨⟨x⟩⟩) → ks.length ≤ 8000000000000 → (∀ x ∈ ks,x.length ≤ 9223372036854775807) →
  Calls P j #[.map (some b)] w fun e w' => ∃ v,e = .returned v ∧ Row w w' v (norm ks)
def Unites (P : Program) (j : FuncId) : Prop:=Enters P j ∧ ∀ (w : World) (a b : List (List UInt8)) va vb,TextsAt w va a → TextsAt w vb b → a.length + b.length ≤ 8000000000000 →
 Calls P j #[va,vb] w fun e w' => ∃ v,e = .returned v ∧ Row w w' v (norm (a ++ b))

section
variable {P : Program} {φ : Phi} {F : Nat → Nat → Prop} {H : Heap} {w : World}
theorem row_ok (sr : SR φ F H w) {w' : World} {v : Value} {l : List (List UInt8)} (hr : Row w w' v l) : CallR φ F H w (rowsV l) H v w':=by
 obtain ⟨hb,h⟩:=hr
 rcases h with ⟨rfl,a,rfl⟩ | ⟨g,cap,cur,ty,rfl,hg,hc,hcap,hcell⟩
 ·obtain ⟨e,s⟩:=grow sr (F':=F) hb (fun _ _ h => h) (fun _ _ h => .inl h)
  exact ⟨φ,F,.one (.slnil a),s,e,Chg.of_below hb _,fun b hb => .inl ⟨hb,rfl⟩,fun _ _ h => .inl h⟩
 ·have hlt : g < w'.heap.size:=(Array.getElem?_eq_some_iff.1 hc).1
  obtain ⟨e,s⟩:=grow sr (F':=fun k o => F k o ∨ k = g) hb (fun _ _ h => .inl h) (fun k o h => h.imp id fun h => by subst h;exact ⟨hg,hlt⟩)
  refine ⟨φ,_,.one ?_,s,e,Chg.of_below hb _,fun b hb => .inl ⟨hb,rfl⟩,fun _ _ h => h.imp id fun h => by subst h;exact hg⟩
  refine .sl g 0 l.length cap (rowsB l) (l.map fun x => .string ⟨⟨x⟩⟩) hcap (by simp [rowsB]) ?_ (fun i _ => .inr rfl) (fun i v hv => ?_) (fun i a v ha hv => ?_)
  ·exact belowL_iff.2 fun a ha => by
    unfold rowsB at ha
    obtain ⟨x,_,rfl⟩:=List.mem_map.1 ha
    rfl
  ·rw [List.getElem?_map] at hv
   obtain ⟨x,hx,rfl⟩:=Option.map_eq_some_iff.1 hv
   have:=hcell i x hx
   simp [World.cell?,hc,this]
  ·unfold rowsB at ha
   rw [List.getElem?_map] at ha hv
   obtain ⟨x,hx,rfl⟩:=Option.map_eq_some_iff.1 ha
   rw [hx] at hv
   simp only [Option.map_some,Option.some.injEq] at hv
   subst hv
   exact .val _ rfl
theorem keysL_rel : ∀ {es : List (AV × AV)} {ks : List (List UInt8)} {l : List MapEntry},keysL es = some ks → l.length = es.length → (∀ (i : Nat) k v,es[i]? = some (k,v) → ∃ e,l[i]? = some e ∧ VRel φ F H w k e.key) → l.map (·.key) = ks.map fun x => .string ⟨⟨x⟩⟩
 | [],ks,l,h,hl,_ => by
  simp only [keysL,Option.some.injEq] at h
  subst h
  rw [List.eq_nil_of_length_eq_zero hl];rfl
 | (k,v) :: r,ks,[],h,hl,_ => by simp at hl
 | (k,v) :: r,ks,e :: l,h,hl,hr => by
  unfold keysL at h
  split at h
  ·rename_i h1;cases h1
  ·rename_i s u r' h1
   cases h1
   split at h
   ·rename_i ks' hk
    simp only [Option.some.injEq] at h
    subst h
    have ih:=keysL_rel (l:=l) hk (by simpa using hl) fun i k v hi => by simpa using hr (i + 1) k v (by simpa using hi)
    obtain ⟨e',he,hv⟩:=hr 0 _ _ rfl
    simp only [List.getElem?_cons_zero,Option.some.injEq] at he
    subst he
    rw [List.map_cons,List.map_cons,ih]
    cases hv with
    | one hv => rw [hv.inv_val.1]
   ·cases h
  ·cases h
theorem textsL_get : ∀ {cs : List AV} {xs : List (List UInt8)},textsL cs = some xs → cs.length = xs.length ∧ ∀ (j : Nat) x,xs[j]? = some x → cs[j]? = some (Sg x)
 | [],xs,h => by simp only [textsL,Option.some.injEq] at h;subst h;simp
 | a :: r,xs,h => by
  unfold textsL at h
  split at h
  ·rename_i h1;cases h1
  ·rename_i s r' h1
   cases h1
   split at h
   ·rename_i l hl
    simp only [Option.some.injEq] at h
    subst h
    obtain ⟨h1,h2⟩:=textsL_get hl
    refine ⟨by simp [h1],fun j x hj => ?_⟩
    cases j with
    | zero => simp at hj;subst hj;rfl
    | succ j => exact h2 j x (by simpa using hj)
   ·cases h
  ·cases h
theorem texts_at (sr : SR φ F H w) {v : AV} {cv : Value} {cs : List AV} {xs : List (List UInt8)} (hv : VRel φ F H w v cv) (hcs : slCells H v = some cs) (hxs : textsL cs = some xs) (hn : xs.length = slN v) : TextsAt w cv xs:=by
 have hs:=isSl_of hcs
 obtain ⟨hcl,hget⟩:=textsL_get hxs
 have hxe : slN v = 0 → xs = []:=fun h => List.length_eq_zero_iff.1 (by omega)
 have hvz : v = .e0 ∨ (∃ n,v = .sl n cs) ∨ ∃ b g o n es,v = .hs b g o n es:=by
  cases v <;> simp [isSl] at hs
  ·exact .inl rfl
  ·simp only [slCells,Option.some.injEq] at hcs
   subst hcs
   exact .inr (.inl ⟨_,rfl⟩)
  ·exact .inr (.inr ⟨_,_,_,_,_,rfl⟩)
 rcases hvz with rfl | ⟨n,rfl⟩ | ⟨b,g,o,n,es,rfl⟩
 ·obtain ⟨x,rfl⟩:=hv.inv_e0
  exact .inl ⟨hxe rfl,_,_,rfl,fun _ => rfl⟩
 ·have h0 : CRel φ F H w (.sl n cs) cv:=by
   cases hv with
   | one h => exact h
  cases h0 with
  | slnil x => exact .inl ⟨hxe rfl,_,_,rfl,fun _ => rfl⟩
  | sl b o n cap cells vs' hnc hl' hb' hF hc' hr' =>
   have hn : xs.length = n:=hn
   by_cases hx : xs = []
   ·have : n = 0:=by rw [← hn,hx];rfl
    subst this
    exact .inl ⟨hx,_,_,rfl,fun h => by cases h⟩
   ·have hpos : 0 < cs.length:=by
     rw [hcl]
     exact List.length_pos_iff.2 hx
    subst hn
    refine .inr ⟨b,o,cap,rfl,hx,hnc,sr.fsz b (o + 0) (hF 0 hpos),fun j x hj' => ?_⟩
    have h2:=hget j x hj'
    have hjl : j < vs'.length:=by
     rw [hl']
     exact (List.getElem?_eq_some_iff.1 h2).1
    have h3:=hr' j _ vs'[j] h2 (List.getElem?_eq_getElem hjl)
    rw [hc' j vs'[j] (List.getElem?_eq_getElem hjl),h3.inv_val.1]
 ·have h0 : CRel φ F H w (.hs b g o n es) cv:=by
   cases hv with
   | one h => exact h
  have hn : xs.length = n:=hn
  simp only [slCells] at hcs
  split at hcs
  case h_2 => cases hcs
  rename_i bc hb
  split at hcs
  case isFalse => cases hcs
  rename_i hg
  simp only [Option.some.injEq] at hcs
  cases h0 with
  | hs _ _ _ _ _ cs' x cap hb' hg' hnc hx' h' =>
   rw [hb] at hb'
   cases hb'
   by_cases hx : xs = []
   ·have : n = 0:=by rw [← hn,hx];rfl
    subst this
    refine .inl ⟨hx,_,_,rfl,fun e => ?_⟩
    rcases h' hg.1 with ⟨_,_,h,_⟩ | ⟨_,h,_⟩
    ·rw [e] at h;cases h
    ·exact h
   ·have hn0 : ¬ n = 0:=fun e => hx (List.length_eq_zero_iff.1 (by omega))
    rcases h' hg.1 with ⟨hg0,hd0,rfl,hgc,arr,ty,ha,hsz⟩ | ⟨h,_⟩
    ·have hne : bc ≠ []:=fun e => by rw [e] at hg;simp at hg;omega
     obtain ⟨arr',ty',ha',hcell⟩:=sr.blk b bc hb hne
     rw [ha] at ha'
     cases ha'
     subst hn
     refine .inr ⟨(φ b).1,o - (φ b).2,cap,rfl,hx,hnc,(Array.getElem?_eq_some_iff.1 ha).1,fun j x hj' => ?_⟩
     have h2:=hget j x hj'
     rw [← hcs,List.getElem?_take] at h2
     split at h2
     ·rw [List.getElem?_drop] at h2
      obtain ⟨v,hv,hr⟩:=hcell (o + j) _ h2
      have hv:=hv (Nat.le_trans hd0 (Nat.le_add_right ..))
      rw [Nat.sub_add_comm hd0] at hv
      have:=hr.inv_val.1
      subst this
      simp [World.cell?,ha,hv]
     ·cases h2
    ·exact absurd h hn0
theorem sorted_ok {j : FuncId} (S : SortsKeys P j) {args : List AV} {r : AV} {H' : Heap} (h : sortedX args H = some (r,H')) (vs : List Value) (sr : SR φ F H w) (ha : ARel φ F H w args vs) : Calls P j vs.toArray w (fun e w' => ∃ v,e = .returned v ∧ CallR φ F H w r H' v w'):=by
 unfold sortedX at h
 split at h
 case h_2 => cases h
 rename_i m
 split at h
 case h_2 => cases h
 rename_i es hes
 split at h
 case h_2 => cases h
 rename_i ks hks
 split at h
 case isFalse => cases h
 rename_i hc
 simp only [Option.some.injEq,Prod.mk.injEq] at h
 obtain ⟨rfl,rfl⟩:=h
 obtain ⟨hl,hr⟩:=ha
 match vs,hl with
 | [cv],h1 =>
  have h0:=hr 0 m cv rfl rfl
  clear hr hl h1
  unfold mapOf at hes
  split at hes
  ·have h0 : CRel φ F H w (.val (.map none)) cv:=by
    cases h0 with
    | one h => exact h
   simp only [Option.some.injEq] at hes
   subst hes
   simp only [keysL,Option.some.injEq] at hks
   subst hks
   rw [h0.inv_val.1]
   exact (S.2.1 w).mono fun e w' ⟨v,he,hrow⟩ => ⟨v,he,row_ok sr hrow⟩
  ·rename_i b
   split at hes
   case h_2 => cases hes
   rename_i es' hb
   simp only [Option.some.injEq] at hes
   subst hes
   have h0 : CRel φ F H w (.mp b) cv:=by
    cases h0 with
    | one h => exact h
   cases h0 with
   | mp _ es2 hb2 =>
   obtain ⟨ces,clk,hk,hm⟩:=sr.mblk b es' hb
   refine (S.2.2 w (φ b).1 ces clk ks hk hm.3 (keysL_rel (φ:=φ) (F:=F) (H:=H) (w:=w) hks (by simpa using hm.1) fun i k v hi => ?_) hc.1 (by simpa using hc.2)).mono fun e w' ⟨v,he,hrow⟩ => ⟨v,he,row_ok sr hrow⟩
   obtain ⟨_,_,e,h3,h4,_⟩:=hm.2 i k v hi
   exact ⟨e,by simpa using h3,h4⟩
  ·cases hes
theorem union_ok {j : FuncId} (U : Unites P j) {args : List AV} {r : AV} {H' : Heap} (h : unionX args H = some (r,H')) (vs : List Value) (sr : SR φ F H w) (ha : ARel φ F H w args vs) : Calls P j vs.toArray w (fun e w' => ∃ v,e = .returned v ∧ CallR φ F H w r H' v w'):=by
 unfold unionX at h
 split at h
 case h_2 => cases h
 rename_i a b
 split at h
 case h_2 => cases h
 rename_i ca cb hca hcb
 split at h
 case h_2 => cases h
 rename_i xs ys hxs hys
 split at h
 case isFalse => cases h
 rename_i hc
 simp only [Option.some.injEq,Prod.mk.injEq] at h
 obtain ⟨rfl,rfl⟩:=h
 obtain ⟨hl,hr⟩:=ha
 match vs,hl with
 | [va,vb],_ =>
  exact (U.2 w xs ys va vb (texts_at sr (hr 0 a va rfl rfl) hca hxs hc.1) (texts_at sr (hr 1 b vb rfl rfl) hcb hys hc.2.1) hc.2.2).mono fun e w' ⟨v,he,hrow⟩ => ⟨v,he,row_ok sr hrow⟩
end
theorem sortedX_heap {args : List AV} {H : Heap} {r : AV} {H' : Heap} (h : sortedX args H = some (r,H')) : H' = H:=by
 unfold sortedX at h
 repeat' split at h
 all_goals first | (cases h;done) | (simp only [Option.some.injEq,Prod.mk.injEq] at h;exact h.2.symm)
theorem unionX_heap {args : List AV} {H : Heap} {r : AV} {H' : Heap} (h : unionX args H = some (r,H')) : H' = H:=by
 unfold unionX at h
 repeat' split at h
 all_goals first | (cases h;done) | (simp only [Option.some.injEq,Prod.mk.injEq] at h;exact h.2.symm)
def withRows (j u : Nat) (X : Orc) : Orc:=fun lk lim f args H => if f = j then sortedX args H else if f = u then unionX args H else X lk lim f args H
theorem withRows_fr {j u : Nat} {X : Orc} (h : OrcFr X) : OrcFr (withRows j u X):=by
 have hh : ∀ {lk lim f as H r H'},withRows j u X lk lim f as H = some (r,H') → H' = H ∨ X lk lim f as H = some (r,H'):=fun h2 => by
  unfold withRows at h2
  split at h2
  ·exact .inl (sortedX_heap h2)
  ·split at h2
   ·exact .inl (unionX_heap h2)
   ·exact .inr h2
 refine ⟨fun lk lim f l H r H' h2 => ?_,fun lk lim f l H r H' h2 hlk b hb => ?_,fun lk lim f l H r H' h2 m h3 h4 hc => ?_⟩
 all_goals rcases hh h2 with e | h2
 ·rw [e];exact Nat.le_refl _
 ·exact h.len _ _ _ _ _ _ _ h2
 ·rw [e]
 ·exact h.lock _ _ _ _ _ _ _ h2 hlk b hb
 ·rw [e];exact hc
 ·exact h.cl _ _ _ _ _ _ _ h2 m h3 h4 hc
theorem withRows_ok {P : Program} {j u : Nat} {X : Orc} (hj : j < 1000) (hu : u < 1000) (S : SortsKeys P j) (U : Unites P u) (h : OrcOk P X) : OrcOk P (withRows j u X):=by
 intro lk lim f l H r H' h2
 unfold withRows at h2
 split at h2
 ·rename_i e
  subst e
  rw [Nat.mod_eq_of_lt hj]
  exact ⟨S.1,fun φ F w vs sr ha => sorted_ok S h2 vs sr ha⟩
 ·split at h2
  ·rename_i e
   subst e
   rw [Nat.mod_eq_of_lt hu]
   exact ⟨U.1,fun φ F w vs sr ha => union_ok U h2 vs sr ha⟩
  ·exact h _ _ _ _ _ _ _ h2
end Go.Hm

namespace Go.Hm
open Go Go.RowKit

def withFun (f0 : FuncId) (g : List AV → Heap → Option AV) (X : Orc) : Orc:=fun lk lim f as H => if f = f0 then (match g as H with
 | some v => some (v,H)
 | none => none) else X lk lim f as H
def FunOk (P : Program) (f0 : FuncId) (g : List AV → Heap → Option AV) : Prop:=Enters P f0 ∧ ∀ (φ : Phi) (F : Nat → Nat → Prop) (H : Heap) (w : World) (as : List AV) (r : AV) (vs : List Value),g as H = some r → SR φ F H w → ARel φ F H w as vs →
 Calls P f0 vs.toArray w fun e w' => ∃ v,e = .returned v ∧ CallR φ F H w r H v w'
theorem withFun_ok {P : Program} {f0 : FuncId} {g : List AV → Heap → Option AV} {X : Orc} (hf : f0 < 1000) (S : FunOk P f0 g) (h : OrcOk P X) : OrcOk P (withFun f0 g X):=by
 intro lk lim f l H r H' h2
 unfold withFun at h2
 split at h2
 ·rename_i e
  subst e
  split at h2
  ·rename_i v hv
   simp only [Option.some.injEq,Prod.mk.injEq] at h2
   obtain ⟨rfl,rfl⟩:=h2
   rw [Nat.mod_eq_of_lt hf]
   exact ⟨S.1,fun φ F w vs sr ha => S.2 φ F H w l v vs hv sr ha⟩
  ·cases h2
 ·exact h _ _ _ _ _ _ _ h2
theorem withFun_fr {f0 : FuncId} {g : List AV → Heap → Option AV} {X : Orc} (h : OrcFr X) : OrcFr (withFun f0 g X):=by
 have hh : ∀ {lk lim f as H r H'},withFun f0 g X lk lim f as H = some (r,H') → H' = H ∨ X lk lim f as H = some (r,H'):=fun h2 => by
  unfold withFun at h2
  split at h2
  ·split at h2
   ·simp only [Option.some.injEq,Prod.mk.injEq] at h2
    exact .inl h2.2.symm
   ·cases h2
  ·exact .inr h2
 refine ⟨fun lk lim f l H r H' h2 => ?_,fun lk lim f l H r H' h2 hlk b hb => ?_,fun lk lim f l H r H' h2 m h3 h4 hc => ?_⟩
 all_goals rcases hh h2 with e | h2
 ·rw [e];exact Nat.le_refl _
 ·exact h.len _ _ _ _ _ _ _ h2
 ·rw [e]
 ·exact h.lock _ _ _ _ _ _ _ h2 hlk b hb
 ·rw [e];exact hc
 ·exact h.cl _ _ _ _ _ _ _ h2 m h3 h4 hc
end Go.Hm

