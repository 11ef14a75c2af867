import Derived.Test.YtkllbcjanneppaaGreatHmG12
set_option linter.all false
namespace Go.Proofs.YtkllbcjanneppaaGreat
open Go Go.Hm

def dn (f0:FuncId)(g:List AV->Heap->Option (List Int))(X:Orc):Orc:=fun lk lim f as H=>if f=f0 then (match g as H with
 | some l=>some (.hs H.length l.length 0 l.length 1,H++[.cells (l.map fun n=>I n)])
 | none=>none) else X lk lim f as H
def JI (P:Program)(f0:FuncId)(g:List AV->Heap->Option (List Int)):Prop:=jk P f0/\∀(φ:Phi) (F:Nat->Nat->Prop) (H:Heap) (w:World) (as:List AV) (l:List Int) (vs:List Value),g as H=some l->SR φ F H w->jb φ F H w as vs->
 Calls P f0 vs.toArray w fun e w'=>∃arr ty,0<l.length/\e= .returned (.slice (some ⟨w.heap.size,0,none⟩) l.length l.length)/\RowKit.Below w.heap.size w w'/\w'.heap[w.heap.size]?=some (.cells arr ty (0,0))/\arr.toList=l.map fun n=>Value.int .i64 n
theorem yo {f0:FuncId}{g:List AV->Heap->Option (List Int)}{X:Orc}{lk lim:Nat}{as:List AV}{H:Heap}{l:List Int}(h:g as H=some l):dn f0 g X lk lim f0 as H=some (.hs H.length l.length 0 l.length 1,H++[.cells (l.map fun n=>I n)]):=by
 unfold dn;rw[if_pos rfl,h]
theorem yp {P:Program}{f0:FuncId}{g:List AV->Heap->Option (List Int)}{X:Orc}(hf:f0<1000)(S:JI P f0 g)(h:bI P X):bI P (dn f0 g X):=by
 intro lk lim f as H r H' h2;unfold dn at h2;split at h2;case isFalse=>exact h _ _ _ _ _ _ _ h2
 rename_i e;subst e;split at h2;case h_2=>cases h2
 rename_i l hl;simp only[RZ,R0]at h2;obtain⟨rfl,rfl⟩:=h2;rw[Nat.mod_eq_of_lt hf];refine⟨S.1,fun φ F w vs sr ha=>(S.2 φ F H w as l vs hl sr ha).mono ?_⟩;rintro e w' ⟨arr,ty,hl0,rfl,hb,hg,ha⟩;refine⟨_,rfl,?_⟩;have hHb:(H++[HB.cells (l.map fun n=>I n)])[H.length]?=some (.cells (l.map fun n=>I n)):=by simp
 have hsz:arr.size=l.length:=by rw[<-Array.length_toList,ha,List.length_map]
 have hc:BRel φ F H w (.cells (l.map fun n=>I n)) (.cells arr ty (0,0)):=⟨arr,ty,rfl,fun j a hj=>by
  rw[List.getElem?_map]at hj;obtain⟨n,hn,rfl⟩:=Option.map_eq_some_iff.1 hj;exact⟨.int .i64 n,by rw[<-Array.getElem?_toList,ha,List.getElem?_map,hn];rfl,.val _ rfl⟩⟩
 obtain⟨ext,sr',lv⟩:=M7 sr hb (Nat.le_refl _) (b:=H.length) ⟨fun cs=>by simp,fun es=>by simp⟩ hHb (fun b' hb'=>by
  by_cases hlt:b'<H.length
  ·rw[List.getElem?_append_left hlt]
  ·rw[List.getElem?_eq_none (by simp;omega),List.getElem?_eq_none (by omega)]) hg hc
 refine⟨_,F,.one (.hs H.length l.length 0 l.length 1 _ _ l.length hHb (by simp) (Nat.le_refl _) (fun h=>by cases h) fun _=>.inl ⟨hl0,by simp,by simp,by omega,arr,ty,by simpa using hg,by simp;omega⟩),sr',ext,Chg.of_below hb _,fun b hbl=>?_,fun _ _ h=>.inl h⟩
 rcases lv b hbl with⟨_,l',p⟩ | ⟨_,p⟩
 ·exact .inl ⟨l',p.symm⟩
 ·exact .inr (Nat.le_of_eq (congrArg Prod.fst p).symm)
theorem yq {f0:FuncId}{g:List AV->Heap->Option (List Int)}{X:Orc}(h:OrcFr X):OrcFr (dn f0 g X):=by
 have hh:∀{lk lim f as H r H'},dn f0 g X lk lim f as H=some (r,H')->(∃l:List Int,H'=H++[.cells (l.map fun n=>I n)])\/X lk lim f as H=some (r,H'):=fun h2=>by
  unfold dn at h2;split at h2
  ·split at h2
   ·simp only[RZ,R0]at h2;exact .inl ⟨_,h2.2.symm⟩
   ·cases h2
  ·exact .inr h2
 refine⟨fun lk lim f as H r H' h2=>?_,fun lk lim f as H r H' h2 hlk b hb=>?_,fun lk lim f as H r H' h2 m h3 h4 hc=>?_⟩;all_goals rcases hh h2 with⟨l,e⟩ | h2
 ·rw[e];simp
 ·exact h.len _ _ _ _ _ _ _ h2
 ·rw[e,List.getElem?_append_left (by omega)]
 ·exact h.lock _ _ _ _ _ _ _ h2 hlk b hb
 ·rw[e];exact hc.append h4
 ·exact h.cl _ _ _ _ _ _ _ h2 m h3 h4 hc

def yr (as:List AV)(H:Heap):Option (List Int):=
 match as with
 | [v,.val (.int .i64 n)]=>match v with
  | .sl 1 [.val (.int .i64 m)]=>if 1<=n/\n<=1000000 then some (List.replicate n.toNat m) else none
  | _=>none
 | _=>none
end Go.Proofs.YtkllbcjanneppaaGreat
