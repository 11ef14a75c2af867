/- Arguments: states, texts. -/
import Derived.Test.YtnhennjliinplaaQ
import Derived.Test.YtnhennjliinplaaSz
import Derived.Test.YtnhennjliinplaaRows
set_option linter.all false
namespace Go.Proofs.Ytnhennjliinplaa
open Go Go.Hm

theorem args2 {P : Program} {d : Nat} {t1 t2 : TypeId} {l : List AV} (h : ArgsS P d [t1,t2] l) : ∃ a b,l = [a,b] ∧ ArgS P d t1 a ∧ ArgS P d t2 b:=by
 match l,h with
 | [a,b],⟨h1,h2,_⟩ => exact ⟨a,b,rfl,h1,h2⟩
set_option maxRecDepth 100000 in
theorem arg_str {a : AV} (h : ArgS Try.prog 8 9 a) : ∃ l : List UInt8,a = Sg l:=by
 simp only [ArgS,Try.underlying9,TyS] at h
 obtain ⟨s,h,_⟩:=h
 simp only [List.cons.injEq,and_true] at h
 obtain ⟨⟨l⟩⟩:=s
 exact ⟨l,h⟩
set_option maxRecDepth 100000 in
theorem rows_ints {d : Nat} : ∀ {rows : List (List AV)},(∀ r ∈ rows,TyC Try.prog (d + 1) 3 r) → ∃ l : List Int,rows.flatten = ints l ∧ rows.length = l.length
 | [],_ => ⟨[],rfl,rfl⟩
 | r :: rows,h => by
  obtain ⟨l,h1,h2⟩:=rows_ints fun q hq => h q (List.mem_cons_of_mem _ hq)
  have hr:=h r (List.mem_cons_self ..)
  simp only [TyC,Try.underlying3] at hr
  obtain ⟨n,rfl,_⟩:=hr
  exact ⟨n :: l,by rw [List.flatten_cons,h1];rfl,by rw [List.length_cons,h2];rfl⟩
set_option maxRecDepth 100000 in
theorem slice_ints {d : Nat} {r : List AV} (h : TyS Try.prog (d + 2) 33 r) : ∃ l : List Int,r = [.sl l.length (ints l)] ∧ l.length * 8 ≤ reachBytes:=by
 unfold TyS at h
 rw [Try.underlying33] at h
 obtain ⟨rows,rfl,_,hs,h⟩:=h
 obtain ⟨l,h1,h2⟩:=rows_ints (d:=d) fun q hq => (h q hq).tyC
 have e : Try.prog.bytesOf 3 = 8:=by kernel_rfl
 rw [e,h2] at hs
 exact ⟨l,by rw [h1,h2],hs⟩
set_option maxRecDepth 100000 in
theorem rows_rows {d : Nat} : ∀ {rows : List (List AV)},(∀ r ∈ rows,TyS Try.prog (d + 2) 33 r) → ∃ nx : List (List Int),rows.flatten = nx.map (fun l => .sl l.length (ints l)) ∧ rows.length = nx.length ∧ ∀ l ∈ nx,l.length * 8 ≤ reachBytes
 | [],_ => ⟨[],rfl,rfl,fun _ h => nomatch h⟩
 | r :: rows,h => by
  obtain ⟨nx,h1,h2,h3⟩:=rows_rows fun q hq => h q (List.mem_cons_of_mem _ hq)
  obtain ⟨l,rfl,hl⟩:=slice_ints (d:=d) (h r (List.mem_cons_self ..))
  exact ⟨l :: nx,by rw [List.flatten_cons,h1];rfl,by rw [List.length_cons,h2];rfl,fun q hq => by
   rcases List.mem_cons.1 hq with rfl | hq
   ·exact hl
   ·exact h3 q hq⟩
set_option maxRecDepth 100000 in
theorem words {d : Nat} : ∀ {rows : List (List AV)},(∀ r ∈ rows,TyC Try.prog (d + 1) 45 r) → ∃ l : List Int,rows.flatten = l.map U ∧ rows.length = l.length
 | [],_ => ⟨[],rfl,rfl⟩
 | r :: rows,h => by
  obtain ⟨l,h1,h2⟩:=words fun q hq => h q (List.mem_cons_of_mem _ hq)
  have hr:=h r (List.mem_cons_self ..)
  simp only [TyC,Try.underlying45] at hr
  obtain ⟨n,rfl,_⟩:=hr
  exact ⟨n :: l,by rw [List.flatten_cons,h1];rfl,by rw [List.length_cons,h2];rfl⟩
set_option maxRecDepth 100000 in
theorem classes {d : Nat} : ∀ {rows : List (List AV)},(∀ r ∈ rows,TyC Try.prog (d + 2) 47 r) → ∃ l : List Int,rows.flatten = l.map U ∧ l.length = rows.length * 4
 | [],_ => ⟨[],rfl,rfl⟩
 | r :: rows,h => by
  obtain ⟨l,h1,h2⟩:=classes fun q hq => h q (List.mem_cons_of_mem _ hq)
  have hr:=h r (List.mem_cons_self ..)
  simp only [TyC,Try.underlying47] at hr
  obtain ⟨parts,rfl,hn,hp⟩:=hr
  obtain ⟨k,k1,k2⟩:=words (d:=d) fun q hq => hp q hq
  exact ⟨k ++ l,by rw [List.flatten_cons,h1,k1,List.map_append],by rw [List.length_append,h2,← k2,hn,List.length_cons];omega⟩
set_option maxRecDepth 100000 in
theorem arg_nfa {a : AV} (h : ArgS Try.prog 8 35 a) : ∃ (N : Nf) (cv nv rv : AV) (vs : List AV),a = .agg [cv,nv,rv] ∧ NfOk N cv nv rv vs ∧ ∀ l ∈ N.nx,l.length * 8 ≤ reachBytes:=by
 simp only [ArgS,Try.underlying35] at h
 obtain ⟨bs,rfl,h⟩:=h
 unfold TyS at h
 rw [Try.underlying35] at h
 obtain ⟨parts,rfl,h1,h2⟩:=h
 match parts,h1 with
 | [p,q,r],_ =>
  have hp:=h2 0 _ p rfl rfl
  have hq:=h2 1 _ q rfl rfl
  have hr:=h2 2 _ r rfl rfl
  obtain ⟨rl,rfl,_⟩:=slice_ints (d:=5) hr
  have hq : TyS Try.prog 7 32 q:=hq
  have hp : TyS Try.prog 7 29 p:=hp
  unfold TyS at hq
  rw [Try.underlying32] at hq
  obtain ⟨rows,rfl,_,_,hq⟩:=hq
  obtain ⟨nx,n1,n2,n3⟩:=rows_rows (d:=4) fun z hz => hq z hz
  unfold TyS at hp
  rw [Try.underlying29] at hp
  obtain ⟨cls,rfl,_,_,hp⟩:=hp
  obtain ⟨cl,c1,c2⟩:=classes (d:=4) fun z hz => (hp z hz).tyC
  refine ⟨⟨cls.length,cl.map U,nx,rl⟩,_,_,_,nx.map (fun l => .sl l.length (ints l)),rfl,⟨.inr (by rw [c1]),by simpa using c2,fun c hc => ?_,.inr (by rw [n1,n2]),fun j l hl => ⟨_,by rw [List.getElem?_map,hl];rfl,.inr rfl⟩,.inr rfl⟩,n3⟩
  obtain ⟨z,_,rfl⟩:=List.mem_map.1 hc
  exact ⟨z,rfl⟩
end Go.Proofs.Ytnhennjliinplaa
