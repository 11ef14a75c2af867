/- Arguments: states, texts. -/
import Derived.Test.YtnhennjliinplaaQ
import Derived.Test.YtnhennjliinplaaSz
import Derived.Test.YtnhennjliinplaaRows
set_option linter.all false
namespace Go.Proofs.Ytnhennjliinplaa
open Go Go.Hm

set_option maxRecDepth 100000 in
theorem rows_ints {d : Nat} : ∀ {rows : List (List AV)},(∀ r ∈ rows,TyC Try.prog (d + 1) 3 r) → ∃ l : List Int,rows.flatten = ints l ∧ rows.length = l.length
 | [],_ => ⟨[],rfl,rfl⟩
 | r :: rows,h => by
  obtain ⟨l,h1,h2⟩:=rows_ints fun q hq => h q (List.mem_cons_of_mem _ hq)
  have hr:=h r (List.mem_cons_self ..)
  simp only [TyC,Try.underlying3] at hr
  obtain ⟨n,rfl,_⟩:=hr
  exact ⟨n :: l,by rw [List.flatten_cons,h1];rfl,by rw [List.length_cons,h2];rfl⟩
set_option maxRecDepth 100000 in
theorem slice_ints {d : Nat} {r : List AV} (h : TyS Try.prog (d + 2) 33 r) : ∃ l : List Int,r = [.sl l.length (ints l)] ∧ l.length * 8 ≤ reachBytes:=by
 unfold TyS at h
 rw [Try.underlying33] at h
 obtain ⟨rows,rfl,_,hs,h⟩:=h
 obtain ⟨l,h1,h2⟩:=rows_ints (d:=d) fun q hq => (h q hq).tyC
 have e : Try.prog.bytesOf 3 = 8:=by kernel_rfl
 rw [e,h2] at hs
 exact ⟨l,by rw [h1,h2],hs⟩
set_option maxRecDepth 100000 in
theorem rows_rows {d : Nat} : ∀ {rows : List (List AV)},(∀ r ∈ rows,TyS Try.prog (d + 2) 33 r) → ∃ nx : List (List Int),rows.flatten = nx.map (fun l => .sl l.length (ints l)) ∧ rows.length = nx.length ∧ ∀ l ∈ nx,l.length * 8 ≤ reachBytes
 | [],_ => ⟨[],rfl,rfl,fun _ h => nomatch h⟩
 | r :: rows,h => by
  obtain ⟨nx,h1,h2,h3⟩:=rows_rows fun q hq => h q (List.mem_cons_of_mem _ hq)
  obtain ⟨l,rfl,hl⟩:=slice_ints (d:=d) (h r (List.mem_cons_self ..))
  exact ⟨l :: nx,by rw [List.flatten_cons,h1];rfl,by rw [List.length_cons,h2];rfl,fun q hq => by
   rcases List.mem_cons.1 hq with rfl | hq
   ·exact hl
   ·exact h3 q hq⟩
set_option maxRecDepth 100000 in
theorem words {d : Nat} : ∀ {rows : List (List AV)},(∀ r ∈ rows,TyC Try.prog (d + 1) 45 r) → ∃ l : List Int,rows.flatten = l.map U ∧ rows.length = l.length
 | [],_ => ⟨[],rfl,rfl⟩
 | r :: rows,h => by
  obtain ⟨l,h1,h2⟩:=words fun q hq => h q (List.mem_cons_of_mem _ hq)
  have hr:=h r (List.mem_cons_self ..)
  simp only [TyC,Try.underlying45] at hr
  obtain ⟨n,rfl,_⟩:=hr
  exact ⟨n :: l,by rw [List.flatten_cons,h1];rfl,by rw [List.length_cons,h2];rfl⟩
set_option maxRecDepth 100000 in
theorem classes {d : Nat} : ∀ {rows : List (List AV)},(∀ r ∈ rows,TyC Try.prog (d + 2) 47 r) → ∃ l : List Int,rows.flatten = l.map U ∧ l.length = rows.length * 4
 | [],_ => ⟨[],rfl,rfl⟩
 | r :: rows,h => by
  obtain ⟨l,h1,h2⟩:=classes fun q hq => h q (List.mem_cons_of_mem _ hq)
  have hr:=h r (List.mem_cons_self ..)
  simp only [TyC,Try.underlying47] at hr
  obtain ⟨parts,rfl,hn,hp⟩:=hr
  obtain ⟨k,k1,k2⟩:=words (d:=d) fun q hq => hp q hq
  exact ⟨k ++ l,by rw [List.flatten_cons,h1,k1,List.map_append],by rw [List.length_append,h2,← k2,hn,List.length_cons];omega⟩
set_option maxRecDepth 100000 in
theorem arg_nfa {a : AV} (h : ArgS Try.prog 8 35 a) : ∃ (N : Nf) (cv nv rv : AV) (vs : List AV),a = .agg [cv,nv,rv] ∧ NfOk N cv nv rv vs ∧ ∀ l ∈ N.nx,l.length * 8 ≤ reachBytes:=by
 simp only [ArgS,Try.underlying35] at h
 obtain ⟨bs,rfl,h⟩:=h
 unfold TyS at h
 rw [Try.underlying35] at h
 obtain ⟨parts,rfl,h1,h2⟩:=h
 match parts,h1 with
 | [p,q,r],_ =>
  have hp:=h2 0 _ p rfl rfl
  have hq:=h2 1 _ q rfl rfl
  have hr:=h2 2 _ r rfl rfl
  obtain ⟨rl,rfl,_⟩:=slice_ints (d:=5) hr
  have hq : TyS Try.prog 7 32 q:=hq
  have hp : TyS Try.prog 7 29 p:=hp
  unfold TyS at hq
  rw [Try.underlying32] at hq
  obtain ⟨rows,rfl,_,_,hq⟩:=hq
  obtain ⟨nx,n1,n2,n3⟩:=rows_rows (d:=4) fun z hz => hq z hz
  unfold TyS at hp
  rw [Try.underlying29] at hp
  obtain ⟨cls,rfl,_,_,hp⟩:=hp
  obtain ⟨cl,c1,c2⟩:=classes (d:=4) fun z hz => (hp z hz).tyC
  refine ⟨⟨cls.length,cl.map U,nx,rl⟩,_,_,_,nx.map (fun l => .sl l.length (ints l)),rfl,⟨.inr (by rw [c1]),by simpa using c2,fun c hc => ?_,.inr (by rw [n1,n2]),fun j l hl => ⟨_,by rw [List.getElem?_map,hl];rfl,.inr rfl⟩,.inr rfl⟩,n3⟩
  obtain ⟨z,_,rfl⟩:=List.mem_map.1 hc
  exact ⟨z,rfl⟩
theorem args4 {P : Program} {d : Nat} {t1 t2 t3 t4 : TypeId} {l : List AV} (h : ArgsS P d [t1,t2,t3,t4] l) : ∃ a b c e,l = [a,b,c,e] ∧ ArgS P d t1 a ∧ ArgS P d t2 b ∧ ArgS P d t3 c ∧ ArgS P d t4 e:=by
 match l,h with
 | [a,b,c,e],⟨h1,h2,h3,h4,_⟩ => exact ⟨a,b,c,e,rfl,h1,h2,h3,h4⟩
set_option maxRecDepth 100000 in
theorem arg_ints {a : AV} (h : ArgS Try.prog 8 33 a) : ∃ l : List Int,a = .sl l.length (ints l):=by
 unfold ArgS at h
 rw [Try.underlying33] at h
 obtain ⟨l,h,_⟩:=slice_ints (d:=6) h
 simp only [List.cons.injEq,and_true] at h
 exact ⟨l,h⟩
set_option maxRecDepth 100000 in
theorem arg_byte {a : AV} (h : ArgS Try.prog 8 5 a) : ∃ n : Nat,a = .val (.int .u8 n) ∧ n ≤ 255:=by
 simp only [ArgS,Try.underlying5,TyS] at h
 obtain ⟨n,h,h1,h2⟩:=h
 simp only [List.cons.injEq,and_true] at h
 have h1 : 0 ≤ n:=h1
 have h2 : n ≤ 255:=h2
 obtain ⟨n,rfl⟩:=Int.eq_ofNat_of_zero_le h1
 exact ⟨n,h,by omega⟩
end Go.Proofs.Ytnhennjliinplaa
