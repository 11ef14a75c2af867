import Derived.Test.YtgbpioccaenjaaaGreatHB
import Derived.Test.YtgbpioccaenjaaaGreatRows
set_option linter.unusedSimpArgs false
set_option linter.unusedVariables false
namespace Go.Proofs.YtgbpioccaenjaaaGreat
open Go Go.Hm

set_option maxRecDepth 100000 in
theorem arg_int {a : AV} (h : ArgC Tryz.prog 8 3 a) : ∃ n : Int,a = I n ∧ -9223372036854775808 ≤ n ∧ n ≤ 9223372036854775807:=by
 simp only [ArgC,Tryz.underlying3,TyC] at h
 obtain ⟨n,h,h1,h2⟩:=h
 simp only [List.cons.injEq,and_true] at h
 exact ⟨n,h,h1,h2⟩
set_option maxRecDepth 100000 in
theorem rows_ints {d : Nat} : ∀ {rows : List (List AV)},(∀ r ∈ rows,TyC Tryz.prog (d + 1) 3 r) → ∃ l : List Int,rows.flatten = ints l ∧ rows.length = l.length
 | [],_ => ⟨[],rfl,rfl⟩
 | r :: rows,h => by
  obtain ⟨l,h1,h2⟩:=rows_ints fun q hq => h q (List.mem_cons_of_mem _ hq)
  have hr:=h r (List.mem_cons_self ..)
  simp only [TyC,Tryz.underlying3] at hr
  obtain ⟨n,rfl,_⟩:=hr
  exact ⟨n :: l,by rw [List.flatten_cons,h1];rfl,by rw [List.length_cons,h2];rfl⟩
set_option maxRecDepth 100000 in
theorem slice_ints {d : Nat} {r : List AV} (h : TyC Tryz.prog (d + 2) 28 r) : ∃ l : List Int,r = [.sl l.length (ints l)]:=by
 simp only [TyC,Tryz.underlying28] at h
 obtain ⟨rows,rfl,_,h⟩:=h
 obtain ⟨l,h1,h2⟩:=rows_ints (d:=d) fun q hq => h q hq
 exact ⟨l,by rw [h1,h2]⟩
set_option maxRecDepth 100000 in
theorem one_int {d : Nat} {r : List AV} (h : TyC Tryz.prog (d + 1) 3 r) : ∃ n : Int,r = [I n]:=by
 simp only [TyC,Tryz.underlying3] at h
 obtain ⟨n,rfl,_⟩:=h
 exact ⟨n,rfl⟩
set_option maxRecDepth 100000 in
theorem one_prod {d : Nat} {r : List AV} (h : TyC Tryz.prog (d + 4) 47 r) : ∃ p : Pr,r = p.cells:=by
 unfold TyC at h
 rw [Tryz.underlying47] at h
 obtain ⟨parts,rfl,h1,h2⟩:=h
 match parts,h1 with
 | [p,q],_ =>
  have hp:=h2 0 _ p rfl rfl
  have hq:=h2 1 _ q rfl rfl
  obtain ⟨l,rfl⟩:=one_int (d:=d + 2) hp
  obtain ⟨r,rfl⟩:=slice_ints (d:=d + 1) hq
  exact ⟨⟨l,r⟩,rfl⟩
set_option maxRecDepth 100000 in
theorem rows_prods {d : Nat} : ∀ {rows : List (List AV)},(∀ r ∈ rows,TyC Tryz.prog (d + 4) 47 r) → ∃ l : List Pr,rows.flatten = psC l ∧ rows.length = l.length
 | [],_ => ⟨[],rfl,rfl⟩
 | r :: rows,h => by
  obtain ⟨l,h1,h2⟩:=rows_prods fun q hq => h q (List.mem_cons_of_mem _ hq)
  obtain ⟨p,rfl⟩:=one_prod (h r (List.mem_cons_self ..))
  exact ⟨p :: l,by rw [List.flatten_cons,h1];rfl,by rw [List.length_cons,h2];rfl⟩
set_option maxRecDepth 100000 in
theorem slice_prods {d : Nat} {r : List AV} (h : TyC Tryz.prog (d + 5) 22 r) : ∃ l : List Pr,r = [.sl l.length (psC l)]:=by
 simp only [TyC,Tryz.underlying22] at h
 obtain ⟨rows,rfl,_,h⟩:=h
 obtain ⟨l,h1,h2⟩:=rows_prods (d:=d) fun q hq => by
  have:=h q hq
  simpa only [TyC] using this
 exact ⟨l,by rw [h1,h2]⟩
set_option maxRecDepth 100000 in
theorem arg_gram {a : AV} (h : ArgC Tryz.prog 8 24 a) : ∃ g,a = gV g:=by
 simp only [ArgC,Tryz.underlying24] at h
 obtain ⟨bs,rfl,h⟩:=h
 unfold TyC at h
 rw [Tryz.underlying24] at h
 obtain ⟨parts,rfl,h1,h2⟩:=h
 match parts,h1 with
 | [p,q,r,s],_ =>
  obtain ⟨t,rfl⟩:=one_int (d:=6) (h2 0 _ p rfl rfl)
  obtain ⟨n,rfl⟩:=one_int (d:=6) (h2 1 _ q rfl rfl)
  obtain ⟨k,rfl⟩:=one_int (d:=6) (h2 2 _ r rfl rfl)
  obtain ⟨ps,rfl⟩:=slice_prods (d:=2) (h2 3 _ s rfl rfl)
  exact ⟨⟨t,n,k,ps⟩,rfl⟩
set_option maxRecDepth 100000 in
theorem arg_ints {a : AV} (h : ArgC Tryz.prog 8 28 a) : ∃ l : List Int,a = .sl l.length (ints l):=by
 simp only [ArgC,Tryz.underlying28] at h
 obtain ⟨l,he⟩:=slice_ints (d:=6) h
 exact ⟨l,by simpa using he⟩
set_option maxRecDepth 100000 in
theorem arg_str {a : AV} (h : ArgC Tryz.prog 8 9 a) : ∃ l : List UInt8,a = Sg l:=by
 simp only [ArgC,Tryz.underlying9,TyC] at h
 obtain ⟨s,h,_⟩:=h
 simp only [List.cons.injEq,and_true] at h
 obtain ⟨⟨l⟩⟩:=s
 exact ⟨l,h⟩
set_option maxRecDepth 100000 in
theorem one_str {d : Nat} {r : List AV} (h : TyC Tryz.prog (d + 1) 9 r) : ∃ l : List UInt8,r = [Sg l] ∧ l.length ≤ 9223372036854775807:=by
 simp only [TyC,Tryz.underlying9] at h
 obtain ⟨s,rfl,hs⟩:=h
 obtain ⟨⟨l⟩⟩:=s
 exact ⟨l,rfl,hs⟩
set_option maxRecDepth 100000 in
theorem rows_strs {d : Nat} : ∀ {rows : List (List AV)},(∀ r ∈ rows,TyC Tryz.prog (d + 1) 9 r) → ∃ l : List (List UInt8),rows.flatten = rowsB l ∧ rows.length = l.length ∧ ∀ x ∈ l,x.length ≤ 9223372036854775807
 | [],_ => ⟨[],rfl,rfl,fun _ h => by cases h⟩
 | r :: rows,h => by
  obtain ⟨l,h1,h2,h3⟩:=rows_strs fun q hq => h q (List.mem_cons_of_mem _ hq)
  obtain ⟨x,rfl,hx⟩:=one_str (h r (List.mem_cons_self ..))
  refine ⟨x :: l,by rw [List.flatten_cons,h1];rfl,by rw [List.length_cons,h2];rfl,fun y hy => ?_⟩
  rcases List.mem_cons.1 hy with rfl | hy
  ·exact hx
  ·exact h3 y hy
theorem args7 {P : Program} {d : Nat} {t1 t2 t3 t4 t5 t6 t7 : TypeId} {l : List AV} (h : ArgsC P d [t1,t2,t3,t4,t5,t6,t7] l) : ∃ a b c e f g i,l = [a,b,c,e,f,g,i] ∧ ArgC P d t1 a ∧ ArgC P d t2 b ∧ ArgC P d t3 c ∧ ArgC P d t4 e ∧ ArgC P d t5 f ∧ ArgC P d t6 g ∧ ArgC P d t7 i:=by
 match l,h with
 | [a,b,c,e,f,g,i],⟨h1,h2,h3,h4,h5,h6,h7,_⟩ => exact ⟨a,b,c,e,f,g,i,rfl,h1,h2,h3,h4,h5,h6,h7⟩
set_option maxRecDepth 100000 in
theorem one_rows {d : Nat} {r : List AV} (h : TyC Tryz.prog (d + 2) 49 r) : ∃ l,r = [rowsV l] ∧ LRw l:=by
 unfold TyC at h
 rw [Tryz.underlying49] at h
 obtain ⟨rows,he,hn,h⟩:=h
 obtain ⟨l,h1,h2,h3⟩:=rows_strs (d:=d) fun q hq => h q hq
 exact ⟨l,by rw [he,h1,h2],⟨by rw [← h2];exact hn,h3⟩⟩
set_option maxRecDepth 100000 in
theorem rows_rows {d : Nat} : ∀ {rows : List (List AV)},(∀ r ∈ rows,TyC Tryz.prog (d + 2) 49 r) → ∃ S : Ss,rows.flatten = setsC S ∧ rows.length = S.length ∧ ∀ l ∈ S,LRw l
 | [],_ => ⟨[],rfl,rfl,fun _ h => by cases h⟩
 | r :: rows,h => by
  obtain ⟨S,h1,h2,h3⟩:=rows_rows fun q hq => h q (List.mem_cons_of_mem _ hq)
  obtain ⟨x,rfl,hx⟩:=one_rows (h r (List.mem_cons_self ..))
  refine ⟨x :: S,by rw [List.flatten_cons,h1];rfl,by rw [List.length_cons,h2];rfl,fun y hy => ?_⟩
  rcases List.mem_cons.1 hy with rfl | hy
  ·exact hx
  ·exact h3 y hy
set_option maxRecDepth 100000 in
theorem one_sets {d : Nat} {r : List AV} (h : TyC Tryz.prog (d + 3) 25 r) : ∃ S : Ss,r = [.sl S.length (setsC S)] ∧ (∀ l ∈ S,LRw l) ∧ S.length ≤ 9223372036854775807:=by
 unfold TyC at h
 rw [Tryz.underlying25] at h
 obtain ⟨rows,he,hn,h⟩:=h
 obtain ⟨S,h1,h2,h3⟩:=rows_rows (d:=d) fun q hq => h q hq
 exact ⟨S,by rw [he,h1,h2],h3,by rw [← h2];exact hn⟩
set_option maxRecDepth 100000 in
theorem arg_table {a : AV} (h : ArgC Tryz.prog 8 27 a) : ∃ S : Ss,a = .agg [.sl S.length (setsC S)] ∧ (∀ l ∈ S,LRw l) ∧ S.length ≤ 9223372036854775807:=by
 simp only [ArgC,Tryz.underlying27] at h
 obtain ⟨bs,rfl,h⟩:=h
 unfold TyC at h
 rw [Tryz.underlying27] at h
 obtain ⟨parts,rfl,h1,h2⟩:=h
 match parts,h1 with
 | [p],_ =>
  obtain ⟨S,rfl,h3,h4⟩:=one_sets (d:=4) (h2 0 _ p rfl rfl)
  exact ⟨S,rfl,h3,h4⟩
end Go.Proofs.YtgbpioccaenjaaaGreat
