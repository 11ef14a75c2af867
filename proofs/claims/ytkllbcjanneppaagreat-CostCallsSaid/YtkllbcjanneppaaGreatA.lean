import Derived.Test.YtkllbcjanneppaaGreatHmG12
set_option linter.all false
namespace Go.Proofs.YtkllbcjanneppaaGreat
open Go Go.Hm

theorem fP:∀a:List UInt8,Op.bytesLess a a=false
 | []=>rfl
 | x::a=>by simp[Op.bytesLess,fP a]
theorem eC:∀{a b c:List UInt8},Op.bytesLess a b=true->Op.bytesLess b c=true->Op.bytesLess a c=true
 | [],_,[],_,h=>by cases ‹List UInt8›<;>simp[Op.bytesLess]at h
 | [],_,_::_,_,_=>rfl
 | _::_,[],_,h,_=>by simp[Op.bytesLess]at h
 | _::_,_::_,[],_,h=>by simp[Op.bytesLess]at h
 | x::a,y::b,z::c,h1,h2=>by
  simp only[Op.bytesLess,Bool.or_eq_true,Bool.and_eq_true,decide_eq_true_eq,beq_iff_eq]at h1 h2 |-;rcases h1 with h1 | ⟨rfl,h1⟩<;>rcases h2 with h2 | ⟨rfl,h2⟩
  ·exact .inl (UInt8.lt_trans h1 h2)
  ·exact .inl h1
  ·exact .inl h2
  ·exact .inr ⟨rfl,eC h1 h2⟩
theorem fQ:∀a b:List UInt8,Op.bytesLess a b=true\/a=b\/Op.bytesLess b a=true
 | [],[]=>.inr (.inl rfl)
 | [],_::_=>.inl rfl
 | _::_,[]=>.inr (.inr rfl)
 | x::a,y::b=>by
  simp only[Op.bytesLess,Bool.or_eq_true,Bool.and_eq_true,decide_eq_true_eq,beq_iff_eq];rcases Nat.lt_trichotomy x.toNat y.toNat with h | h | h
  ·exact .inl (.inl (UInt8.lt_iff_toNat_lt.2 h))
  ·have:=UInt8.toNat_inj.1 h;subst this;rcases fQ a b with h | rfl | h
   ·exact .inl (.inr ⟨rfl,h⟩)
   ·exact .inr (.inl rfl)
   ·exact .inr (.inr (.inr ⟨rfl,h⟩))
  ·exact .inr (.inr (.inl (UInt8.lt_iff_toNat_lt.2 h)))
theorem fq {a b:List UInt8}(h:Op.bytesLess a b=true):Op.bytesLess b a=false:=by
 cases hb:Op.bytesLess b a with
 | false=>rfl
 | true=>
  have:=eC h hb;rw[fP]at this;cases this
theorem o5 {a b:List UInt8}(h:Op.bytesLess a b=true):a≠b:=fun e=>by
 subst e;rw[fP]at h;cases h

def Up (l:List (List UInt8)):Prop:=l.Pairwise fun a b=>Op.bytesLess a b=true
theorem iG:∀{a b:List (List UInt8)},Up a->Up b->(∀x,x∈a↔x∈b)->a=b
 | [],[],_,_,_=>rfl
 | [],y::_,_,_,h=>by have:=(h y).2 (List.mem_cons_self ..);simp at this
 | x::_,[],_,_,h=>by have:=(h x).1 (List.mem_cons_self ..);simp at this
 | x::a,y::b,ha,hb,h=>by
  obtain⟨ha1,ha2⟩:=List.pairwise_cons.1 ha;obtain⟨hb1,hb2⟩:=List.pairwise_cons.1 hb;have hxy:x=y:=by
   rcases List.mem_cons.1 ((h x).1 (List.mem_cons_self ..)) with e | hx
   ·exact e
   ·rcases List.mem_cons.1 ((h y).2 (List.mem_cons_self ..)) with e | hy
    ·exact e.symm
    ·have:=eC (ha1 y hy) (hb1 x hx);rw[fP]at this;cases this
  subst hxy;rw[iG ha2 hb2 fun z=>⟨fun hz=>?_,fun hz=>?_⟩]
  ·rcases List.mem_cons.1 ((h z).1 (List.mem_cons_of_mem _ hz)) with e | hz'
   ·exact absurd e (o5 (ha1 z hz)).symm
   ·exact hz'
  ·rcases List.mem_cons.1 ((h z).2 (List.mem_cons_of_mem _ hz)) with e | hz'
   ·exact absurd e (o5 (hb1 z hz)).symm
   ·exact hz'
theorem tZ {x z:List UInt8}:∀{l:List (List UInt8)},z∈ins x l↔z=x\/z∈l
 | []=>by simp[ins]
 | y::l=>by
  unfold ins;split
  ·simp
  ·split
   ·rename_i h;subst h;simp
   ·simp only[List.mem_cons,tZ (l:=l)];constructor
    ·rintro (h | h | h)
     ·exact .inr (.inl h)
     ·exact .inl h
     ·exact .inr (.inr h)
    ·rintro (h | h | h)
     ·exact .inr (.inl h)
     ·exact .inl h
     ·exact .inr (.inr h)
theorem DY {x:List UInt8}:∀{l:List (List UInt8)},Up l->Up (ins x l)
 | [],_=>List.pairwise_singleton ..
 | y::l,h=>by
  obtain⟨h1,h2⟩:=List.pairwise_cons.1 h;unfold ins;split
  ·rename_i hx;refine List.pairwise_cons.2 ⟨fun z hz=>?_,h⟩;rcases List.mem_cons.1 hz with rfl | hz
   ·exact hx
   ·exact eC hx (h1 z hz)
  ·split
   ·exact h
   ·rename_i hx hn;refine List.pairwise_cons.2 ⟨fun z hz=>?_,DY h2⟩;rcases tZ.1 hz with rfl | hz
    ·rcases fQ y z with h | h | h
     ·exact h
     ·exact absurd h.symm hn
     ·exact absurd h hx
    ·exact h1 z hz
theorem dB {z:List UInt8}:∀{l:List (List UInt8)},z∈bG l↔z∈l
 | []=>by simp[bG]
 | x::l=>by
  show z∈ins x (bG l)↔_;rw[tZ,dB (l:=l),List.mem_cons]
theorem eF:∀l:List (List UInt8),Up (bG l)
 | []=>List.Pairwise.nil
 | _::l=>DY (eF l)
theorem qp {a b:List (List UInt8)}(h:∀x,x∈a↔x∈b):bG a=bG b:=iG (eF a) (eF b) fun x=>by rw[dB,dB,h]
theorem ua:∀{a b:List (List UInt8)},Up a->Up b->(∀x∈a,x∈b)->a.length<=b.length
 | [],_,_,_,_=>Nat.zero_le _
 | x::a,b,ha,hb,h=>by
  obtain⟨ha1,ha2⟩:=List.pairwise_cons.1 ha;have hx:=h x (List.mem_cons_self ..);have h2:a.length<=(b.erase x).length:=by
   refine ua ha2 (List.Pairwise.sublist List.erase_sublist hb) fun z hz=>?_;exact(List.mem_erase_of_ne (o5 (ha1 z hz)).symm).2 (h z (List.mem_cons_of_mem _ hz))
  have h3:=List.length_erase_of_mem hx;have h4:=List.length_pos_of_mem hx;simp only[List.length_cons];omega
theorem JE {a b:List (List UInt8)}(ha:Up a)(hb:Up b)(h:∀x∈a,x∈b)(hl:b.length<=a.length):a=b:=by
 refine iG ha hb fun x=>⟨h x,fun hx=>?_⟩;refine Classical.byContradiction fun hn=>?_;have h1:a.length<=(b.erase x).length:=ua ha (List.Pairwise.sublist List.erase_sublist hb) fun z hz=>(List.mem_erase_of_ne fun e=>by subst e;exact hn hz).2 (h z hz)
 have h3:=List.length_erase_of_mem hx;have h4:=List.length_pos_of_mem hx;omega
theorem Lz (x:List UInt8)(l:List (List UInt8)):(ins x l).length<=l.length+1:=by
 induction l with
 | nil=>simp[ins]
 | cons y l ih=>
  unfold ins;split
  ·simp
  ·split
   ·simp
   ·simpa using ih
theorem zT (l:List (List UInt8)):(bG l).length<=l.length:=by
 induction l with
 | nil=>simp[bG]
 | cons x l ih=>
  have:=Lz x (bG l);show (ins x (bG l)).length<=_;simp only[List.length_cons];omega
end Go.Proofs.YtkllbcjanneppaaGreat
