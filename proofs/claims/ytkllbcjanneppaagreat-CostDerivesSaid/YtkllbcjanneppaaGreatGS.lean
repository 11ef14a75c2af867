import Derived.Test.YtkllbcjanneppaaGreatGP
set_option maxRecDepth 20000
set_option linter.unusedSimpArgs false
set_option linter.unusedVariables false
namespace Go.Proofs.YtkllbcjanneppaaGreat
open Go Go.Hm

def LQ (H:Heap)(n:Nat)(o:List Bool):Heap:=H++(.cells (lF (H.length+1) n n)::rF n o)
def LP (H:Heap)(n i:Nat):Heap:=H++(.cells (gp (H.length+1) n i)::List.replicate i (.cells (bools (List.replicate n false))))
section
variable {H:Heap}{n i:Nat}{o:List Bool}
theorem Mo:(LQ H n o)[H.length]?=some (.cells (lF (H.length+1) n n)):=by unfold LQ;rw [get_at0];rfl
theorem uN (hi:i < n):(LQ H n o)[H.length+1+i]?=some (.cells (bools (rowL n o i))):=by
 unfold LQ;rw [Nat.add_assoc,Hm.get_at,show 1+i=i+1 by omega,List.getElem?_cons_succ]
 exact mT hi
theorem FZ {k:Nat}(ho:o.length=n * n)(hi:i < n)(hk:k < n)(v:Bool):(LQ H n o).set (H.length+1+i) (.cells (bools ((rowL n o i).set k v)))=LQ H n (o.set (i * n+k) v):=by
 unfold LQ;rw [Nat.add_assoc,set_at,show 1+i=i+1 by omega,List.set_cons_succ,wT ho hi hk]
theorem I5:(LQ H n o).take H.length=H:=by unfold LQ;simp
theorem Mp:(LP H n i).length=H.length+1+i:=by
 unfold LP;rw [List.length_append];simp only [List.length_cons,List.length_replicate];omega
theorem PX:(LP H n i)[H.length]?=some (.cells (gp (H.length+1) n i)):=by unfold LP;rw [get_at0];rfl
theorem I6 (hi:i < n):(LP H n i++[HB.cells (bools (List.replicate n false))]).set H.length (.cells ((gp (H.length+1) n i).set i (.hs (H.length+1+i) n 0 n 1)))=LP H n (i+1):=by
 unfold LP;rw [List.append_assoc,It,wV hi,List.replicate_succ'];rfl
theorem OV:LP H n n=LQ H n (List.replicate (n * n) false):=by
 unfold LP LQ rF;rw [wX,sS n n (Nat.le_refl _)]
end
structure Cel (n:Nat)(o:List Bool)(i k:Nat)(R:List Bool)(u:Bool):Prop where
 row:rowL n o i=R
 len:R.length=n
 lt:k < R.length
 get:R[k]=u
theorem cel {n:Nat}{o:List Bool}{i k:Nat}(ho:o.length=n * n)(hi:i < n)(hk:k < n):∃R,Cel n o i k R (o.getD (i * n+k) false):=by
 have i1:i * n+k < o.length:=by rw [ho];exact oC hi hk
 have r1:=eR ho hi;have k1:k < (rowL n o i).length:=by omega
 refine ⟨rowL n o i,rfl,r1,k1,?_⟩;have s1:=gg (o:=o) (i:=i) hk;rw [List.getElem?_eq_getElem i1,List.getElem?_eq_getElem k1,Option.some.injEq] at s1;rw [s1,bV i1]
theorem OW {C:Orc}{Q:Ex->Kt}{env:Env}{lk L:Nat}{H:Heap}{t k':Int}{ps:List Pr}{null:List Bool}{n l j:Nat}{pr:List Int}{o:List Bool}(t1:1<=t)(t2:t<=8)(hn:n<=16)(hl:l < n)(hnull:null.length=n)(hpr:pr.length<=8)(hs:∀x∈pr,0<=x/\x < t+n)(ho:o.length=n * n)(hlk:lk<=H.length)
  (hE:ab [1,4,5,7,8,9] env=[(1,.box [I t,I n,I k',.sl ps.length (psC ps)]),(4,.sl n (bools null)),(5,.hs H.length n 0 n 1),(7,I j),(8,.box [I l,.sl pr.length (ints pr)]),(9,I 0)])
  (hQ:∀env',ab [1,4,5,7] env'=[(1,.box [I t,I n,I k',.sl ps.length (psC ps)]),(4,.sl n (bools null)),(5,.hs H.length n 0 n 1),(7,I j)]->Q (.exit 4) env' (LQ H n ((bgL t null pr).foldl (edS n l) o))):
  WB ⟨C,lk,L,[1,8]⟩ (.loop [1,4,5,7,8,9] EN) Q env (LQ H n o):=by
 let bx:AV:=.box [I t,I n,I k',.sl ps.length (psC ps)]
 let bp:AV:=.box [I l,.sl pr.length (ints pr)]
 obtain ⟨res,hres⟩:∃res,(bgL t null pr).foldl (edS n l) o=res:=⟨_,rfl⟩;rw [hres] at hQ;refine ax (σ:=Nat×List Bool) (fun s=>[(1,bx),(4,.sl n (bools null)),(5,.hs H.length n 0 n 1),(7,I j),(8,bp),(9,I s.1)]) (fun s=>LQ H n s.2)
  (fun s=>s.1<=pr.length/\s.2.length=n * n/\(bgL t null (pr.drop s.1)).foldl (edS n l) s.2=res) (fun s=>pr.length - s.1) ?_ (0,o) ⟨Nat.zero_le _,ho,hres⟩ hE rfl
 rintro ⟨k,q⟩ ⟨hk,hql,hinv⟩;simp only at hk hql hinv;unfold EN;have w1:IntKind.i64.wrap ((k:Int)+1)=(k:Int)+1:=au (by omega) (by omega)
 by_cases hkl:k < pr.length;case neg=>
  obtain rfl:k=pr.length:=by omega
  rw [List.drop_length] at hinv;have hinv:q=res:=hinv;subst hinv;simp [bx,bp];refine hQ _ ?_;simp
 obtain ⟨x1,x2⟩:=hs pr[k] (List.getElem_mem hkl);rw [List.drop_eq_getElem_cons hkl,bgL] at hinv;generalize hx:pr[k]=x at x1 x2 hinv;by_cases hxt:x < t
 ·rw [if_pos hxt] at hinv;have hinv:q=res:=hinv;subst hinv;have y0:¬t<=x:=by omega
  simp [bx,bp,hkl,hx,y0];refine hQ _ ?_;simp
 rw [if_neg hxt] at hinv;obtain ⟨y,rfl⟩:∃y:Nat,x=t+(y:Int):=⟨(x - t).toNat,by omega⟩
 have hy2:(t+(y:Int) - t).toNat=y:=by omega
 have w3:IntKind.i64.wrap (y:Int)=y:=au (by omega) (by omega)
 have hsub:t+(y:Int) - t=y:=by omega
 have hty:t<=t+(y:Int):=by omega
 rw [hy2] at hinv;have hyn:y < null.length:=by omega
 have hyn2:y < n:=by omega
 rw [bV hyn,List.foldl_cons] at hinv;have g0:=Mo (H:=H) (n:=n) (o:=q);have gl:=uN (H:=H) (o:=q) hl;obtain ⟨R,hR⟩:=cel hql hl hyn2;have hset:=FZ (H:=H) hql hl hyn2 true;rw [hR.row] at gl hset;have b1:(bools R).length=n:=by rw [aH,hR.len]
 have hrp:=bg (Bo true) (show y < (bools R).length by rw [aH];exact hR.lt)
 rw [cJ] at hrp;have hrl:=ed (H.length+1) n n;have hlk1:lk<=H.length+1+l:=by omega
 have hyn3:y+1<=n:=hyn2;have hed:edS n l q y=q.set (l * n+y) true:=rfl;rw [hed] at hinv;obtain ⟨v,hv⟩:∃v,null[y]=v:=⟨_,rfl⟩;rw [hv] at hinv;have hbn:(bools null).length=n:=by rw [aH,hnull]
 have hql2:(q.set (l * n+y) true).length=n * n:=by rw [List.length_set];exact hql
 generalize q.set (l * n+y) true=q2 at hset hinv hql2;cases v with
 | false=>
  rw [if_neg (by simp)] at hinv
  have hinv:q2=res:=hinv;subst hinv;simp [bx,bp,hkl,hx,hty,hsub,w3,g0,hl,hrl,dI,gl,b1,hyn2,hyn3,aR,hlk1,hrp,hset,hbn,aF,hyn,hv];refine hQ _ ?_;simp
 | true=>
  rw [if_pos rfl] at hinv;simp [bx,bp,hkl,hx,hty,hsub,w3,g0,hl,hrl,dI,gl,b1,hyn2,hyn3,aR,hlk1,hrp,hset,hbn,aF,hyn,hv,w1];rw [ao];refine ⟨(k+1,q2),⟨by simp only;omega,hql2,hinv⟩,by simp only;omega,?_,rfl⟩
  simp [bx,bp]

theorem OX {C:Orc}{Q:Ex->Kt}{env:Env}{lk L:Nat}{H:Heap}{t k':Int}{ps:List Pr}{null:List Bool}{n:Nat}(t1:1<=t)(t2:t<=8)(hn:n<=16)(hps:ps.length<=64)(hnull:null.length=n)(hok:∀p∈ps,0<=p.l/\p.l < n/\p.r.length<=8/\∀x∈p.r,0<=x/\x < t+n)(hlk:lk<=H.length)
  (hE:ab [1,4,5,7] env=[(1,.box [I t,I n,I k',.sl ps.length (psC ps)]),(4,.sl n (bools null)),(5,.hs H.length n 0 n 1),(7,I 0)])
  (hQ:∀env',ab [1,5] env'=[(1,.box [I t,I n,I k',.sl ps.length (psC ps)]),(5,.hs H.length n 0 n 1)]->Q (.exit 2) env' (LQ H n (edM n t null ps))):
  WB ⟨C,lk,L,[1,8]⟩ (.loop [1,4,5,7] EO) Q env (LQ H n (List.replicate (n * n) false)):=by
 let bx:AV:=.box [I t,I n,I k',.sl ps.length (psC ps)]
 refine ax (σ:=Nat) (fun j=>[(1,bx),(4,.sl n (bools null)),(5,.hs H.length n 0 n 1),(7,I j)]) (fun j=>LQ H n ((ps.take j).foldl (edP n t null) (List.replicate (n * n) false)))
  (fun j=>j<=ps.length) (fun j=>ps.length - j) ?_ 0 (by simp) hE rfl
 intro j hj;unfold EO;have w1:IntKind.i64.wrap ((j:Int)+1)=(j:Int)+1:=au (by omega) (by omega)
 by_cases hjl:j < ps.length;case neg=>
  obtain rfl:j=ps.length:=by omega
  rw [List.take_of_length_le (Nat.le_refl _)];have e:edM n t null ps=ps.foldl (edP n t null) (List.replicate (n * n) false):=rfl;rw [<-e];simp [bx];refine hQ _ ?_;simp
 have hnx:(ps.take (j+1)).foldl (edP n t null) (List.replicate (n * n) false)=edP n t null ((ps.take j).foldl (edP n t null) (List.replicate (n * n) false)) ps[j]:=by
  rw [List.take_succ_eq_append_getElem hjl,List.foldl_append];rfl
 have hql:((ps.take j).foldl (edP n t null) (List.replicate (n * n) false)).length=n * n:=by rw [fC (fun o p=>uL n t null o p)];simp
 obtain ⟨p0,p1,p2,p3⟩:=hok ps[j] (List.getElem_mem hjl);have hs:=cd hjl;have hll:=aY ps;have h2:j * 2+2<=2 * ps.length:=by omega
 have done:∀(E:Env) (H':Heap),E=[(1,bx),(4,.sl n (bools null)),(5,.hs H.length n 0 n 1),(7,I ((j:Int)+1))]->H'=LQ H n ((ps.take (j+1)).foldl (edP n t null) (List.replicate (n * n) false))->
  ∃j':Nat,j'<=ps.length/\ps.length - j' < ps.length - j/\E=[(1,bx),(4,.sl n (bools null)),(5,.hs H.length n 0 n 1),(7,I j')]/\H'=LQ H n ((ps.take j').foldl (edP n t null) (List.replicate (n * n) false)):=fun E H' h1 h2=>⟨j+1,by omega,by omega,by rw [h1];simp,h2⟩
 rw [hnx] at done;generalize (ps.take j).foldl (edP n t null) (List.replicate (n * n) false)=q at hql done |-;generalize ps[j]=p at p0 p1 p2 p3 hs done;obtain ⟨pl,pr⟩:=p;simp only at p0 p1 p2 p3;simp only [Pr.cells] at hs;obtain ⟨pl,rfl⟩:=Int.eq_ofNat_of_zero_le p0;have hpl:pl < n:=by omega
 have he:edP n t null q ⟨pl,pr⟩=(bgL t null pr).foldl (edS n pl) q:=rfl;rw [he] at done;simp [-bd,bx,hjl,hs,hll,h2];rw [bd];simp [an];refine OW (k':=k') (ps:=ps) (null:=null) (j:=j) t1 t2 hn hpl hnull p2 p3 hql hlk (by simp) (fun env' hE'=>?_)
 rw [aG,if_pos rfl,a6,ah,ae,hE'];simp [w1];rw [ao];refine done _ _ ?_ rfl;simp [bx]

abbrev wE (t k':Int)(ps:List Pr)(H:Heap)(n:Nat):Env:=[(1,.box [I t,I n,I k',.sl ps.length (psC ps)]),(5,.hs H.length n 0 n 1)]
theorem OY {C:Orc}{Q:Ex->Kt}{env:Env}{lk L:Nat}{H:Heap}{t k':Int}{ps:List Pr}{n m i:Nat}{o:List Bool}(hn:n<=16)(hm:m < n)(hi:i < n)(ho:o.length=n * n)(hlk:lk<=H.length)
  (hE:ab [1,5,11,12,13] env=wE t k' ps H n++[(11,I m),(12,I i),(13,I 0)])
  (hQ:∀env',ab [1,5,11,12] env'=wE t k' ps H n++[(11,I m),(12,I i)]->Q (.exit 10) env' (LQ H n (waR n m o i))):
  WB ⟨C,lk,L,[1,8]⟩ (.loop [1,5,11,12,13] sA) Q env (LQ H n o):=by
 refine ax (σ:=Nat×List Bool) (fun s=>wE t k' ps H n++[(11,I m),(12,I i),(13,I s.1)]) (fun s=>LQ H n s.2)
  (fun s=>s.1<=n/\s.2=(List.range s.1).foldl (waC n m i) o/\s.2.length=n * n) (fun s=>n - s.1) ?_ (0,o) ⟨Nat.zero_le _,rfl,ho⟩ hE rfl
 rintro ⟨k,q⟩ ⟨hk,hq,hql⟩;simp only at hk hq hql;unfold sA;have w1:IntKind.i64.wrap ((k:Int)+1)=(k:Int)+1:=au (by omega) (by omega)
 by_cases hkn:k < n;case neg=>
  obtain rfl:k=n:=by omega
  have e:waR k m o i=q:=hq.symm;rw [e] at hQ;simp;refine hQ _ ?_;simp
 have hnx:(List.range (k+1)).foldl (waC n m i) o=waC n m i q k:=by rw [List.range_succ,List.foldl_append,<-hq];rfl
 have g0:=Mo (H:=H) (n:=n) (o:=q);have gi:=uN (H:=H) (o:=q) hi;have gm:=uN (H:=H) (o:=q) hm;obtain ⟨R,h1⟩:=cel hql hi hkn;obtain ⟨R',h2⟩:=cel hql hi hm;obtain ⟨S,h3⟩:=cel hql hm hkn;have hRR:R'=R:=h2.row.symm.trans h1.row;subst hRR;obtain ⟨rw1,len1,k1,v1⟩:=h1;obtain ⟨rw2,len2,k2,v2⟩:=h2;obtain ⟨rw3,len3,k3,v3⟩:=h3;have hset:=fun v=>FZ (H:=H) hql hi hkn v;rw [rw1] at gi hset;rw [rw3] at gm;have b1:(bools R').length=n:=by rw [aH,len1]
 have b2:(bools S).length=n:=by rw [aH,len3]
 have hrp:=fun v=>bg (Bo v) (show k < (bools R').length by rw [aH];exact k1)
 simp only [cJ] at hrp;have hrl:=ed (H.length+1) n n;have hlk1:lk<=H.length+1+i:=by omega
 have hkn3:k+1<=n:=hkn;have hw:waC n m i q k=q.set (i * n+k) (q.getD (i * n+k) false||(q.getD (i * n+m) false&&q.getD (m * n+k) false)):=rfl;have fin:∀(E:Env) (H':Heap),E=wE t k' ps H n++[(11,I m),(12,I i),(13,I ((k:Int)+1))]->H'=LQ H n (waC n m i q k)->∃s:Nat×List Bool,(s.1<=n/\s.2=(List.range s.1).foldl (waC n m i) o/\s.2.length=n * n)/\n - s.1 < n - k/\E=wE t k' ps H n++[(11,I m),(12,I i),(13,I s.1)]/\H'=LQ H n s.2:=
  fun E H' e1 e2=>⟨(k+1,waC n m i q k),⟨by simp only;omega,hnx.symm,by simp only;rw [uI];exact hql⟩,by simp only;omega,by rw [e1];simp,e2⟩
 rw [hw] at fin;generalize q.getD (i * n+k) false=u at v1 fin;generalize q.getD (i * n+m) false=v at v2 fin;generalize q.getD (m * n+k) false=w at v3 fin;have go:∀z,(u||(v&&w))=z->WB ⟨C,lk,L,[1,8]⟩ sA (Rnd [1,5,11,12,13] (fun s:Nat×List Bool=>wE t k' ps H n++[(11,I m),(12,I i),(13,I s.1)]) (fun s=>LQ H n s.2) (fun s=>s.1<=n/\s.2=(List.range s.1).foldl (waC n m i) o/\s.2.length=n * n) (fun s=>n - s.1) (k,q) Q) (wE t k' ps H n++[(11,I m),(12,I i),(13,I k)]) (LQ H n q):=by
  intro z hz;rw [hz] at fin;have hset:=hset z;have hrp:=hrp z;unfold sA;cases u with
  | true=>
   have hz:true=z:=hz;subst hz;simp [hkn,hi,hm,g0,hrl,dI,gi,gm,b1,b2,aF,k1,k2,k3,v1,v2,v3,aR,hlk1,hrp,hset,hkn3,w1];rw [ao];refine fin _ _ ?_ rfl;simp
  | false=>
   cases v with
   | false=>
    have hz:false=z:=hz;subst hz;simp [hkn,hi,hm,g0,hrl,dI,gi,gm,b1,b2,aF,k1,k2,k3,v1,v2,v3,aR,hlk1,hrp,hset,hkn3,w1];rw [ao];refine fin _ _ ?_ rfl;simp
   | true=>
    have hz:w=z:=by simpa using hz
    subst hz;simp [hkn,hi,hm,g0,hrl,dI,gi,gm,b1,b2,aF,k1,k2,k3,v1,v2,v3,aR,hlk1,hrp,hset,hkn3,w1];rw [ao];refine fin _ _ ?_ rfl;simp
 have:=go _ rfl;unfold sA at this;exact this

theorem OZ {C:Orc}{Q:Ex->Kt}{env:Env}{lk L:Nat}{H:Heap}{t k':Int}{ps:List Pr}{n m:Nat}{o:List Bool}(hn:n<=16)(hm:m < n)(ho:o.length=n * n)(hlk:lk<=H.length)
  (hE:ab [1,5,11,12] env=wE t k' ps H n++[(11,I m),(12,I 0)])
  (hQ:∀env',ab [1,5,11] env'=wE t k' ps H n++[(11,I m)]->Q (.exit 8) env' (LQ H n (waM n o m))):
  WB ⟨C,lk,L,[1,8]⟩ (.loop [1,5,11,12] EP) Q env (LQ H n o):=by
 refine ax (σ:=Nat×List Bool) (fun s=>wE t k' ps H n++[(11,I m),(12,I s.1)]) (fun s=>LQ H n s.2)
  (fun s=>s.1<=n/\s.2=(List.range s.1).foldl (waR n m) o/\s.2.length=n * n) (fun s=>n - s.1) ?_ (0,o) ⟨Nat.zero_le _,rfl,ho⟩ hE rfl
 rintro ⟨i,q⟩ ⟨hi,hq,hql⟩;simp only at hi hq hql;unfold EP;have w1:IntKind.i64.wrap ((i:Int)+1)=(i:Int)+1:=au (by omega) (by omega)
 by_cases hin:i < n;case neg=>
  obtain rfl:i=n:=by omega
  have e:waM i o m=q:=hq.symm;rw [e] at hQ;simp;refine hQ _ ?_;simp
 have hnx:(List.range (i+1)).foldl (waR n m) o=waR n m q i:=by rw [List.range_succ,List.foldl_append,<-hq];rfl
 simp [hin];refine OY (t:=t) (k':=k') (ps:=ps) hn hm hin hql hlk (by simp) (fun env' hE'=>?_)
 rw [aG,if_pos rfl,a6,ah,ae,hE'];simp [w1];rw [ao];refine ⟨(i+1,waR n m q i),⟨by simp only;omega,hnx.symm,by simp only;rw [uJ];exact hql⟩,by simp only;omega,?_,rfl⟩
 simp
theorem O0 {C:Orc}{Q:Ex->Kt}{env:Env}{lk L:Nat}{H:Heap}{t k':Int}{ps:List Pr}{n:Nat}{o:List Bool}(hn:n<=16)(ho:o.length=n * n)(hlk:lk<=H.length)
  (hE:ab [1,5,11] env=wE t k' ps H n++[(11,I 0)])
  (hQ:∀env',ab [1,5] env'=wE t k' ps H n->Q (.exit 6) env' (LQ H n ((List.range n).foldl (waM n) o))):
  WB ⟨C,lk,L,[1,8]⟩ (.loop [1,5,11] ER) Q env (LQ H n o):=by
 refine ax (σ:=Nat×List Bool) (fun s=>wE t k' ps H n++[(11,I s.1)]) (fun s=>LQ H n s.2)
  (fun s=>s.1<=n/\s.2=(List.range s.1).foldl (waM n) o/\s.2.length=n * n) (fun s=>n - s.1) ?_ (0,o) ⟨Nat.zero_le _,rfl,ho⟩ hE rfl
 rintro ⟨m,q⟩ ⟨hm,hq,hql⟩;simp only at hm hq hql;unfold ER;have w1:IntKind.i64.wrap ((m:Int)+1)=(m:Int)+1:=au (by omega) (by omega)
 by_cases hmn:m < n;case neg=>
  obtain rfl:m=n:=by omega
  rw [<-hq] at hQ;simp;refine hQ _ ?_;simp
 have hnx:(List.range (m+1)).foldl (waM n) o=waM n q m:=by rw [List.range_succ,List.foldl_append,<-hq];rfl
 simp [hmn];refine OZ (t:=t) (k':=k') (ps:=ps) hn hmn hql hlk (by simp) (fun env' hE'=>?_)
 rw [aG,if_pos rfl,a6,ah,ae,hE'];simp [w1];rw [ao];refine ⟨(m+1,waM n q m),⟨by simp only;omega,hnx.symm,by simp only;rw [uK];exact hql⟩,by simp only;omega,?_,rfl⟩
 simp
def y9 (g:Gm):Int×Bool:=if chkE g=0 then dgL g.n.toNat (y7 g.n.toNat g.t (derM g false) g.ps) g.n.toNat 0 else (0,false)
theorem uO {g:Gm}(ok:GOk g):y6 g.t g.n.toNat g.ps:=fun p hp=>by
 have pok:=ok.p p hp;have:=pok.l0;have:=pok.l1;have:=ok.n1;exact ⟨by omega,fun x hx=>by have:=pok.s x hx;omega⟩
theorem F3 (g:Gm):y9 g=leftR g:=by
 unfold y9 leftR;by_cases hc:chkE g=0
 ·have ok:=uO (br hc);rw [if_pos hc,if_pos hc];refine FU _ _ (by omega) fun i hi=>?_
  rw [FT ok i i hi hi,Cg ok i i hi]
 ·rw [if_neg hc,if_neg hc]
theorem O1 {C:Orc}{Q:Ex->Kt}{env:Env}{lk L:Nat}{H:Heap}{t k':Int}{ps:List Pr}{null:List Bool}{n:Nat}(hn:n<=16)(hlk:lk<=H.length)(hL:L<=H.length)
  (hE:ab [1,4,5,6] env=[(1,.box [I t,I n,I k',.sl ps.length (psC ps)]),(4,.sl n (bools null)),(5,.hs H.length n 0 n 1),(6,I 0)])
  (hQ:∀env',ab [1,4,5] env'=[(1,.box [I t,I n,I k',.sl ps.length (psC ps)]),(4,.sl n (bools null)),(5,.hs H.length n 0 n 1)]->Q (.exit 0) env' (LQ H n (List.replicate (n * n) false))):
  WB ⟨C,lk,L,[1,8]⟩ (.loop [1,4,5,6] EM) Q env (LP H n 0):=by
 let bx:AV:=.box [I t,I n,I k',.sl ps.length (psC ps)]
 refine ax (σ:=Nat) (fun i=>[(1,bx),(4,.sl n (bools null)),(5,.hs H.length n 0 n 1),(6,I i)]) (fun i=>LP H n i)
  (fun i=>i<=n) (fun i=>n - i) ?_ 0 (by simp) hE rfl
 intro i hi;unfold EM;have w1:IntKind.i64.wrap ((i:Int)+1)=(i:Int)+1:=au (by omega) (by omega)
 by_cases hin:i < n;case neg=>
  obtain rfl:i=n:=by omega
  rw [OV];simp [bx];refine hQ _ ?_;simp
 have hro:(n:Int)<=(aM:Int):=by unfold aM;omega
 have hcl:=wW (b:=H.length+1) hi;have hli:i < (gp (H.length+1) n i).length:=by omega
 have hrp:=fun v=>bg (cs:=gp (H.length+1) n i) (k:=i) v hli;have hLl:=Mp (H:=H) (n:=n) (i:=i);have a3:(LP H n i++[HB.cells (bools (List.replicate n false))])[H.length]?=some (.cells (gp (H.length+1) n i)):=by rw [List.getElem?_append_left (by omega)];exact PX
 have hnx:=I6 (H:=H) hin;have hi1:i+1<=n:=hin;simp [bx,hin,hro,fB,hLl,a3,hcl,aR,hlk,hL,hrp,hnx,hi1,w1];rw [ao];refine ⟨i+1,by omega,by omega,?_,rfl⟩
 simp [bx]
theorem wZ {lk lim:Nat}{H:Heap}(g:Gm)(hl:g.ps.length<=1000000)(hr:∀p∈g.ps,p.r.length<=1000000)(hlk:lk<=H.length):aj X A lk lim 41 [gV g] H=some (sT g,H):=by
 have kc:=fun (L:Nat) (H':Heap)=>bN (lk:=lk) (lim:=L) (H:=H') g hl hr;have kn:=fun (L:Nat)=>qV (lk:=lk) (lim:=L) (H:=H) g hl hr hlk;refine ar [1,8] rfl A41 rfl rfl ?_;unfold On;unfold sT;rw [<-F3];unfold y9;by_cases hc:chkE g=0;case neg=>
  rw [if_neg hc];obtain ⟨t,n,k,ps⟩:=g;simp only [gV,Gm.cells] at kc;generalize aj X A=C at kc |-;simp [Gm.cells,kc,hc]
 have ok:=br hc;rw [if_pos hc];rw [hc] at kc;have lN:=fZ g false;unfold jG at kn;rw [if_pos hc] at kn;generalize derM g false=N at kn lN |-;obtain ⟨t,n,k,ps⟩:=g;obtain ⟨t1,t2,n1,n2,k1,k2,l1,l2,okp⟩:=ok;simp only at t1 t2 n1 n2 k1 k2 l1 l2 okp;obtain ⟨n,rfl⟩:=Int.eq_ofNat_of_zero_le (by omega:0<=n)
 simp only [gV,Gm.cells,Int.toNat_natCast] at kc kn lN;simp only [Int.toNat_natCast];have hok:∀p∈ps,0<=p.l/\p.l < n/\p.r.length<=8/\∀x∈p.r,0<=x/\x < t+n:=fun p hp=>⟨(okp p hp).l0,(okp p hp).l1,(okp p hp).len,(okp p hp).s⟩;have hF:(y7 n t N ps).length=n * n:=by
  unfold y7;rw [fC (fun o m=>uK n o m),uM]
 have hro2:(n:Int) * 24<=(aM:Int):=by unfold aM;omega
 have hstart:H++[.cells (repl n [.e0])]=LP H n 0:=by
  unfold LP;rw [Ap,sU];rfl
 obtain ⟨res,hres⟩:∃res,dgL n (y7 n t N ps) n 0=res:=⟨_,rfl⟩;rw [hres];generalize aj X A=C at kc kn |-;simp [Gm.cells,kc,kn,hro2,hstart];refine O1 (t:=t) (k':=k) (ps:=ps) (null:=N) (by omega) hlk (Nat.le_refl _) (by simp) (fun env' hE'=>?_)
 rw [aG,if_pos rfl,ah,ai,ai,ae,hE'];simp;refine OX (k':=k) t1 t2 (by omega) l2 lN hok hlk (by simp) (fun env' hE'=>?_)
 rw [aG,if_pos rfl,ah,ai,ai,ae,hE'];simp;refine O0 (t:=t) (k':=k) (ps:=ps) (by omega) (uM ..) hlk (by simp) (fun env' hE'=>?_)
 rw [aG,if_pos rfl,ah,ai,ai,ae,hE'];have hF2:(List.range n).foldl (waM n) (edM n t N ps)=y7 n t N ps:=rfl;rw [hF2];generalize y7 n t N ps=F at hF hres |-;simp
 let bx:AV:=.box [I t,I n,I k,.sl ps.length (psC ps)]
 refine ax (σ:=Nat) (fun j=>[(1,bx),(5,.hs H.length n 0 n 1),(14,I j)]) (fun _=>LQ H n F)
  (fun j=>j<=n/\dgL n F (n - j) j=res) (fun j=>n - j) ?_ 0 ⟨Nat.zero_le _,hres⟩ (by simp [bx]) rfl
 rintro j ⟨hj,hinv⟩;unfold Kn;have w2:IntKind.i64.wrap ((j:Int)+1)=(j:Int)+1:=au (by omega) (by omega)
 have htk:=I5 (H:=H) (n:=n) (o:=F);by_cases hjl:j < n;case neg=>
  obtain rfl:j=n:=by omega
  rw [Nat.sub_self] at hinv;subst hinv;simp [dgL,htk,bx]
 have hrl:=ed (H.length+1) n n;have q2:=Mo (H:=H) (n:=n) (o:=F);have qr:=uN (H:=H) (o:=F) hjl;obtain ⟨R,rw1,len1,k1,v1⟩:=cel hF hjl hjl;rw [rw1] at qr;have b1:(bools R).length=n:=by rw [aH,len1]
 rw [show n - j=(n - (j+1))+1 by omega,dgL] at hinv
 generalize F.getD (j * n+j) false=u at hinv v1;cases u with
 | true=>
  rw [if_pos rfl] at hinv;subst hinv;simp [bx,hjl,q2,hrl,dI,qr,k1,v1,b1,aF,htk]
 | false=>
  rw [if_neg (by simp)] at hinv
  simp [bx,hjl,q2,hrl,dI,qr,k1,v1,b1,aF,w2];rw [ao];refine ⟨j+1,⟨by omega,hinv⟩,by omega,?_,rfl⟩
  simp [bx]
end Go.Proofs.YtkllbcjanneppaaGreat
