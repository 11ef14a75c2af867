/- The machine HM, part 9. -/
import Derived.Test.YtnhennjliinplaaHmG8
set_option linter.all false
namespace Go.Hm
open Go
noncomputable section

abbrev R:=Option (AV×Heap)

def go {α β:Type}(f:α→β)(a:α):β:=f a
section
variable {β:Type}
def pN (n:Nat)(k:Nat→β):β:=Nat.rec (motive:=fun _=>β) (k Nat.zero) (fun m _=>k (Nat.succ m)) n
theorem pN_eq (n:Nat)(k:Nat→β):pN n k=k n:=by cases n<;>rfl
def pI (i:Int)(k:Int→β):β:=Int.rec (motive:=fun _=>β) (fun m=>pN m fun m=>k (Int.ofNat m)) (fun m=>pN m fun m=>k (Int.negSucc m)) i
theorem pI_eq (i:Int)(k:Int→β):pI i k=k i:=by
 cases i with
 | ofNat m=>exact pN_eq m fun m=>k (.ofNat m)
 | negSucc m=>exact pN_eq m fun m=>k (.negSucc m)
def pB (b:Bool)(k:Bool→β):β:=Bool.rec (motive:=fun _=>β) (k false) (k true) b
theorem pB_eq (b:Bool)(k:Bool→β):pB b k=k b:=by cases b<;>rfl
def pLs {α:Type}(l:List α):(List α→β)→β:=List.rec (motive:=fun _=>(List α→β)→β) (fun k=>k []) (fun a _ ih k=>go ih fun l=>go k (a::l)) l
theorem pLs_eq {α:Type}:∀(l:List α) (k:List α→β),pLs l k=k l
 | [],_=>rfl
 | a::l,k=>pLs_eq l fun l=>k (a::l)
def pUs (l:List UInt8):(List UInt8→β)→β:=List.rec (motive:=fun _=>(List UInt8→β)→β) (fun k=>k []) (fun a _ ih k=>pN a.toNat fun n=>go ih fun l=>go k (UInt8.ofNat n::l)) l
theorem pUs_eq:∀(l:List UInt8) (k:List UInt8→β),pUs l k=k l
 | [],_=>rfl
 | a::l,k=>by
  show pN a.toNat (fun n=>pUs l fun l=>k (UInt8.ofNat n::l))=_
  rw[pN_eq,pUs_eq l];simp
def pStr (s:ByteArray)(k:ByteArray→β):β:=pUs s.data.toList fun l=>k ⟨⟨l⟩⟩
theorem pStr_eq (s:ByteArray)(k:ByteArray→β):pStr s k=k s:=by simp only[pStr,pUs_eq]
def pK (q:IntKind)(k:IntKind→β):β:=IntKind.rec (motive:=fun _=>β) (k .i8) (k .i16) (k .i32) (k .i64) (k .u8) (k .u16) (k .u32) (k .u64) q
theorem pK_eq (q:IntKind)(k:IntKind→β):pK q k=k q:=by cases q<;>rfl
def pVal (v:Value):(Value→β)→β:=(Value.rec (motive_1:=fun _=>(Value→β)→β) (motive_2:=fun _=>Unit) (motive_3:=fun _=>Unit) (fun b k=>pB b fun b=>k (.bool b)) (fun q n k=>pK q fun q=>pI n fun n=>k (.int q n)) (fun a b k=>k (.float a b)) (fun a b c k=>k (.complex a b c)) (fun s k=>pStr s fun s=>k (.string s)) (fun a k=>k (.pointer a)) (fun a b c k=>k (.slice a b c)) (fun a k=>k (.map a)) (fun a k=>k (.chan a)) (fun a b c _ _ k=>k (.func a b c)) (fun k=>k .nilFunc) (fun a b _ k=>k (.iface a b)) (fun k=>k .nilIface) (fun a _ k=>k (.agg a)) (fun a _ k=>k (.tuple a)) (fun _ _=>()) () (fun _ _ _ _=>())) v
theorem pVal_eq (v:Value)(k:Value→β):pVal v k=k v:=by
 cases v
 case bool b=>exact pB_eq b fun b=>k (.bool b)
 case int q n=>show pK q (fun q=>pI n fun n=>k (.int q n))=_;rw[pK_eq,pI_eq]
 case string s=>exact pStr_eq s fun s=>k (.string s)
 all_goals rfl
def pV0 (v:AV):(AV→β)→β:=(AV.rec (motive_1:=fun _=>(AV→β)→β) (motive_2:=fun _=>Unit) (fun v k=>pVal v fun v=>k (.val v)) (fun k=>k .e0) (fun n cs _ k=>pN n fun n=>k (.sl n cs)) (fun cs o _ k=>pN o fun o=>k (.rop cs o)) (fun t o k=>pN t fun t=>pN o fun o=>k (.rp t o)) (fun b g o k=>pN b fun b=>pN g fun g=>pN o fun o=>k (.hp b g o)) (fun b g o n e k=>pN b fun b=>pN g fun g=>pN o fun o=>pN n fun n=>pN e fun e=>k (.hs b g o n e)) (fun b k=>pN b fun b=>k (.mp b)) (fun f c _ k=>pN f fun f=>k (.fn f c)) (fun c _ k=>k (.agg c)) (fun c _ k=>k (.tup c)) (fun c _ k=>k (.box c)) (fun k=>k .und) (fun k=>k .dead) () (fun _ _ _ _=>())) v
theorem pV0_eq (v:AV)(k:AV→β):pV0 v k=k v:=by
 cases v
 case val v=>exact pVal_eq v fun v=>k (.val v)
 case sl n cs=>exact pN_eq n fun n=>k (.sl n cs)
 case rop cs o=>exact pN_eq o fun o=>k (.rop cs o)
 case rp a b=>show pN a (fun a=>pN b fun b=>k (.rp a b))=_;simp only[pN_eq]
 case hp a b c=>show pN a (fun a=>pN b fun b=>pN c fun c=>k (.hp a b c))=_;simp only[pN_eq]
 case hs b g o n e=>show pN b (fun b=>pN g fun g=>pN o fun o=>pN n fun n=>pN e fun e=>k (.hs b g o n e))=_;simp only[pN_eq]
 case mp b=>exact pN_eq b fun b=>k (.mp b)
 case fn f c=>exact pN_eq f fun f=>k (.fn f c)
 all_goals rfl
def pLV (l:List AV):(List AV→β)→β:=List.rec (motive:=fun _=>(List AV→β)→β) (fun k=>k []) (fun a _ ih k=>pV0 a fun a=>go ih fun l=>go k (a::l)) l
theorem pLV_eq:∀(l:List AV) (k:List AV→β),pLV l k=k l
 | [],_=>rfl
 | a::l,k=>by
  show pV0 a (fun a=>pLV l fun l=>k (a::l))=_
  rw[pV0_eq,pLV_eq l]
def pV (v:AV)(k:AV→β):β:=pV0 v fun v=>(AV.rec (motive_1:=fun _=>β) (motive_2:=fun _=>Unit) (fun v=>k (.val v)) (k .e0) (fun n cs _=>pLV cs fun cs=>k (.sl n cs)) (fun cs o _=>k (.rop cs o)) (fun t o=>k (.rp t o)) (fun b g o=>k (.hp b g o)) (fun b g o n e=>k (.hs b g o n e)) (fun b=>k (.mp b)) (fun f c _=>pLV c fun c=>k (.fn f c)) (fun c _=>pLV c fun c=>k (.agg c)) (fun c _=>pLV c fun c=>k (.tup c)) (fun c _=>pLV c fun c=>k (.box c)) (k .und) (k .dead) () (fun _ _ _ _=>())) v
theorem pV_eq (v:AV)(k:AV→β):pV v k=k v:=by
 unfold pV
 rw[pV0_eq]
 cases v
 case sl n cs=>exact pLV_eq cs fun cs=>k (.sl n cs)
 case fn f cs=>exact pLV_eq cs fun cs=>k (.fn f cs)
 case agg cs=>exact pLV_eq cs fun cs=>k (.agg cs)
 case tup cs=>exact pLV_eq cs fun cs=>k (.tup cs)
 case box cs=>exact pLV_eq cs fun cs=>k (.box cs)
 all_goals rfl
def pEs (l:List (AV×AV)):(List (AV×AV)→β)→β:=List.rec (motive:=fun _=>(List (AV×AV)→β)→β) (fun k=>k []) (fun a _ ih k=>pV a.1 fun x=>pV a.2 fun y=>go ih fun l=>go k ((x,y)::l)) l
theorem pEs_eq:∀(l:List (AV×AV)) (k:List (AV×AV)→β),pEs l k=k l
 | [],_=>rfl
 | (a,b)::l,k=>by
  show pV a (fun x=>pV b fun y=>pEs l fun l=>k ((x,y)::l))=_
  rw[pV_eq,pV_eq,pEs_eq l]
def pHB (x:HB)(k:HB→β):β:=HB.rec (motive:=fun _=>β) (k .hole) (fun cs=>pLV cs fun cs=>k (.cells cs)) (fun es=>pEs es fun es=>k (.map es)) x
theorem pHB_eq (x:HB)(k:HB→β):pHB x k=k x:=by
 cases x with
 | hole=>rfl
 | cells cs=>exact pLV_eq cs fun cs=>k (.cells cs)
 | map es=>exact pEs_eq es fun es=>k (.map es)
def pHp (l:Heap):(Heap→β)→β:=List.rec (motive:=fun _=>(Heap→β)→β) (fun k=>k []) (fun a _ ih k=>pHB a fun a=>go ih fun l=>go k (a::l)) l
theorem pHp_eq:∀(l:Heap) (k:Heap→β),pHp l k=k l
 | [],_=>rfl
 | a::l,k=>by
  show pHB a (fun a=>pHp l fun l=>k (a::l))=_
  rw[pHB_eq,pHp_eq l]
def pEnv (l:Env):(Env→β)→β:=List.rec (motive:=fun _=>(Env→β)→β) (fun k=>k []) (fun a _ ih k=>pN a.1 fun t=>pV a.2 fun v=>go ih fun l=>go k ((t,v)::l)) l
theorem pEnv_eq:∀(l:Env) (k:Env→β),pEnv l k=k l
 | [],_=>rfl
 | (t,v)::l,k=>by
  show pN t (fun t=>pV v fun v=>pEnv l fun l=>k ((t,v)::l))=_
  rw[pN_eq,pV_eq,pEnv_eq l]
end

def findR (env:Env)(t:Nat):AV:=List.rec (motive:=fun _=>AV) .dead (fun p _ ih=>Prod.rec (motive:=fun _=>AV) (fun s v=>Bool.rec (motive:=fun _=>AV) ih v (Nat.beq s t)) p) env
theorem findR_eq:∀(env:Env) (t:Nat),findR env t=find env t
 | [],_=>rfl
 | (t',v)::r,t=>by
  have ih:=findR_eq r t
  simp only[find]
  show Bool.rec (motive:=fun _=>AV) (findR r t) v (Nat.beq t' t)=_
  by_cases h:t'=t
  ·subst h
   rw[if_pos rfl,show Nat.beq t' t'=true from Nat.beq_refl t']
  ·rw[if_neg h,←ih]
   have:Nat.beq t' t=false:=by
    cases hb:Nat.beq t' t with
    | false=>rfl
    | true=>exact(h (Nat.eq_of_beq_eq_true hb)).elim
   rw[this]
def evK (t:Nat)(v:AV):(AV→R)→R:=(AV.rec (motive_1:=fun _=>(AV→R)→R) (motive_2:=fun _=>Unit) (fun v k=>k (.val v)) (fun k=>k .e0) (fun n cs _ k=>k (.sl n cs)) (fun cs o _ k=>k (.rop cs o)) (fun t o k=>k (.rp t o)) (fun b g o k=>k (.hp b g o)) (fun b g o n e k=>k (.hs b g o n e)) (fun b k=>k (.mp b)) (fun f c _ k=>k (.fn f c)) (fun c _ k=>k (.agg c)) (fun c _ k=>k (.tup c)) (fun _ _ k=>k (.rp t Nat.zero)) (fun k=>k .und) (fun k=>k .dead) () (fun _ _ _ _=>())) v
structure EV where
 run:Env→(AV→R)→R
def gO (x:AO):EV:=AO.rec (motive:=fun _=>EV) (fun t=>pN t fun t=>⟨fun env k=>evK t (findR env t) k⟩) (fun v=>pV v fun v=>⟨fun _ k=>k v⟩) x
theorem gO_eq (x:AO)(env:Env)(k:AV→R):(gO x).run env k=k (ev env x):=by
 cases x with
 | con v=>show (pV v fun v=>(⟨fun _ k=>k v⟩:EV)).run env k=_;rw[pV_eq];rfl
 | tmp t=>
  show (pN t fun t=>(⟨fun env k=>evK t (findR env t) k⟩:EV)).run env k=_
  rw[pN_eq]
  show evK t (findR env t) k=_
  rw[findR_eq]
  simp only[ev]
  cases find env t<;>rfl
def rawK (v:AV):(AV→R)→R:=(AV.rec (motive_1:=fun _=>(AV→R)→R) (motive_2:=fun _=>Unit) (fun v k=>k (.val v)) (fun k=>k .e0) (fun n cs _ k=>k (.sl n cs)) (fun cs o _ k=>k (.rop cs o)) (fun t o k=>k (.rp t o)) (fun b g o k=>k (.hp b g o)) (fun b g o n e k=>k (.hs b g o n e)) (fun b k=>k (.mp b)) (fun f c _ k=>k (.fn f c)) (fun c _ k=>k (.agg c)) (fun c _ k=>k (.tup c)) (fun c _ k=>k (.box c)) (fun k=>k .und) (fun k=>k .dead) () (fun _ _ _ _=>())) v
theorem rawK_eq (v:AV)(k:AV→R):rawK v k=k v:=by cases v<;>rfl
structure KG where
 run:Env→(Env→R)→R
def gKeep (l:List Nat):KG:=List.rec (motive:=fun _=>KG) ⟨fun _ k=>k []⟩ (fun t _ ih=>pN t fun t=>⟨fun env k=>rawK (findR env t) fun v=>ih.run env fun l=>k ((t,v)::l)⟩) l
theorem gKeep_eq:∀(l:List Nat) (env:Env) (k:Env→R),(gKeep l).run env k=k (restrict l env)
 | [],_,_=>rfl
 | t::l,env,k=>by
  show (pN t fun t=>(⟨fun env k=>rawK (findR env t) fun v=>(gKeep l).run env fun l=>k ((t,v)::l)⟩:KG)).run env k=_
  rw[pN_eq]
  show (rawK (findR env t) fun v=>(gKeep l).run env fun l=>k ((t,v)::l))=_
  rw[rawK_eq,gKeep_eq l,findR_eq];rfl

def vInt (v:Value):(IntKind→Int→R)→R:=(Value.rec (motive_1:=fun _=>(IntKind→Int→R)→R) (motive_2:=fun _=>Unit) (motive_3:=fun _=>Unit) (fun _=>fun _=>none) (fun q n k=>k q n) (fun _ _=>fun _=>none) (fun _ _ _=>fun _=>none) (fun _=>fun _=>none) (fun _=>fun _=>none) (fun _ _ _=>fun _=>none) (fun _=>fun _=>none) (fun _=>fun _=>none) (fun _ _ _ _ _=>fun _=>none) (fun _=>none) (fun _ _ _=>fun _=>none) (fun _=>none) (fun _ _=>fun _=>none) (fun _ _=>fun _=>none) (fun _ _=>()) () (fun _ _ _ _=>())) v
def aInt (v:AV):(IntKind→Int→R)→R:=(AV.rec (motive_1:=fun _=>(IntKind→Int→R)→R) (motive_2:=fun _=>Unit) (vInt) (fun _=>none) (fun _ _ _=>fun _=>none) (fun _ _ _=>fun _=>none) (fun _ _=>fun _=>none) (fun _ _ _=>fun _=>none) (fun _ _ _ _ _=>fun _=>none) (fun _=>fun _=>none) (fun _ _ _=>fun _=>none) (fun _ _=>fun _=>none) (fun _ _=>fun _=>none) (fun _ _=>fun _=>none) (fun _=>none) (fun _=>none) () (fun _ _ _ _=>())) v
theorem aInt_some {v:AV}{k:IntKind→Int→R}{r:AV×Heap}(h:aInt v k=some r):∃q n,v= .val (.int q n)∧k q n=some r:=by
 cases v<;>first | (cases h;done) | skip
 rename_i v
 cases v<;>first | (cases h;done) | skip
 exact⟨_,_,rfl,h⟩
def vBool (v:Value):(Bool→R)→R:=(Value.rec (motive_1:=fun _=>(Bool→R)→R) (motive_2:=fun _=>Unit) (motive_3:=fun _=>Unit) (fun b k=>k b) (fun _ _=>fun _=>none) (fun _ _=>fun _=>none) (fun _ _ _=>fun _=>none) (fun _=>fun _=>none) (fun _=>fun _=>none) (fun _ _ _=>fun _=>none) (fun _=>fun _=>none) (fun _=>fun _=>none) (fun _ _ _ _ _=>fun _=>none) (fun _=>none) (fun _ _ _=>fun _=>none) (fun _=>none) (fun _ _=>fun _=>none) (fun _ _=>fun _=>none) (fun _ _=>()) () (fun _ _ _ _=>())) v
def aBool (v:AV):(Bool→R)→R:=(AV.rec (motive_1:=fun _=>(Bool→R)→R) (motive_2:=fun _=>Unit) (vBool) (fun _=>none) (fun _ _ _=>fun _=>none) (fun _ _ _=>fun _=>none) (fun _ _=>fun _=>none) (fun _ _ _=>fun _=>none) (fun _ _ _ _ _=>fun _=>none) (fun _=>fun _=>none) (fun _ _ _=>fun _=>none) (fun _ _=>fun _=>none) (fun _ _=>fun _=>none) (fun _ _=>fun _=>none) (fun _=>none) (fun _=>none) () (fun _ _ _ _=>())) v
theorem aBool_some {v:AV}{k:Bool→R}{r:AV×Heap}(h:aBool v k=some r):∃b,v= .val (.bool b)∧k b=some r:=by
 cases v<;>first | (cases h;done) | skip
 rename_i v
 cases v<;>first | (cases h;done) | skip
 exact⟨_,rfl,h⟩
def vStr (v:Value):(ByteArray→R)→R:=(Value.rec (motive_1:=fun _=>(ByteArray→R)→R) (motive_2:=fun _=>Unit) (motive_3:=fun _=>Unit) (fun _=>fun _=>none) (fun _ _=>fun _=>none) (fun _ _=>fun _=>none) (fun _ _ _=>fun _=>none) (fun b k=>k b) (fun _=>fun _=>none) (fun _ _ _=>fun _=>none) (fun _=>fun _=>none) (fun _=>fun _=>none) (fun _ _ _ _ _=>fun _=>none) (fun _=>none) (fun _ _ _=>fun _=>none) (fun _=>none) (fun _ _=>fun _=>none) (fun _ _=>fun _=>none) (fun _ _=>()) () (fun _ _ _ _=>())) v
def aStr (v:AV):(ByteArray→R)→R:=(AV.rec (motive_1:=fun _=>(ByteArray→R)→R) (motive_2:=fun _=>Unit) (vStr) (fun _=>none) (fun _ _ _=>fun _=>none) (fun _ _ _=>fun _=>none) (fun _ _=>fun _=>none) (fun _ _ _=>fun _=>none) (fun _ _ _ _ _=>fun _=>none) (fun _=>fun _=>none) (fun _ _ _=>fun _=>none) (fun _ _=>fun _=>none) (fun _ _=>fun _=>none) (fun _ _=>fun _=>none) (fun _=>none) (fun _=>none) () (fun _ _ _ _=>())) v
theorem aStr_some {v:AV}{k:ByteArray→R}{r:AV×Heap}(h:aStr v k=some r):∃b,v= .val (.string b)∧k b=some r:=by
 cases v<;>first | (cases h;done) | skip
 rename_i v
 cases v<;>first | (cases h;done) | skip
 exact⟨_,rfl,h⟩
structure IG where
 run:Env→(IntKind→Int→R)→R
def gInt (x:AO):IG:=AO.rec (motive:=fun _=>IG) (fun t=>pN t fun t=>⟨fun env k=>aInt (findR env t) k⟩) (fun v=>pV v fun v=>⟨fun _ k=>aInt v k⟩) x
theorem gInt_some {x:AO}{env:Env}{k:IntKind→Int→R}{r:AV×Heap}(h:(gInt x).run env k=some r):∃q n,ev env x= .val (.int q n)∧k q n=some r:=by
 cases x with
 | con v=>
  have h:(pV v fun v=>(⟨fun _ k=>aInt v k⟩:IG)).run env k=some r:=h
  rw[pV_eq]at h
  exact aInt_some h
 | tmp t=>
  have h:(pN t fun t=>(⟨fun env k=>aInt (findR env t) k⟩:IG)).run env k=some r:=h
  rw[pN_eq]at h
  have h:aInt (findR env t) k=some r:=h
  rw[findR_eq]at h
  obtain⟨q,n,h1,h2⟩:=aInt_some h
  exact⟨q,n,by simp only[ev,h1],h2⟩
structure BG where
 run:Env→(Bool→R)→R
def gBool (x:AO):BG:=AO.rec (motive:=fun _=>BG) (fun t=>pN t fun t=>⟨fun env k=>aBool (findR env t) k⟩) (fun v=>pV v fun v=>⟨fun _ k=>aBool v k⟩) x
theorem gBool_some {x:AO}{env:Env}{k:Bool→R}{r:AV×Heap}(h:(gBool x).run env k=some r):∃b,ev env x= .val (.bool b)∧k b=some r:=by
 cases x with
 | con v=>
  have h:(pV v fun v=>(⟨fun _ k=>aBool v k⟩:BG)).run env k=some r:=h
  rw[pV_eq]at h
  exact aBool_some h
 | tmp t=>
  have h:(pN t fun t=>(⟨fun env k=>aBool (findR env t) k⟩:BG)).run env k=some r:=h
  rw[pN_eq]at h
  have h:aBool (findR env t) k=some r:=h
  rw[findR_eq]at h
  obtain⟨b,h1,h2⟩:=aBool_some h
  exact⟨b,by simp only[ev,h1],h2⟩

def kN (q:IntKind):Nat:=IntKind.rec (motive:=fun _=>Nat) 0 1 2 3 4 5 6 7 q
def kEq (q q':IntKind):Bool:=Nat.beq (kN q) (kN q')
theorem kEq_true {q q':IntKind}(h:kEq q q'=true):q=q':=by
 revert h;cases q<;>cases q'<;>first | (intro _;rfl) | (intro h;exact absurd h (by decide))
def maxP (q:IntKind):Nat:=IntKind.rec (motive:=fun _=>Nat) 127 32767 2147483647 9223372036854775807 255 65535 4294967295 18446744073709551615 q
def minP (q:IntKind):Nat:=IntKind.rec (motive:=fun _=>Nat) 128 32768 2147483648 9223372036854775808 0 0 0 0 q
theorem wrap_in (q:IntKind)(x:Int)(h1: -(minP q:Int)≤x)(h2:x≤(maxP q:Int)):q.wrap x=x:=by
 cases q
 all_goals (simp only[maxP,minP]at h1 h2;simp[IntKind.wrap,IntKind.signed,IntKind.bits];omega)
theorem wrap_pos (q:IntKind)(m:Nat)(h:Nat.ble m (maxP q)=true):q.wrap (Int.ofNat m)=Int.ofNat m:=by
 have h:=Nat.le_of_ble_eq_true h
 exact wrap_in q _ (by simp only[Int.ofNat_eq_natCast];omega) (by simp only[Int.ofNat_eq_natCast];omega)
theorem wrap_neg (q:IntKind)(m:Nat)(h:Nat.ble (Nat.succ m) (minP q)=true):q.wrap (Int.negSucc m)=Int.negSucc m:=by
 have h:=Nat.le_of_ble_eq_true h
 exact wrap_in q _ (by omega) (by omega)
def wrapK (q:IntKind)(c:Int):(Int→R)→R:=Int.rec (motive:=fun _=>(Int→R)→R) (fun m k=>Bool.rec (motive:=fun _=>R) (pI (q.wrap (Int.ofNat m)) k) (k (Int.ofNat m)) (Nat.ble m (maxP q))) (fun m k=>Bool.rec (motive:=fun _=>R) (pI (q.wrap (Int.negSucc m)) k) (k (Int.negSucc m)) (Nat.ble (Nat.succ m) (minP q))) c
theorem wrapK_eq (q:IntKind)(c:Int)(k:Int→R):wrapK q c k=k (q.wrap c):=by
 cases c with
 | ofNat m=>
  show Bool.rec (motive:=fun _=>R) (pI (q.wrap (Int.ofNat m)) k) (k (Int.ofNat m)) (Nat.ble m (maxP q))=_
  cases h:Nat.ble m (maxP q) with
  | true=>rw[wrap_pos q m h]
  | false=>exact pI_eq (q.wrap (Int.ofNat m)) k
 | negSucc m=>
  show Bool.rec (motive:=fun _=>R) (pI (q.wrap (Int.negSucc m)) k) (k (Int.negSucc m)) (Nat.ble (Nat.succ m) (minP q))=_
  cases h:Nat.ble (Nat.succ m) (minP q) with
  | true=>rw[wrap_neg q m h]
  | false=>exact pI_eq (q.wrap (Int.negSucc m)) k
def iAdd (a b:Int):(Int→R)→R:=Int.rec (motive:=fun _=>Int→(Int→R)→R) (fun m b k=>Int.rec (motive:=fun _=>R) (fun n=>pN (Nat.add m n) fun z=>k (Int.ofNat z)) (fun n=>pI (Int.ofNat m+Int.negSucc n) k) b) (fun m b k=>pI (Int.negSucc m+b) k) a b
theorem iAdd_eq (a b:Int)(k:Int→R):iAdd a b k=k (a+b):=by
 cases a with
 | ofNat m=>
  cases b with
  | ofNat n=>show pN (Nat.add m n) (fun z=>k (Int.ofNat z))=_;rw[pN_eq];rfl
  | negSucc n=>exact pI_eq (Int.ofNat m+Int.negSucc n) k
 | negSucc m=>exact pI_eq (Int.negSucc m+b) k
def iSub (a b:Int):(Int→R)→R:=Int.rec (motive:=fun _=>Int→(Int→R)→R) (fun m b k=>Int.rec (motive:=fun _=>R) (fun n=>Bool.rec (motive:=fun _=>R) (pI (Int.ofNat m-Int.ofNat n) k) (pN (Nat.sub m n) fun z=>k (Int.ofNat z)) (Nat.ble n m)) (fun n=>pI (Int.ofNat m-Int.negSucc n) k) b) (fun m b k=>pI (Int.negSucc m-b) k) a b
theorem iSub_eq (a b:Int)(k:Int→R):iSub a b k=k (a-b):=by
 cases a with
 | ofNat m=>
  cases b with
  | ofNat n=>
   show Bool.rec (motive:=fun _=>R) (pI (Int.ofNat m-Int.ofNat n) k) (pN (Nat.sub m n) fun z=>k (Int.ofNat z)) (Nat.ble n m)=_
   cases h:Nat.ble n m with
   | false=>exact pI_eq (Int.ofNat m-Int.ofNat n) k
   | true=>
    have h:=Nat.le_of_ble_eq_true h
    show pN (Nat.sub m n) (fun z=>k (Int.ofNat z))=_
    rw[pN_eq]
    congr 1
    exact Int.ofNat_sub h
  | negSucc n=>exact pI_eq (Int.ofNat m-Int.negSucc n) k
 | negSucc m=>exact pI_eq (Int.negSucc m-b) k
def iMul (a b:Int):(Int→R)→R:=Int.rec (motive:=fun _=>Int→(Int→R)→R) (fun m b k=>Int.rec (motive:=fun _=>R) (fun n=>pN (Nat.mul m n) fun z=>k (Int.ofNat z)) (fun n=>pI (Int.ofNat m*Int.negSucc n) k) b) (fun m b k=>pI (Int.negSucc m*b) k) a b
theorem iMul_eq (a b:Int)(k:Int→R):iMul a b k=k (a*b):=by
 cases a with
 | ofNat m=>
  cases b with
  | ofNat n=>show pN (Nat.mul m n) (fun z=>k (Int.ofNat z))=_;rw[pN_eq];rfl
  | negSucc n=>exact pI_eq (Int.ofNat m*Int.negSucc n) k
 | negSucc m=>exact pI_eq (Int.negSucc m*b) k
def iLt (a b:Int):Bool:=Int.rec (motive:=fun _=>Int→Bool) (fun m b=>Int.rec (motive:=fun _=>Bool) (fun n=>Nat.ble (Nat.succ m) n) (fun _=>false) b) (fun m b=>Int.rec (motive:=fun _=>Bool) (fun _=>true) (fun n=>Nat.ble (Nat.succ n) m) b) a b
theorem iLt_eq (a b:Int):iLt a b=decide (a<b):=by
 rw[Bool.eq_iff_iff,decide_eq_true_iff]
 cases a with
 | ofNat m=>
  cases b with
  | ofNat n=>show Nat.ble (Nat.succ m) n=true↔_;rw[Nat.ble_eq];simp only[Int.ofNat_eq_natCast];omega
  | negSucc n=>exact⟨fun h=>(by cases h),fun h=>(by simp only[Int.ofNat_eq_natCast]at h;omega)⟩
 | negSucc m=>
  cases b with
  | ofNat n=>exact⟨fun _=>(by simp only[Int.ofNat_eq_natCast];omega),fun _=>rfl⟩
  | negSucc n=>show Nat.ble (Nat.succ n) m=true↔_;rw[Nat.ble_eq];omega
def iEq (a b:Int):Bool:=Int.rec (motive:=fun _=>Int→Bool) (fun m b=>Int.rec (motive:=fun _=>Bool) (fun n=>Nat.beq m n) (fun _=>false) b) (fun m b=>Int.rec (motive:=fun _=>Bool) (fun _=>false) (fun n=>Nat.beq m n) b) a b
theorem iEq_eq (a b:Int):iEq a b=(a==b):=by
 rw[Bool.eq_iff_iff,beq_iff_eq]
 cases a with
 | ofNat m=>
  cases b with
  | ofNat n=>show Nat.beq m n=true↔_;rw[Nat.beq_eq];simp only[Int.ofNat_eq_natCast];omega
  | negSucc n=>exact⟨fun h=>(by cases h),fun h=>(by simp only[Int.ofNat_eq_natCast]at h;omega)⟩
 | negSucc m=>
  cases b with
  | ofNat n=>exact⟨fun h=>(by cases h),fun h=>(by simp only[Int.ofNat_eq_natCast]at h;omega)⟩
  | negSucc n=>show Nat.beq m n=true↔_;rw[Nat.beq_eq];omega
def bNot (b:Bool):Bool:=Bool.rec (motive:=fun _=>Bool) true false b
theorem bNot_eq (b:Bool):bNot b=!b:=by cases b<;>rfl

def iNe (a b:Int):Bool:=bNot (iEq a b)
theorem iNe_eq (a b:Int):iNe a b=(a != b):=by rw[iNe,bNot_eq,iEq_eq];rfl
def iLe (a b:Int):Bool:=bNot (iLt b a)
theorem iLe_eq (a b:Int):iLe a b=decide (a≤b):=by rw[iLe,bNot_eq,iLt_eq,Bool.eq_iff_iff];simp
def iGt (a b:Int):Bool:=iLt b a
theorem iGt_eq (a b:Int):iGt a b=decide (a > b):=iLt_eq b a
def iGe (a b:Int):Bool:=bNot (iLt a b)
theorem iGe_eq (a b:Int):iGe a b=decide (a≥b):=by rw[iGe,bNot_eq,iLt_eq,Bool.eq_iff_iff];simp

structure OG where
 run:IntKind→Int→IntKind→Int→(AV→R)→R
def arK (f:Int→Int→(Int→R)→R)(q:IntKind)(a:Int)(q':IntKind)(b:Int)(k:AV→R):R:=Bool.rec (motive:=fun _=>R) none (f a b fun c=>wrapK q c fun c=>k (.val (.int q c))) (kEq q q')
def cmK (f:Int→Int→Bool)(q:IntKind)(a:Int)(q':IntKind)(b:Int)(k:AV→R):R:=Bool.rec (motive:=fun _=>R) none (pB (f a b) fun c=>k (.val (.bool c))) (kEq q q')
def anyK (op:BinOp)(q:IntKind)(a:Int)(q':IntKind)(b:Int)(k:AV→R):R:=Option.rec (motive:=fun _=>R) none (fun v=>pV0 v k) (abin op q a q' b)
def gBin (op:BinOp):OG:=BinOp.rec (motive:=fun _=>OG) ⟨arK iAdd⟩ ⟨arK iSub⟩ ⟨arK iMul⟩ ⟨anyK .quo⟩ ⟨anyK .rem⟩ ⟨anyK .and⟩ ⟨anyK .or⟩ ⟨anyK .xor⟩ ⟨anyK .shl⟩ ⟨anyK .shr⟩ ⟨anyK .andNot⟩ ⟨cmK iEq⟩ ⟨cmK iNe⟩ ⟨cmK iLt⟩ ⟨cmK iLe⟩ ⟨cmK iGt⟩ ⟨cmK iGe⟩ op
theorem ar_some {f:Int→Int→(Int→R)→R}{g:Int→Int→Int}(hf:∀a b k,f a b k=k (g a b)){q q':IntKind}{a b:Int}{k:AV→R}{r:AV×Heap}(h:arK f q a q' b k=some r):q=q'∧k (.val (.int q (q.wrap (g a b))))=some r:=by
 unfold arK at h
 cases hk:kEq q q' with
 | false=>rw[hk]at h;cases h
 | true=>
  rw[hk]at h
  have h:(f a b fun c=>wrapK q c fun c=>k (.val (.int q c)))=some r:=h
  rw[hf,wrapK_eq]at h
  exact⟨kEq_true hk,h⟩
theorem cm_some {f g:Int→Int→Bool}(hf:∀a b,f a b=g a b){q q':IntKind}{a b:Int}{k:AV→R}{r:AV×Heap}(h:cmK f q a q' b k=some r):q=q'∧k (.val (.bool (g a b)))=some r:=by
 unfold cmK at h
 cases hk:kEq q q' with
 | false=>rw[hk]at h;cases h
 | true=>
  rw[hk]at h
  have h:(pB (f a b) fun c=>k (.val (.bool c)))=some r:=h
  rw[pB_eq,hf]at h
  exact⟨kEq_true hk,h⟩
theorem any_some {op:BinOp}{q q':IntKind}{a b:Int}{k:AV→R}{r:AV×Heap}(h:anyK op q a q' b k=some r):∃v,abin op q a q' b=some v∧k v=some r:=by
 unfold anyK at h
 cases hk:abin op q a q' b with
 | none=>rw[hk]at h;cases h
 | some v=>rw[hk]at h;exact⟨v,rfl,by rw[←pV0_eq v k];exact h⟩
theorem gBin_some {op:BinOp}{q q':IntKind}{a b:Int}{k:AV→R}{r:AV×Heap}(h:(gBin op).run q a q' b k=some r):∃v,abin op q a q' b=some v∧k v=some r:=by
 cases op
 case add=>obtain⟨e,h'⟩:=ar_some iAdd_eq h;subst e;exact⟨_,by simp[abin],h'⟩
 case sub=>obtain⟨e,h'⟩:=ar_some iSub_eq h;subst e;exact⟨_,by simp[abin],h'⟩
 case mul=>obtain⟨e,h'⟩:=ar_some iMul_eq h;subst e;exact⟨_,by simp[abin],h'⟩
 case eql=>obtain⟨e,h'⟩:=cm_some iEq_eq h;subst e;exact⟨_,by simp[abin],h'⟩
 case neq=>obtain⟨e,h'⟩:=cm_some iNe_eq h;subst e;exact⟨_,by simp[abin],h'⟩
 case lss=>obtain⟨e,h'⟩:=cm_some iLt_eq h;subst e;exact⟨_,by simp[abin],h'⟩
 case leq=>obtain⟨e,h'⟩:=cm_some iLe_eq h;subst e;exact⟨_,by simp[abin],h'⟩
 case gtr=>obtain⟨e,h'⟩:=cm_some iGt_eq h;subst e;exact⟨_,by simp[abin],h'⟩
 case geq=>obtain⟨e,h'⟩:=cm_some iGe_eq h;subst e;exact⟨_,by simp[abin],h'⟩
 all_goals exact any_some h
end
end Go.Hm

namespace Go.Hm
open Go
noncomputable section

theorem Sg_get' (l:List UInt8)(i:Nat):(⟨⟨l⟩⟩:ByteArray)[i]?=l[i]?:=by
 rw[getElem?_def,getElem?_def]
 rfl
def nthR {α:Type}(l:List α):Nat→(α→R)→R:=List.rec (motive:=fun _=>Nat→(α→R)→R) (fun _ _=>none) (fun a _ ih i k=>Nat.rec (motive:=fun _=>R) (k a) (fun j _=>go (ih j) k) i) l
theorem nthR_some {α:Type}:∀{l:List α} {i:Nat} {k:α→R} {r:AV×Heap},nthR l i k=some r→∃a,l[i]?=some a∧k a=some r
 | [],_,_,_,h=>by cases h
 | a::l,0,k,r,h=>⟨a,rfl,h⟩
 | a::l,i+1,k,r,h=>by
  have h:nthR l i k=some r:=h
  obtain⟨b,h1,h2⟩:=nthR_some h
  exact⟨b,by simpa using h1,h2⟩
def lenEq {α:Type}(l:List α):Nat→Bool:=List.rec (motive:=fun _=>Nat→Bool) (fun n=>Nat.rec (motive:=fun _=>Bool) true (fun _ _=>false) n) (fun _ _ ih n=>Nat.rec (motive:=fun _=>Bool) false (fun m _=>go ih m) n) l
theorem lenEq_true {α:Type}:∀{l:List α} {n:Nat},lenEq l n=true→l.length=n
 | [],0,_=>rfl
 | [],_+1,h=>by cases h
 | _::_,0,h=>by cases h
 | a::l,n+1,h=>by
  have h:lenEq l n=true:=h
  rw[List.length_cons,lenEq_true h]
def lenR {α:Type}(l:List α):(Nat→R)→R:=List.rec (motive:=fun _=>Nat→(Nat→R)→R) (fun n k=>k n) (fun _ _ ih n k=>pN n fun n=>ih (Nat.succ n) k) l Nat.zero
theorem lenR_eq {α:Type}(l:List α)(k:Nat→R):lenR l k=k l.length:=by
 have:∀(l:List α) (n:Nat),(List.rec (motive:=fun _=>Nat→(Nat→R)→R) (fun n k=>k n) (fun _ _ ih n k=>pN n fun n=>ih (Nat.succ n) k) l:Nat→(Nat→R)→R) n k=k (n+l.length):=by
  intro l
  induction l with
  | nil=>intro n;rfl
  | cons a l ih=>
   intro n
   show pN n (fun n=>(List.rec (motive:=fun _=>Nat→(Nat→R)→R) (fun n k=>k n) (fun _ _ ih n k=>pN n fun n=>ih (Nat.succ n) k) l:Nat→(Nat→R)→R) (Nat.succ n) k)=_
   rw[pN_eq,ih,List.length_cons]
   congr 1;omega
 have h:=this l 0
 rw[Nat.zero_add]at h
 exact h
def takR {α:Type}(l:List α):Nat→(List α→R)→R:=List.rec (motive:=fun _=>Nat→(List α→R)→R) (fun n k=>Nat.rec (motive:=fun _=>R) (k []) (fun _ _=>none) n) (fun a _ ih n k=>Nat.rec (motive:=fun _=>R) (k []) (fun m _=>go (ih m) fun l=>go k (a::l)) n) l
theorem takR_some {α:Type}:∀{l:List α} {n:Nat} {k:List α→R} {r:AV×Heap},takR l n k=some r→n≤l.length∧k (l.take n)=some r
 | [],0,k,r,h=>⟨Nat.le_refl _,h⟩
 | [],_+1,_,_,h=>by cases h
 | a::l,0,k,r,h=>⟨Nat.zero_le _,h⟩
 | a::l,n+1,k,r,h=>by
  have h:takR l n (fun l=>k (a::l))=some r:=h
  obtain⟨h1,h2⟩:=takR_some h
  exact⟨Nat.succ_le_succ h1,h2⟩
def dtR {α:Type}(l:List α):Nat→Nat→(List α→R)→R:=List.rec (motive:=fun _=>Nat→Nat→(List α→R)→R) (fun off n k=>Nat.rec (motive:=fun _=>R) (takR ([]:List α) n k) (fun _ _=>none) off) (fun a tl ih off n k=>Nat.rec (motive:=fun _=>R) (takR (a::tl) n k) (fun m _=>go (ih m n) k) off) l
theorem dtR_some {α:Type}:∀{l:List α} {off n:Nat} {k:List α→R} {r:AV×Heap},dtR l off n k=some r→off+n≤l.length∧k ((l.drop off).take n)=some r
 | [],0,n,k,r,h=>by
  have h:takR ([]:List α) n k=some r:=h
  obtain⟨h1,h2⟩:=takR_some h
  exact⟨by omega,h2⟩
 | [],_+1,_,_,_,h=>by cases h
 | a::l,0,n,k,r,h=>by
  have h:takR (a::l) n k=some r:=h
  obtain⟨h1,h2⟩:=takR_some h
  exact⟨by omega,h2⟩
 | a::l,off+1,n,k,r,h=>by
  have h:dtR l off n k=some r:=h
  obtain⟨h1,h2⟩:=dtR_some h
  exact⟨by simp only[List.length_cons];omega,h2⟩
def ovR (new:List AV):List AV→(List AV→R)→R:=List.rec (motive:=fun _=>List AV→(List AV→R)→R) (fun cs k=>k cs) (fun a _ ih cs k=>List.rec (motive:=fun _=>R) none (fun _ tl _=>go (ih tl) fun l=>go k (a::l)) cs) new
theorem ovR_some:∀{new cs:List AV} {k:List AV→R} {r:AV×Heap},ovR new cs k=some r→new.length≤cs.length∧k (new++cs.drop new.length)=some r
 | [],cs,k,r,h=>⟨Nat.zero_le _,h⟩
 | a::new,[],k,r,h=>by cases h
 | a::new,c::cs,k,r,h=>by
  have h:ovR new cs (fun l=>k (a::l))=some r:=h
  obtain⟨h1,h2⟩:=ovR_some h
  exact⟨Nat.succ_le_succ h1,h2⟩
def repR (cs:List AV):Nat→List AV→(List AV→R)→R:=List.rec (motive:=fun _=>Nat→List AV→(List AV→R)→R) (fun off new k=>Nat.rec (motive:=fun _=>R) (ovR new [] k) (fun _ _=>none) off) (fun c tl ih off new k=>Nat.rec (motive:=fun _=>R) (ovR new (c::tl) k) (fun j _=>go (ih j new) fun l=>go k (c::l)) off) cs
theorem repR_some:∀{cs:List AV} {off:Nat} {new:List AV} {k:List AV→R} {r:AV×Heap},repR cs off new k=some r→off+new.length≤cs.length∧k (replaceAt cs off new)=some r
 | [],0,new,k,r,h=>by
  have h:ovR new [] k=some r:=h
  obtain⟨h1,h2⟩:=ovR_some h
  exact⟨by omega,by simpa[replaceAt] using h2⟩
 | [],_+1,_,_,_,h=>by cases h
 | c::cs,0,new,k,r,h=>by
  have h:ovR new (c::cs) k=some r:=h
  obtain⟨h1,h2⟩:=ovR_some h
  exact⟨by omega,by simpa[replaceAt] using h2⟩
 | c::cs,off+1,new,k,r,h=>by
  have h:repR cs off new (fun l=>k (c::l))=some r:=h
  obtain⟨h1,h2⟩:=repR_some h
  refine⟨by simp only[List.length_cons];omega,?_⟩
  rw[←h2]
  simp only[replaceAt,List.take_succ_cons,List.cons_append]
  rw[show off+1+new.length=(off+new.length)+1 by omega,List.drop_succ_cons]
def appR (cs:List AV):Nat→List AV→(List AV→R)→R:=List.rec (motive:=fun _=>Nat→List AV→(List AV→R)→R) (fun g new k=>Nat.rec (motive:=fun _=>R) (k new) (fun _ _=>none) g) (fun c _ ih g new k=>Nat.rec (motive:=fun _=>R) none (fun j _=>go (ih j new) fun l=>go k (c::l)) g) cs
theorem appR_some:∀{cs:List AV} {g:Nat} {new:List AV} {k:List AV→R} {r:AV×Heap},appR cs g new k=some r→cs.length=g∧k (cs++new)=some r
 | [],0,new,k,r,h=>⟨rfl,h⟩
 | [],_+1,_,_,_,h=>by cases h
 | c::cs,0,new,k,r,h=>by cases h
 | c::cs,g+1,new,k,r,h=>by
  have h:appR cs g new (fun l=>k (c::l))=some r:=h
  obtain⟨h1,h2⟩:=appR_some h
  exact⟨by rw[List.length_cons,h1],h2⟩
def setR {α:Type}(l:List α):Nat→α→(List α→R)→R:=List.rec (motive:=fun _=>Nat→α→(List α→R)→R) (fun _ _ _=>none) (fun a tl ih i x k=>Nat.rec (motive:=fun _=>R) (k (x::tl)) (fun j _=>go (ih j x) fun l=>go k (a::l)) i) l
theorem setR_some {α:Type}:∀{l:List α} {i:Nat} {x:α} {k:List α→R} {r:AV×Heap},setR l i x k=some r→i<l.length∧k (l.set i x)=some r
 | [],_,_,_,_,h=>by cases h
 | a::l,0,x,k,r,h=>⟨Nat.zero_lt_succ _,h⟩
 | a::l,i+1,x,k,r,h=>by
  have h:setR l i x (fun l=>k (a::l))=some r:=h
  obtain⟨h1,h2⟩:=setR_some h
  exact⟨Nat.succ_lt_succ h1,h2⟩
def setAtR (env:Env):Nat→AV→(Env→R)→R:=List.rec (motive:=fun _=>Nat→AV→(Env→R)→R) (fun _ _ k=>k []) (fun p tl ih t v k=>Prod.rec (motive:=fun _=>R) (fun t' v'=>Bool.rec (motive:=fun _=>R) (go (ih t v) fun l=>go k ((t',v')::l)) (k ((t,v)::tl)) (Nat.beq t' t)) p) env
theorem setAtR_eq:∀(env:Env) (t:Nat) (v:AV) (k:Env→R),setAtR env t v k=k (setAt env t v)
 | [],_,_,_=>rfl
 | (t',v')::r,t,v,k=>by
  have ih:=setAtR_eq r t v
  simp only[setAt]
  show Bool.rec (motive:=fun _=>R) (setAtR r t v fun l=>k ((t',v')::l)) (k ((t,v)::r)) (Nat.beq t' t)=_
  by_cases h:t'=t
  ·subst h
   rw[if_pos rfl,show Nat.beq t' t'=true from Nat.beq_refl t']
  ·rw[if_neg h]
   have:Nat.beq t' t=false:=by
    cases hb:Nat.beq t' t with
    | false=>rfl
    | true=>exact(h (Nat.eq_of_beq_eq_true hb)).elim
   rw[this]
   exact ih _

def aBox (v:AV):(List AV→R)→R:=(AV.rec (motive_1:=fun _=>(List AV→R)→R) (motive_2:=fun _=>Unit) (fun _=>fun _=>none) (fun _=>none) (fun _ _ _=>fun _=>none) (fun _ _ _=>fun _=>none) (fun _ _=>fun _=>none) (fun _ _ _=>fun _=>none) (fun _ _ _ _ _=>fun _=>none) (fun _=>fun _=>none) (fun _ _ _=>fun _=>none) (fun _ _=>fun _=>none) (fun _ _=>fun _=>none) (fun c _ k=>k c) (fun _=>none) (fun _=>none) () (fun _ _ _ _=>())) v
theorem aBox_some {v:AV}{k:List AV→R}{r:AV×Heap}(h:aBox v k=some r):∃c,v= .box c∧k c=some r:=by
 cases v<;>first | (cases h;done) | exact⟨_,rfl,h⟩
def aAgg (v:AV):(List AV→R)→R:=(AV.rec (motive_1:=fun _=>(List AV→R)→R) (motive_2:=fun _=>Unit) (fun _=>fun _=>none) (fun _=>none) (fun _ _ _=>fun _=>none) (fun _ _ _=>fun _=>none) (fun _ _=>fun _=>none) (fun _ _ _=>fun _=>none) (fun _ _ _ _ _=>fun _=>none) (fun _=>fun _=>none) (fun _ _ _=>fun _=>none) (fun c _ k=>k c) (fun _ _=>fun _=>none) (fun _ _=>fun _=>none) (fun _=>none) (fun _=>none) () (fun _ _ _ _=>())) v
theorem aAgg_some {v:AV}{k:List AV→R}{r:AV×Heap}(h:aAgg v k=some r):∃c,v= .agg c∧k c=some r:=by
 cases v<;>first | (cases h;done) | exact⟨_,rfl,h⟩
def aTup (v:AV):(List AV→R)→R:=(AV.rec (motive_1:=fun _=>(List AV→R)→R) (motive_2:=fun _=>Unit) (fun _=>fun _=>none) (fun _=>none) (fun _ _ _=>fun _=>none) (fun _ _ _=>fun _=>none) (fun _ _=>fun _=>none) (fun _ _ _=>fun _=>none) (fun _ _ _ _ _=>fun _=>none) (fun _=>fun _=>none) (fun _ _ _=>fun _=>none) (fun _ _=>fun _=>none) (fun c _ k=>k c) (fun _ _=>fun _=>none) (fun _=>none) (fun _=>none) () (fun _ _ _ _=>())) v
theorem aTup_some {v:AV}{k:List AV→R}{r:AV×Heap}(h:aTup v k=some r):∃c,v= .tup c∧k c=some r:=by
 cases v<;>first | (cases h;done) | exact⟨_,rfl,h⟩
def aRp (v:AV):(Nat→Nat→R)→R:=(AV.rec (motive_1:=fun _=>(Nat→Nat→R)→R) (motive_2:=fun _=>Unit) (fun _=>fun _=>none) (fun _=>none) (fun _ _ _=>fun _=>none) (fun _ _ _=>fun _=>none) (fun t o k=>k t o) (fun _ _ _=>fun _=>none) (fun _ _ _ _ _=>fun _=>none) (fun _=>fun _=>none) (fun _ _ _=>fun _=>none) (fun _ _=>fun _=>none) (fun _ _=>fun _=>none) (fun _ _=>fun _=>none) (fun _=>none) (fun _=>none) () (fun _ _ _ _=>())) v
theorem aRp_some {v:AV}{k:Nat→Nat→R}{r:AV×Heap}(h:aRp v k=some r):∃t o,v= .rp t o∧k t o=some r:=by
 cases v<;>first | (cases h;done) | exact⟨_,_,rfl,h⟩
def hCells (x:HB)(k:List AV→R):R:=HB.rec (motive:=fun _=>R) none k (fun _=>none) x
theorem hCells_some {x:HB}{k:List AV→R}{r:AV×Heap}(h:hCells x k=some r):∃cs,x= .cells cs∧k cs=some r:=by
 cases x<;>first | (cases h;done) | exact⟨_,rfl,h⟩
def bIf (b:Bool)(r:R):R:=Bool.rec (motive:=fun _=>R) none r b
theorem bIf_some {b:Bool}{x:R}{r:AV×Heap}(h:bIf b x=some r):b=true∧x=some r:=by
 cases b
 ·cases h
 ·exact⟨rfl,h⟩
def ptrL (t:Nat)(env:Env)(v:AV)(k:List AV→Nat→R):R:=aRp v fun t' off=>bIf (Nat.beq t' t) (aBox (findR env t) fun cs=>k cs off)
def ptrH (H:Heap)(v:AV):(List AV→Nat→R)→R:=(AV.rec (motive_1:=fun _=>(List AV→Nat→R)→R) (motive_2:=fun _=>Unit) (fun _=>fun _=>none) (fun _=>none) (fun _ _ _=>fun _=>none) (fun cs o _ k=>k cs o) (fun _ _=>fun _=>none) (fun b g o k=>nthR H b fun x=>hCells x fun cs=>bIf (lenEq cs g) (k cs o)) (fun _ _ _ _ _=>fun _=>none) (fun _=>fun _=>none) (fun _ _ _=>fun _=>none) (fun _ _=>fun _=>none) (fun _ _=>fun _=>none) (fun _ _=>fun _=>none) (fun _=>none) (fun _=>none) () (fun _ _ _ _=>())) v
theorem ptrL_some {t:Nat}{env:Env}{H:Heap}{v:AV}{k:List AV→Nat→R}{r:AV×Heap}(h:ptrL t env v k=some r):∃cs o,ptrCells (some t) env H v=some (cs,o)∧k cs o=some r:=by
 obtain⟨t',off,rfl,h⟩:=aRp_some h
 obtain⟨h1,h⟩:=bIf_some h
 obtain⟨cs,h2,h3⟩:=aBox_some h
 have h1:=Nat.eq_of_beq_eq_true h1
 subst h1
 rw[findR_eq]at h2
 exact⟨cs,off,by simp only[ptrCells,if_true,h2],h3⟩
theorem ptrH_some {env:Env}{H:Heap}{v:AV}{k:List AV→Nat→R}{r:AV×Heap}(h:ptrH H v k=some r):∃cs o,ptrCells none env H v=some (cs,o)∧k cs o=some r:=by
 cases v<;>first | (cases h;done) | exact⟨_,_,rfl,h⟩ | skip
 rename_i b g o
 have h:(nthR H b fun x=>hCells x fun cs=>bIf (lenEq cs g) (k cs o))=some r:=h
 obtain⟨x,h1,h⟩:=nthR_some h
 obtain⟨cs,rfl,h⟩:=hCells_some h
 obtain⟨h2,h⟩:=bIf_some h
 exact⟨cs,o,by simp only[ptrCells,h1];rw[if_pos (lenEq_true h2)],h⟩
structure TG where
 run:Env→Heap→AV→(List AV→Nat→R)→R
def gPtr (l:Option Nat):TG:=Option.rec (motive:=fun _=>TG) ⟨fun _ H v k=>ptrH H v k⟩ (fun t=>pN t fun t=>⟨fun env _ v k=>ptrL t env v k⟩) l
theorem gPtr_some {l:Option Nat}{env:Env}{H:Heap}{v:AV}{k:List AV→Nat→R}{r:AV×Heap}(h:(gPtr l).run env H v k=some r):∃cs o,ptrCells l env H v=some (cs,o)∧k cs o=some r:=by
 cases l with
 | none=>exact ptrH_some h
 | some t=>
  have h:(pN t fun t=>(⟨fun env _ v k=>ptrL t env v k⟩:TG)).run env H v k=some r:=h
  rw[pN_eq]at h
  exact ptrL_some h
def oneR (v:AV):(AV→R)→R:=(AV.rec (motive_1:=fun _=>(AV→R)→R) (motive_2:=fun _=>Unit) (fun v k=>k (.val v)) (fun k=>k .e0) (fun n cs _ k=>k (.sl n cs)) (fun cs o _ k=>k (.rop cs o)) (fun _ _ _=>none) (fun b g o k=>k (.hp b g o)) (fun b g o n e k=>k (.hs b g o n e)) (fun b k=>k (.mp b)) (fun f c _ k=>k (.fn f c)) (fun _ _ _=>none) (fun _ _ _=>none) (fun _ _ _=>none) (fun _=>none) (fun _=>none) () (fun _ _ _ _=>())) v
theorem oneR_some {v:AV}{k:AV→R}{r:AV×Heap}(h:oneR v k=some r):one v=true∧k v=some r:=by
 cases v<;>first | (cases h;done) | exact⟨rfl,h⟩

structure PG where
 run:Env→Heap→(AV→R)→R
def pAny (op:AOp)(env:Env)(H:Heap)(k:AV→R):R:=Option.rec (motive:=fun _=>R) none (fun v=>pV v k) (rdOp op env H)
def pMv (x:EV)(env:Env)(_:Heap)(k:AV→R):R:=x.run env k
def pBini (o:OG)(x y:IG)(env:Env)(_:Heap)(k:AV→R):R:=x.run env fun q a=>y.run env fun q' b=>o.run q a q' b k
def pLd1 (p:TG)(a:EV)(env:Env)(H:Heap)(k:AV→R):R:=a.run env fun v=>p.run env H v fun cs o=>nthR cs o fun v=>oneR v k
def pLdA (p:TG)(n:Nat)(a:EV)(env:Env)(H:Heap)(k:AV→R):R:=a.run env fun v=>p.run env H v fun cs o=>dtR cs o n fun l=>k (.agg l)
def fldaK (off:Nat)(v:AV):(AV→R)→R:=(AV.rec (motive_1:=fun _=>(AV→R)→R) (motive_2:=fun _=>Unit) (fun _=>fun _=>none) (fun _=>none) (fun _ _ _=>fun _=>none) (fun cs o _ k=>pN (Nat.add o off) fun o=>k (.rop cs o)) (fun t o k=>pN (Nat.add o off) fun o=>k (.rp t o)) (fun b g o k=>pN (Nat.add o off) fun o=>k (.hp b g o)) (fun _ _ _ _ _=>fun _=>none) (fun _=>fun _=>none) (fun _ _ _=>fun _=>none) (fun _ _=>fun _=>none) (fun _ _=>fun _=>none) (fun _ _=>fun _=>none) (fun _=>none) (fun _=>none) () (fun _ _ _ _=>())) v
def pFldA (off:Nat)(x:EV)(env:Env)(_:Heap)(k:AV→R):R:=x.run env fun v=>fldaK off v k
def pFld1 (off:Nat)(x:EV)(env:Env)(_:Heap)(k:AV→R):R:=x.run env fun v=>aAgg v fun cs=>nthR cs off k
def pFldN (off n:Nat)(x:EV)(env:Env)(_:Heap)(k:AV→R):R:=x.run env fun v=>aAgg v fun cs=>dtR cs off n fun l=>k (.agg l)
def iPos (i:Int):(Nat→R)→R:=Int.rec (motive:=fun _=>(Nat→R)→R) (fun m k=>k m) (fun _ _=>none) i
def ixaK (es:Nat)(i:Nat)(v:AV):(AV→R)→R:=(AV.rec (motive_1:=fun _=>(AV→R)→R) (motive_2:=fun _=>Unit) (fun _=>fun _=>none) (fun _=>none) (fun n cs _ k=>bIf (Nat.ble (Nat.succ i) n) (pN (Nat.mul i es) fun o=>k (.rop cs o))) (fun _ _ _=>fun _=>none) (fun _ _=>fun _=>none) (fun _ _ _=>fun _=>none) (fun b g off n _ k=>bIf (Nat.ble (Nat.succ i) n) (pN (Nat.add off (Nat.mul i es)) fun o=>k (.hp b g o))) (fun _=>fun _=>none) (fun _ _ _=>fun _=>none) (fun _ _=>fun _=>none) (fun _ _=>fun _=>none) (fun _ _=>fun _=>none) (fun _=>none) (fun _=>none) () (fun _ _ _ _=>())) v
def pIxA (es:Nat)(x:EV)(i:IG)(env:Env)(_:Heap)(k:AV→R):R:=i.run env fun _ i=>iPos i fun i=>x.run env fun v=>ixaK es i v k
def ixrK (es:Nat)(i:Nat)(v:AV):(AV→R)→R:=(AV.rec (motive_1:=fun _=>(AV→R)→R) (motive_2:=fun _=>Unit) (fun _=>fun _=>none) (fun _=>none) (fun _ _ _=>fun _=>none) (fun cs o _ k=>pN (Nat.add o (Nat.mul i es)) fun o=>k (.rop cs o)) (fun t o k=>pN (Nat.add o (Nat.mul i es)) fun o=>k (.rp t o)) (fun b g o k=>pN (Nat.add o (Nat.mul i es)) fun o=>k (.hp b g o)) (fun _ _ _ _ _=>fun _=>none) (fun _=>fun _=>none) (fun _ _ _=>fun _=>none) (fun _ _=>fun _=>none) (fun _ _=>fun _=>none) (fun _ _=>fun _=>none) (fun _=>none) (fun _=>none) () (fun _ _ _ _=>())) v
def pIxR (len es:Nat)(x:EV)(i:IG)(env:Env)(_:Heap)(k:AV→R):R:=i.run env fun _ i=>iPos i fun i=>bIf (Nat.ble (Nat.succ i) len) (x.run env fun v=>ixrK es i v k)
def pIxS (x:EV)(i:IG)(env:Env)(_:Heap)(k:AV→R):R:=i.run env fun _ i=>iPos i fun i=>x.run env fun v=>aStr v fun s=>nthR s.data.toList i fun b=>pN b.toNat fun n=>k (.val (.int .u8 (Int.ofNat n)))
def lenK' (v:AV):(AV→R)→R:=(AV.rec (motive_1:=fun _=>(AV→R)→R) (motive_2:=fun _=>Unit) (fun _=>fun _=>none) (fun k=>k (.val (.int .i64 (Int.ofNat Nat.zero)))) (fun n _ _ k=>k (.val (.int .i64 (Int.ofNat n)))) (fun _ _ _=>fun _=>none) (fun _ _=>fun _=>none) (fun _ _ _=>fun _=>none) (fun _ _ _ n _ k=>k (.val (.int .i64 (Int.ofNat n)))) (fun _=>fun _=>none) (fun _ _ _=>fun _=>none) (fun _ _=>fun _=>none) (fun _ _=>fun _=>none) (fun _ _=>fun _=>none) (fun _=>none) (fun _=>none) () (fun _ _ _ _=>())) v
def pLenS (x:EV)(env:Env)(_:Heap)(k:AV→R):R:=x.run env fun v=>lenK' v k
def pLenT (x:EV)(env:Env)(_:Heap)(k:AV→R):R:=x.run env fun v=>aStr v fun s=>lenR s.data.toList fun n=>k (.val (.int .i64 (Int.ofNat n)))
def pNot (x:BG)(env:Env)(_:Heap)(k:AV→R):R:=x.run env fun b=>k (.val (.bool (bNot b)))
def pCvi (q:IntKind)(x:IG)(env:Env)(_:Heap)(k:AV→R):R:=x.run env fun _ n=>wrapK q n fun n=>k (.val (.int q n))
def pExt (i:Nat)(x:EV)(env:Env)(_:Heap)(k:AV→R):R:=x.run env fun v=>aTup v fun l=>nthR l i k
def nilcK (v:AV):(AV→R)→R:=(AV.rec (motive_1:=fun _=>(AV→R)→R) (motive_2:=fun _=>Unit) (fun _=>fun _=>none) (fun _=>none) (fun _ _ _=>fun _=>none) (fun cs o _ k=>k (.rop cs o)) (fun t o k=>k (.rp t o)) (fun b g o k=>k (.hp b g o)) (fun _ _ _ _ _=>fun _=>none) (fun _=>fun _=>none) (fun f c _ k=>k (.fn f c)) (fun _ _=>fun _=>none) (fun _ _=>fun _=>none) (fun _ _=>fun _=>none) (fun _=>none) (fun _=>none) () (fun _ _ _ _=>())) v
def pNilc (x:EV)(env:Env)(_:Heap)(k:AV→R):R:=x.run env fun v=>nilcK v k
def pBox (z:List AV)(_:Env)(_:Heap)(k:AV→R):R:=k (.box z)
def pPick (c:BG)(a b:EV)(env:Env)(_:Heap)(k:AV→R):R:=c.run env fun t=>Bool.rec (motive:=fun _=>R) (b.run env k) (a.run env k) t
def celK (v:AV):(List AV→R)→R:=(AV.rec (motive_1:=fun _=>(List AV→R)→R) (motive_2:=fun _=>Unit) (fun v k=>k [.val v]) (fun k=>k [.e0]) (fun n cs _ k=>k [.sl n cs]) (fun cs o _ k=>k [.rop cs o]) (fun _ _ _=>none) (fun b g o k=>k [.hp b g o]) (fun b g o n e k=>k [.hs b g o n e]) (fun b k=>k [.mp b]) (fun f c _ k=>k [.fn f c]) (fun c _ k=>k c) (fun _ _ _=>none) (fun _ _ _=>none) (fun _=>none) (fun _=>none) () (fun _ _ _ _=>())) v
theorem celK_some {v:AV}{k:List AV→R}{r:AV×Heap}(h:celK v k=some r):∃cs,cellsV v=some cs∧k cs=some r:=by
 cases v<;>first | (cases h;done) | exact⟨_,rfl,h⟩
def pBoxR (n:Nat)(x:EV)(env:Env)(_:Heap)(k:AV→R):R:=x.run env fun v=>celK v fun cs=>bIf (lenEq cs n) (k (.box cs))
structure FP where
 run:Env→List AV→(List AV→R)→R
def fiK (off n:Nat)(x:EV)(r:FP)(env:Env)(z:List AV)(k:List AV→R):R:=x.run env fun v=>celK v fun cs=>bIf (lenEq cs n) (repR z off cs fun z=>r.run env z k)
def gFill (l:List (Nat×Nat×AO)):FP:=List.rec (motive:=fun _=>FP) ⟨fun _ z k=>k z⟩ (fun p _ ih=>pN p.1 fun off=>pN p.2.1 fun n=>⟨fiK off n (gO p.2.2) ih⟩) l
theorem gFill_some:∀{l:List (Nat×Nat×AO)} {env:Env} {z:List AV} {k:List AV→R} {r:AV×Heap},(gFill l).run env z k=some r→∃cs,fillP env l z=some cs∧k cs=some r
 | [],_,z,_,_,h=>⟨z,rfl,h⟩
 | (off,n,x)::l,env,z,k,r,h=>by
  have h:(pN off fun off=>pN n fun n=>(⟨fiK off n (gO x) (gFill l)⟩:FP)).run env z k=some r:=h
  rw[pN_eq,pN_eq]at h
  have h:(gO x).run env (fun v=>celK v fun cs=>bIf (lenEq cs n) (repR z off cs fun z=>(gFill l).run env z k))=some r:=h
  rw[gO_eq]at h
  obtain⟨cs,h1,h⟩:=celK_some h
  obtain⟨h2,h⟩:=bIf_some h
  obtain⟨h3,h⟩:=repR_some h
  obtain⟨o,h4,h⟩:=gFill_some h
  have h2:=lenEq_true h2
  refine⟨o,?_,h⟩
  simp only[fillP,h1]
  rw[if_pos ⟨h2,by omega⟩]
  exact h4
def pBuild (z:List AV)(p:FP)(env:Env)(_:Heap)(k:AV→R):R:=p.run env z fun cs=>k (.agg cs)

def gP (op:AOp):PG:=match op with
 | .mv x=>⟨pMv (gO x)⟩
 | .bini o x y=>⟨pBini (gBin o) (gInt x) (gInt y)⟩
 | .ld1 l a=>⟨pLd1 (gPtr l) (gO a)⟩
 | .ldA l n a=>pN n fun n=>⟨pLdA (gPtr l) n (gO a)⟩
 | .fldA off x=>pN off fun off=>⟨pFldA off (gO x)⟩
 | .fld off n isAgg x=>pN off fun off=>pN n fun n=>match isAgg with
  | true=>⟨pFldN off n (gO x)⟩
  | false=>⟨pFld1 off (gO x)⟩
 | .ixA es x i=>pN es fun es=>⟨pIxA es (gO x) (gInt i)⟩
 | .ixR len es a i=>pN len fun len=>pN es fun es=>⟨pIxR len es (gO a) (gInt i)⟩
 | .ixS x i=>⟨pIxS (gO x) (gInt i)⟩
 | .len true x=>⟨pLenT (gO x)⟩
 | .len false x=>⟨pLenS (gO x)⟩
 | .not x=>⟨pNot (gBool x)⟩
 | .cvi q x=>⟨pCvi q (gInt x)⟩
 | .ext x i=>pN i fun i=>⟨pExt i (gO x)⟩
 | .nilc x=>⟨pNilc (gO x)⟩
 | .allocR z=>pLV z fun z=>⟨pBox z⟩
 | .pick c a b=>⟨pPick (gBool c) (gO a) (gO b)⟩
 | .boxR n x=>pN n fun n=>⟨pBoxR n (gO x)⟩
 | .build z l=>pLV z fun z=>⟨pBuild z (gFill l)⟩
 | op=>⟨pAny op⟩
theorem pAny_some {op:AOp}{env:Env}{H:Heap}{k:AV→R}{r:AV×Heap}(h:pAny op env H k=some r):∃v,rdOp op env H=some v∧k v=some r:=by
 unfold pAny at h
 cases hk:rdOp op env H with
 | none=>rw[hk]at h;cases h
 | some v=>rw[hk]at h;exact⟨v,rfl,by rw[←pV_eq v k];exact h⟩
theorem iPos_some {i:Int}{k:Nat→R}{r:AV×Heap}(h:iPos i k=some r):∃m:Nat,i=m∧k m=some r:=by
 cases i with
 | ofNat m=>exact⟨m,rfl,h⟩
 | negSucc m=>cases h
theorem gP_some {op:AOp}{env:Env}{H:Heap}{k:AV→R}{r:AV×Heap}(h:(gP op).run env H k=some r):∃v,rdOp op env H=some v∧k v=some r:=by
 unfold gP at h
 split at h
 case h_1 x=>
  have h:(gO x).run env k=some r:=h
  rw[gO_eq]at h;exact⟨_,rfl,h⟩
 case h_2 o x y=>
  have h:(gInt x).run env (fun q a=>(gInt y).run env fun q' b=>(gBin o).run q a q' b k)=some r:=h
  obtain⟨q,a,h1,h⟩:=gInt_some h
  obtain⟨q',b,h2,h⟩:=gInt_some h
  obtain⟨v,h3,h⟩:=gBin_some h
  exact⟨v,by simp only[rdOp,h1,h2,h3],h⟩
 case h_3 l a=>
  have h:(gO a).run env (fun v=>(gPtr l).run env H v fun cs o=>nthR cs o fun v=>oneR v k)=some r:=h
  rw[gO_eq]at h
  obtain⟨cs,o,h1,h⟩:=gPtr_some h
  obtain⟨v,h2,h⟩:=nthR_some h
  obtain⟨h3,h⟩:=oneR_some h
  exact⟨v,by simp only[rdOp,h1,h2,h3,if_true],h⟩
 case h_4 l n a=>
  rw[pN_eq]at h
  have h:(gO a).run env (fun v=>(gPtr l).run env H v fun cs o=>dtR cs o n fun l=>k (.agg l))=some r:=h
  rw[gO_eq]at h
  obtain⟨cs,o,h1,h⟩:=gPtr_some h
  obtain⟨h2,h⟩:=dtR_some h
  exact⟨_,by simp only[rdOp,h1];rw[if_pos h2],h⟩
 case h_5 off x=>
  rw[pN_eq]at h
  have h:(gO x).run env (fun v=>fldaK off v k)=some r:=h
  rw[gO_eq]at h
  simp only[rdOp]
  generalize ev env x=v at h
  cases v<;>first | (cases h;done) | skip
  ·rename_i cs o
   have h:pN (Nat.add o off) (fun o=>k (.rop cs o))=some r:=h
   rw[pN_eq]at h;exact⟨_,rfl,h⟩
  ·rename_i t o
   have h:pN (Nat.add o off) (fun o=>k (.rp t o))=some r:=h
   rw[pN_eq]at h;exact⟨_,rfl,h⟩
  ·rename_i b g o
   have h:pN (Nat.add o off) (fun o=>k (.hp b g o))=some r:=h
   rw[pN_eq]at h;exact⟨_,rfl,h⟩
 case h_6 off n isAgg x=>
  rw[pN_eq,pN_eq]at h
  cases isAgg with
  | true=>
   have h:(gO x).run env (fun v=>aAgg v fun cs=>dtR cs off n fun l=>k (.agg l))=some r:=h
   rw[gO_eq]at h
   obtain⟨cs,h1,h⟩:=aAgg_some h
   obtain⟨h2,h⟩:=dtR_some h
   exact⟨_,by simp only[rdOp,h1,if_true];rw[if_pos h2],h⟩
  | false=>
   have h:(gO x).run env (fun v=>aAgg v fun cs=>nthR cs off k)=some r:=h
   rw[gO_eq]at h
   obtain⟨cs,h1,h⟩:=aAgg_some h
   obtain⟨v,h2,h⟩:=nthR_some h
   exact⟨v,by simp only[rdOp,h1,h2];rfl,h⟩
 case h_7 es x i=>
  rw[pN_eq]at h
  have h:(gInt i).run env (fun _ i=>iPos i fun i=>(gO x).run env fun v=>ixaK es i v k)=some r:=h
  obtain⟨q,a,h1,h⟩:=gInt_some h
  obtain⟨m,e,h'⟩:=iPos_some h
  clear h
  subst e
  have h:=h'
  clear h'
  rw[gO_eq]at h
  simp only[rdOp,h1]
  generalize ev env x=v at h
  cases v<;>first | (cases h;done) | skip
  ·rename_i n cs
   have h:bIf (Nat.ble (Nat.succ m) n) (pN (Nat.mul m es) fun o=>k (.rop cs o))=some r:=h
   obtain⟨h2,h⟩:=bIf_some h
   have h2:=Nat.le_of_ble_eq_true h2
   rw[pN_eq]at h
   exact⟨_,by dsimp only;rw[if_pos ⟨by omega,by omega⟩];rfl,h⟩
  ·rename_i b g off n es'
   have h:bIf (Nat.ble (Nat.succ m) n) (pN (Nat.add off (Nat.mul m es)) fun o=>k (.hp b g o))=some r:=h
   obtain⟨h2,h⟩:=bIf_some h
   have h2:=Nat.le_of_ble_eq_true h2
   rw[pN_eq]at h
   exact⟨_,by dsimp only;rw[if_pos ⟨by omega,by omega⟩];rfl,h⟩
 case h_8 len es a i=>
  rw[pN_eq,pN_eq]at h
  have h:(gInt i).run env (fun _ i=>iPos i fun i=>bIf (Nat.ble (Nat.succ i) len) ((gO a).run env fun v=>ixrK es i v k))=some r:=h
  obtain⟨q,c,h1,h⟩:=gInt_some h
  obtain⟨m,e,h'⟩:=iPos_some h
  clear h
  subst e
  have h:=h'
  clear h'
  obtain⟨h2,h⟩:=bIf_some h
  have h2:=Nat.le_of_ble_eq_true h2
  rw[gO_eq]at h
  simp only[rdOp,h1]
  rw[if_pos ⟨by omega,by omega⟩]
  generalize ev env a=v at h
  cases v<;>first | (cases h;done) | skip
  ·rename_i cs o
   have h:pN (Nat.add o (Nat.mul m es)) (fun o=>k (.rop cs o))=some r:=h
   rw[pN_eq]at h;exact⟨_,rfl,h⟩
  ·rename_i t o
   have h:pN (Nat.add o (Nat.mul m es)) (fun o=>k (.rp t o))=some r:=h
   rw[pN_eq]at h;exact⟨_,rfl,h⟩
  ·rename_i b g o
   have h:pN (Nat.add o (Nat.mul m es)) (fun o=>k (.hp b g o))=some r:=h
   rw[pN_eq]at h;exact⟨_,rfl,h⟩
 case h_9 x i=>
  have h:(gInt i).run env (fun _ i=>iPos i fun i=>(gO x).run env fun v=>aStr v fun s=>nthR s.data.toList i fun b=>pN b.toNat fun n=>k (.val (.int .u8 (Int.ofNat n))))=some r:=h
  obtain⟨q,c,h1,h⟩:=gInt_some h
  obtain⟨m,e,h'⟩:=iPos_some h
  clear h
  subst e
  have h:=h'
  clear h'
  rw[gO_eq]at h
  obtain⟨s,h2,h⟩:=aStr_some h
  obtain⟨b,h3,h⟩:=nthR_some h
  rw[pN_eq]at h
  refine⟨_,?_,h⟩
  have h4:s[m]?=some b:=by
   obtain⟨⟨l⟩⟩:=s
   rw[Sg_get'];exact h3
  simp only[rdOp,h1,h2]
  rw[if_pos (by omega)]
  simp only[Int.toNat_natCast,h4]
  rfl
 case h_10 x=>
  have h:(gO x).run env (fun v=>aStr v fun s=>lenR s.data.toList fun n=>k (.val (.int .i64 (Int.ofNat n))))=some r:=h
  rw[gO_eq]at h
  obtain⟨s,h2,h⟩:=aStr_some h
  rw[lenR_eq]at h
  exact⟨_,by simp only[rdOp,h2];rfl,h⟩
 case h_11 x=>
  have h:(gO x).run env (fun v=>lenK' v k)=some r:=h
  rw[gO_eq]at h
  simp only[rdOp]
  generalize ev env x=v at h
  cases v<;>first | (cases h;done) | exact⟨_,rfl,h⟩
 case h_12 x=>
  have h:(gBool x).run env (fun b=>k (.val (.bool (bNot b))))=some r:=h
  obtain⟨b,h1,h⟩:=gBool_some h
  rw[bNot_eq]at h
  exact⟨_,by simp only[rdOp,h1],h⟩
 case h_13 q x=>
  have h:(gInt x).run env (fun _ n=>wrapK q n fun n=>k (.val (.int q n)))=some r:=h
  obtain⟨q',a,h1,h⟩:=gInt_some h
  rw[wrapK_eq]at h
  exact⟨_,by simp only[rdOp,h1],h⟩
 case h_14 x i=>
  rw[pN_eq]at h
  have h:(gO x).run env (fun v=>aTup v fun l=>nthR l i k)=some r:=h
  rw[gO_eq]at h
  obtain⟨l,h1,h⟩:=aTup_some h
  obtain⟨v,h2,h⟩:=nthR_some h
  exact⟨v,by simp only[rdOp,h1,h2],h⟩
 case h_15 x=>
  have h:(gO x).run env (fun v=>nilcK v k)=some r:=h
  rw[gO_eq]at h
  simp only[rdOp]
  generalize ev env x=v at h
  cases v<;>first | (cases h;done) | exact⟨_,rfl,h⟩
 case h_16 z=>
  rw[pLV_eq]at h
  exact⟨_,rfl,h⟩
 case h_17 c a b=>
  have h:(gBool c).run env (fun t=>Bool.rec (motive:=fun _=>R) ((gO b).run env k) ((gO a).run env k) t)=some r:=h
  obtain⟨t,h1,h⟩:=gBool_some h
  rw[gO_eq,gO_eq]at h
  cases t with
  | true=>exact⟨_,by simp only[rdOp,h1,if_true],h⟩
  | false=>exact⟨_,by simp only[rdOp,h1];rfl,h⟩
 case h_18 n x=>
  rw[pN_eq]at h
  have h:(gO x).run env (fun v=>celK v fun cs=>bIf (lenEq cs n) (k (.box cs)))=some r:=h
  rw[gO_eq]at h
  obtain⟨cs,h1,h⟩:=celK_some h
  obtain⟨h2,h⟩:=bIf_some h
  exact⟨_,by simp only[rdOp,h1];rw[if_pos (lenEq_true h2)],h⟩
 case h_19 z l=>
  rw[pLV_eq]at h
  have h:(gFill l).run env z (fun cs=>k (.agg cs))=some r:=h
  obtain⟨cs,h1,h⟩:=gFill_some h
  exact⟨_,by simp only[rdOp,h1],h⟩
 case h_20=>exact pAny_some h
end
end Go.Hm

namespace Go.Hm
open Go
noncomputable section

structure UG where
 run:AV→Env→Heap→(Env→Heap→R)→R
def noRpR (d:Nat)(env:Env):Bool:=List.rec (motive:=fun _=>Bool) true (fun p _ ih=>Prod.rec (motive:=fun _=>Bool) (fun _ v=>(AV.rec (motive_1:=fun _=>Bool) (motive_2:=fun _=>Unit) (fun _=>ih) (ih) (fun _ _ _=>ih) (fun _ _ _=>ih) (fun t _=>Bool.rec (motive:=fun _=>Bool) ih false (Nat.beq t d)) (fun _ _ _=>ih) (fun _ _ _ _ _=>ih) (fun _=>ih) (fun _ _ _=>ih) (fun _ _=>ih) (fun _ _=>ih) (fun _ _=>ih) (ih) (ih) () (fun _ _ _ _=>())) v) p) env
theorem noRpR_true {d:Nat}:∀{env:Env},noRpR d env=true→noRp d env=true
 | [],_=>rfl
 | (t',v)::r,h=>by
  cases v<;>first | exact noRpR_true (env:=r) h | skip
  rename_i t o
  have h:Bool.rec (motive:=fun _=>Bool) (noRpR d r) false (Nat.beq t d)=true:=h
  simp only[noRp]
  cases hb:Nat.beq t d with
  | true=>rw[hb]at h;cases h
  | false=>
   rw[hb]at h
   rw[if_neg fun e=>?_]
   ·exact noRpR_true (env:=r) h
   ·subst e;rw[Nat.beq_refl]at hb;cases hb
def puK (B:List Nat)(bx rpo:Bool)(d:Nat)(v:AV)(env:Env)(H:Heap)(k:Env→Heap→R):R:=
 Bool.rec (motive:=fun _=>R) ((AV.rec (motive_1:=fun _=>R) (motive_2:=fun _=>Unit) (fun v=>k ((d,.val v)::env) H) (k ((d,.e0)::env) H) (fun n cs _=>k ((d,.sl n cs)::env) H) (fun cs o _=>k ((d,.rop cs o)::env) H) (fun t o=>bIf rpo (bIf (memB B t) (k ((d,.rp t o)::env) H))) (fun b g o=>k ((d,.hp b g o)::env) H) (fun b g o n e=>k ((d,.hs b g o n e)::env) H) (fun b=>k ((d,.mp b)::env) H) (fun f c _=>k ((d,.fn f c)::env) H) (fun c _=>k ((d,.agg c)::env) H) (fun c _=>k ((d,.tup c)::env) H) (fun _ _=>none) (k ((d,.und)::env) H) (k ((d,.dead)::env) H) () (fun _ _ _ _=>())) v)
  (bIf (noRpR d env) ((AV.rec (motive_1:=fun _=>R) (motive_2:=fun _=>Unit) (fun v=>k ((d,.val v)::env) H) (k ((d,.e0)::env) H) (fun _ _ _=>none) (fun _ _ _=>none) (fun _ _=>none) (fun _ _ _=>none) (fun _ _ _ _ _=>none) (fun _=>none) (fun _ _ _=>none) (fun _ _=>none) (fun _ _=>none) (fun c _=>k ((d,.box c)::env) H) (k ((d,.und)::env) H) (none) () (fun _ _ _ _=>())) v)) bx
def gPush (B:List Nat)(rpo:Bool)(dst:Option Nat):UG:=Option.rec (motive:=fun _=>UG) ⟨fun v env H k=>(AV.rec (motive_1:=fun _=>R) (motive_2:=fun _=>Unit) (fun _=>k env H) (k env H) (fun _ _ _=>k env H) (fun _ _ _=>k env H) (fun _ _=>bIf rpo (k env H)) (fun _ _ _=>k env H) (fun _ _ _ _ _=>k env H) (fun _=>k env H) (fun _ _ _=>k env H) (fun _ _=>k env H) (fun _ _=>k env H) (fun _ _=>k env H) (k env H) (k env H) () (fun _ _ _ _=>())) v⟩ (fun d=>pN d fun d=>pB (memB B d) fun bx=>⟨puK B bx rpo d⟩) dst
theorem gPush_some {B:List Nat}{rpo:Bool}{dst:Option Nat}{v:AV}{env:Env}{H:Heap}{k:Env→Heap→R}{r:AV×Heap}(hi:Inv B env)(h:(gPush B rpo dst).run v env H k=some r):∃e,put dst v env=some e∧Inv B e∧(rpo=true∨isRp v=false)∧k e H=some r:=by
 cases dst with
 | none=>
  refine⟨env,rfl,hi,?_⟩
  cases v<;>first | exact⟨.inr rfl,h⟩ | skip
  obtain⟨h1,h2⟩:=bIf_some h
  exact⟨.inl h1,h2⟩
 | some d=>
  have h:(pN d fun d=>pB (memB B d) fun bx=>(⟨puK B bx rpo d⟩:UG)).run v env H k=some r:=h
  rw[pN_eq,pB_eq]at h
  have h:puK B (memB B d) rpo d v env H k=some r:=h
  unfold puK at h
  cases hb:memB B d with
  | false=>
   rw[hb]at h
   have hn:=noRp_of hb hi
   have fin:vOk B d v=true→(rpo=true∨isRp v=false)→k ((d,v)::env) H=some r→∃e,put (some d) v env=some e∧Inv B e∧(rpo=true∨isRp v=false)∧k e H=some r:=fun h1 h2 h3=>
    ⟨(d,v)::env,by simp only[put,hn,if_true],inv_cons hi h1,h2,h3⟩
   cases v<;>first | exact fin rfl (.inr rfl) h | (cases h;done) | skip
   obtain⟨h1,h2⟩:=bIf_some h
   obtain⟨h3,h4⟩:=bIf_some h2
   exact fin h3 (.inl h1) h4
  | true=>
   rw[hb]at h
   obtain⟨h1,h2⟩:=bIf_some h
   have hn:=noRpR_true h1
   have fin:vOk B d v=true→(rpo=true∨isRp v=false)→k ((d,v)::env) H=some r→∃e,put (some d) v env=some e∧Inv B e∧(rpo=true∨isRp v=false)∧k e H=some r:=fun h1 h2 h3=>
    ⟨(d,v)::env,by simp only[put,hn,if_true],inv_cons hi h1,h2,h3⟩
   cases v<;>first | (cases h2;done) | exact fin rfl (.inr rfl) h2 | exact fin hb (.inr rfl) h2

structure AG where
 run:Nat→Nat→Nat→Env→Heap→(Env→Heap→R)→R
def belR (lim:Nat)(v:AV):Bool:=(AV.rec (motive_1:=fun _=>Bool) (motive_2:=fun _=>Unit) (fun _=>true) (true) (fun _ c _=>belowL lim c) (fun c _ _=>belowL lim c) (fun _ _=>false) (fun b _ _=>Nat.ble (Nat.succ b) lim) (fun b _ _ _ _=>Nat.ble (Nat.succ b) lim) (fun b=>Nat.ble (Nat.succ b) lim) (fun _ c _=>belowL lim c) (fun c _=>belowL lim c) (fun c _=>belowL lim c) (fun _ _=>false) (false) (false) () (fun _ _ _ _=>())) v
theorem belR_eq (lim:Nat)(v:AV):belR lim v=Hm.below lim v:=by cases v<;>rfl
def belL (lim:Nat)(l:List AV):Bool:=List.rec (motive:=fun _=>Bool) true (fun a _ ih=>Bool.rec (motive:=fun _=>Bool) false ih (belR lim a)) l
theorem belL_eq (lim:Nat):∀l:List AV,belL lim l=belowL lim l
 | []=>rfl
 | a::l=>by
  show Bool.rec (motive:=fun _=>Bool) false (belL lim l) (belR lim a)=_
  rw[belR_eq,belL_eq lim l]
  simp only[belowL]
  cases Hm.below lim a
  ·rfl
  ·exact(Bool.true_and _).symm
def bOr (a:Bool)(b:Bool):Bool:=Bool.rec (motive:=fun _=>Bool) b true a
theorem bOr_true {a b:Bool}(h:bOr a b=true):a=true∨b=true:=by
 cases a
 ·exact .inr h
 ·exact .inl rfl
def setHR (lk lim base:Nat)(H:Heap)(b:Nat)(cs new:List AV)(k:Heap→R):R:=
 bIf (Nat.ble lk b) (bIf (bOr (Nat.ble lim b) (belL 0 new)) (bIf (bOr (Nat.ble base b) (belL base new)) (setR H b (.cells cs) k)))
theorem setHR_some {lk lim base:Nat}{H:Heap}{b:Nat}{cs new:List AV}{k:Heap→R}{r:AV×Heap}(h:setHR lk lim base H b cs new k=some r):∃H',setH lk lim base H b cs new=some H'∧k H'=some r:=by
 obtain⟨h1,h⟩:=bIf_some h
 obtain⟨h2,h⟩:=bIf_some h
 obtain⟨h3,h⟩:=bIf_some h
 obtain⟨h4,h⟩:=setR_some h
 have e2:lim≤b∨belowL 0 new=true:=by
  rcases bOr_true h2 with h | h
  ·exact .inl (Nat.le_of_ble_eq_true h)
  ·exact .inr (by rw[←belL_eq];exact h)
 have e3:base≤b∨belowL base new=true:=by
  rcases bOr_true h3 with h | h
  ·exact .inl (Nat.le_of_ble_eq_true h)
  ·exact .inr (by rw[←belL_eq];exact h)
 refine⟨_,?_,h⟩
 unfold setH
 rw[if_pos ⟨Nat.le_of_ble_eq_true h1,e2,e3⟩]
def aHp (v:AV):(Nat→Nat→Nat→R)→R:=(AV.rec (motive_1:=fun _=>(Nat→Nat→Nat→R)→R) (motive_2:=fun _=>Unit) (fun _=>fun _=>none) (fun _=>none) (fun _ _ _=>fun _=>none) (fun _ _ _=>fun _=>none) (fun _ _=>fun _=>none) (fun b g o k=>k b g o) (fun _ _ _ _ _=>fun _=>none) (fun _=>fun _=>none) (fun _ _ _=>fun _=>none) (fun _ _=>fun _=>none) (fun _ _=>fun _=>none) (fun _ _=>fun _=>none) (fun _=>none) (fun _=>none) () (fun _ _ _ _=>())) v
theorem aHp_some {v:AV}{k:Nat→Nat→Nat→R}{r:AV×Heap}(h:aHp v k=some r):∃b g o,v= .hp b g o∧k b g o=some r:=by
 cases v<;>first | (cases h;done) | exact⟨_,_,_,rfl,h⟩
def stL (t n:Nat)(a x:EV)(_lk _lim _base:Nat)(env:Env)(H:Heap)(k:Env→Heap→R):R:=
 x.run env fun v=>celK v fun new=>bIf (lenEq new n) (a.run env fun p=>aRp p fun t' off=>bIf (Nat.beq t' t) (aBox (findR env t) fun cs=>repR cs off new fun cs=>setAtR env t (.box cs) fun e=>k e H))
def stH (n:Nat)(a x:EV)(lk lim base:Nat)(env:Env)(H:Heap)(k:Env→Heap→R):R:=
 bIf (Nat.ble 1 n) (x.run env fun v=>celK v fun new=>bIf (lenEq new n) (a.run env fun p=>aHp p fun b g off=>nthR H b fun y=>hCells y fun cs=>bIf (lenEq cs g) (repR cs off new fun cs'=>setHR lk lim base H b cs' new fun H'=>k env H')))
def gSt (l:Option Nat)(n:Nat)(a x:EV):AG:=Option.rec (motive:=fun _=>AG) (pN n fun n=>⟨stH n a x⟩) (fun t=>pN t fun t=>pN n fun n=>⟨stL t n a x⟩) l
def srcR (H:Heap)(v:AV):(Nat→List AV→R)→R:=(AV.rec (motive_1:=fun _=>(Nat→List AV→R)→R) (motive_2:=fun _=>Unit) (fun v k=>Option.rec (motive:=fun _=>R) none (fun p=>pN p.1 fun n=>pLV p.2 fun l=>k n l) (srcCells H (.val v))) (fun k=>k Nat.zero []) (fun n cs _ k=>k n cs) (fun _ _ _=>fun _=>none) (fun _ _=>fun _=>none) (fun _ _ _=>fun _=>none) (fun b g off n es k=>nthR H b fun y=>hCells y fun cs=>bIf (lenEq cs g) (dtR cs off (Nat.mul n es) fun l=>k n l)) (fun _=>fun _=>none) (fun _ _ _=>fun _=>none) (fun _ _=>fun _=>none) (fun _ _=>fun _=>none) (fun _ _=>fun _=>none) (fun _=>none) (fun _=>none) () (fun _ _ _ _=>())) v
theorem srcR_some {H:Heap}{v:AV}{k:Nat→List AV→R}{r:AV×Heap}(h:srcR H v k=some r):∃n l,srcCells H v=some (n,l)∧k n l=some r:=by
 cases v
 case val v=>
  have h:Option.rec (motive:=fun _=>R) none (fun p=>pN p.1 fun n=>pLV p.2 fun l=>k n l) (srcCells H (.val v))=some r:=h
  cases hs:srcCells H (.val v) with
  | none=>rw[hs]at h;cases h
  | some p=>
   rw[hs]at h
   have h:(pN p.1 fun n=>pLV p.2 fun l=>k n l)=some r:=h
   rw[pN_eq,pLV_eq]at h
   exact⟨p.1,p.2,rfl,h⟩
 case e0=>exact⟨_,_,rfl,h⟩
 case sl n cs=>exact⟨_,_,rfl,h⟩
 case hs b g off n es=>
  have h:(nthR H b fun y=>hCells y fun cs=>bIf (lenEq cs g) (dtR cs off (Nat.mul n es) fun l=>k n l))=some r:=h
  obtain⟨y,h1,h⟩:=nthR_some h
  obtain⟨cs,rfl,h⟩:=hCells_some h
  obtain⟨h2,h⟩:=bIf_some h
  obtain⟨h3,h⟩:=dtR_some h
  have h2:=lenEq_true h2
  have h3:off+n*es≤cs.length:=h3
  refine⟨n,(cs.drop off).take (n*es),?_,h⟩
  simp only[srcCells,slCells,h1,slN]
  rw[if_pos ⟨h2,by omega⟩]
 all_goals cases h
def appE (es bytes:Nat)(p:UG)(m:Nat)(new:List AV)(env:Env)(H:Heap)(k:Env→Heap→R):R:=
 Nat.rec (motive:=fun _=>R) (p.run .e0 env H k) (fun _ _=>bIf (Nat.ble (Nat.mul m bytes) room) (lenR H fun b=>pN (Nat.mul m es) fun g=>pLs (H++[.cells new]) fun H'=>p.run (.hs b g Nat.zero m es) env H' k)) m
def appH (es bytes:Nat)(p:UG)(lk lim base:Nat)(m:Nat)(new:List AV)(b g off n es':Nat)(env:Env)(H:Heap)(k:Env→Heap→R):R:=
 pN (Nat.add off (Nat.mul n es)) fun e=>bIf (Nat.beq es' es) (bIf (Nat.ble (Nat.mul (Nat.add n m) bytes) room) (nthR H b fun y=>hCells y fun cs=>Bool.rec (motive:=fun _=>R)
  (bIf (Nat.ble (Nat.add e (Nat.mul m es)) g) (bIf (lenEq cs g) (repR cs e new fun cs'=>setHR lk lim base H b cs' new fun H'=>pN (Nat.add n m) fun n'=>p.run (.hs b g off n' es) env H' k)))
  (appR cs g new fun cs'=>setHR lk lim base H b cs' new fun H'=>pN (Nat.add g (Nat.mul m es)) fun g'=>pN (Nat.add n m) fun n'=>p.run (.hs b g' off n' es) env H' k) (Nat.beq e g)))
def apK (es bytes:Nat)(x y:EV)(p:UG)(lk lim base:Nat)(env:Env)(H:Heap)(k:Env→Heap→R):R:=
 y.run env fun w=>srcR H w fun m new=>bIf (lenEq new (Nat.mul m es)) (x.run env fun v=>(AV.rec (motive_1:=fun _=>R) (motive_2:=fun _=>Unit) (fun _=>none) (appE es bytes p m new env H k) (fun _ _ _=>none) (fun _ _ _=>none) (fun _ _=>none) (fun _ _ _=>none) (fun b g off n es'=>appH es bytes p lk lim base m new b g off n es' env H k) (fun _=>none) (fun _ _ _=>none) (fun _ _=>none) (fun _ _=>none) (fun _ _=>none) (none) (none) () (fun _ _ _ _=>())) v)
def exAny (dst:Option Nat)(op:AOp)(lk lim base:Nat)(env:Env)(H:Heap)(k:Env→Heap→R):R:=Option.rec (motive:=fun _=>R) none (fun p=>pEnv p.1 fun e=>pHp p.2 fun H'=>k e H') (exOp lk lim base dst op env H)
def gA (B:List Nat)(dst:Option Nat)(op:AOp):AG:=match op,dst with
 | .st l n a x,none=>gSt l n (gO a) (gO x)
 | .app es bytes x y,dst=>pN es fun es=>pN bytes fun bytes=>⟨apK es bytes (gO x) (gO y) (gPush B true dst)⟩
 | op,dst=>⟨exAny dst op⟩
theorem exAny_some {dst:Option Nat}{op:AOp}{lk lim base:Nat}{env:Env}{H:Heap}{k:Env→Heap→R}{r:AV×Heap}(h:exAny dst op lk lim base env H k=some r):∃e H',exOp lk lim base dst op env H=some (e,H')∧k e H'=some r:=by
 unfold exAny at h
 cases hk:exOp lk lim base dst op env H with
 | none=>rw[hk]at h;cases h
 | some p=>
  rw[hk]at h
  have h:(pEnv p.1 fun e=>pHp p.2 fun H'=>k e H')=some r:=h
  rw[pEnv_eq,pHp_eq]at h
  exact⟨p.1,p.2,rfl,h⟩
theorem gSt_some {l:Option Nat}{n:Nat}{a x:AO}{lk lim base:Nat}{env:Env}{H:Heap}{k:Env→Heap→R}{r:AV×Heap}(h:(gSt l n (gO a) (gO x)).run lk lim base env H k=some r):∃e H',exOp lk lim base none (.st l n a x) env H=some (e,H')∧k e H'=some r:=by
 cases l with
 | some t=>
  have h:(pN t fun t=>pN n fun n=>(⟨stL t n (gO a) (gO x)⟩:AG)).run lk lim base env H k=some r:=h
  rw[pN_eq,pN_eq]at h
  have h:((gO x).run env fun v=>celK v fun new=>bIf (lenEq new n) ((gO a).run env fun p=>aRp p fun t' off=>bIf (Nat.beq t' t) (aBox (findR env t) fun cs=>repR cs off new fun cs=>setAtR env t (.box cs) fun e=>k e H)))=some r:=h
  rw[gO_eq]at h
  obtain⟨new,h1,h⟩:=celK_some h
  obtain⟨h2,h⟩:=bIf_some h
  rw[gO_eq]at h
  obtain⟨t',off,h3,h⟩:=aRp_some h
  obtain⟨h4,h⟩:=bIf_some h
  obtain⟨cs,h5,h⟩:=aBox_some h
  obtain⟨h6,h⟩:=repR_some h
  rw[setAtR_eq]at h
  rw[findR_eq]at h5
  have h2:=lenEq_true h2
  have h4:=Nat.eq_of_beq_eq_true h4
  refine⟨_,_,?_,h⟩
  simp only[exOp,h1]
  rw[if_pos h2]
  simp only[h3]
  rw[if_pos h4]
  simp only[h5]
  rw[if_pos ⟨by omega,trivial⟩]
 | none=>
  have h:(pN n fun n=>(⟨stH n (gO a) (gO x)⟩:AG)).run lk lim base env H k=some r:=h
  rw[pN_eq]at h
  obtain⟨h0,h⟩:=bIf_some (show bIf (Nat.ble 1 n) ((gO x).run env fun v=>celK v fun new=>bIf (lenEq new n) ((gO a).run env fun p=>aHp p fun b g off=>nthR H b fun y=>hCells y fun cs=>bIf (lenEq cs g) (repR cs off new fun cs'=>setHR lk lim base H b cs' new fun H'=>k env H')))=some r from h)
  rw[gO_eq]at h
  obtain⟨new,h1,h⟩:=celK_some h
  obtain⟨h2,h⟩:=bIf_some h
  rw[gO_eq]at h
  obtain⟨b,g,off,h3,h⟩:=aHp_some h
  obtain⟨y,h4,h⟩:=nthR_some h
  obtain⟨cs,rfl,h⟩:=hCells_some h
  obtain⟨h5,h⟩:=bIf_some h
  obtain⟨h6,h⟩:=repR_some h
  obtain⟨H',h7,h⟩:=setHR_some h
  have h0:=Nat.le_of_ble_eq_true h0
  have h2:=lenEq_true h2
  have h5:=lenEq_true h5
  refine⟨_,_,?_,h⟩
  simp only[exOp,h1]
  rw[if_pos h2]
  simp only[h3,h4]
  rw[if_pos ⟨h5,by omega,by omega,trivial⟩]
  simp only[h7]
theorem gA_some {B:List Nat}{dst:Option Nat}{op:AOp}{lk lim base:Nat}{env:Env}{H:Heap}{k:Env→Heap→R}{r:AV×Heap}(hi:Inv B env)(h:(gA B dst op).run lk lim base env H k=some r):∃e H',exOp lk lim base dst op env H=some (e,H')∧Inv B e∧k e H'=some r:=by
 suffices ∃e H',exOp lk lim base dst op env H=some (e,H')∧k e H'=some r by
  obtain⟨e,H',h1,h2⟩:=this
  exact⟨e,H',h1,exOp_inv hi h1,h2⟩
 unfold gA at h
 split at h
 case h_1=>exact gSt_some h
 case h_2 es bytes x y=>
  rw[pN_eq,pN_eq]at h
  have h:((gO y).run env fun w=>srcR H w fun m new=>bIf (lenEq new (Nat.mul m es)) ((gO x).run env fun v=>(AV.rec (motive_1:=fun _=>R) (motive_2:=fun _=>Unit) (fun _=>none) (appE es bytes (gPush B true dst) m new env H k) (fun _ _ _=>none) (fun _ _ _=>none) (fun _ _=>none) (fun _ _ _=>none) (fun b g off n es'=>appH es bytes (gPush B true dst) lk lim base m new b g off n es' env H k) (fun _=>none) (fun _ _ _=>none) (fun _ _=>none) (fun _ _=>none) (fun _ _=>none) (none) (none) () (fun _ _ _ _=>())) v))=some r:=h
  rw[gO_eq]at h
  obtain⟨m,new,h1,h⟩:=srcR_some h
  obtain⟨h2,h⟩:=bIf_some h
  rw[gO_eq]at h
  have h2:new.length=m*es:=lenEq_true h2
  simp only[exOp,h1]
  rw[if_pos h2]
  generalize ev env x=v at h
  cases v
  case e0=>
   have h:appE es bytes (gPush B true dst) m new env H k=some r:=h
   dsimp only
   cases m with
   | zero=>
    have h:(gPush B true dst).run .e0 env H k=some r:=h
    obtain⟨e,h3,_,_,h⟩:=gPush_some hi h
    exact⟨e,H,by rw[if_pos rfl];simp only[h3],h⟩
   | succ m=>
    obtain⟨h3,h⟩:=bIf_some (show bIf (Nat.ble (Nat.mul (m+1) bytes) room) (lenR H fun b=>pN (Nat.mul (m+1) es) fun g=>pLs (H++[.cells new]) fun H'=>(gPush B true dst).run (.hs b g Nat.zero (m+1) es) env H' k)=some r from h)
    have h3:(m+1)*bytes≤room:=Nat.le_of_ble_eq_true h3
    rw[lenR_eq,pN_eq,pLs_eq]at h
    obtain⟨e,h4,_,_,h⟩:=gPush_some hi h
    refine⟨e,_,?_,h⟩
    rw[if_neg (by omega),if_pos h3]
    have h4:put dst (.hs H.length ((m+1)*es) 0 (m+1) es) env=some e:=h4
    simp only[h4]
  case hs b g off n es'=>
   have h:appH es bytes (gPush B true dst) lk lim base m new b g off n es' env H k=some r:=h
   unfold appH at h
   rw[pN_eq]at h
   obtain⟨h5,h⟩:=bIf_some h
   obtain⟨h6,h⟩:=bIf_some h
   obtain⟨y',h7,h⟩:=nthR_some h
   obtain⟨cs,rfl,h⟩:=hCells_some h
   have h5:=Nat.eq_of_beq_eq_true h5
   have h6:(n+m)*bytes≤room:=Nat.le_of_ble_eq_true h6
   cases hbq:Nat.beq (Nat.add off (Nat.mul n es)) g with
   | true=>
    rw[hbq]at h
    have hq:off+n*es=g:=Nat.eq_of_beq_eq_true hbq
    have h:(appR cs g new fun cs'=>setHR lk lim base H b cs' new fun H'=>pN (Nat.add g (Nat.mul m es)) fun g'=>pN (Nat.add n m) fun n'=>(gPush B true dst).run (.hs b g' off n' es) env H' k)=some r:=h
    obtain⟨h8,h⟩:=appR_some h
    obtain⟨H',h9,h⟩:=setHR_some h
    rw[pN_eq,pN_eq]at h
    obtain⟨e,h10,_,_,h⟩:=gPush_some hi h
    have h10:put dst (.hs b (g+m*es) off (n+m) es) env=some e:=h10
    refine⟨e,H',?_,h⟩
    simp only[h7]
    rw[if_pos ⟨h8,h5,.inl hq,h6⟩]
    simp only[appC,appG,if_pos hq,h9,h10]
   | false=>
    rw[hbq]at h
    have hq:¬off+n*es=g:=fun e=>by
     have:Nat.beq (Nat.add off (Nat.mul n es)) g=true:=by rw[show Nat.add off (Nat.mul n es)=g from e];exact Nat.beq_refl g
     rw[this]at hbq;cases hbq
    have h:(bIf (Nat.ble (Nat.add (Nat.add off (Nat.mul n es)) (Nat.mul m es)) g) (bIf (lenEq cs g) (repR cs (Nat.add off (Nat.mul n es)) new fun cs'=>setHR lk lim base H b cs' new fun H'=>pN (Nat.add n m) fun n'=>(gPush B true dst).run (.hs b g off n' es) env H' k)))=some r:=h
    obtain⟨h3,h⟩:=bIf_some h
    obtain⟨h4,h⟩:=bIf_some h
    have h3:off+n*es+m*es≤g:=Nat.le_of_ble_eq_true h3
    have h4:=lenEq_true h4
    obtain⟨_,h⟩:=repR_some h
    obtain⟨H',h9,h⟩:=setHR_some h
    rw[pN_eq]at h
    obtain⟨e,h10,_,_,h⟩:=gPush_some hi h
    have h9:setH lk lim base H b (replaceAt cs (off+n*es) new) new=some H':=h9
    have h10:put dst (.hs b g off (n+m) es) env=some e:=h10
    refine⟨e,H',?_,h⟩
    simp only[h7]
    rw[if_pos ⟨h4,h5,.inr h3,h6⟩]
    simp only[appC,appG,if_neg hq,h9,h10]
  all_goals cases h
 case h_3=>exact exAny_some h
end
end Go.Hm

