/- The machine HM, part 12. -/
import Derived.Test.YtnhennjliinplaaHmG10
import Derived.Test.YtnhennjliinplaaHmG7
import Derived.MapKept
set_option linter.all false
namespace Go.Hm
open Go Go.RowKit

def ins (x:List UInt8):List (List UInt8)→List (List UInt8)
 | []=>[x]
 | y::l=>if Op.bytesLess x y=true then x::y::l else if x=y then y::l else y::ins x l
section
variable {P:Program}{φ:Phi}{F:Nat→Nat→Prop}{H:Heap}{w:World}
end
def noX:Orc:=fun _ _ _ _ _=>none
theorem noX_ok {P:Program}:OrcOk P noX:=fun _ _ _ _ _ _ _ h=>by cases h
theorem noX_fr:OrcFr noX:=⟨fun _ _ _ _ _ _ _ h=>(by cases h),fun _ _ _ _ _ _ _ h=>(by cases h),fun _ _ _ _ _ _ _ h=>(by cases h)⟩
end Go.Hm

namespace Go.Hm
open Go Go.RowKit

def withFun (f0:FuncId)(g:List AV→Heap→Option AV)(X:Orc):Orc:=fun lk lim f as H=>if f=f0 then (match g as H with
 | some v=>some (v,H)
 | none=>none) else X lk lim f as H
def FunOk (P:Program)(f0:FuncId)(g:List AV→Heap→Option AV):Prop:=Enters P f0∧∀(φ:Phi) (F:Nat→Nat→Prop) (H:Heap) (w:World) (as:List AV) (r:AV) (vs:List Value),g as H=some r→SR φ F H w→ARel φ F H w as vs→
 Calls P f0 vs.toArray w fun e w'=>∃v,e= .returned v∧CallR φ F H w r H v w'
theorem withFun_ok {P:Program}{f0:FuncId}{g:List AV→Heap→Option AV}{X:Orc}(hf:f0<1000)(S:FunOk P f0 g)(h:OrcOk P X):OrcOk P (withFun f0 g X):=by
 intro lk lim f l H r H' h2
 unfold withFun at h2
 split at h2
 ·rename_i e
  subst e
  split at h2
  ·rename_i v hv
   simp only[Option.some.injEq,Prod.mk.injEq]at h2
   obtain⟨rfl,rfl⟩:=h2
   rw[Nat.mod_eq_of_lt hf]
   exact⟨S.1,fun φ F w vs sr ha=>S.2 φ F H w l v vs hv sr ha⟩
  ·cases h2
 ·exact h _ _ _ _ _ _ _ h2
theorem withFun_fr {f0:FuncId}{g:List AV→Heap→Option AV}{X:Orc}(h:OrcFr X):OrcFr (withFun f0 g X):=by
 have hh:∀{lk lim f as H r H'},withFun f0 g X lk lim f as H=some (r,H')→H'=H∨X lk lim f as H=some (r,H'):=fun h2=>by
  unfold withFun at h2
  split at h2
  ·split at h2
   ·simp only[Option.some.injEq,Prod.mk.injEq]at h2
    exact .inl h2.2.symm
   ·cases h2
  ·exact .inr h2
 refine⟨fun lk lim f l H r H' h2=>?_,fun lk lim f l H r H' h2 hlk b hb=>?_,fun lk lim f l H r H' h2 m h3 h4 hc=>?_⟩
 all_goals rcases hh h2 with e | h2
 ·rw[e];exact Nat.le_refl _
 ·exact h.len _ _ _ _ _ _ _ h2
 ·rw[e]
 ·exact h.lock _ _ _ _ _ _ _ h2 hlk b hb
 ·rw[e];exact hc
 ·exact h.cl _ _ _ _ _ _ _ h2 m h3 h4 hc
end Go.Hm

